/- Texts of the proof, part 5: PkO, PlD, LibC, Sw5, PlF, PlJ, Lf3, Tr3, Lf4, Lf5, Lf6, PlK, PlL, PlM, VoP, Lg1, Eng29, Lg2, Eng32, Ix1, Vo1, Gal1, GsP, Gal2, GalS, PlQ, PkW, PkY, Eng18, Eng30, Eng31, Gk2, Eng33, Eng27, Rk1, Eng37, Eng41, Gk6, PkG, Eng39, Rk2, Rk3, ShT, ShU, Rk4, Ra5. -/
import Derived.Lib.AppendZerosOnto
import Derived.ChangeKeysEq
import Derived.Laws.Small
import Derived.Laws.Cover1
import Derived.Laws.BitsAllLaws
import Derived.Shelf.SlSortCmp.WholeK
import Derived.Shelf.Small.Bits
import Derived.Test.YtpijeomnplmakaaGreatDoorRG4
/- Plain law: slips that are filed. -/
namespace Go.Proofs.YtpijeomnplmakaaGreatDoor
open Go.RowKit

section
variable {α : Type} {f : α → α → Int} (hf : Pre3 f)
include hf
theorem srt_ex (l : List α) : ∃ r : List α, r.Perm l ∧ r.Pairwise (fun a b => f b a ≠ -1) := by
  refine ⟨l.mergeSort (fun a b => decide (f b a ≠ -1)), List.mergeSort_perm _ _, ?_⟩
  have h := List.pairwise_mergeSort (le := fun a b => decide (f b a ≠ -1)) (fun a b c h1 h2 => by
    simp only [decide_eq_true_eq] at *
    intro h3
    have r1 := hf.r a b
    have a1 := hf.anti a b
    by_cases e : f a b = 0
    · have := hf.eql a b c e
      have := hf.anti a c
      have := hf.anti b c
      omega
    · have := hf.tr c a b h3 (by omega)
      omega) (fun a b => by
    have r1 := hf.r a b
    have a1 := hf.anti a b
    rw [Bool.or_eq_true, decide_eq_true_eq, decide_eq_true_eq]
    omega) l
  exact h.imp fun h => of_decide_eq_true h
theorem rk_ex (l : List α) : ∃ C : List α, (∀ c ∈ C, c ∈ l) ∧ C.Pairwise (fun a b => f a b = -1) ∧ (∀ x ∈ l, ∃ c ∈ C, f c x = 0) ∧ ∀ s, rankF f l s = (C.filter fun c => decide (f c s < 0)).length := by
  obtain ⟨r, hp, hs⟩ := srt_ex hf l
  obtain ⟨h1, h2, h3⟩ := cpt_facts hf hs
  exact ⟨cptL f r, fun c hc => hp.mem_iff.1 (h1 c hc), h2, fun x hx => h3 x (hp.mem_iff.2 hx), fun s => rank_cpt hf hp hs⟩
theorem rank_eq {l : List α} {a b : α} (h : f a b = 0) : rankF f l a = rankF f l b := by
  obtain ⟨C, -, -, -, e⟩ := rk_ex hf l
  rw [e, e]
  congr 1
  refine List.filter_congr fun c _ => ?_
  have h1 := hf.eql a b c h
  have h2 := hf.anti c a
  have h3 := hf.anti c b
  rw [show f c a = f c b by omega]
theorem rank_lt {l : List α} {a b : α} (ha : a ∈ l) (h : f a b < 0) : rankF f l a < rankF f l b := by
  obtain ⟨C, -, -, hr, e⟩ := rk_ex hf l
  rw [e, e]
  have hab : f a b = -1 := by have := hf.r a b; omega
  have hs : C.filter (fun c => decide (f c a < 0)) = (C.filter fun c => decide (f c b < 0)).filter fun c => decide (f c a < 0) := by
    rw [List.filter_filter]
    refine List.filter_congr fun c _ => ?_
    by_cases hc : f c a < 0
    · have h1 := hf.r c a
      have := hf.tr c a b (by omega) hab
      have h2 : f c b < 0 := by omega
      simp [hc, h2]
    · simp [hc]
  rw [hs, List.length_filter_lt_length_iff_exists]
  obtain ⟨c, hc, e0⟩ := hr a ha
  refine ⟨c, List.mem_filter.2 ⟨hc, ?_⟩, ?_⟩
  · rw [hf.eql c a b e0]; exact decide_eq_true h
  · simp [e0]
/-- What the law asks of ranks. -/
theorem rank_law {l : List α} {a b : α} (ha : a ∈ l) (hb : b ∈ l) : (f a b = 0 → rankF f l a = rankF f l b) ∧ (f a b < 0 → rankF f l a < rankF f l b) ∧ (0 < f a b → rankF f l b < rankF f l a) :=
  ⟨rank_eq hf, rank_lt hf ha, fun h => rank_lt hf hb (by have := hf.anti a b; omega)⟩
end

abbrev dS : Slp := ((0, 0, 0), ⟨#[]⟩, ⟨#[]⟩, ⟨#[]⟩)
def rkD (n : Int) (l : List Slp) : List Int := l.map fun s => (rankF (cmpBy n) l s : Int)
def filF (d : List Int) (l : List Slp) : List Slp := (ordF d).map fun i => l.getD i.toNat dS
theorem rkD_len (n : Int) (l : List Slp) : (rkD n l).length = l.length := List.length_map _
theorem upN_get' (l : List Slp) : ((upN l.length).map fun i => l.getD i.toNat dS) = l := by
  refine List.ext_getElem (by simp [upN]) fun i h1 h2 => ?_
  simp [upN, h2]
theorem fil_perm {d : List Int} {l : List Slp} (h : d.length = l.length) : (filF d l).Perm l := by
  have := (ordF_perm d).map fun i : Int => l.getD i.toNat dS
  rwa [h, upN_get'] at this
theorem rkD_key {n : Int} {l : List Slp} {x : Int} (h : 0 ≤ x ∧ x < l.length) : keyD (rkD n l) x = (rankF (cmpBy n) l (l.getD x.toNat dS) : Int) := by
  have hx : x.toNat < l.length := by omega
  rw [key_nat h.1, gd_lt (by rw [rkD_len]; exact hx)]
  simp [rkD, hx]
theorem fil_keys (n : Int) (l : List Slp) : ((filF (rkD n l) l).map fun s => (rankF (cmpBy n) l s : Int)) = (ordF (rkD n l)).map (keyD (rkD n l)) := by
  rw [filF, List.map_map]
  refine List.map_congr_left fun x hx => ?_
  have := ordF_in.1 hx
  rw [rkD_len] at this
  exact (rkD_key this).symm
theorem fil_srt (n : Int) (l : List Slp) : ((filF (rkD n l) l).map fun s => (rankF (cmpBy n) l s : Int)).Pairwise (· ≤ ·) := by
  rw [fil_keys, List.pairwise_map]
  exact (ordF_pair _).imp fun h => by unfold bfD at h; omega
theorem fil_ord (n : Int) (l : List Slp) : (filF (rkD n l) l).Pairwise fun x y => cmpBy n x y ≤ 0 := by
  have h := fil_srt n l
  rw [List.pairwise_map] at h
  refine List.Pairwise.imp_of_mem (fun {a b} ha hb hab => ?_) h
  have ha' := (fil_perm (rkD_len n l)).mem_iff.1 ha
  have hb' := (fil_perm (rkD_len n l)).mem_iff.1 hb
  refine Int.not_lt.1 fun h0 => ?_
  have := (rank_law (pre_by n) ha' hb').2.2 h0
  omega
/-! A deck that is sorted lies as it lay, in one run. -/
theorem ranks_rkD {n : Int} {l : List Slp} (h1 : l.length ≤ 60) (h2 : l.all slipB = true) (h3 : 1 ≤ n ∧ n ≤ 4) : ranksR l n = (rkD n l, 0) := ranksR_ok h1 h2 h3
theorem rkD_deck {n : Int} {l : List Slp} (h1 : l.length ≤ 60) : deckB (rkD n l) = true := by
  rw [deckB, Bool.and_eq_true, decide_eq_true_eq, List.all_eq_true, rkD_len]
  exact ⟨h1, fun x hx => by have := ranks_deck (l := l) (n := n) x hx; rw [inB, decide_eq_true_eq]; omega⟩
theorem rkD_open {n boxes : Int} {l : List Slp} (h1 : l.length ≤ 60) (hb : 2 ≤ boxes ∧ boxes ≤ 20) : opE (rkD n l) boxes = 0 := by
  rw [opE, rkD_deck h1, if_pos rfl, if_pos (by rw [inB, decide_eq_true_eq]; exact hb)]
section
variable {n boxes : Int} {l : List Slp} (h1 : l.length ≤ 60) (h2 : l.all slipB = true) (h3 : 1 ≤ n ∧ n ≤ 4) (hb : 2 ≤ boxes ∧ boxes ≤ 20)
include h1 h2 h3 hb
theorem file_ok : fileE l n boxes = 0 := by rw [fileE, ranks_rkD h1 h2 h3, if_pos rfl]; exact rkD_open h1 hb
theorem file_fil : fileL l n boxes = filF (rkD n l) l := by rw [fileL, if_pos (file_ok h1 h2 h3 hb), ranks_rkD h1 h2 h3]; rfl
theorem file_perm : (fileL l n boxes).Perm l := by rw [file_fil h1 h2 h3 hb]; exact fil_perm (rkD_len n l)
theorem file_ord : (fileL l n boxes).Pairwise fun x y => cmpBy n x y ≤ 0 := by rw [file_fil h1 h2 h3 hb]; exact fil_ord n l
end
/-! Filed by words: each word's slips as they came. -/
theorem fil_same {n : Int} {l : List Slp} (p : Slp → Bool) (hp : ∀ x ∈ l, ∀ y ∈ l, p x = true → (p y = true ↔ cmpBy n y x = 0)) : (filF (rkD n l) l).filter p = l.filter p := by
  by_cases he : ∃ x ∈ l, p x = true
  · obtain ⟨x, hx, hpx⟩ := he
    have hk : ∀ i : Int, 0 ≤ i ∧ i < l.length → (p (l.getD i.toNat dS) = decide (keyD (rkD n l) i = (rankF (cmpBy n) l x : Int))) := fun i hi => by
      have hi' : i.toNat < l.length := by omega
      have hg : l.getD i.toNat dS = l[i.toNat] := by rw [List.getD_eq_getElem?_getD, List.getElem?_eq_getElem hi', Option.getD_some]
      have hm : l[i.toNat] ∈ l := List.getElem_mem hi'
      rw [rkD_key hi, hg]
      have hr := rank_law (pre_by n) hm hx
      have h0 := hp x hx _ hm hpx
      rw [Bool.eq_iff_iff, h0, decide_eq_true_eq]
      constructor
      · exact fun h => by rw [hr.1 h]
      · intro h
        have hri := (pre_by n).r l[i.toNat] x
        by_cases c1 : cmpBy n l[i.toNat] x < 0
        · have := hr.2.1 c1; omega
        · by_cases c2 : 0 < cmpBy n l[i.toNat] x
          · have := hr.2.2 c2; omega
          · omega
    have e1 : ∀ L : List Int, (∀ i ∈ L, 0 ≤ i ∧ i < (l.length : Int)) → (L.map fun i => l.getD i.toNat dS).filter p = (L.filter fun i => decide (keyD (rkD n l) i = (rankF (cmpBy n) l x : Int))).map fun i => l.getD i.toNat dS := fun L hL => by
      rw [List.filter_map]
      congr 1
      exact List.filter_congr fun i hi => hk i (hL i hi)
    have e2 := ssort_filt (keyD (rkD n l)) (upN (rkD n l).length) (rankF (cmpBy n) l x : Int)
    rw [filF, e1 _ fun i hi => by have := ordF_in.1 hi; rwa [rkD_len] at this]
    conv => rhs; rw [← upN_get' l]
    rw [e1 _ fun i hi => upN_mem.1 hi]
    rw [rkD_len] at e2
    rw [ordF, rkD_len, e2]
  · have h1 : l.filter p = [] := List.filter_eq_nil_iff.2 fun x hx hpx => he ⟨x, hx, hpx⟩
    have h2 : (filF (rkD n l) l).filter p = [] := List.filter_eq_nil_iff.2 fun x hx hpx => he ⟨x, (fil_perm (rkD_len n l)).mem_iff.1 hx, hpx⟩
    rw [h1, h2]

section
variable {ws : List ByteArray} {side : Int} {i : Nat} (hi : i < ws.length)
include hi
end

section rules
variable {P : Program} {ro : Option Nat} {n : Nat} {all rest : List Oper} {K : Sl → World → Prop} {s : Sl} {w : World} {d : Nat} {ty : Nat} {pos : String} {af : Array Edge}
variable {x y : Operand} {t tn e : Nat}
end rules

section
variable (a : Option Addr) (c : Nat) (cs : List Ch) (w : World) [hrow : RowI w (.slice a cs.length c) true 2 (cs.map encCh)] [hT : TextI w cs]
end

/-- All places of a word. -/
def allW (t : Tx) (n : Nat) : List (Pl × ByteArray) := (List.range n).flatMap fun k => (runA k (wsT t k)).zip (wsT t k).flatten
def placesF (t : Tx) (w : ByteArray) : List Pl := ((allW t t.length).filter fun x => decide (x.2 = w)).map (·.1)

theorem flat_get3 {α : Type} {f : Nat → List α} {q m r : Nat} {x : α} (hq : q < m) (h : (f q)[r]? = some x) : ((List.range m).flatMap f)[((List.range q).flatMap f).length + r]? = some x := by
  obtain ⟨s, hs⟩ := range_split hq
  rw [hs, List.flatMap_append, List.flatMap_cons, List.getElem?_append_right (by omega), Nat.add_sub_cancel_left, List.getElem?_append_left (List.getElem?_eq_some_iff.1 h).1, h]
theorem flat_at {α : Type} {x : List (List α)} {n w : Nat} (hn : n < x.length) (hw : w < x[n].length) : x.flatten[(x.take n).flatten.length + w]? = some x[n][w] := by
  have e : x = x.take n ++ (x[n] :: x.drop (n + 1)) := by rw [← List.drop_eq_getElem_cons hn, List.take_append_drop]
  conv => lhs; rw [e]
  rw [List.flatten_append, List.flatten_cons]
  have hl : ((x.take n ++ (x[n] :: x.drop (n + 1))).take n).flatten.length = (x.take n).flatten.length := by rw [← e]
  rw [hl, List.getElem?_append_right (by omega), Nat.add_sub_cancel_left, List.getElem?_append_left hw, List.getElem?_eq_getElem hw]
theorem lnPs_len (k : Nat) (x : List (List ByteArray)) : ∀ n, n ≤ x.length → ((List.range n).flatMap fun i => lnP k i (x.getD i []).length).length = (x.take n).flatten.length
  | 0, _ => by simp
  | n + 1, h => by
    have hg : x.getD n [] = x[n] := by rw [List.getD_eq_getElem?_getD, List.getElem?_eq_getElem (by omega), Option.getD_some]
    rw [List.range_succ, List.flatMap_append, List.length_append, lnPs_len k x n (by omega), take_snoc_get (List.getElem?_eq_getElem (show n < x.length by omega)), List.flatten_append, List.length_append]
    simp [lnP, List.getElem?_eq_getElem (show n < x.length by omega)]
theorem runA_at {k : Nat} {x : List (List ByteArray)} {n w : Nat} (hn : n < x.length) (hw : w < x[n].length) : (runA k x)[(x.take n).flatten.length + w]? = some ((k : Int), (n : Int), (w : Int)) := by
  have hg : x.getD n [] = x[n] := by rw [List.getD_eq_getElem?_getD, List.getElem?_eq_getElem hn, Option.getD_some]
  rw [← lnPs_len k x n (by omega), runA, runAn]
  refine flat_get3 hn ?_
  rw [hg, lnP, List.getElem?_map, List.getElem?_range hw]; rfl
theorem allW_len (t : Tx) (n : Nat) : (allW t n).length = (allP t n).length := by
  induction n with
  | zero => rfl
  | succ n ih =>
    rw [allP_succ, List.length_append, ← ih, allW, allW, List.range_succ, List.flatMap_append, List.length_append]
    simp [List.length_zip, runA_len]
theorem allW_fst (t : Tx) (n : Nat) : (allW t n).map (·.1) = allP t n := by
  rw [allW, allP, List.map_flatMap]
  congr 1
  funext k
  rw [List.map_fst_zip]
  rw [runA_len]; exact Nat.le_refl _
theorem allW_at {t : Tx} {k n w : Nat} (hk : k < t.length) (hn : n < (wsT t k).length) (hw : w < (wsT t k)[n].length) : (allW t t.length)[(allW t k).length + (((wsT t k).take n).flatten.length + w)]? = some (((k : Int), (n : Int), (w : Int)), (wsT t k)[n][w]) := by
  rw [allW]
  refine flat_get3 (f := fun k => (runA k (wsT t k)).zip (wsT t k).flatten) hk ?_
  rw [List.getElem?_zip_eq_some]
  exact ⟨runA_at hn hw, flat_at hn hw⟩
theorem allW_succ (t : Tx) (k : Nat) : (allW t (k + 1)).length = (allW t k).length + (wsT t k).flatten.length := by
  rw [allW_len, allW_len, allP_succ, List.length_append, runA_len]
theorem flat_len_succ {α : Type} {x : List (List α)} {n : Nat} (hn : n < x.length) : (x.take (n + 1)).flatten.length = (x.take n).flatten.length + x[n].length := by
  rw [take_snoc_get (List.getElem?_eq_getElem hn), List.flatten_append, List.length_append]; simp
/-- The words of places. -/
theorem allW_word {t : Tx} {i : Nat} {p : Pl} {s : ByteArray} (h : (allW t t.length)[i]? = some (p, s)) : ∃ k n w : Nat, ∃ (hk : k < t.length) (hn : n < t[k].2.length) (hw : w < t[k].2[n].length), p = ((k : Int), (n : Int), (w : Int)) ∧ s = t[k].2[n][w] := by
  have hm := List.mem_of_getElem? h
  obtain ⟨k, hk, hz⟩ := List.mem_flatMap.1 hm
  rw [List.mem_range] at hk
  have hws : wsT t k = t[k].2 := by rw [wsT, List.getD_eq_getElem?_getD, List.getElem?_eq_getElem hk, Option.getD_some]
  obtain ⟨j, hj, e⟩ := List.mem_iff_getElem.1 hz
  have e' : ((runA k (wsT t k)).zip (wsT t k).flatten)[j]? = some (p, s) := by rw [List.getElem?_eq_getElem hj, e]
  rw [List.getElem?_zip_eq_some] at e'
  obtain ⟨n, w, hn, hw, hp⟩ := mem_runA.1 (List.mem_of_getElem? e'.1)
  have h1 := runA_at (k := k) hn hw
  subst hp
  have hji : j = ((wsT t k).take n).flatten.length + w := nodup_inj (runA_nodup k (wsT t k)) e'.1 h1
  have h2 := flat_at hn hw
  rw [← hji, e'.2] at h2
  simp only [hws] at hn hw h2
  exact ⟨k, n, w, hk, hn, hw, rfl, by simpa using h2⟩


/-- Lines of the call's own. -/
structure OwnLn (w : World) (B : Nat) (v : Value) (ys : List Ln) : Prop where
  out : OwnL w B 90 false 1 v (ys.map encLn)
  ins : ∀ y ∈ ys, OwnL w B 9 false 1 (encLn y) (y.2.2.map strV)
theorem OwnLn.ext {w w' : World} {B : Nat} {v : Value} {ys : List Ln} (h : OwnLn w B v ys) (hs : Ext w w') : OwnLn w' B v ys := ⟨h.out.ext hs, fun y hy => (h.ins y hy).ext hs⟩
theorem OwnLn.put {w w' : World} {B b : Nat} {o : Obj} {v : Value} {ys : List Ln} (h : OwnLn w B v ys) (p : PutO w w' b o) (hb : b < B) : OwnLn w' B v ys :=
  ⟨h.out.put p fun e => by have := (h.out.block _ e).1; omega, fun y hy => (h.ins y hy).put p fun e => by have := ((h.ins y hy).block _ e).1; omega⟩
theorem OwnLn.mono {w : World} {B B' : Nat} {v : Value} {ys : List Ln} (h : OwnLn w B v ys) (hB : B' ≤ B) : OwnLn w B' v ys := ⟨h.out.mono hB, fun y hy => (h.ins y hy).mono hB⟩
/-- Chapters of the call's own. -/
structure OwnCh (w : World) (B : Nat) (v : Value) (cs : List Ch) : Prop where
  out : OwnL w B 133 true 2 v (cs.map encCh)
  ins : ∀ x ∈ cs, OwnLn w B (.slice x.2.1 x.2.2.2.length x.2.2.1) x.2.2.2
theorem OwnCh.ext {w w' : World} {B : Nat} {v : Value} {cs : List Ch} (h : OwnCh w B v cs) (hs : Ext w w') : OwnCh w' B v cs := ⟨h.out.ext hs, fun y hy => (h.ins y hy).ext hs⟩
theorem OwnCh.put {w w' : World} {B b : Nat} {o : Obj} {v : Value} {cs : List Ch} (h : OwnCh w B v cs) (p : PutO w w' b o) (hb : b < B) : OwnCh w' B v cs :=
  ⟨h.out.put p fun e => by have := (h.out.block _ e).1; omega, fun y hy => (h.ins y hy).put p hb⟩
theorem OwnCh.mono {w : World} {B B' : Nat} {v : Value} {cs : List Ch} (h : OwnCh w B v cs) (hB : B' ≤ B) : OwnCh w B' v cs := ⟨h.out.mono hB, fun y hy => (h.ins y hy).mono hB⟩
theorem OwnCh.text {w : World} {B : Nat} {v : Value} {cs : List Ch} (h : OwnCh w B v cs) : TextI w cs := ⟨fun x hx => (h.ins x hx).out.row, fun x hx y hy => ((h.ins x hx).ins y hy).row⟩
theorem OwnLn.only {kb : Nat} {w w' : World} {B : Nat} {v : Value} {ys : List Ln} (h : OwnLn w B v ys) (o : Only kb w w') (hB : kb < B) : OwnLn w' B v ys := ⟨o.own h.out hB, fun y hy => o.own (h.ins y hy) hB⟩
/-- A row lies in no block of another type. -/
theorem OwnL.neB {w : World} {B e e' k b : Nat} {agg : Bool} {v : Value} {xs : List Value} {cs : List Value} (h : OwnL w B e agg k v xs) (hb : Bk w b cs e') (he : e ≠ e') : v.ownBlock ≠ some b := fun hv => by
  rcases h.own.2 with ⟨rfl, _⟩ | ⟨g, cap, cur, rfl, _, hg, _⟩
  · simp [Value.ownBlock] at hv
  · simp only [Value.ownBlock, Option.some.injEq] at hv
    subst hv
    rw [hb.h] at hg
    cases hg
    exact he rfl
/-- Chapters of the call's own, none of which lies in the block b, nor behind it. -/
theorem OwnCh.only {kb : Nat} {w w' : World} {B : Nat} {v : Value} {cs : List Ch} (h : OwnCh w B v cs) (o : Only kb w w') (hout : v.ownBlock ≠ some kb) (hb : ∃ vs, Bk w kb vs 133) : OwnCh w' B v cs := by
  obtain ⟨vs, hb⟩ := hb
  exact ⟨o.own' h.out hout, fun x hx => ⟨o.own' (h.ins x hx).out ((h.ins x hx).out.neB hb (by decide)), fun y hy => o.own' ((h.ins x hx).ins y hy) (((h.ins x hx).ins y hy).neB hb (by decide))⟩⟩
section
variable (a : Option Addr) (c : Nat) (cs : List Ch) (w : World) [hrow : RowI w (.slice a cs.length c) true 2 (cs.map encCh)] [hT : TextI w cs]
end

abbrev nilV : Value := .slice none 0 0


theorem placeB_line {t : Tx} {p : Pl} (h : placeB t p = true) : ∃ l, lineT t p = some l ∧ ∃ q : Nat, q < l.length ∧ p.2.2 = (q : Int) := by
  unfold placeB at h
  split at h
  · cases h
  · refine ⟨_, ‹_›, p.2.2.toNat, ?_, ?_⟩ <;> (simp [inB] at h; omega)

theorem wsT_at {t : Tx} {k : Nat} (hk : k < t.length) : wsT t k = t[k].2 := by rw [wsT, List.getD_eq_getElem?_getD, List.getElem?_eq_getElem hk, Option.getD_some]
theorem lineT_at {t : Tx} {k n : Nat} {q : Int} (hk : k < t.length) (hn : n < t[k].2.length) : lineT t ((k : Int), (n : Int), q) = some t[k].2[n] := by
  rw [lineT, if_pos ⟨by simp, by simp⟩]
  simp only [Int.toNat_natCast]
  rw [List.getElem?_eq_getElem hk, Option.bind_some, List.getElem?_eq_getElem hn]
theorem placeB_get {t : Tx} {p : Pl} (h : placeB t p = true) : ∃ (k n w : Nat) (hk : k < t.length) (hn : n < t[k].2.length) (hw : w < t[k].2[n].length), p = ((k : Int), (n : Int), (w : Int)) := by
  obtain ⟨l, hl, q, hq, hp⟩ := placeB_line h
  rw [lineT] at hl
  split at hl
  · rename_i hc
    obtain ⟨x, hx, hl⟩ := Option.bind_eq_some_iff.1 hl
    obtain ⟨hk, rfl⟩ := List.getElem?_eq_some_iff.1 hx
    obtain ⟨hn, rfl⟩ := List.getElem?_eq_some_iff.1 hl
    exact ⟨_, _, q, hk, hn, hq, by ext <;> simp <;> omega⟩
  · cases hl
theorem placeB_yes {t : Tx} {k n w : Nat} (hk : k < t.length) (hn : n < t[k].2.length) (hw : w < t[k].2[n].length) : placeB t ((k : Int), (n : Int), (w : Int)) = true := by
  rw [placeB, lineT_at hk hn]
  simp only [inB, Bool.and_eq_true, decide_eq_true_eq]
  omega
theorem wordT_at {t : Tx} {k n w : Nat} (hk : k < t.length) (hn : n < t[k].2.length) (hw : w < t[k].2[n].length) : wordT t ((k : Int), (n : Int), (w : Int)) = t[k].2[n][w] := by
  rw [wordT, lineT_at hk hn, Option.getD_some, Int.toNat_natCast, List.getD_eq_getElem?_getD, List.getElem?_eq_getElem hw, Option.getD_some]
theorem placeB_mem {t : Tx} {p : Pl} : placeB t p = true ↔ p ∈ allP t t.length := by
  constructor
  · intro h
    obtain ⟨k, n, w, hk, hn, hw, rfl⟩ := placeB_get h
    refine mem_allP.2 ⟨k, hk, mem_runA.2 ⟨n, w, ?_, ?_, rfl⟩⟩
    · rw [wsT_at hk]; exact hn
    · simp only [wsT_at hk]; exact hw
  · intro h
    obtain ⟨k, hk, hm⟩ := mem_allP.1 h
    obtain ⟨n, w, hn, hw, rfl⟩ := mem_runA.1 hm
    simp only [wsT_at hk] at hn hw
    exact placeB_yes hk hn hw
theorem askE_yes {t : Tx} {wd side : Int} (h1 : textB t = true) (h2 : cutB wd side = true) : askE t wd side = 0 := by rw [askE, h1, h2]; rfl

theorem allP_pos {t : Tx} (h : textB t = true) : 0 < (allP t t.length).length := by
  simp only [textB, Bool.and_eq_true, List.all_eq_true] at h
  obtain ⟨⟨h1, h2⟩, _⟩ := h
  have ht : 0 < t.length := by simp only [inB, Bool.and_eq_true, decide_eq_true_eq] at h1; omega
  have hc := h2 t[0] (List.getElem_mem ht)
  simp only [chapB, Bool.and_eq_true, List.all_eq_true] at hc
  obtain ⟨⟨_, h3⟩, h4⟩ := hc
  have hl : 0 < t[0].2.length := by simp only [inB, Bool.and_eq_true, decide_eq_true_eq] at h3; omega
  have hy := h4 t[0].2[0] (List.getElem_mem hl)
  simp only [lineB, Bool.and_eq_true] at hy
  have hw : 0 < t[0].2[0].length := by have := hy.1; simp only [inB, Bool.and_eq_true, decide_eq_true_eq] at this; omega
  exact List.length_pos_of_mem (placeB_mem.1 (placeB_yes ht hl hw))
theorem allS_lenP (t : Tx) (side wd : Int) : (allS t side wd).length = (allP t t.length).length := by rw [allS, List.length_map]

theorem make_word {t : Tx} {side W : Int} {p : Pl} {s : Slp} (h : makeF t side W p = some s) : wordT t p = s.2.1 := by
  obtain ⟨k, i, hk, hi, rfl⟩ := makeF_some h
  have hil : i < (wsT t k).flatten.length := by
    have := (List.getElem?_eq_some_iff.1 hi).1
    rwa [runA_len] at this
  have hz : ((runA k (wsT t k)).zip (wsT t k).flatten)[i]? = some (p, (wsT t k).flatten[i]) := by
    rw [List.getElem?_zip_eq_some]
    exact ⟨hi, List.getElem?_eq_getElem hil⟩
  have hm : (p, (wsT t k).flatten[i]) ∈ allW t t.length := List.mem_flatMap.2 ⟨k, List.mem_range.2 hk, List.mem_of_getElem? hz⟩
  obtain ⟨j, hj⟩ := List.mem_iff_getElem?.1 hm
  obtain ⟨k', n, w, hk', hn, hw, hp, hs⟩ := allW_word hj
  show wordT t p = (wsT t k).flatten.getD i ⟨#[]⟩
  rw [hp, wordT_at hk' hn hw, List.getD_eq_getElem?_getD, List.getElem?_eq_getElem hil, Option.getD_some, hs]
/-- The slips of a text, said once. -/
structure AllF (t : Tx) (wd side : Int) (l : List Slp) : Prop where
  eq : allS t side wd = l
  len : l.length ≤ 600
  pos : 0 < l.length
  nd : l.Nodup
  at_ : ∀ (i : Nat) (hi : i < l.length), (allP t t.length)[i]? = some l[i].1
  wd_ : ∀ (i : Nat) (hi : i < l.length), placeB t l[i].1 = true ∧ wordT t l[i].1 = l[i].2.1
  mk_ : ∀ (i : Nat) (hi : i < l.length), makeF t side wd l[i].1 = some l[i]
  rt : ∀ x ∈ l, slipB x = true
theorem allF {t : Tx} {wd side : Int} (ht : textB t = true) (hc : cutB wd side = true) : AllF t wd side (allS t side wd) where
  eq := rfl
  len := allS_len ht
  pos := by rw [allS_lenP]; exact allP_pos ht
  nd := allS_nodup
  at_ i hi := by
    have hi' : i < (allP t t.length).length := by rwa [allS_lenP] at hi
    rw [List.getElem?_eq_getElem hi', allS_get hi]
  wd_ i hi := by
    have h := allS_mem (List.getElem_mem hi)
    exact ⟨placeB_mem.2 h.2, make_word h.1⟩
  mk_ i hi := (allS_mem (List.getElem_mem hi)).1
  rt x hx := allS_right ht hc hx

abbrev SrtS (l : List ByteArray) : Prop := l.Pairwise fun a b => cmpS a b = -1
theorem cmpS_irr (a : ByteArray) : cmpS a a ≠ -1 := by rw [cmpS_self]; decide
theorem SrtS.uniq : ∀ {l m : List ByteArray}, SrtS l → SrtS m → (∀ x, x ∈ l ↔ x ∈ m) → l = m
  | [], [], _, _, _ => rfl
  | [], y :: m, _, _, h => absurd ((h y).2 (by simp)) (by simp)
  | x :: l, [], _, _, h => absurd ((h x).1 (by simp)) (by simp)
  | x :: l, y :: m, hl, hm, h => by
    rw [SrtS, List.pairwise_cons] at hl hm
    have hxy : x = y := by
      rcases List.mem_cons.1 ((h x).1 (by simp)) with e | e
      · exact e
      · rcases List.mem_cons.1 ((h y).2 (by simp)) with e2 | e2
        · exact e2.symm
        · have h1 := hm.1 x e
          have h2 := hl.1 y e2
          exact absurd (ord_cmpS.tr _ _ _ h1 h2) (cmpS_irr y)
    subst hxy
    refine congrArg (x :: ·) (SrtS.uniq hl.2 hm.2 fun z => ⟨fun hz => ?_, fun hz => ?_⟩)
    · rcases List.mem_cons.1 ((h z).1 (List.mem_cons_of_mem _ hz)) with e | e
      · exact absurd (e ▸ hl.1 z hz) (cmpS_irr x)
      · exact e
    · rcases List.mem_cons.1 ((h z).2 (List.mem_cons_of_mem _ hz)) with e | e
      · exact absurd (e ▸ hm.1 z hz) (cmpS_irr x)
      · exact e
/-- A word put where it belongs, if it is not there. -/
def insV (w : ByteArray) : List ByteArray → List ByteArray
  | [] => [w]
  | x :: l => if cmpS x w = -1 then x :: insV w l else if x = w then x :: l else w :: x :: l
theorem mem_insV {w y : ByteArray} : ∀ {l : List ByteArray}, y ∈ insV w l ↔ y = w ∨ y ∈ l
  | [] => by simp [insV]
  | x :: l => by
    have ih := mem_insV (w := w) (y := y) (l := l)
    unfold insV
    split
    · rw [List.mem_cons, ih, List.mem_cons]; constructor <;> rintro (h | h | h) <;> simp [h]
    · split
      · rename_i h1 h2; subst h2; rw [List.mem_cons]; constructor
        · rintro (h | h) <;> simp [h]
        · rintro (h | h | h) <;> simp [h]
      · rw [List.mem_cons]
theorem insV_srt {w : ByteArray} : ∀ {l : List ByteArray}, SrtS l → SrtS (insV w l)
  | [], _ => by simp [insV, SrtS]
  | x :: l, h => by
    rw [SrtS, List.pairwise_cons] at h
    have ih := insV_srt (w := w) h.2
    unfold insV
    split
    · rename_i h1
      rw [SrtS, List.pairwise_cons]
      refine ⟨fun y hy => ?_, ih⟩
      rcases mem_insV.1 hy with rfl | hy
      · exact h1
      · exact h.1 y hy
    · split
      · rw [SrtS, List.pairwise_cons]; exact h
      · rename_i h1 h2
        have h3 : cmpS w x = -1 := by
          rcases ord_cmpS.r x w with q | q | q
          · exact absurd q h1
          · exact absurd ((ord_cmpS.z _ _).1 q) h2
          · have := ord_cmpS.anti x w; omega
        rw [SrtS, List.pairwise_cons, List.pairwise_cons]
        refine ⟨fun y hy => ?_, h⟩
        rcases List.mem_cons.1 hy with rfl | hy
        · exact h3
        · exact ord_cmpS.tr _ _ _ h3 (h.1 y hy)
/-- The words of a list in order, each once. -/
def vocL (ws : List ByteArray) : List ByteArray := ws.foldl (fun l w => insV w l) []
theorem vocL_facts (ws : List ByteArray) : SrtS (vocL ws) ∧ ∀ x, x ∈ vocL ws ↔ x ∈ ws := by
  have h : ∀ (ws l : List ByteArray), SrtS l → SrtS (ws.foldl (fun l w => insV w l) l) ∧ ∀ x, x ∈ ws.foldl (fun l w => insV w l) l ↔ x ∈ l ∨ x ∈ ws := fun ws => by
    induction ws with
    | nil => intro l hl; exact ⟨hl, fun x => by simp⟩
    | cons w ws ih =>
      intro l hl
      obtain ⟨h1, h2⟩ := ih (insV w l) (insV_srt hl)
      refine ⟨h1, fun x => (h2 x).trans ?_⟩
      rw [mem_insV, List.mem_cons]
      constructor
      · rintro ((h | h) | h) <;> simp [h]
      · rintro (h | h | h) <;> simp [h]
  obtain ⟨h1, h2⟩ := h ws [] (by simp [SrtS])
  exact ⟨h1, fun x => (h2 x).trans (by simp)⟩
theorem any_mem {ws : List ByteArray} {w : ByteArray} : ws.any (fun y => decide (y = w)) = true ↔ w ∈ ws := by
  rw [List.any_eq_true]
  exact ⟨fun ⟨y, h, e⟩ => of_decide_eq_true e ▸ h, fun h => ⟨w, h, decide_eq_true rfl⟩⟩
/-- The words, each where it comes first. -/
def dstL (ws : List ByteArray) : Nat → List ByteArray
  | 0 => []
  | i + 1 => dstL ws i ++ (match ws[i]? with
    | some w => if (ws.take i).any (fun y => decide (y = w)) then [] else [w]
    | none => [])
theorem dstL_mem {ws : List ByteArray} : ∀ {i : Nat} {x : ByteArray}, x ∈ dstL ws i ↔ x ∈ ws.take i
  | 0, x => by simp [dstL]
  | i + 1, x => by
    have ih := dstL_mem (ws := ws) (i := i) (x := x)
    rw [dstL, List.mem_append, ih, List.take_add_one, List.mem_append]
    cases h : ws[i]? with
    | none => simp
    | some w =>
      simp only [Option.toList_some, List.mem_singleton]
      split
      · rename_i hm
        rw [any_mem] at hm
        constructor
        · rintro (h | h)
          · exact .inl h
          · simp at h
        · rintro (h | rfl)
          · exact .inl h
          · exact .inl hm
      · simp
theorem dstL_nodup {ws : List ByteArray} : ∀ (i : Nat), (dstL ws i).Nodup
  | 0 => by simp [dstL]
  | i + 1 => by
    rw [dstL]
    cases h : ws[i]? with
    | none => simpa using dstL_nodup i
    | some w =>
      simp only
      split
      · simpa using dstL_nodup i
      · rename_i hm
        rw [List.nodup_append]
        refine ⟨dstL_nodup i, by simp, fun a ha b hb e => ?_⟩
        rw [List.mem_singleton] at hb
        subst hb e
        exact hm (any_mem.2 (dstL_mem.1 ha))
theorem dstL_len {ws : List ByteArray} : ∀ (i : Nat), (dstL ws i).length ≤ i
  | 0 => by simp [dstL]
  | i + 1 => by
    have ih := dstL_len (ws := ws) i
    rw [dstL, List.length_append]
    cases ws[i]? with
    | none => simp; omega
    | some w => simp only; split <;> simp <;> omega
theorem dstL_pre {ws : List ByteArray} {i j : Nat} (h : i ≤ j) : ∃ r, dstL ws j = dstL ws i ++ r := by
  induction j with
  | zero => obtain rfl : i = 0 := by omega
            exact ⟨[], by simp⟩
  | succ j ih =>
    rcases Nat.lt_or_ge j i with h1 | h1
    · obtain rfl : i = j + 1 := by omega
      exact ⟨[], by simp⟩
    · obtain ⟨r, hr⟩ := ih h1
      exact ⟨r ++ _, by rw [dstL, hr, List.append_assoc]⟩
/-- What is sorted of these is the words in order. -/
theorem voc_sort {ws l : List ByteArray} (hp : l.Perm (dstL ws ws.length)) (hs : l.Pairwise fun a b => cmpS b a ≠ -1) : l = vocL ws := by
  obtain ⟨h1, h2⟩ := vocL_facts ws
  have hn : l.Nodup := hp.nodup_iff.2 (dstL_nodup _)
  refine SrtS.uniq ?_ h1 fun x => ?_
  · refine (hs.and hn).imp fun {a b} ⟨q1, q2⟩ => ?_
    rcases ord_cmpS.r a b with q | q | q
    · exact q
    · exact absurd ((ord_cmpS.z _ _).1 q) q2
    · have := ord_cmpS.anti a b; omega
  · rw [hp.mem_iff, dstL_mem, List.take_length, h2]

abbrev encPW (x : Pl × ByteArray) : List Value := [encPl x.1, .string x.2]
structure BkF (bx bk : Nat) (a : Option Addr) (c : Nat) (cs : List Ch) (w : World) : Prop where
  bx : At w bx 0 [.pointer (some ⟨bk, 0, none⟩)]
  bk : At w bk 0 [.slice a cs.length c]
  row : RowV w true 2 (.slice a cs.length c) (cs.map encCh)
  tx : TextI w cs
set_option maxHeartbeats 4000000 in
theorem all1_leaf (bx bk : Nat) (a : Option Addr) (c : Nat) (cs : List Ch) (hs : SmallT cs) :
    Iter Tryz.prog 120 [.pointer (some ⟨bx, 0, none⟩)] (allW (txF cs) (txF cs).length) encPW (BkF bx bk a c cs) := by
  intro l J Jx M w hJ hJx hF hM1 hM2 hY h0
  have hs1 := hs.1
  have hF0 := hF 0 w h0
  have := hF0.bx
  have := hF0.bk
  refine Calls.ofW (by simp) ?_
  (refine jjB (jjC (jN rfl rfl rfl (jw rfl (jm (jn rfl ?_))))); refine jm (jn rfl (jN rfl rfl rfl (jh rfl (jI (eI rfl) (jz ?_))))); refine jjD ?_)
  refine W.keep0 [(0, .func (.yield l) #[] #[]), (13, .slice a cs.length c), (14, .int .i64 (cs.length : Int)), (15, .int .i64 ((0 : Nat) : Int))] ⟨eF rfl, eS rfl, eI rfl, eI rfl, trivial⟩ fun s0 => ?_
  refine W.loopG (16 :: 17 :: 18 :: 19 :: 4 :: 3 :: 20 :: 21 :: 22 :: 23 :: 24 :: 25 :: 26 :: 27 :: 5 :: 6 :: 28 :: 29 :: 30 :: 31 :: 32 :: 33 :: 34 :: 7 :: 8 :: 35 :: 36 :: 37 :: 38 :: 39 :: 40 :: 41 :: 42 :: 43 :: 44 :: 45 :: 15 :: []) (fun g s' w' => ∃ k : Nat, s' 15 = .int .i64 ((k : Nat) : Int) ∧ k ≤ cs.length ∧ g = cs.length - k ∧ J (allW (txF cs) k).length w') cs.length ⟨0, rfl, by omega, rfl, h0⟩ ?_
  rintro _ sd w' ⟨k, h15, hk, rfl, hJk⟩
  refine W.fix h15 ?_
  clear h15
  have hFk := hF _ _ hJk
  by_cases hkc : k < cs.length
  rotate_left
  · obtain rfl : k = cs.length := by omega
    (refine jjB (jjC (jja rfl rfl (by omega) (jz (jjB (jjK rfl ?_))))); refine jjE ?_; refine jA rfl ⟨⟨_, rfl⟩, ?_⟩)
    refine .inl ?_
    rw [txF_len]; exact hJk
  have hsk := hs.2 _ (List.getElem_mem hkc)
  have hsl := hsk.1
  have hcl : (chW cs[k]).length = cs[k].2.2.2.length := by simp [chW]
  have hws := wsT_get hkc
  obtain ⟨ba, oa, rfl, hAk⟩ := hFk.row.place' (map_get hkc)
  have htk : k < (txF cs).length := by rw [txF_len]; exact hkc
  (refine jjB (jjC (jjZ rfl rfl (by omega) (jz (jjB (jjJ rfl ?_))))); refine jjG (jjB (jjD (jjB (jjC (jI (eI rfl) ?_))))))
  refine jH k rfl rfl rfl hkc ?_
  (refine jQ rfl rfl ?_)
  ((skip); refine jjY ?_; intro b4 w_b4 hb_b4 hs_b4 hS_b4 hk_b4; have hA_b4 := Bk.of hk_b4)
  (apply jJ; exact eI rfl)
  refine Ops.store rfl rfl rfl rfl rfl ?_
  intro wA hpA
  have hEA : Ext w' wA := hpA.ext hS_b4.ext (by omega)
  have hA4 : At wA b4 0 [.int .i64 cs[k].1, .slice cs[k].2.1 cs[k].2.2.2.length cs[k].2.2.1] := Bk.toAt (h := Bk.of hpA.new)
  have hJA := hJ _ _ _ hJk hEA
  (refine jz (jjB (jjC (jm (jn rfl (jN rfl rfl rfl ?_))))); refine jh rfl (jI (eI rfl) (jz (jjD ?_))))
  refine W.keep [(0, .func (.yield l) #[] #[]), (13, .slice (some ⟨ba, oa, none⟩) cs.length c), (14, .int .i64 (cs.length : Int)), (15, .int .i64 ((k : Nat) : Int)), (3, .int .i64 ((k : Nat) : Int)), (21, .slice cs[k].2.1 cs[k].2.2.2.length cs[k].2.2.1), (22, .int .i64 (cs[k].2.2.2.length : Int)), (23, .int .i64 ((0 : Nat) : Int))] (D := (16 :: 17 :: 18 :: 19 :: 4 :: 3 :: 20 :: 21 :: 22 :: 23 :: 24 :: 25 :: 26 :: 27 :: 5 :: 6 :: 28 :: 29 :: 30 :: 31 :: 32 :: 33 :: 34 :: 7 :: 8 :: 35 :: 36 :: 37 :: 38 :: 39 :: 40 :: 41 :: 42 :: 43 :: 44 :: 45 :: 15 :: [])) (sO := upds s0 _) (by (((iterate 11 refine Same.upd rfl ?_); exact Same.ovN))) ⟨eF rfl, eS rfl, eI rfl, eI rfl, eI rfl, eS rfl, eI rfl, eI rfl, trivial⟩ fun s1 hs1' => ?_
  refine W.loopG (24 :: 25 :: 26 :: 27 :: 5 :: 6 :: 28 :: 29 :: 30 :: 31 :: 32 :: 33 :: 34 :: 7 :: 8 :: 35 :: 36 :: 37 :: 38 :: 39 :: 40 :: 41 :: 42 :: 43 :: 44 :: 23 :: []) (fun g s' V => ∃ n : Nat, s' 23 = .int .i64 ((n : Nat) : Int) ∧ n ≤ cs[k].2.2.2.length ∧ g = cs[k].2.2.2.length - n ∧ J ((allW (txF cs) k).length + ((chW cs[k]).take n).flatten.length) V) cs[k].2.2.2.length ⟨0, rfl, by omega, rfl, hJA⟩ ?_
  rintro _ sd2 V ⟨n, h23, hn, rfl, hJn⟩
  refine W.fix h23 ?_
  clear h23
  have hFn := hF _ _ hJn
  by_cases hnl : n < cs[k].2.2.2.length
  rotate_left
  · obtain rfl : n = cs[k].2.2.2.length := by omega
    rw [← hcl, List.take_length, ← hws, ← allW_succ] at hJn
    (refine jjB (jjC (jja rfl rfl (by omega) (jz (jjB (jjK rfl ?_))))); refine jjE (jjC (jY rfl rfl (by omega) (jI (eI rfl) (jz ?_)))))
    exact ⟨rfl, by (((iterate 4 refine Same.upd rfl ?_); refine Same.ovN' rfl ?_; assumption)), cs.length - (k + 1), by omega, k + 1, congrArg (Value.int .i64) (by omega), by omega, rfl, hJn⟩
  have hsn := hsk.2 _ (List.getElem_mem hnl)
  have hsq := hsn.1
  have hnc : n < (chW cs[k]).length := by rw [hcl]; exact hnl
  have hcn : (chW cs[k])[n] = cs[k].2.2.2[n].2.2 := by simp [chW]
  have hnx := flat_len_succ hnc
  rw [hcn] at hnx
  have iL := hFn.tx.line hkc
  (refine jjB (jjC (jjZ rfl rfl (by omega) (jz (jjB (jjJ rfl ?_))))); refine jjG (jjB (jjD (jjB (jjC (jI (eI rfl) ?_))))); refine jF rfl rfl rfl (map_get (by omega)) ?_; intro _ _ _; refine jQ rfl rfl (jJ (eI rfl) (jJ (eS rfl) (jz (jjB (jjC ?_))))); refine jI (eS rfl) (jh rfl (jI (eI rfl) (jz (jjD ?_)))))
  refine W.keep [(0, .func (.yield l) #[] #[]), (13, .slice (some ⟨ba, oa, none⟩) cs.length c), (14, .int .i64 (cs.length : Int)), (15, .int .i64 ((k : Nat) : Int)), (3, .int .i64 ((k : Nat) : Int)), (21, .slice cs[k].2.1 cs[k].2.2.2.length cs[k].2.2.1), (22, .int .i64 (cs[k].2.2.2.length : Int)), (23, .int .i64 ((n : Nat) : Int)), (5, .int .i64 ((n : Nat) : Int)), (28, .slice cs[k].2.2.2[n].1 cs[k].2.2.2[n].2.2.length cs[k].2.2.2[n].2.1), (29, .int .i64 (cs[k].2.2.2[n].2.2.length : Int)), (30, .int .i64 ((0 : Nat) : Int))] (D := (24 :: 25 :: 26 :: 27 :: 5 :: 6 :: 28 :: 29 :: 30 :: 31 :: 32 :: 33 :: 34 :: 7 :: 8 :: 35 :: 36 :: 37 :: 38 :: 39 :: 40 :: 41 :: 42 :: 43 :: 44 :: 23 :: [])) (sO := upds s1 _) (by (((iterate 10 refine Same.upd rfl ?_); exact Same.ovN))) ⟨eF rfl, eS rfl, eI rfl, eI rfl, eI rfl, eS rfl, eI rfl, eI rfl, eI rfl, eS rfl, eI rfl, eI rfl, trivial⟩ fun s2 hs2' => ?_
  refine W.loopG (31 :: 32 :: 33 :: 34 :: 7 :: 8 :: 35 :: 36 :: 37 :: 38 :: 39 :: 40 :: 41 :: 42 :: 43 :: 30 :: []) (fun g s' V => ∃ q : Nat, s' 30 = .int .i64 ((q : Nat) : Int) ∧ q ≤ cs[k].2.2.2[n].2.2.length ∧ g = cs[k].2.2.2[n].2.2.length - q ∧ J ((allW (txF cs) k).length + (((chW cs[k]).take n).flatten.length + q)) V) cs[k].2.2.2[n].2.2.length ⟨0, rfl, by omega, rfl, hJn⟩ ?_
  rintro _ sd3 V2 ⟨q, h30, hq, rfl, hJq⟩
  refine W.fix h30 ?_
  clear h30
  have hFq := hF _ _ hJq
  by_cases hql : q < cs[k].2.2.2[n].2.2.length
  rotate_left
  · obtain rfl : q = cs[k].2.2.2[n].2.2.length := by omega
    (refine jjB (jjC (jja rfl rfl (by omega) (jz (jjB (jjK rfl ?_))))); refine jjE (jjC (jY rfl rfl (by omega) (jI (eI rfl) (jz ?_)))))
    exact ⟨rfl, by (((iterate 4 refine Same.upd rfl ?_); refine Same.ovN' rfl ?_; assumption)), cs[k].2.2.2.length - (n + 1), by omega, n + 1, congrArg (Value.int .i64) (by omega), by omega, rfl, by rw [hnx]; exact hJq⟩
  have hqc : q < ((wsT (txF cs) k)[n]'(by rw [hws]; exact hnc)).length := by simp only [hws, hcn]; exact hql
  have hall := allW_at htk (by rw [hws]; exact hnc) hqc
  simp only [hws, hcn] at hall
  have iW := hFq.tx.word hkc hnl
  (refine jjB (jjC (jjZ rfl rfl (by omega) (jz (jjB (jjJ rfl ?_))))); refine jjG (jjB (jjD (jjB (jjC (jI (eI rfl) ?_))))); refine jF rfl rfl rfl (map_get (by omega)) ?_; intro _ _ _; refine jQ rfl rfl (jJ (eI rfl) (jJ (eT rfl) (jz (jjB (jjC ?_))))); refine jI (eF rfl) (jI (eI rfl) (jI (eI rfl) (jI (eI rfl) ?_))))
  (refine jjS (cells := [.int .i64 (k : Int), .int .i64 (n : Int), .int .i64 (q : Int)]) ?_ ?_; exact rfl)
  (apply jI; exact eT rfl)
  refine Ops.yield (hY _ _ _ hall hJq) rfl rfl ?_
  rintro e V3 (⟨rfl, hJ3, hFr⟩ | ⟨rfl, hJx3⟩)
  · refine ⟨_, rfl, ?_⟩
    (refine jp rfl (jz (jjK rfl (jjG (jjC (jY rfl rfl (by omega) ?_))))); refine jI (eI rfl) (jz ?_))
    exact ⟨rfl, by (((iterate 17 refine Same.upd rfl ?_); exact Same.ovN)), cs[k].2.2.2[n].2.2.length - (q + 1), by omega, q + 1, congrArg (Value.int .i64) (by omega), by omega, rfl, hJ3⟩
  · refine ⟨_, rfl, ?_⟩
    (refine jq rfl (jz (jjJ rfl (jjF ?_))); refine jA rfl ⟨⟨_, rfl⟩, ?_⟩)
    exact .inr ⟨_, (List.getElem?_eq_some_iff.1 hall).1, hJx3⟩
theorem all_leaf (bk : Nat) (w : World) : Ct Tryz.prog 86 [.pointer (some ⟨bk, 0, none⟩)] w fun v w' => ∃ bx, v = .func (.func 120) #[] ([.pointer (some ⟨bx, 0, none⟩)] : List Value).toArray ∧ w.heap.size ≤ bx ∧ At w' bx 0 [.pointer (some ⟨bk, 0, none⟩)] := by
  refine Ct.ofW (by simp) ?_
  (refine jjB (jjC ?_))
  (refine jy rfl ?_; intro bx w_bx hb_bx hs_bx hS_bx hk_bx; have hA_bx := At.ofBlock hk_bx)
  (refine jJ rfl (jz (jjB (jjC (jv (jJ (eF rfl) ?_))))); refine jz (jjF ?_); refine jB rfl rfl ⟨inferInstance, ?_⟩)
  exact ⟨bx, rfl, by omega, inferInstance⟩


def wordsR (t : Tx) : Int × Int := if textB t then ((allW t t.length).length, 0) else (0, 10)
theorem allW_small {cs : List Ch} (ht : textB (txF cs) = true) : (allW (txF cs) (txF cs).length).length ≤ 600 := by
  have h := allS_len (side := 1) (wd := 12) ht
  rw [allS, List.length_map] at h
  rw [allW_len]; exact h
section
variable (a : Option Addr) (c : Nat) (cs : List Ch) (w : World) [hrow : RowI w (.slice a cs.length c) true 2 (cs.map encCh)] [hT : TextI w cs]
set_option maxHeartbeats 2000000 in
theorem Words_leaf (hs : SmallT cs) : Ct Tryz.prog 48 [.agg #[.slice a cs.length c]] w fun v _ => v = .tuple #[.int .i64 (wordsR (txF cs)).1, .int .i64 (wordsR (txF cs)).2] := by
  refine Ct.ofWM (by simp) ?_
  (refine jjB (jjC ?_))
  (refine jy rfl ?_; intro b1 w_b1 hb_b1 hs_b1 hS_b1 hk_b1; have hA_b1 := At.ofBlock hk_b1)
  (refine jJ (eI rfl) (jJ (eI rfl) (jz (jjB (jjC (jO rfl rfl rfl rfl ?_))))))
  obtain ⟨B, hB⟩ : ∃ B, textB (txF cs) = B := ⟨_, rfl⟩
  refine jjQ ((open_leaf a c cs _ hs).mono fun v _ _ h => by rw [hB] at h; exact h) rfl rfl ?_
  rintro _ w2 hS2 ⟨o, rfl, ho⟩
  have hE2 : Ext w w2 := inferInstance
  rw [wordsR, hB]
  cases B with
  | false =>
    (refine jI (eU rfl) (ju rfl rfl (ju rfl rfl (jJ rfl (jJ (eI rfl) (jz ?_))))); refine jjB (jjB (jjC (jI (eI rfl) (jc rfl rfl (jz ?_))))); refine jjJ rfl (jjB (jjC (jI (eI rfl) (jJ (eI rfl) (jJ (eI rfl) ?_))))); refine jz (jjF ?_))
    refine fin2M rfl rfl rfl inferInstance fun w' g => ⟨hE2.ofGrow g (Nat.le_refl _), rfl⟩
  | true =>
  obtain ⟨bk, hbk, rfl, hAk⟩ := ho rfl
  have hal := allW_small hB
  rw [if_pos rfl]
  (refine jI (eU rfl) (ju rfl rfl (ju rfl rfl (jJ (eP rfl) (jJ (eI rfl) (jz ?_))))); refine jjB (jjB (jjC (jI (eI rfl) (jc rfl rfl (jz ?_))))); refine jjK rfl (jjG (jjB (jjC ?_))))
  (apply jjR rfl; (intro _; first|exact eI rfl|exact eB rfl|exact eP rfl|exact eS rfl|exact eT rfl|exact eA rfl|exact eU rfl|exact eF rfl|exact eM rfl|exact eN rfl|exact rfl); exact rfl; exact rfl; exact rfl; exact rfl; intro b6 w_b6 hb_b6 hs_b6 hS_b6 hk_b6; have hA_b6 := Bk.of hk_b6)
  (refine jz (jjB (jjB (jjC (jI (eP rfl) ?_)))))
  refine jjQ (all_leaf bk _) rfl rfl ?_
  rintro _ w7 hS7 ⟨bx, rfl, hbx, hAx⟩
  (refine jz (jjD ?_))
  have hE7 : Ext w w7 := inferInstance
  have zz := hE7.size
  have z2 := hE2.size
  have z6 := hS_b6.size
  have z7 := hS7.size
  have hB6 : Bk w7 b6 [.int .i64 0] 3 := inferInstance
  have hAk7 : At w7 bk 0 [.slice a cs.length c] := (hAk.ext hS_b6.ext).ext hS7.ext
  have hlk := hAk.lt
  have hlx := hAx.lt
  refine W.range w.heap.size (allW (txF cs) (txF cs).length) encPW (all1_leaf bx bk a c cs hs) rfl (fun _ => rfl) trivial inferInstance hE7.size
    (fun i V => Ext w V ∧ w7.heap.size ≤ V.heap.size ∧ Bk V b6 [.int .i64 ((i : Nat) : Int)] 3 ∧ At V bx 0 [.pointer (some ⟨bk, 0, none⟩)] ∧ At V bk 0 [.slice a cs.length c])
    (fun _ _ _ => False) ?hJ (fun _ _ _ _ h _ => h) ?hF ?h0 (fun x s' _ => s' 6 = .pointer (some ⟨b6, 0, none⟩)) (fun _ _ _ _ h _ => h) ?hassign ?hbody ?hdone (fun _ _ _ _ _ _ _ h => h.elim)
  case hJ =>
    rintro i V V' ⟨h1, h2, h3, h4, h5⟩ g
    exact ⟨h1.ofGrow g zz, Nat.le_trans h2 g.size, h3.grow g, h4.grow g, h5.grow g⟩
  case hF =>
    rintro i V ⟨h1, h2, h3, h4, h5⟩
    exact ⟨h2, h4, h5, hrow.h.ext h1, hT.ext h1⟩
  case h0 => exact ⟨hE7, Nat.le_refl _, hB6, hAx, hAk7⟩
  case hassign =>
    intro l i x V hx hJ hl hr
    (refine jjG ?_)
    exact ⟨rfl, Tr.refl _, Fr.refl _ _, hJ, rfl⟩
  case hbody =>
    rintro l i x s' V hx ⟨h1, h2, h3, h4, h5⟩ ha6 hl hr
    have hlt := (List.getElem?_eq_some_iff.1 hx).1
    refine W.fix (d := 6) ha6 ?_
    (refine jjD (jjC (jN rfl rfl rfl (jY rfl rfl (by omega) ?_))))
    refine Ops.store rfl rfl rfl rfl rfl ?_
    intro V2 hp2
    (refine jz ?_)
    refine ⟨hp2.tr ⟨_, h3.h, rfl⟩, hp2.frS (by omega), hp2.ext h1 (by omega), by rw [hp2.size]; exact h2, ?_, hp2.at_ h4 (by omega), hp2.at_ h5 (by omega)⟩
    have e : (((i + 1 : Nat) : Nat) : Int) = (i : Int) + 1 := by omega
    rw [e]; exact ⟨hp2.new⟩
  case hdone =>
    rintro ds' V hmk htr ⟨h1, h2, h3, h4, h5⟩
    (refine jjB (jjC (jN rfl rfl rfl (jJ (eI rfl) (jJ (eI rfl) (jz ?_))))); refine jjF ?_)
    refine fin2M rfl rfl rfl hmk fun w' g => ⟨h1.ofGrow g (Nat.le_refl _), rfl⟩
end

/-- Below N all is as it was but block kb; data are as they were but in kb. -/
structure GrowB (N kb : Nat) (w w' : World) : Prop where
  os : w'.os = w.os
  tape : w'.tape = w.tape
  output : w'.output = w.output
  size : w.heap.size ≤ w'.heap.size
  old : ∀ (k : Nat), k < N → k ≠ kb → w'.heap[k]? = w.heap[k]?
  data : ∀ (k : Nat) (o : Obj), w.heap[k]? = some o → Obj.loopy o = false → k ≠ kb → w'.heap[k]? = some o
  kd : (∃ o, w.heap[kb]? = some o ∧ Obj.loopy o = false) → ∃ o, w'.heap[kb]? = some o ∧ Obj.loopy o = false
/-- Block kb holds data. -/
abbrev KbD (kb : Nat) (w : World) : Prop := ∃ o, w.heap[kb]? = some o ∧ Obj.loopy o = false
theorem GrowB.refl (N kb : Nat) (w : World) : GrowB N kb w w := ⟨rfl, rfl, rfl, Nat.le_refl _, fun _ _ _ => rfl, fun _ _ h _ _ => h, id⟩
theorem GrowB.trans {N kb : Nat} {a b c : World} (h : GrowB N kb a b) (k : GrowB N kb b c) : GrowB N kb a c :=
  ⟨k.os.trans h.os, k.tape.trans h.tape, k.output.trans h.output, Nat.le_trans h.size k.size, fun i hi hn => (k.old i hi hn).trans (h.old i hi hn), fun i o hi ho hn => k.data i o (h.data i o hi ho hn) ho hn, fun x => k.kd (h.kd x)⟩
theorem GrowB.mono {N M kb : Nat} {w w' : World} (h : GrowB N kb w w') (hM : M ≤ N) : GrowB M kb w w' := ⟨h.os, h.tape, h.output, h.size, fun k hk => h.old k (by omega), h.data, h.kd⟩
theorem Grow.toB {N kb : Nat} {w w' : World} (h : Grow N w w') : GrowB N kb w w' := ⟨h.os, h.tape, h.output, h.size, fun k hk _ => h.old k hk, fun k o hk ho _ => h.data k o hk ho, fun ⟨o, h1, h2⟩ => ⟨o, h.data kb o h1 h2, h2⟩⟩
theorem Ext.growB {N kb : Nat} {w w' : World} (h : Ext w w') (hN : N ≤ w.heap.size) : GrowB N kb w w' := (h.grow hN).toB
theorem PutO.growB {N kb : Nat} {w w' : World} {o : Obj} (p : PutO w w' kb o) (ho : Obj.loopy o = false) : GrowB N kb w w' := ⟨p.os, p.tape, p.output, by rw [p.size]; exact Nat.le_refl _, fun k _ hk => p.other k hk, fun k _ hk _ hn => (p.other k hn).trans hk, fun _ => ⟨o, p.new, ho⟩⟩
theorem GrowB.cell {N kb : Nat} {w w' : World} (g : GrowB N kb w w') {b o : Nat} {v : Value} (h : w.cell? ⟨b, o, none⟩ = some v) (hn : b ≠ kb) : w'.cell? ⟨b, o, none⟩ = some v := by
  obtain ⟨ob, hb, hd⟩ := cell_block h
  have := g.data b ob hb hd hn
  rw [← h]
  exact World.cell?_of_block (a := ⟨b, o, none⟩) (this.trans hb.symm)
theorem At.growB {N kb : Nat} {w w' : World} {b o : Nat} {cs : List Value} (h : At w b o cs) (g : GrowB N kb w w') (hn : b ≠ kb) : At w' b o cs := ⟨fun i v hv => g.cell (h.h i v hv) hn⟩
theorem Bk.growB {N kb : Nat} {w w' : World} {b e : Nat} {cs : List Value} (h : Bk w b cs e) (g : GrowB N kb w w') (hn : b ≠ kb) : Bk w' b cs e := ⟨g.data b _ h.h rfl hn⟩
theorem OwnL.growB {N kb : Nat} {w w' : World} {B e : Nat} {agg : Bool} {k : Nat} {v : Value} {xs : List Value} (h : OwnL w B e agg k v xs) (hs : GrowB N kb w w') (hn : v.ownBlock ≠ some kb) : OwnL w' B e agg k v xs :=
  h.kept fun g hg => by
    rcases h.own.2 with ⟨rfl, _⟩ | ⟨g', cap, cur, rfl, hB, hg', _⟩
    · simp [Value.ownBlock] at hg
    · simp only [Value.ownBlock, Option.some.injEq] at hg
      subst hg
      exact (hs.data _ _ hg' rfl (fun e => hn (by subst e; rfl))).trans hg'.symm
theorem Only.growB {N kb : Nat} {w0 w w' : World} (h : Only kb w0 w) (g : GrowB N kb w w') (hN : w0.heap.size ≤ N) : Only kb w0 w' :=
  ⟨g.os.trans h.os, g.tape.trans h.tape, g.output.trans h.output, Nat.le_trans h.size g.size, fun k hk hn => (g.old k (by omega) hn).trans (h.other k hk hn)⟩

/-- A step that leaves the machine's blocks alone but those in E. -/
structure TrE (E : Nat → Prop) (w w' : World) : Prop where
  size : w.heap.size ≤ w'.heap.size
  keep : ∀ (k : Nat) (o : Obj), ¬ E k → w.heap[k]? = some o → Obj.loopy o = true → w'.heap[k]? = some o
theorem Tr.toE {E : Nat → Prop} {w w' : World} (h : Tr w w') : TrE E w w' := ⟨h.size, fun k o _ hk ho => h.keep k o hk ho⟩
theorem TrE.trans {E : Nat → Prop} {a b c : World} (h : TrE E a b) (k : TrE E b c) : TrE E a c := ⟨Nat.le_trans h.size k.size, fun i o hi ho hl => k.keep i o hi (h.keep i o hi ho hl) hl⟩
theorem TrE.mono {E F : Nat → Prop} {a b : World} (h : TrE E a b) (hf : ∀ k, E k → F k) : TrE F a b := ⟨h.size, fun i o hi ho hl => h.keep i o (fun e => hi (hf i e)) ho hl⟩
theorem MksP.trF {N : Nat} {F : Nat → Prop} {w w' : World} (hF : ∀ k, F k → k < N) : ∀ {ds : List Deferred}, MksP N w ds → TrE F w w' → MksP N w' ds
  | [], _, _ => trivial
  | _ :: _, ⟨⟨D, e, hN, hD, hne⟩, h⟩, t => ⟨⟨D, e, hN, t.keep D _ (fun h => by have := hF D h; omega) hD rfl, hne⟩, h.trF hF t⟩
theorem Yd.mono {P : Program} {l : Nat} {args : List Value} {w : World} {R R' : Ending → World → Prop} (h : Yd P l args w R) (hr : ∀ e w', R e w' → R' e w') : Yd P l args w R' := by
  obtain ⟨fn, tmps, assign, body, h1, h2⟩ := h
  exact ⟨fn, tmps, assign, body, h1, h2.mono hr⟩
/-- Iterator gf, which may write block kb between two calls of yield: it hands the values xs to yield; of the rounds it wants that they keep Fct and leave kb alone; I holds where it begins. -/
def IterH {α : Type} (P : Program) (gf : Nat) (lb : List Value) (xs : List α) (enc : α → List Value) (kb : Nat) (Fct I : World → Prop) : Prop :=
  ∀ (l : Nat) (J Jx : Nat → World → Prop) (M : World → Nat → Prop) (w0 : World), kb < w0.heap.size →
    (∀ i a b, J i a → GrowB w0.heap.size kb a b → J i b) → (∀ i a b, Jx i a → GrowB w0.heap.size kb a b → Jx i b) →
    (∀ i a, J i a → Fct a ∧ w0.heap.size ≤ a.heap.size) → (∀ i a, Jx i a → w0.heap.size ≤ a.heap.size) →
    (∀ i a k, J i a → M a k → k < a.heap.size ∧ k ≠ kb) → (∀ i a b k, J i a → GrowB w0.heap.size kb a b → M b k → M a k) →
    (∀ i x a, xs[i]? = some x → J i a → Yd P l (enc x) a fun e b => (e = .returned (.bool true) ∧ J (i + 1) b ∧ Fr M a b ∧ Tr a b) ∨ (e = .returned (.bool false) ∧ Jx (i + 1) b ∧ TrE (fun k => k = l) a b)) → l < w0.heap.size → I w0 → J 0 w0 →
    Calls P gf ([Value.func (.yield l) #[] #[]] ++ lb).toArray w0 fun e b => (∃ v, e = .returned v) ∧ (J xs.length b ∨ ∃ i, i ≤ xs.length ∧ Jx i b)

section
variable {P : Program} {ro : Option Nat} {n : Nat} {X : Ctx} {s : Sl} {ds : List Deferred} {w : World}
/-- A range over a function whose own steps go by Gs, said of the world in which it is called. -/
theorem W.rangeE {α : Type} {g : Operand} {ps : List Nat} {assign body : Code} (N : Nat) (xs : List α) (enc : α → List Value) {gf : Nat} {lb : List Value} (E : Nat → Prop) (hE0 : ∀ k, E k → k < N) (Gs : World → World → World → Prop)
    (hg : ev n s g = .func (.func gf) #[] lb.toArray) [he : Enters P gf] (hps : ∀ x, (enc x).length = ps.length) (hro : RoOk w ro) (hmk : Mks N w ds) (hN : N ≤ w.heap.size)
    (J : Nat → World → Prop) (Jx : Code → Nat → World → Prop) (hJ : ∀ i V V', J i V → Grow w.heap.size V V' → J i V') (hJx : ∀ c i V V', Jx c i V → Grow w.heap.size V V' → Jx c i V')
    (hJG : ∀ V1 i V V', Ext w V1 → V1.heap.size ≤ V.heap.size → J i V → Gs V1 V V' → J i V') (hJxG : ∀ V1 c i V V', Ext w V1 → V1.heap.size ≤ V.heap.size → Jx c i V → Gs V1 V V' → Jx c i V')
    (hGt : ∀ V1 V V', Ext w V1 → V1.heap.size ≤ V.heap.size → Gs V1 V V' → V.heap.size ≤ V'.heap.size ∧ ∀ (k : Nat) (o : Obj), k < V1.heap.size → V.heap[k]? = some o → Obj.loopy o = true → V'.heap[k]? = some o)
    (h0 : J 0 w) (M : World → Nat → Prop) (hW3 : ∀ i V V' k, J i V → Grow w.heap.size V V' → M V' k → M V k ∨ V.heap.size ≤ k)
    (hit : ∀ (l : Nat) (J' Jx' : Nat → World → Prop) (V1 : World), Ext w V1 → (∀ i V, J' i V → J i V ∧ V1.heap.size ≤ V.heap.size) → (∀ i V, Jx' i V → (∃ c, Jx c i V) ∧ V1.heap.size ≤ V.heap.size) →
      (∀ i V V', J' i V → Gs V1 V V' → J' i V') → (∀ i V V', Jx' i V → Gs V1 V V' → Jx' i V') →
      (∀ i x V, xs[i]? = some x → J' i V → Yd P l (enc x) V fun e V' => (e = .returned (.bool true) ∧ J' (i + 1) V' ∧ Fr M V V' ∧ Tr V V') ∨ (e = .returned (.bool false) ∧ Jx' (i + 1) V' ∧ TrE (fun k => k = l ∨ E k) V V')) → w.heap.size ≤ l → l < V1.heap.size → J' 0 V1 →
      Calls P gf ([Value.func (.yield l) #[] #[]] ++ lb).toArray V1 fun e w' => (∃ v, e = .returned v) ∧ (J' xs.length w' ∨ ∃ i, i ≤ xs.length ∧ Jx' i w'))
    (A : α → Sl → World → Prop) (hA : ∀ x s V V', A x s V → Grow w.heap.size V V' → A x s V')
    (hassign : ∀ l i x V, xs[i]? = some x → J i V → w.heap.size ≤ l → IsRec V l →
      W P (some l) n assign { nx := fun s' ds' V' => ds' = [] ∧ Tr V V' ∧ Fr M V V' ∧ J i V' ∧ A x s' V', rt := fun _ _ _ => False, ex := fun _ _ _ _ => False } (setPs s ps (enc x)) [] V)
    (hbody : ∀ l i x s' V, xs[i]? = some x → J i V → A x s' V → w.heap.size ≤ l → IsRec V l →
      W P (some l) n body { nx := fun _ _ V' => Tr V V' ∧ Fr M V V' ∧ J (i + 1) V', rt := fun _ _ V' => TrE E V V' ∧ Jx .ret (i + 1) V', ex := fun id _ _ V' => TrE E V V' ∧ Jx (.exit id) (i + 1) V' } s' [] V)
    (hdone : ∀ ds' V, Mks N V ds' → Tr w V → J xs.length V → X.nx s ds' V)
    (hstop : ∀ ds' c i V, Mks N V ds' → TrE E w V → i ≤ xs.length → Jx c i V → W P ro n c X s ds' V) :
    W P ro n (.rangeFunc g ps.toArray assign body) X s ds w := by
  unfold W at hassign hbody hstop ⊢
  refine wpIn_rangeFunc ?_
  intro fn hfn
  -- the world in which the iterator is called
  have enter : ∃ (l : Nat) (mark : List Deferred) (df : Nat) (V1 : World) (rec : LoopState → Option Code → Loop), (∀ st pe, (rec st pe).state = st ∧ (rec st pe).pending = pe ∧ (rec st pe).fn = fn ∧ (rec st pe).tmps = (mkA n s ds).tmps ∧ (rec st pe).params = ps.toArray ∧ (rec st pe).assign = assign ∧ (rec st pe).body = body ∧ (rec st pe).defers = df) ∧
      (Instr.enterLoop fn (mkA n s ds).tmps ps.toArray assign body (Fw ro).round).run P w = .ok (l, mark) V1 ∧ V1.heap[l]? = some (.loop (rec .ready none)) ∧ w.heap.size ≤ l ∧ Ext w V1 ∧ MksP N V1 (mark ++ ds) := by
    cases ro with
    | none =>
      refine ⟨_, _, w.heap.size, _, fun st pe => { state := st, pending := pe, fn, tmps := (mkA n s ds).tmps, params := ps.toArray, assign, body, defers := w.heap.size }, fun st pe => ⟨rfl, rfl, rfl, rfl, rfl, rfl, rfl, rfl⟩, run_enterLoop_outer _ _ _ _ _, ?_, by omega, ?_, ?_⟩
      · have := World.alloc_heap_new (w.alloc (.deferred (some []))) (.loop { state := .ready, pending := none, fn, tmps := (mkA n s ds).tmps, params := ps.toArray, assign, body, defers := w.heap.size })
        rwa [World.size_alloc] at this
      · exact ⟨((Below.refl _ w).alloc (Nat.le_refl _) _).alloc (by simp) _⟩
      · have hE : Ext w ((w.alloc (.deferred (some []))).alloc (.loop { state := .ready, pending := none, fn, tmps := (mkA n s ds).tmps, params := ps.toArray, assign, body, defers := w.heap.size })) := ⟨((Below.refl _ w).alloc (Nat.le_refl _) _).alloc (by simp) _⟩
        refine ⟨⟨w.heap.size, rfl, hN, ?_, fun d' hd' => ?_⟩, hmk.h.tr hE.tr⟩
        · exact (Below.heap_alloc _ _ _ (by simp)).trans (World.alloc_heap_new w _)
        · obtain ⟨D, rfl, hlt⟩ := hmk.h.lt d' hd'
          intro e
          simp only [Deferred.mk.injEq, Target.collected.injEq, and_true] at e
          omega
    | some l0 =>
      obtain ⟨r0, hr0⟩ := (show IsRec w l0 from hro).h
      have hE : ∀ o, Ext w (w.alloc o) := fun o => ⟨(Below.refl _ w).alloc (Nat.le_refl _) _⟩
      exact ⟨_, _, r0.defers, _, fun st pe => { state := st, pending := pe, fn, tmps := (mkA n s ds).tmps, params := ps.toArray, assign, body, defers := r0.defers }, fun st pe => ⟨rfl, rfl, rfl, rfl, rfl, rfl, rfl, rfl⟩, run_enterLoop_inner hr0 _ _ _ _ _, World.alloc_heap_new w _, by omega, hE _, hmk.h.tr (hE _).tr⟩
  obtain ⟨l, mark, df, V1, rec, hrec, hent, hL1, hl, hE1, hM1⟩ := enter
  have hE1' : w.heap.size ≤ V1.heap.size := hE1.size
  have hl1 : l < V1.heap.size := (Array.getElem?_eq_some_iff.1 hL1).1
  have eN : ∀ st pe st' pe', ({ rec st pe with state := st', pending := pe' } : Loop) = rec st' pe' := fun st pe st' pe' => by
    obtain ⟨a1, a2, a3, a4, a5, a6, a7, a8⟩ := hrec st pe
    obtain ⟨b1, b2, b3, b4, b5, b6, b7, b8⟩ := hrec st' pe'
    generalize hx : rec st' pe' = y at *
    generalize hy : rec st pe = x at *
    cases x; cases y
    simp_all
  refine ⟨l, mark, V1, { target := .fn (.func gf) lb.toArray, args := #[.func (.yield l) #[] #[]] }, V1, gf, ([Value.func (.yield l) #[] #[]] ++ lb).toArray, V1, hent, ?_, fun _ _ => trivial, ?_, fun h => by simp [Fw, Fence.wide] at h, ?_⟩
  · simp only [resolve, mkA_eval, hg]
    simp [Deferred.ofValue, ev]
  · have e : (#[Value.func (.yield l) #[] #[]] ++ lb.toArray : Array Value) = ([Value.func (.yield l) #[] #[]] ++ lb).toArray := by simp
    simp only [invoke]
    rw [e]
    exact he.h _ _
  have hcalls := hit l (fun i V => J i V ∧ V.heap[l]? = some (.loop (rec .ready none)) ∧ MksP N V (mark ++ ds) ∧ Tr V1 V)
      (fun i V => ∃ c, Jx c i V ∧ V.heap[l]? = some (.loop (rec .done (some c))) ∧ MksP N V (mark ++ ds) ∧ V1.heap.size ≤ V.heap.size ∧ ∀ k, k ≠ l → ¬ E k → ∀ o, V1.heap[k]? = some o → Obj.loopy o = true → V.heap[k]? = some o) V1 hE1
      (fun i V h => ⟨h.1, h.2.2.2.size⟩) (fun i V h => by obtain ⟨c, h1, _, _, h5, _⟩ := h; exact ⟨⟨c, h1⟩, h5⟩)
      (fun i V V' h g => by
        have hs : V1.heap.size ≤ V.heap.size := h.2.2.2.size
        obtain ⟨t1, t2⟩ := hGt V1 V V' hE1 hs g
        exact ⟨hJG V1 i V V' hE1 hs h.1 g, t2 l _ hl1 h.2.1 rfl, h.2.2.1.trB t2 hM1.lt, ⟨Nat.le_trans hs t1, fun k o hk ho => t2 k o (Array.getElem?_eq_some_iff.1 hk).1 (h.2.2.2.keep k o hk ho) ho⟩⟩)
      (fun i V V' h g => by
        obtain ⟨c, h1, h2, h3, h5, h4⟩ := h
        obtain ⟨t1, t2⟩ := hGt V1 V V' hE1 h5 g
        exact ⟨c, hJxG V1 c i V V' hE1 h5 h1 g, t2 l _ hl1 h2 rfl, h3.trB t2 hM1.lt, Nat.le_trans h5 t1, fun k hk hk2 o ho hlo => t2 k o (Array.getElem?_eq_some_iff.1 ho).1 (h4 k hk hk2 o ho hlo) hlo⟩)
      ?round hl hl1 ⟨hJ 0 _ _ h0 (hE1.grow (Nat.le_refl _)), hL1, hM1, Tr.refl _⟩
  case round =>
    rintro i x V hx ⟨hj, hL, hM, hT⟩
    obtain ⟨c1, c2, c3, c4, c5, c6, c7, c8⟩ := hrec .ready none
    have hy := run_yield (P := P) (args := (enc x).toArray) hL (by rw [c5]; simpa using hps x)
    rw [c3, c4, c5, c6, c7] at hy
    have hNl : N ≤ l := by omega
    -- the record's own turns
    have turn : ∀ (V : World) (st st' : LoopState) (pe pe' : Option Code), V.heap[l]? = some (.loop (rec st pe)) → Grow w.heap.size V (V.putObj l (.loop (rec st' pe'))) ∧ (V.putObj l (.loop (rec st' pe'))).heap[l]? = some (.loop (rec st' pe')) ∧
        (∀ k, k ≠ l → (V.putObj l (.loop (rec st' pe'))).heap[k]? = V.heap[k]?) := fun V st st' pe pe' h =>
      ⟨Grow.putObj _ h rfl hl, World.putObj_heap_same (Array.getElem?_eq_some_iff.1 h).1, fun k hk => World.putObj_heap_other hk⟩
    have mks : ∀ (V : World) (o' : Loop), (∃ r, V.heap[l]? = some (.loop r)) → ∀ (dds : List Deferred), MksP N V dds → MksP N (V.putObj l (.loop o')) dds := by
      intro V o' hW dds
      induction dds with
      | nil => exact fun _ => trivial
      | cons d dds ih =>
        rintro ⟨⟨D, e, hD, hb, hne⟩, h⟩
        refine ⟨⟨D, e, hD, ?_, hne⟩, ih h⟩
        have : D ≠ l := by
          rintro rfl
          obtain ⟨r, hr⟩ := hW
          rw [hb] at hr; cases hr
        exact (World.putObj_heap_other this).trans hb
    refine ⟨fn, _, assign, body, hy, ?_⟩
    have hround : RoundIn (Fw none) 0 P l fn ((ps.toArray.zip (enc x).toArray).foldl (fun t (p, v) => t.setIfInBounds p v) (mkA n s ds).tmps) assign body V
        (fun e w' => (e = .returned (.bool true) ∧ (J (i + 1) w' ∧ w'.heap[l]? = some (.loop (rec .ready none)) ∧ MksP N w' (mark ++ ds) ∧ Tr V1 w') ∧ Fr M V w' ∧ Tr V w') ∨
          (e = .returned (.bool false) ∧ (∃ c, Jx c (i + 1) w' ∧ w'.heap[l]? = some (.loop (rec .done (some c))) ∧ MksP N w' (mark ++ ds) ∧ V1.heap.size ≤ w'.heap.size ∧ ∀ k, k ≠ l → ¬ E k → ∀ o, V1.heap[k]? = some o → Obj.loopy o = true → w'.heap[k]? = some o) ∧ TrE (fun k => k = l ∨ E k) V w')) := by
      refine roundIn_of_wpIn trivial ?_
      have hact := setPs_mkA n ps (enc x) s ds
      rw [hact]
      refine wpIn_mono (hassign l i x V hx hj hl ⟨_, hL⟩) fun e a w1 hp => ?_
      cases e with
      | ret => obtain ⟨_, _, _, h⟩ := hp; exact h.elim
      | exit i => obtain ⟨_, _, _, h⟩ := hp; exact h.elim
      | goto l => exact hp.elim
      | panic c => exact hp.elim
      | outgrown => exact hp.elim
      | normal =>
        obtain ⟨s', ds', rfl, rfl, ht1, hf1, hj1, hA1⟩ := hp
        have hLw1 := ht1.keep l _ hL rfl
        have hb := run_beginRound (P := P) hLw1 c1
        have hb' : ({ rec .ready none with state := .busy } : Loop) = rec .busy none := by
          have := eN .ready none .busy none
          rw [← this]; simp [c2]
        rw [hb'] at hb
        obtain ⟨g2, hL2, ho2⟩ := turn w1 .ready .busy none none hLw1
        refine ⟨_, hb, ?_⟩
        have hM2 := mks w1 (rec .busy none) ⟨_, hLw1⟩ _ (hM.tr ht1)
        refine wpIn_mono (hbody l i x s' _ hx (hJ _ _ _ hj1 g2) (hA _ _ _ _ hA1 g2) hl ⟨_, hL2⟩) fun e a w3 hp => ?_
        have fin : ∀ (jump : Option Code) (F : Nat → Prop), (∀ k, F k → k < N) → TrE F (w1.putObj l (.loop (rec .busy none))) w3 →
            (Instr.endRound l jump).run P w3 = .ok (.bool jump.isNone) (w3.putObj l (.loop (rec (if jump.isNone then .ready else .done) jump))) ∧
            Grow w.heap.size w3 (w3.putObj l (.loop (rec (if jump.isNone then .ready else .done) jump))) ∧
            (w3.putObj l (.loop (rec (if jump.isNone then .ready else .done) jump))).heap[l]? = some (.loop (rec (if jump.isNone then .ready else .done) jump)) ∧
            MksP N (w3.putObj l (.loop (rec (if jump.isNone then .ready else .done) jump))) (mark ++ ds) ∧
            (∀ k, k ≠ l → ¬ F k → ∀ o, V.heap[k]? = some o → Obj.loopy o = true → (w3.putObj l (.loop (rec (if jump.isNone then .ready else .done) jump))).heap[k]? = some o) := fun jump F hFN ht3 => by
          have hL3 := ht3.keep l _ (fun h => by have := hFN l h; omega) hL2 rfl
          have hr := run_endRound (P := P) jump hL3
          rw [eN] at hr
          obtain ⟨g4, hL4, ho4⟩ := turn w3 .busy (if jump.isNone then .ready else .done) none jump hL3
          refine ⟨hr, g4, hL4, mks _ _ ⟨_, hL3⟩ _ (hM2.trF hFN ht3), fun k hk hkF o ho hlo => ?_⟩
          rw [ho4 k hk]
          refine ht3.keep k o hkF ?_ hlo
          rw [ho2 k hk]
          exact ht1.keep k o ho hlo
        have hsz1 : V.heap.size ≤ (w1.putObj l (.loop (rec .busy none))).heap.size := Nat.le_trans ht1.size g2.size
        cases e with
        | normal =>
          obtain ⟨_, _, _, ht3, hf3, hj3⟩ := hp
          obtain ⟨hr, g4, hL4, hM4, ho4⟩ := fin none (fun _ => False) (fun _ h => h.elim) ⟨ht3.size, fun k o _ hk ho => ht3.keep k o hk ho⟩
          have htr : Tr V (w3.putObj l (.loop (rec (if (none : Option Code).isNone then .ready else .done) none))) := ⟨Nat.le_trans hsz1 (Nat.le_trans ht3.size g4.size), fun k o ho hlo => by
            by_cases e : k = l
            · subst e
              rw [hL] at ho; cases ho
              exact hL4
            · exact ho4 k e id o ho hlo⟩
          exact ⟨_, _, hr, .inl ⟨rfl, ⟨hJ _ _ _ hj3 g4, hL4, hM4, hT.trans htr⟩, hf1.trans ((Fr.ofGrow g2 fun k => hW3 i _ _ k hj1 g2).trans (hf3.trans (Fr.ofGrow g4 fun k => hW3 (i + 1) _ _ k hj3 g4))), htr⟩⟩
        | ret =>
          obtain ⟨_, _, _, ht3, hj3⟩ := hp
          obtain ⟨hr, g4, hL4, hM4, ho4⟩ := fin (some .ret) E hE0 ht3
          have hsz := Nat.le_trans hsz1 (Nat.le_trans ht3.size g4.size)
          exact ⟨_, _, hr, .inr ⟨rfl, ⟨.ret, hJx _ _ _ _ hj3 g4, hL4, hM4, Nat.le_trans hT.size hsz, fun k hk hkE o ho hlo => ho4 k hk hkE o (hT.keep k o ho hlo) hlo⟩, hsz, fun k o hk ho hlo => ho4 k (fun e => hk (.inl e)) (fun e => hk (.inr e)) o ho hlo⟩⟩
        | exit id =>
          obtain ⟨_, _, _, ht3, hj3⟩ := hp
          obtain ⟨hr, g4, hL4, hM4, ho4⟩ := fin (some (.exit id)) E hE0 ht3
          have hsz := Nat.le_trans hsz1 (Nat.le_trans ht3.size g4.size)
          exact ⟨_, _, hr, .inr ⟨rfl, ⟨.exit id, hJx _ _ _ _ hj3 g4, hL4, hM4, Nat.le_trans hT.size hsz, fun k hk hkE o ho hlo => ho4 k hk hkE o (hT.keep k o ho hlo) hlo⟩, hsz, fun k o hk ho hlo => ho4 k (fun e => hk (.inl e)) (fun e => hk (.inr e)) o ho hlo⟩⟩
        | goto l => exact hp.elim
        | panic c => exact hp.elim
        | outgrown => exact hp.elim
    exact hround
  have hc := (callsIn_wide (n := 0)).2 hcalls
  refine CallsIn.mono (F := Fw ro) (n := 0 - 1) hc fun e V2 hR => ?_
  obtain ⟨⟨v, rfl⟩, hR⟩ := hR
  have trw : ∀ (F : Nat → Prop) (o : Loop) (V2 : World), V1.heap.size ≤ V2.heap.size → (∀ k, k ≠ l → ¬ F k → ∀ o, V1.heap[k]? = some o → Obj.loopy o = true → V2.heap[k]? = some o) → TrE F w (V2.putObj l (.loop o)) := fun F o V2 hsz h4 =>
    ⟨by simp; omega, fun k ob hkF hk hlo => by
      have hkw : k < w.heap.size := (Array.getElem?_eq_some_iff.1 hk).1
      have : k ≠ l := by omega
      rw [World.putObj_heap_other this]
      exact h4 k this hkF ob (hE1.block' hk) hlo⟩
  have mks2 : ∀ (V : World) (o' : Loop), (∃ r, V.heap[l]? = some (.loop r)) → ∀ (dds : List Deferred), MksP N V dds → MksP N (V.putObj l (.loop o')) dds := by
    intro V o' hW dds
    induction dds with
    | nil => exact fun _ => trivial
    | cons d dds ih =>
      rintro ⟨⟨D, e, hD, hb, hne⟩, h⟩
      refine ⟨⟨D, e, hD, ?_, hne⟩, ih h⟩
      have : D ≠ l := by
        rintro rfl
        obtain ⟨r, hr⟩ := hW
        rw [hb] at hr; cases hr
      exact (World.putObj_heap_other this).trans hb
  rcases hR with ⟨hj, hL, hM, hT⟩ | ⟨i, hi, c, hj, hL, hM, hsz, hT⟩
  · have hr := run_endLoop (P := P) hL (by rw [(hrec .ready none).1]; simp)
    rw [(hrec .ready none).2.1] at hr
    refine ⟨none, _, hr, ?_⟩
    have g : ∀ o' : Loop, Grow w.heap.size V2 (V2.putObj l (.loop o')) := fun o' => Grow.putObj _ hL rfl hl
    exact ⟨s, _, rfl, hdone _ _ ⟨mks2 _ _ ⟨_, hL⟩ _ hM⟩ (let t := trw (fun _ => False) _ _ hT.size (fun k _ _ o ho hlo => hT.keep k o ho hlo); ⟨t.size, fun k o hk ho => t.keep k o id hk ho⟩) (hJ _ _ _ hj (g _))⟩
  · have hr := run_endLoop (P := P) hL (by rw [(hrec .done (some c)).1]; simp)
    rw [(hrec .done (some c)).2.1] at hr
    refine ⟨some c, _, hr, ?_⟩
    have g : ∀ o' : Loop, Grow w.heap.size V2 (V2.putObj l (.loop o')) := fun o' => Grow.putObj _ hL rfl hl
    exact hstop _ c i _ ⟨mks2 _ _ ⟨_, hL⟩ _ hM⟩ (trw E _ _ hsz hT) hi (hJx _ _ _ _ hj (g _))


theorem W.rangeH {α : Type} {g : Operand} {ps : List Nat} {assign body : Code} (N kb : Nat) (xs : List α) (enc : α → List Value) {Fct I : World → Prop} {gf : Nat} {lb : List Value}
    (hit : IterH P gf lb xs enc kb Fct I) (hkb : kb < w.heap.size) (hg : ev n s g = .func (.func gf) #[] lb.toArray) [he : Enters P gf] (hps : ∀ x, (enc x).length = ps.length) (hro : RoOk w ro) (hmk : Mks N w ds) (hN : N ≤ w.heap.size)
    (J : Nat → World → Prop) (Jx : Code → Nat → World → Prop) (hJ : ∀ i V V', J i V → GrowB w.heap.size kb V V' → J i V') (hJx : ∀ c i V V', Jx c i V → GrowB w.heap.size kb V V' → Jx c i V')
    (hF : ∀ i V, J i V → Fct V) (hI : ∀ V, Ext w V → I V) (hK : ∀ i V, J i V → KbD kb V) (hKx : ∀ c i V, Jx c i V → KbD kb V) (h0 : J 0 w)
    (M : World → Nat → Prop) (hM1 : ∀ i V k, J i V → M V k → k < V.heap.size ∧ k ≠ kb) (hM2 : ∀ i V V' k, J i V → GrowB w.heap.size kb V V' → M V' k → M V k)
    (A : α → Sl → World → Prop) (hA : ∀ x s V V', A x s V → Grow w.heap.size V V' → A x s V')
    (hassign : ∀ l i x V, xs[i]? = some x → J i V → w.heap.size ≤ l → IsRec V l →
      W P (some l) n assign { nx := fun s' ds' V' => ds' = [] ∧ Tr V V' ∧ Fr M V V' ∧ J i V' ∧ A x s' V', rt := fun _ _ _ => False, ex := fun _ _ _ _ => False } (setPs s ps (enc x)) [] V)
    (hbody : ∀ l i x s' V, xs[i]? = some x → J i V → A x s' V → w.heap.size ≤ l → IsRec V l →
      W P (some l) n body { nx := fun _ _ V' => Tr V V' ∧ Fr M V V' ∧ J (i + 1) V', rt := fun _ _ V' => Tr V V' ∧ Jx .ret (i + 1) V', ex := fun id _ _ V' => Tr V V' ∧ Jx (.exit id) (i + 1) V' } s' [] V)
    (hdone : ∀ ds' V, Mks N V ds' → J xs.length V → X.nx s ds' V)
    (hstop : ∀ ds' c i V, Mks N V ds' → i ≤ xs.length → Jx c i V → W P ro n c X s ds' V) :
    W P ro n (.rangeFunc g ps.toArray assign body) X s ds w := by
  refine W.rangeE N xs enc (fun _ => False) (fun _ h => h.elim) (fun V1 V V' => GrowB V1.heap.size kb V V' ∧ KbD kb V) hg hps hro hmk hN J Jx (fun i V V' h e => hJ i V V' h e.toB) (fun c i V V' h e => hJx c i V V' h e.toB)
    (fun V1 i V V' hE _ h e => hJ i V V' h (e.1.mono hE.size)) (fun V1 c i V V' hE _ h e => hJx c i V V' h (e.1.mono hE.size)) ?_ h0 M (fun i V V' k h e hm => .inl (hM2 i V V' k h e.toB hm)) ?_ A hA hassign (fun l i x s' V h1 h2 h3 h4 h5 => W.mono (hbody l i x s' V h1 h2 h3 h4 h5) (fun _ _ _ h => h) (fun _ _ _ ⟨h, h'⟩ => ⟨h.toE, h'⟩) (fun _ _ _ _ ⟨h, h'⟩ => ⟨h.toE, h'⟩)) (fun ds' V h1 _ h2 => hdone ds' V h1 h2) (fun ds' c i V h1 _ h2 h3 => hstop ds' c i V h1 h2 h3)
  · rintro V1 V V' hE hs ⟨h, o1, ho1, hl1⟩
    refine ⟨h.size, fun k o hk ho hlo => ?_⟩
    by_cases e : k = kb
    · subst e
      rw [ho1] at ho; cases ho; rw [hl1] at hlo; cases hlo
    · exact (h.old k hk e).trans ho
  · intro l J' Jx' V1 hE h1 h2 h3 h4 hY _ hl1 h0'
    exact hit l J' Jx' M V1 (Nat.lt_of_lt_of_le hkb hE.size) (fun i a b h g => h3 i a b h ⟨g, hK i a (h1 i a h).1⟩) (fun i a b h g => h4 i a b h ⟨g, let ⟨c, hc⟩ := (h2 i a h).1; hKx c i a hc⟩) (fun i a h => ⟨hF i a (h1 i a h).1, (h1 i a h).2⟩) (fun i a h => (h2 i a h).2)
      (fun i a k h => hM1 i a k (h1 i a h).1) (fun i a b k h g => hM2 i a b k (h1 i a h).1 (g.mono hE.size)) (fun i x a hx ha => by
        have h := hY i x a hx ha
        simpa only [or_false] using h) hl1 (hI V1 hE) h0'
/-- A range whose rounds write what J tells. -/
theorem W.rangeJ {α : Type} {g : Operand} {ps : List Nat} {assign body : Code} (N : Nat) (xs : List α) (enc : α → List Value) {Fct : World → Prop} {gf : Nat} {lb : List Value}
    (hit : Iter P gf lb xs enc Fct) (hg : ev n s g = .func (.func gf) #[] lb.toArray) [he : Enters P gf] (hps : ∀ x, (enc x).length = ps.length) (hro : RoOk w ro) (hmk : Mks N w ds) (hN : N ≤ w.heap.size)
    (J : Nat → World → Prop) (Jx : Code → Nat → World → Prop) (hJ : ∀ i V V', J i V → Grow w.heap.size V V' → J i V') (hJx : ∀ c i V V', Jx c i V → Grow w.heap.size V V' → Jx c i V')
    (hF : ∀ i V, J i V → Fct V) (hs : ∀ i V, J i V → w.heap.size ≤ V.heap.size) (h0 : J 0 w)
    (M : World → Nat → Prop) (hM1 : ∀ i V k, J i V → M V k → k < V.heap.size) (hM2 : ∀ i V V' k, J i V → Grow w.heap.size V V' → M V' k → M V k)
    (A : α → Sl → World → Prop) (hA : ∀ x s V V', A x s V → Grow w.heap.size V V' → A x s V')
    (hassign : ∀ l i x V, xs[i]? = some x → J i V → w.heap.size ≤ l → IsRec V l →
      W P (some l) n assign { nx := fun s' ds' V' => ds' = [] ∧ Tr V V' ∧ Fr M V V' ∧ J i V' ∧ A x s' V', rt := fun _ _ _ => False, ex := fun _ _ _ _ => False } (setPs s ps (enc x)) [] V)
    (hbody : ∀ l i x s' V, xs[i]? = some x → J i V → A x s' V → w.heap.size ≤ l → IsRec V l →
      W P (some l) n body { nx := fun _ _ V' => Tr V V' ∧ Fr M V V' ∧ J (i + 1) V', rt := fun _ _ V' => Tr V V' ∧ Jx .ret (i + 1) V', ex := fun id _ _ V' => Tr V V' ∧ Jx (.exit id) (i + 1) V' } s' [] V)
    (hdone : ∀ ds' V, Mks N V ds' → Tr w V → J xs.length V → X.nx s ds' V)
    (hstop : ∀ ds' c i V, Mks N V ds' → Tr w V → i ≤ xs.length → Jx c i V → W P ro n c X s ds' V) :
    W P ro n (.rangeFunc g ps.toArray assign body) X s ds w :=
  W.rangeR N xs enc (fun _ => Ext) hg hps hro hmk hN J Jx hJ hJx (fun V1 i V V' hE hz h e => hJ i V V' h (e.grow (Nat.le_trans hE.size hz))) (fun V1 c i V V' hE hz h e => hJx c i V V' h (e.grow (Nat.le_trans hE.size hz)))
    (fun V1 V V' _ _ e => ⟨e.size, fun k o _ hk ho => e.tr.keep k o hk ho⟩) h0 M (fun i V V' k h e hm => .inl (hM2 i V V' k h e hm))
    (fun l J' Jx' V1 hE h1 h2 h3 h4 hY h0' => hit l J' Jx' M V1 h3 h4 (fun i V h => hF i V (h1 i V h).1) (fun i V k h => hM1 i V k (h1 i V h).1) (fun i V V' k h e => hM2 i V V' k (h1 i V h).1 (e.grow (hs i V (h1 i V h).1))) hY h0')
    A hA hassign hbody hdone hstop
/-- The same within a round of another range, whose record lies in E. -/
theorem W.rangeJE {α : Type} {g : Operand} {ps : List Nat} {assign body : Code} (N : Nat) (E : Nat → Prop) (hE0 : ∀ k, E k → k < N) (xs : List α) (enc : α → List Value) {Fct : World → Prop} {gf : Nat} {lb : List Value}
    (hit : Iter P gf lb xs enc Fct) (hg : ev n s g = .func (.func gf) #[] lb.toArray) [he : Enters P gf] (hps : ∀ x, (enc x).length = ps.length) (hro : RoOk w ro) (hmk : Mks N w ds) (hN : N ≤ w.heap.size)
    (J : Nat → World → Prop) (Jx : Code → Nat → World → Prop) (hJ : ∀ i V V', J i V → Grow w.heap.size V V' → J i V') (hJx : ∀ c i V V', Jx c i V → Grow w.heap.size V V' → Jx c i V')
    (hF : ∀ i V, J i V → Fct V) (hs : ∀ i V, J i V → w.heap.size ≤ V.heap.size) (h0 : J 0 w)
    (M : World → Nat → Prop) (hM1 : ∀ i V k, J i V → M V k → k < V.heap.size) (hM2 : ∀ i V V' k, J i V → Grow w.heap.size V V' → M V' k → M V k)
    (A : α → Sl → World → Prop) (hA : ∀ x s V V', A x s V → Grow w.heap.size V V' → A x s V')
    (hassign : ∀ l i x V, xs[i]? = some x → J i V → w.heap.size ≤ l → IsRec V l →
      W P (some l) n assign { nx := fun s' ds' V' => ds' = [] ∧ Tr V V' ∧ Fr M V V' ∧ J i V' ∧ A x s' V', rt := fun _ _ _ => False, ex := fun _ _ _ _ => False } (setPs s ps (enc x)) [] V)
    (hbody : ∀ l i x s' V, xs[i]? = some x → J i V → A x s' V → w.heap.size ≤ l → IsRec V l →
      W P (some l) n body { nx := fun _ _ V' => Tr V V' ∧ Fr M V V' ∧ J (i + 1) V', rt := fun _ _ V' => TrE E V V' ∧ Jx .ret (i + 1) V', ex := fun id _ _ V' => TrE E V V' ∧ Jx (.exit id) (i + 1) V' } s' [] V)
    (hdone : ∀ ds' V, Mks N V ds' → Tr w V → J xs.length V → X.nx s ds' V)
    (hstop : ∀ ds' c i V, Mks N V ds' → TrE E w V → i ≤ xs.length → Jx c i V → W P ro n c X s ds' V) :
    W P ro n (.rangeFunc g ps.toArray assign body) X s ds w :=
  W.rangeE N xs enc E hE0 (fun _ => Ext) hg hps hro hmk hN J Jx hJ hJx (fun V1 i V V' hE hz h e => hJ i V V' h (e.grow (Nat.le_trans hE.size hz))) (fun V1 c i V V' hE hz h e => hJx c i V V' h (e.grow (Nat.le_trans hE.size hz)))
    (fun V1 V V' _ _ e => ⟨e.size, fun k o _ hk ho => e.tr.keep k o hk ho⟩) h0 M (fun i V V' k h e hm => .inl (hM2 i V V' k h e hm))
    (fun l J' Jx' V1 hE h1 h2 h3 h4 hY _ _ h0' => hit l J' Jx' M V1 h3 h4 (fun i V h => hF i V (h1 i V h).1) (fun i V k h => hM1 i V k (h1 i V h).1) (fun i V V' k h e => hM2 i V V' k (h1 i V h).1 (e.grow (hs i V (h1 i V h).1))) (fun i x V hx hV => (hY i x V hx hV).mono fun _ _ h => h.imp (fun ⟨a, b, c, _⟩ => ⟨a, b, c⟩) (fun ⟨a, b, _⟩ => ⟨a, b⟩)) h0')
    A hA hassign hbody hdone hstop
end
theorem fin0M {P : Program} {fn : Func} {n N : Nat} {R : Value → World → Prop} {s : Sl} {ds : List Deferred} {w : World} (hf : fn.results = #[]) (hm : Mks N w ds) (h : ∀ w', Grow N w w' → R (.tuple #[]) w') : finM P fn n N R s ds w := by
  unfold finM
  exact ⟨hm, fun w' g => ⟨_, run_results0 hf, h w' g⟩⟩

/-! ### A slice in a variable that rounds append to, and nothing else -/
def MOb (b : Nat) (V : World) (k : Nat) : Prop := k = b ∨ ∃ v, V.cell? ⟨b, 0, none⟩ = some v ∧ v.ownBlock = some k
theorem MOb.lt {b kb B e e' k' : Nat} {agg : Bool} {V : World} {v : Value} {xs : List Value} {k : Nat} (hb : Bk V b [v] e) (ho : OwnL V B e' agg k' v xs) (hbk : b ≠ kb) (hB : kb < B) (h : MOb b V k) : k < V.heap.size ∧ k ≠ kb := by
  rcases h with rfl | ⟨v', hv, hk⟩
  · exact ⟨hb.lt, hbk⟩
  · rw [hb.cell1] at hv; cases hv
    have := ho.block k hk
    omega
theorem MOb.back {b e N kb : Nat} {V V' : World} {v : Value} {k : Nat} (hb : Bk V b [v] e) (g : GrowB N kb V V') (hn : b ≠ kb) (h : MOb b V' k) : MOb b V k := by
  rcases h with h | ⟨v', hv, hk⟩
  · exact .inl h
  · rw [g.cell hb.cell1 hn] at hv; cases hv
    exact .inr ⟨v, hb.cell1, hk⟩
theorem MOb.same {b e e' : Nat} {V V' : World} {v : Value} {k : Nat} (hb : Bk V b [v] e) (hb' : Bk V' b [v] e') (h : MOb b V' k) : MOb b V k := by
  rcases h with h | ⟨v', hv, hk⟩
  · exact .inl h
  · rw [hb'.cell1] at hv; cases hv
    exact .inr ⟨v, hb.cell1, hk⟩
theorem MOb.append {b B e e' : Nat} {V1 V2 V3 : World} {v v2 : Value} {o : Obj} (hb : Bk V1 b [v] e) (hA : App B V1 V2 v) (hp : PutO V2 V3 b o) (hb3 : Bk V3 b [v2] e') (hw : v2.ownBlock = v.ownBlock ∨ v2.ownBlock = some V1.heap.size) : Fr (MOb b) V1 V3 :=
  ⟨by rw [hp.size]; exact hA.g.size, fun k o' hk _ hm => by
    have h1 : v.ownBlock ≠ some k := fun e => hm (.inr ⟨v, hb.cell1, e⟩)
    have h2 : k ≠ b := fun e => hm (.inl e)
    exact (hp.other k h2).trans (hA.other hk h1),
   fun k hk => by
    rcases hk with h | ⟨v', hv, hk⟩
    · exact .inl (.inl h)
    · rw [hb3.cell1] at hv; cases hv
      rcases hw with h | h
      · exact .inl (.inr ⟨v, hb.cell1, by rw [← h]; exact hk⟩)
      · rw [h] at hk; cases hk; exact .inr (Nat.le_refl _)⟩

theorem map_two {κ : Type} {f : κ → Value} (hf : ∀ x y, f x = f y → x = y) : ∀ {m m' : List (κ × Value)}, m.map (fun p => f p.1) = m'.map (fun p => f p.1) → m.map (·.2) = m'.map (·.2) → m = m'
  | [], [], _, _ => rfl
  | [], _ :: _, h, _ => by simp at h
  | _ :: _, [], h, _ => by simp at h
  | (a, b) :: m, (c, d) :: m', h, h2 => by
    simp only [List.map_cons, List.cons.injEq] at h h2
    obtain rfl := hf _ _ h.1
    obtain rfl := h2.1
    rw [map_two hf h.2 h2.2]
theorem MapE.uniq {κ : Type} {encK : κ → Value} (hf : ∀ x y, encK x = encK y → x = y) {w : World} {b : Nat} {m m' : List (κ × Value)} (h : MapE encK w b m) (h' : MapE encK w b m') : m = m' := by
  obtain ⟨es, c, h1, h2, h3, _⟩ := h.h
  obtain ⟨es', c', h1', h2', h3', _⟩ := h'.h
  rw [h1] at h1'
  cases h1'
  exact map_two hf (h2.symm.trans h2') (h3.symm.trans h3')
theorem str_inj (x y : ByteArray) (h : Value.string x = Value.string y) : x = y := by cases h; rfl
/-- The places of a word among the first words. -/
def plsN (t : Tx) (i : Nat) (s : ByteArray) : List Pl := (((allW t t.length).take i).filter fun x => decide (x.2 = s)).map (·.1)
theorem plsN_len (t : Tx) (i : Nat) (s : ByteArray) : (plsN t i s).length ≤ i := by
  rw [plsN, List.length_map]
  exact Nat.le_trans (List.length_filter_le _ _) (List.length_take_le _ _)
theorem plsN_snoc {t : Tx} {i : Nat} {p : Pl} {s : ByteArray} (h : (allW t t.length)[i]? = some (p, s)) (x : ByteArray) : plsN t (i + 1) x = plsN t i x ++ if s = x then [p] else [] := by
  rw [plsN, List.take_add_one, h, List.filter_append, List.map_append, ← plsN]
  by_cases e : s = x
  · simp [e]
  · simp [e]
/-- What rounds write: the map, and its values' own blocks. -/
def MI (mb : Nat) (V : World) (k : Nat) : Prop := k = mb ∨ ∃ m s, MapE Value.string V mb m ∧ ((mget m s).getD nilV).ownBlock = some k
structure IxJ (w w2 : World) (t : Tx) (b3 mb bx bk : Nat) (a : Option Addr) (c cl : Nat) (i : Nat) (V : World) : Prop where
  e : Ext w V
  sz : w2.heap.size ≤ V.heap.size
  k3 : At V b3 0 [.map (some mb)]
  kx : At V bx 0 [.pointer (some ⟨bk, 0, none⟩)]
  kk : At V bk 0 [.slice a cl c]
  m : ∃ m, MapE Value.string V mb m ∧ (NdG m ∧ ∀ s, OwnL V w2.heap.size 47 true 3 ((mget m s).getD nilV) ((plsN t i s).map encPl)) ∧ ∀ (p q : ByteArray) (g : Nat), p ≠ q → ((mget m p).getD nilV).ownBlock = some g → ((mget m q).getD nilV).ownBlock ≠ some g
section
variable (a : Option Addr) (c : Nat) (cs : List Ch) (w : World) [hrow : RowI w (.slice a cs.length c) true 2 (cs.map encCh)] [hT : TextI w cs]
set_option maxHeartbeats 4000000 in
theorem index_leaf (hs : SmallT cs) (ht : textB (txF cs) = true) (bk : Nat) [hb : At w bk 0 [.slice a cs.length c]] : Ct Tryz.prog 87 [.pointer (some ⟨bk, 0, none⟩)] w fun v w' => ∃ mb m, v = .map (some mb) ∧ w.heap.size ≤ mb ∧ MapE Value.string w' mb m ∧ NdG m ∧ ∀ s, OwnL w' (mb + 1) 47 true 3 ((mget m s).getD nilV) ((plsN (txF cs) (allW (txF cs) (txF cs).length).length s).map encPl) := by
  have hal := allW_small ht
  refine Ct.ofWM (by simp) ?_
  (refine jjB (jjC (jJ (eM rfl) (jz (jjB (jjC ?_))))))
  refine Ops.makeMap Value.string ?_
  intro mb w1 hmb hs1 hS1 hM1
  skip
  (apply jjR rfl; (intro _; first|exact eI rfl|exact eB rfl|exact eP rfl|exact eS rfl|exact eT rfl|exact eA rfl|exact eU rfl|exact eF rfl|exact eM rfl|exact eN rfl|exact rfl); exact rfl; exact rfl; exact rfl; exact rfl; intro b3 w_b3 hb_b3 hs_b3 hS_b3 hk_b3; have hA_b3 := Bk.of hk_b3)
  (refine jz (jjB (jjB (jjC (jI (eP rfl) ?_)))))
  refine jjQ (all_leaf bk _) rfl rfl ?_
  rintro _ w2 hS2 ⟨bx, rfl, hbx, hAx⟩
  (refine jz (jjD ?_))
  have hE2 : Ext w w2 := inferInstance
  have zz := hE2.size
  have z3 := hS_b3.size
  have z2 := hS2.size
  have hM2 : MapE Value.string w2 mb [] := hM1.ext (hS_b3.ext.trans hS2.ext)
  have hA3 : At w2 b3 0 [.map (some mb)] := inferInstance
  have hAk : At w2 bk 0 [.slice a cs.length c] := inferInstance
  have hwm : w.heap.size ≤ mb := by omega
  have hbm : b3 ≠ mb := by omega
  have hlx := hAx.lt
  have hlk := hb.lt
  have hxm : bx ≠ mb := by omega
  have hkm : bk ≠ mb := by omega
  have hmw : mb < w2.heap.size := by omega
  have h3l := hA3.lt
  refine W.rangeJ w.heap.size (allW (txF cs) (txF cs).length) encPW (all1_leaf bx bk a c cs hs) rfl (fun _ => rfl) trivial inferInstance zz
    (IxJ w w2 (txF cs) b3 mb bx bk a c cs.length) (fun _ _ _ => False) ?hJ (fun _ _ _ _ h _ => h) ?hF (fun i V h => h.sz) ?h0 (MI mb) ?hM1 ?hM2
    (fun x s' V => ∃ b4, s' 3 = .pointer (some ⟨b3, 0, none⟩) ∧ s' 4 = .pointer (some ⟨b4, 0, none⟩) ∧ s' 5 = .string x.2 ∧ w2.heap.size ≤ b4 ∧ Bk V b4 (encPl x.1).cells.toList 47 ∧ ∃ m, MapE Value.string V mb m ∧ ∀ s, ((mget m s).getD nilV).ownBlock ≠ some b4) (fun x s V V' ⟨b4, h1, h2, h3, h4, h5, m, h6, h7⟩ g => ⟨b4, h1, h2, h3, h4, h5.grow g, m, h6.grow g, h7⟩) ?hassign ?hbody ?hdone (fun _ _ _ _ _ _ _ h => h.elim)
  case hJ =>
    rintro i V V' ⟨h1, h2, h3, h4, h5, m, h6, h7, h8⟩ g
    exact ⟨h1.ofGrow g zz, Nat.le_trans h2 g.size, h3.grow g, h4.grow g, h5.grow g, m, h6.grow g, ⟨h7.1, fun s => (h7.2 s).grow g⟩, h8⟩
  case hF =>
    rintro i V ⟨h1, h2, h3, h4, h5, m, h6, h7, h8⟩
    exact ⟨h4, h5, hrow.h.ext h1, hT.ext h1⟩
  case h0 =>
    exact ⟨hE2, Nat.le_refl _, hA3, hAx, hAk, [], hM2, ⟨by simp [NdG], fun s => by simpa [mget, plsN] using OwnL.nil _ _ _ _ _⟩, fun p q g _ h => by simp [mget, Value.ownBlock] at h⟩
  case hM1 =>
    rintro i V k ⟨h1, h2, h3, h4, h5, m, h6, h7, h8⟩ (rfl | ⟨m', s, h9, h10⟩)
    · exact h6.lt
    · obtain rfl := MapE.uniq str_inj h6 h9
      exact ((h7.2 s).block k h10).2
  case hM2 =>
    rintro i V V' k ⟨h1, h2, h3, h4, h5, m, h6, h7, h8⟩ g (rfl | ⟨m', s, h9, h10⟩)
    · exact .inl rfl
    · obtain rfl := MapE.uniq str_inj (h6.grow g) h9
      exact .inr ⟨m, s, h6, h10⟩
  case hassign =>
    rintro l i x V hx ⟨h1, h2, h3, h4, h5, m, h6, h7, h8⟩ hl hr
    (refine jjB (jjC ?_))
    (apply jjR rfl; (intro _; first|exact eI rfl|exact eB rfl|exact eP rfl|exact eS rfl|exact eT rfl|exact eA rfl|exact eU rfl|exact eF rfl|exact eM rfl|exact eN rfl|exact rfl); exact rfl; exact rfl; exact rfl; exact rfl; intro b4 w_b4 hb_b4 hs_b4 hS_b4 hk_b4; have hA_b4 := Bk.of hk_b4)
    (refine jz (jjC (jJ (eT rfl) (jz ?_))))
    have e4 := hS_b4.ext
    have y4 := e4.size
    exact ⟨rfl, e4.tr, Fr.ofExt e4 fun k hk => .inl (by
      rcases hk with rfl | ⟨m', s, h9, h10⟩
      · exact .inl rfl
      · obtain rfl := MapE.uniq str_inj (h6.ext e4) h9
        exact .inr ⟨m, s, h6, h10⟩), ⟨h1.trans e4, by omega, h3.ext e4, h4.ext e4, h5.ext e4, m, h6.ext e4, ⟨h7.1, fun s => (h7.2 s).ext e4⟩, h8⟩, b4, rfl, rfl, rfl, by omega, inferInstance, m, h6.ext e4, fun s e => by have := ((h7.2 s).block _ e).2; omega⟩
  case hbody =>
    rintro l i x s' V hx ⟨h1, h2, h3, h4, h5, m, h6, h7, h8⟩ ⟨b4, ha3, ha4, ha5, hb4, hB4, m', h6', hd4⟩ hl hr
    obtain ⟨p, t⟩ := x
    obtain rfl := MapE.uniq str_inj h6 h6'
    refine W.fix (d := 3) ha3 (W.fix (d := 4) ha4 (W.fix (d := 5) ha5 ?_))
    have hlt := (List.getElem?_eq_some_iff.1 hx).1
    have hsn := plsN_snoc hx
    have hA4 : At V b4 0 [.int .i64 p.1, .int .i64 p.2.1, .int .i64 p.2.2] := Bk.toAt (h := hB4)
    have h4m : b4 ≠ mb := by omega
    obtain ⟨v0, hv0⟩ : ∃ v0, (mget m t).getD nilV = v0 := ⟨_, rfl⟩
    have hO0 := h7.2 t
    rw [hv0] at hO0
    have hne0 : ∀ q, ((mget m q).getD nilV).ownBlock ≠ some mb := fun q e => by have := ((h7.2 q).block _ e).1; omega
    have hpl := plsN_len (txF cs) i t
    ((refine jjD ?_))
    refine W.drawX 8 (fun w' => At w' b3 0 [.map (some mb)] ∧ At w' b4 0 [.int .i64 p.1, .int .i64 p.2.1, .int .i64 p.2.2] ∧ MapE Value.string w' mb m) ?_
    intro w4 hS4
    have x4 := hS4.ext
    have s4 := And.intro (h3.ext x4) (And.intro (hA4.ext x4) (h6.ext x4))
    refine AnyX.take [0, 1, 2, 3, 4, 5] (by decide +kernel) s4 ?_
    ((apply jjT; exact rfl; rintro w' ⟨q1, q2, q3⟩; refine jN rfl rfl rfl (jz ?_); exact ⟨rfl, rfl⟩; apply jjT; exact rfl; rintro w' ⟨q1, q2, q3⟩; refine jI (eT rfl) (jz ?_); exact ⟨rfl, rfl⟩; apply jjT; exact rfl; rintro w' ⟨q1, q2, q3⟩; refine jN rfl rfl rfl (jz ?_); exact ⟨rfl, rfl⟩; apply jjT; exact rfl; rintro w' ⟨q1, q2, q3⟩; refine jI (eT rfl) (jz ?_); exact ⟨rfl, rfl⟩; apply jjT; exact rfl; rintro w' ⟨q1, q2, q3⟩; refine Ops.lookupV (k := t) hv0 q3 rfl rfl ?_; refine jz ?_; exact ⟨rfl, rfl⟩; apply jjT; exact rfl; rintro w' ⟨q1, q2, q3⟩; refine jO rfl rfl rfl rfl (jz ?_); exact ⟨rfl, rfl⟩; refine jjU ?_))
    (apply AnyX.one 6; (decide +kernel); exact rfl; (exact s4))
    (refine jjP (v := .agg _) rfl (by exact rfl) (by exact rfl) (by exact rfl) (by exact rfl) ?_; intro b7 w_b7 hb_b7 hs_b7 hS_b7 hk_b7; have hR_b7 := RowV.one (agg := true) (k := 3) rfl hk_b7)
    refine jz ?_
    have hR7 : RowV w_b7 true 3 (.slice (some ⟨b7, 0, none⟩) 1 1) ([p].map encPl) := hR_b7
    have e7 := x4.trans hS_b7.ext
    have z7 := e7.size
    have s7 := And.intro (h3.ext e7) (And.intro (hA4.ext e7) (h6.ext e7))
    (apply AnyX.one 7; (decide +kernel); exact rfl; (exact s7))
    refine Ops.appendL (hO0.ext e7) (by omega) hR7 rfl rfl rfl rfl rfl (by simp only [List.length_map, List.length_cons, List.length_nil]; omega) (by simp only [List.length_map, List.length_cons, List.length_nil]; omega) ?_
    intro v2 w8 hA8 hO8 _ hown8
    refine jz ?_
    have hnb : ∀ b, b < w2.heap.size → v0.ownBlock ≠ some b := fun b h e => by have := (hO0.block _ e).1; omega
    have hn4 : v0.ownBlock ≠ some b4 := by rw [← hv0]; exact hd4 t
    have hm8 : MapE Value.string w8 mb m := (h6.ext e7).app hA8 (hnb _ hmw)
    have s8 := And.intro (hA8.at_ (h3.ext e7) (hnb _ h3l)) (And.intro (hA8.at_ (hA4.ext e7) hn4) hm8)
    (apply AnyX.one 8; (decide +kernel); exact rfl; (exact s8))
    refine Ops.mapUpdate (k := t) (v := v2) hm8 rfl rfl rfl ?_
    intro w9 o9 hp9 hM9
    refine jz ?_
    refine AnyX.done (by decide +kernel) ?_
    skip
    have z8 := hA8.g.size
    have z9 := hp9.size
    have hv2m : v2.ownBlock ≠ some mb := fun e => by
      rcases hown8 with h | h
      · rw [h, ← hv0] at e; exact hne0 _ e
      · rw [h] at e; cases e; omega
    refine ⟨(e7.tr.trans hA8.tr).trans (hp9.tr hm8.loopy), ⟨by omega, fun k o hk ho hMk => ?_, fun k hMk => ?_⟩, hp9.ext (hA8.ext (h1.trans e7) zz) hwm, by omega, hp9.at_ (hA8.at_ (h3.ext e7) (hnb _ h3l)) hbm, hp9.at_ (hA8.at_ (h4.ext e7) (hnb _ hlx)) hxm, hp9.at_ (hA8.at_ (h5.ext e7) (hnb _ (by omega))) hkm, _, hM9, ⟨h7.1.set t v2, fun x => ?_⟩, fun q1 q2 g hpq => ?_⟩
    · have k8 := hA8.other (e7.block' hk) (fun e => hMk (.inr ⟨m, t, h6, by rw [hv0]; exact e⟩))
      exact (hp9.other k (fun e => hMk (.inl e))).trans k8
    · rcases hMk with rfl | ⟨m', s, h9, h10⟩
      · exact .inl (.inl rfl)
      · obtain rfl := MapE.uniq str_inj hM9 h9
        by_cases hp : s = t
        · subst hp
          rw [mget_set_same, Option.getD_some] at h10
          rcases hown8 with h | h
          · exact .inl (.inr ⟨m, s, h6, by rw [hv0, ← h]; exact h10⟩)
          · rw [h] at h10
            cases h10
            exact .inr (by omega)
        · rw [mget_set_other _ _ hp] at h10
          exact .inl (.inr ⟨m, s, h6, h10⟩)
    · rw [hsn]
      by_cases hp : x = t
      · subst hp
        rw [mget_set_same, if_pos rfl, List.map_append]
        exact hO8.put hp9 hv2m
      · rw [mget_set_other _ _ hp, if_neg (fun e => hp e.symm), List.append_nil]
        exact (((h7.2 x).ext e7).app hA8 fun g hg => by rw [← hv0]; exact h8 x t g hp hg).put hp9 (hne0 x)
    · by_cases hp : q1 = t
      · have hq : q2 ≠ t := fun e => hpq (hp.trans e.symm)
        subst hp
        rw [mget_set_same, mget_set_other _ _ hq, Option.getD_some]
        intro h hq2
        rcases hown8 with h3 | h3
        · rw [h3, ← hv0] at h
          exact h8 _ q2 g hpq h hq2
        · rw [h3] at h
          have := ((h7.2 q2).block g hq2).2
          cases h
          omega
      · rw [mget_set_other _ _ hp]
        by_cases hq : q2 = t
        · subst hq
          rw [mget_set_same, Option.getD_some]
          intro h hq2
          rcases hown8 with h3 | h3
          · rw [h3, ← hv0] at hq2
            exact h8 q1 _ g hpq h hq2
          · rw [h3] at hq2
            have := ((h7.2 q1).block g h).2
            cases hq2
            omega
        · rw [mget_set_other _ _ hq]
          exact h8 q1 q2 g hpq
  case hdone =>
    rintro ds' V hmk htr ⟨h1, h2, h3, h4, h5, m, h6, h7, h8⟩
    (refine jjB (jjC (jN rfl rfl rfl (jJ (eM rfl) (jz (jjF ?_))))))
    refine fin1M rfl rfl hmk fun w' g => ⟨h1.ofGrow g (Nat.le_refl _), mb, m, rfl, hwm, h6.grow g, h7.1, fun s => ((h7.2 s).grow g).mono (by omega)⟩
end

abbrev wsOf (t : Tx) : List ByteArray := (allW t t.length).map (·.2)
theorem plsN_pos {t : Tx} {i n : Nat} {p : Pl} {s : ByteArray} (h : (allW t t.length)[i]? = some (p, s)) (hi : i < n) : 0 < (plsN t n s).length := by
  rw [plsN, List.length_map, List.length_pos_iff]
  intro e
  have : (p, s) ∈ ((allW t t.length).take n).filter fun x => decide (x.2 = s) := by
    rw [List.mem_filter]
    refine ⟨List.mem_of_getElem? (i := i) ?_, by simp⟩
    rw [List.getElem?_take, if_pos hi, h]
  rw [e] at this
  cases this
theorem wsOf_get {t : Tx} {i : Nat} {x : Pl × ByteArray} (h : (allW t t.length)[i]? = some x) : (wsOf t)[i]? = some x.2 := by rw [wsOf, List.getElem?_map, h]; rfl
theorem dstL_step {ws : List ByteArray} {i : Nat} {x : ByteArray} (h : ws[i]? = some x) : dstL ws (i + 1) = dstL ws i ++ if (ws.take i).any (fun y => decide (y = x)) then [] else [x] := by rw [dstL, h]
theorem dstL_at {ws : List ByteArray} {i : Nat} {x : ByteArray} (h : ws[i]? = some x) (hn : (ws.take i).any (fun y => decide (y = x)) = false) : (dstL ws ws.length)[(dstL ws i).length]? = some x := by
  have hi := (List.getElem?_eq_some_iff.1 h).1
  obtain ⟨r, hr⟩ := dstL_pre (ws := ws) (i := i + 1) (j := ws.length) (by omega)
  rw [hr, dstL_step h, hn]
  simp
structure VoF (pb pm bk mb : Nat) (a : Option Addr) (c : Nat) (cs : List Ch) (w : World) : Prop where
  pb : At w pb 0 [.pointer (some ⟨bk, 0, none⟩)]
  pm : At w pm 0 [.map (some mb)]
  bk : At w bk 0 [.slice a cs.length c]
  row : RowV w true 2 (.slice a cs.length c) (cs.map encCh)
  tx : TextI w cs
/-- How many places a word has left. -/
def lenI (t : Tx) (i : Nat) (m : List (ByteArray × Value)) : Prop := ∀ s, ∃ a c, (mget m s).getD nilV = .slice a (if ((wsOf t).take i).any (fun y => decide (y = s)) then 0 else (plsN t (allW t t.length).length s).length) c
structure VoI (mb : Nat) (t : Tx) (i : Nat) (w : World) : Prop where
  h : ∃ m, MapE Value.string w mb m ∧ NdG m ∧ lenI t i m
structure VoJ (M : World → Nat → Prop) (J : Nat → World → Prop) (w2 : World) (t : Tx) (l bx bk b3 mb : Nat) (i : Nat) (V : World) : Prop where
  sz : w2.heap.size ≤ V.heap.size
  j : J (dstL (wsOf t) i).length V
  kx : At V bx 0 [.pointer (some ⟨bk, 0, none⟩)]
  k3 : At V b3 0 [.func (.yield l) #[] #[]]
  nx : ¬ M V bx
  n3 : ¬ M V b3
  i : VoI mb t i V
set_option maxHeartbeats 4000000 in
theorem each1_leaf (pb pm bk mb : Nat) (a : Option Addr) (c : Nat) (cs : List Ch) (hs : SmallT cs) :
    IterH Tryz.prog 88 [.pointer (some ⟨pb, 0, none⟩), .pointer (some ⟨pm, 0, none⟩)] (dstL (wsOf (txF cs)) (wsOf (txF cs)).length) (fun s => [.string s]) mb (VoF pb pm bk mb a c cs) (VoI mb (txF cs) 0) := by
  intro l J Jx M w0 hmb hJ hJx hF hFx hM1 hM2 hY hl0 hI h0
  have hF0 := (hF 0 w0 h0).1
  have := hF0.pb
  have hbk := hF0.bk
  have hrow : RowI w0 (.slice a cs.length c) true 2 (cs.map encCh) := ⟨hF0.row⟩
  have hT := hF0.tx
  refine Calls.ofWM (by simp) ?_
  (refine jjB (jjC ?_))
  (refine jy rfl ?_; intro b3 w_b3 hb_b3 hs_b3 hS_b3 hk_b3; have hA_b3 := At.ofBlock hk_b3)
  have hA3 : At w_b3 b3 0 [.func (.yield l) #[] #[]] := hA_b3
  (refine jz (jjB (jjC (jN rfl rfl rfl ?_))))
  refine jjQ (all_leaf bk _) rfl rfl ?_
  rintro _ w2 hS2 ⟨bx, rfl, hbx, hAx⟩
  (refine jz (jjD ?_))
  have e2 : Ext w0 w2 := inferInstance
  have z2 := e2.size
  have z3 := hS_b3.size
  have hj2 := hJ 0 _ _ h0 (e2.growB (Nat.le_refl _))
  have hn3 : ¬ M w2 b3 := fun h => by
    have := (hM1 0 _ _ h0 (hM2 0 _ _ _ h0 (e2.growB (Nat.le_refl _)) h)).1
    omega
  have hnx : ¬ M w2 bx := fun h => by
    have := (hM1 0 _ _ h0 (hM2 0 _ _ _ h0 (e2.growB (Nat.le_refl _)) h)).1
    omega
  obtain ⟨m0, hm0, hnd0, hl0'⟩ := hI
  have hlx := hAx.lt
  have hxm : bx ≠ mb := by omega
  have h3m : b3 ≠ mb := by omega
  refine W.rangeJE w0.heap.size (fun k => k = l) (fun k h => by omega) (allW (txF cs) (txF cs).length) encPW (all1_leaf bx bk a c cs hs) rfl (fun _ => rfl) trivial inferInstance z2
    (VoJ M J w2 (txF cs) l bx bk b3 mb) (fun cc _ V => cc = .ret ∧ ∃ i, i ≤ (dstL (wsOf (txF cs)) (wsOf (txF cs)).length).length ∧ Jx i V) ?hJ ?hJx ?hF (fun i V h => h.sz) ⟨Nat.le_refl _, hj2, hAx, hA3.ext hS2.ext, hnx, hn3, m0, hm0.ext e2, hnd0, hl0'⟩
    (fun V k => k = mb ∨ M V k) ?hM1 ?hM2 (fun x s' V => s' 2 = .pointer (some ⟨pm, 0, none⟩) ∧ s' 3 = .pointer (some ⟨b3, 0, none⟩) ∧ s' 5 = .string x.2) (fun x s V V' h g => h) ?hassign ?hbody ?hdone ?hstop
  case hJ =>
    rintro i V V' ⟨h1, h2, h3, h4, h5, h6, m, h7, h8, h9⟩ g
    have gB : GrowB w0.heap.size mb V V' := (g.mono z2).toB
    exact ⟨Nat.le_trans h1 g.size, hJ _ _ _ h2 gB, h3.grow g, h4.grow g, fun h => h5 (hM2 _ _ _ _ h2 gB h), fun h => h6 (hM2 _ _ _ _ h2 gB h), m, h7.grow g, h8, h9⟩
  case hJx =>
    rintro cc i V V' ⟨rfl, k, hk, h⟩ g
    exact ⟨rfl, k, hk, hJx _ _ _ h (g.mono z2).toB⟩
  case hF =>
    rintro i V h
    have hf := (hF _ _ h.j).1
    exact ⟨h.kx, hf.bk, hf.row, hf.tx⟩
  case hM1 =>
    rintro i V k ⟨h1, h2, h3, h4, h5, h6, m, h7, h8, h9⟩ (rfl | h)
    · exact h7.lt
    · exact (hM1 _ _ _ h2 h).1
  case hM2 =>
    rintro i V V' k h g (rfl | hk)
    · exact .inl rfl
    · exact .inr (hM2 _ _ _ _ h.j (g.mono z2).toB hk)
  case hassign =>
    intro l' i x V hx h hl hr
    (refine jjC (jJ (eT rfl) (jz ?_)))
    exact ⟨rfl, Tr.refl _, Fr.refl _ _, h, rfl, rfl, rfl⟩
  case hbody =>
    rintro l' i x s' V hx ⟨h1, h2, h3, h4, h5, h6, m, h7, h8, h9⟩ ⟨ha2, ha3, ha5⟩ hl hr
    refine W.fix (d := 2) ha2 (W.fix (d := 3) ha3 (W.fix (d := 5) ha5 ?_))
    obtain ⟨p, t⟩ := x
    have hlt := (List.getElem?_eq_some_iff.1 hx).1
    have hf := (hF _ _ h2).1
    have hpm := hf.pm
    have hw := wsOf_get hx
    have hst := dstL_step hw
    obtain ⟨va, vc, hva⟩ := h9 t
    obtain ⟨B, hB⟩ : ∃ B, ((wsOf (txF cs)).take i).any (fun y => decide (y = t)) = B := ⟨_, rfl⟩
    rw [hB] at hva hst
    have hnext : ∀ s, ((wsOf (txF cs)).take (i + 1)).any (fun y => decide (y = s)) = (((wsOf (txF cs)).take i).any (fun y => decide (y = s)) || decide (t = s)) := fun s => by
      rw [List.take_add_one, hw, List.any_append]; simp
    cases B with
    | true =>
      simp only [if_true] at hva hst
      (refine jjD (jjB (jjB (jjC (jN rfl rfl rfl (jI (eT rfl) ?_))))))
      refine Ops.lookupV (k := t) hva h7 rfl rfl ?_
      (refine jh rfl (jjh rfl rfl (by omega) (jz (jjJ rfl (jjE ?_)))))
      refine ⟨Tr.refl _, Fr.refl _ _, h1, by rw [hst, List.append_nil]; exact h2, h3, h4, h5, h6, m, h7, h8, fun s => ?_⟩
      obtain ⟨qa, qc, hq⟩ := h9 s
      refine ⟨qa, qc, hq.trans ?_⟩
      rw [hnext]
      by_cases e : t = s
      · subst e; rw [hB]; rfl
      · rw [decide_eq_false e, Bool.or_false]
    | false =>
      simp only [Bool.false_eq_true, if_false] at hva hst
      have hpos := plsN_pos hx hlt
      have hn6 := plsN_len (txF cs) (allW (txF cs) (txF cs).length).length t
      generalize (plsN (txF cs) (allW (txF cs) (txF cs).length).length t).length = nt at hva hpos hn6
      (refine jjD (jjB (jjB (jjC (jN rfl rfl rfl (jI (eT rfl) ?_))))))
      refine Ops.lookupV (k := t) hva h7 rfl rfl ?_
      (refine jh rfl (jji rfl rfl (by omega) (jz (jjK rfl (jjG (jjB ?_))))); refine jjC (jN rfl rfl rfl (jI (eT rfl) ?_)))
      refine Ops.deleteN (k := t) h7 rfl rfl ?_
      intro V2 o2 hp2 hM2'
      have gB : GrowB w0.heap.size mb V V2 := hp2.growB (by
        obtain ⟨o3, h3, h4⟩ := hM2'.loopy
        rw [hp2.new] at h3; cases h3; exact h4)
      have hj := hJ _ _ _ h2 gB
      have k3 : At V2 b3 0 [.func (.yield l) #[] #[]] := hp2.at_ h4 h3m
      have kx : At V2 bx 0 [.pointer (some ⟨bk, 0, none⟩)] := hp2.at_ h3 hxm
      have n3 : ¬ M V2 b3 := fun h => h6 (hM2 _ _ _ _ h2 gB h)
      have nx : ¬ M V2 bx := fun h => h5 (hM2 _ _ _ _ h2 gB h)
      have hfr : Fr (fun V k => k = mb ∨ M V k) V V2 := ⟨by rw [hp2.size]; exact Nat.le_refl _, fun k o hk ho hn => (hp2.other k fun e => hn (.inl e)).trans hk, fun k hk => .inl (hk.imp id fun h => hM2 _ _ _ _ h2 gB h)⟩
      have htr2 : Tr V V2 := hp2.tr h7.loopy
      (refine jz (jjB (jjC (jN rfl rfl rfl (jI (eT rfl) ?_)))))
      refine Ops.yield (hY _ t _ (dstL_at hw hB) hj) rfl rfl ?_
      rintro e V3 (⟨rfl, hJ3, hFr, hT3⟩ | ⟨rfl, hJx3, hT3⟩)
      · refine ⟨_, rfl, ?_⟩
        (refine jp rfl (jz (jjK rfl (jjG ?_))))
        have z12 : V.heap.size = V2.heap.size := hp2.size.symm
        have k3l := k3.lt
        have kxl := kx.lt
        have nf : ∀ k, k < V2.heap.size → ¬ M V2 k → ¬ M V3 k := fun k hk h h' => (hFr.own k h').elim h fun h'' => by omega
        have keepA : ∀ (k : Nat) (cells : List Value), At V2 k 0 cells → k < V2.heap.size → ¬ M V2 k → At V3 k 0 cells := fun k cells hA hk hn => ⟨fun i v hv => by
          have h1 := hA.h i v hv
          obtain ⟨ob, hb, hd⟩ := cell_block h1
          rw [← h1]
          exact World.cell?_of_block (a := ⟨k, 0 + i, none⟩) ((hFr.keep _ _ hb hd hn).trans hb.symm)⟩
        have hkm : ¬ M V2 mb := fun h => (hM1 _ _ _ hj h).2 rfl
        refine ⟨htr2.trans hT3, hfr.trans ⟨hFr.size, fun k o hk ho hn => hFr.keep k o hk ho fun h => hn (.inr h), fun k hk => ?_⟩, by have := hFr.size; omega, ?_, keepA _ _ kx kxl nx, keepA _ _ k3 k3l n3, nf _ kxl nx, nf _ k3l n3, mdel m t, ?_, (h8.del t).1, fun s => ?_⟩
        · rcases hk with rfl | hk
          · exact .inl (.inl rfl)
          · exact (hFr.own k hk).imp .inr id
        · rw [hst, List.length_append]; exact hJ3
        · obtain ⟨es, cl, q1, q2⟩ := hM2'.h
          exact ⟨es, cl, hFr.keep _ _ q1 rfl hkm, q2⟩
        · rw [(h8.del t).2.2 s]
          by_cases e : s = t
          · subst e
            refine ⟨none, 0, ?_⟩
            rw [hnext, if_pos rfl]
            simp
          · rw [if_neg e]
            obtain ⟨qa, qc, hq⟩ := h9 s
            refine ⟨qa, qc, hq.trans ?_⟩
            rw [hnext, decide_eq_false (fun h => e h.symm), Bool.or_false]
      · refine ⟨_, rfl, ?_⟩
        (refine jq rfl (jz (jjJ rfl (jjF ?_))))
        exact ⟨htr2.toE.trans hT3, rfl, _, by have := (List.getElem?_eq_some_iff.1 (dstL_at hw hB)).1; omega, hJx3⟩
  case hdone =>
    rintro ds' V hmk htr h
    refine fin0M rfl hmk fun w' g => ⟨⟨_, rfl⟩, .inl ?_⟩
    have e : (wsOf (txF cs)).length = (allW (txF cs) (txF cs).length).length := by rw [wsOf, List.length_map]
    rw [e]
    exact hJ _ _ _ h.j g.toB
  case hstop =>
    rintro ds' cc i V hmk htr hi ⟨rfl, k, hk, h⟩
    refine jjF ?_
    exact fin0M rfl hmk fun w' g => ⟨⟨_, rfl⟩, .inr ⟨k, hk, hJx _ _ _ h g.toB⟩⟩
end Go.Proofs.YtpijeomnplmakaaGreatDoor

/- galley.Check. -/

namespace Go.Proofs.YtpijeomnplmakaaGreatDoor
open Go.RowKit





theorem place_word {t : Tx} {i : Nat} {p : Pl} {s : ByteArray} (h : (allW t t.length)[i]? = some (p, s)) : wordT t p = s := by
  obtain ⟨k, n, q, hk, hn, hq, rfl, rfl⟩ := allW_word h
  exact wordT_at hk hn hq
/-- The words of all slips are those of the text. -/
theorem all_words {t : Tx} {wd side : Int} (ht : textB t = true) (hc : cutB wd side = true) : (allS t side wd).map (·.2.1) = wsOf t := by
  have F := allF (wd := wd) (side := side) ht hc
  have hl : (allS t side wd).length = (allW t t.length).length := by rw [allS_lenP, allW_len]
  have hf := allW_fst t t.length
  apply List.ext_getElem
  · rw [wsOf, List.length_map, List.length_map, hl]
  · intro i h1 h2
    rw [List.length_map] at h1
    have h3 : i < (allW t t.length).length := by omega
    have e1 := F.at_ i h1
    rw [← hf, List.getElem?_map, List.getElem?_eq_getElem h3, Option.map_some, Option.some.injEq] at e1
    have e2 := place_word (t := t) (i := i) (p := (allW t t.length)[i].1) (s := (allW t t.length)[i].2) (List.getElem?_eq_getElem h3)
    have e3 := (F.wd_ i h1).2
    simp only [wsOf, List.getElem_map]
    rw [← e3, ← e1]
    exact e2

abbrev isW (w : ByteArray) : Slp → Bool := fun s => decide (s.2.1 = w)
theorem all_pairs {t : Tx} {wd side : Int} (ht : textB t = true) (hc : cutB wd side = true) : ((allS t side wd).map fun s => (s.1, s.2.1)) = allW t t.length := by
  have F := allF (wd := wd) (side := side) ht hc
  have hl : (allS t side wd).length = (allW t t.length).length := by rw [allS_lenP, allW_len]
  have hf := allW_fst t t.length
  apply List.ext_getElem
  · rw [List.length_map, hl]
  · intro i h1 h2
    rw [List.length_map] at h1
    have e1 := F.at_ i h1
    rw [← hf, List.getElem?_map, List.getElem?_eq_getElem h2, Option.map_some, Option.some.injEq] at e1
    have e2 := place_word (t := t) (i := i) (p := (allW t t.length)[i].1) (s := (allW t t.length)[i].2) (List.getElem?_eq_getElem h2)
    have e3 := (F.wd_ i h1).2
    rw [List.getElem_map]
    refine Prod.ext e1.symm ?_
    rw [← e3, ← e1]
    exact e2
theorem places_all {t : Tx} {wd side : Int} (ht : textB t = true) (hc : cutB wd side = true) (w : ByteArray) : placesF t w = ((allS t side wd).filter (isW w)).map (·.1) := by
  rw [placesF, ← all_pairs (wd := wd) (side := side) ht hc, List.filter_map, List.map_map]
  rfl
/-- The slips of the least word stand ahead. -/
theorem word_head {w : ByteArray} : ∀ {X : List Slp}, X.Pairwise (fun x y => cmpS x.2.1 y.2.1 ≤ 0) → (∀ x ∈ X, x.2.1 = w ∨ cmpS w x.2.1 = -1) → X = X.filter (isW w) ++ X.filter fun s => !isW w s
  | [], _, _ => rfl
  | x :: X, hs, hw => by
    rw [List.pairwise_cons] at hs
    have ih := word_head hs.2 fun y hy => hw y (List.mem_cons_of_mem _ hy)
    by_cases e : x.2.1 = w
    · rw [List.filter_cons_of_pos (by simpa using e), List.filter_cons_of_neg (by simpa using e), List.cons_append, ← ih]
    · have hx := (hw x (by simp)).resolve_left e
      have hno : X.filter (isW w) = [] := by
        refine List.filter_eq_nil_iff.2 fun y hy hy2 => ?_
        have e2 : y.2.1 = w := by simpa using hy2
        have h1 := hs.1 y hy
        rw [e2] at h1
        have := ord_cmpS.anti w x.2.1
        omega
      rw [hno, List.nil_append] at ih
      rw [List.filter_cons_of_neg (by simpa using e), List.filter_cons_of_pos (by simpa using e), hno, List.nil_append, ← ih]
theorem by_words : ∀ {ws : List ByteArray} {X : List Slp}, SrtS ws → X.Pairwise (fun x y => cmpS x.2.1 y.2.1 ≤ 0) → (∀ x ∈ X, x.2.1 ∈ ws) → X = ws.flatMap fun w => X.filter (isW w)
  | [], X, _, _, h => by
    cases X with
    | nil => rfl
    | cons x X => exact absurd (h x (by simp)) (by simp)
  | w :: ws, X, hw, hs, h => by
    rw [SrtS, List.pairwise_cons] at hw
    have h1 := word_head (w := w) hs fun x hx => by
      rcases List.mem_cons.1 (h x hx) with e | e
      · exact .inl e
      · exact .inr (hw.1 _ e)
    have h2 := by_words (ws := ws) (X := X.filter fun s => !isW w s) hw.2 (hs.filter _) fun x hx => by
      obtain ⟨hx1, hx2⟩ := List.mem_filter.1 hx
      refine (List.mem_cons.1 (h x hx1)).resolve_left fun e => ?_
      simp [e] at hx2
    rw [List.flatMap_cons]
    conv => lhs; rw [h1, h2]
    congr 1
    rw [List.flatMap_def, List.flatMap_def]
    congr 1
    refine List.map_congr_left fun v hv => ?_
    rw [List.filter_filter]
    refine List.filter_congr fun x _ => ?_
    have hne : v ≠ w := fun e => by have := hw.1 v hv; rw [e] at this; exact cmpS_irr w this
    by_cases e : x.2.1 = v
    · simp [e, hne]
    · simp [e]
theorem word_ord {n : Int} (hn : n = 1 ∨ n = 2) {x y : Slp} (h : cmpBy n x y ≤ 0) : cmpS x.2.1 y.2.1 ≤ 0 := by
  rcases hn with rfl | rfl
  · have e : cmpBy 1 x y = ordS x y := rfl
    rw [e, ordS, orF_cons] at h
    split at h <;> omega
  · exact h
theorem flatW_pos {F : ByteArray → List Slp} {ws : List ByteArray} {i j : Nat} (hi : i < ws.length) (hj : j < (F ws[i]).length) : (ws.flatMap F)[((ws.take i).flatMap F).length + j]? = some (F ws[i])[j] := by
  have e : ws = ws.take i ++ (ws[i] :: ws.drop (i + 1)) := by rw [← List.drop_eq_getElem_cons hi, List.take_append_drop]
  have e2 : ws.flatMap F = (ws.take i).flatMap F ++ (F ws[i] ++ (ws.drop (i + 1)).flatMap F) := by
    conv => lhs; rw [e]
    rw [List.flatMap_append, List.flatMap_cons]
  rw [e2, List.getElem?_append_right (by omega), Nat.add_sub_cancel_left, List.getElem?_append_left hj, List.getElem?_eq_getElem hj]
theorem flatW_next {F : ByteArray → List Slp} {ws : List ByteArray} {i : Nat} (hi : i < ws.length) : ((ws.take (i + 1)).flatMap F).length = ((ws.take i).flatMap F).length + (F ws[i]).length := by
  rw [take_snoc_get (List.getElem?_eq_getElem hi), List.flatMap_append, List.length_append]
  simp
/-- What the law asks of the slips of a text that were filed. -/
structure FiledW (S L one two : List Slp) (ws : List ByteArray) : Prop where
  one_ : one = ws.flatMap fun w => S.filter (isW w)
  two_ : two = ws.flatMap fun w => L.filter (isW w)
  same : ∀ w, (S.filter (isW w)).length = (L.filter (isW w)).length
theorem filed_words {t : Tx} {wd side boxes : Int} {L : List Slp} (ht : textB t = true) (hc : cutB wd side = true) (hp : L.Perm (allS t side wd)) (h60 : L.length ≤ 60) (hb : 2 ≤ boxes ∧ boxes ≤ 20) :
    FiledW (allS t side wd) L (fileL L 1 boxes) (fileL L 2 boxes) (vocL (wsOf t)) := by
  have F := allF (wd := wd) (side := side) ht hc
  have hr : L.all slipB = true := List.all_eq_true.2 fun x hx => F.rt x (hp.mem_iff.1 hx)
  have hv := vocL_facts (wsOf t)
  have hin : ∀ x ∈ allS t side wd, x.2.1 ∈ vocL (wsOf t) := fun x hx => (hv.2 _).2 (by
    rw [← all_words (wd := wd) (side := side) ht hc]
    exact List.mem_map.2 ⟨x, hx, rfl⟩)
  have p1 := (file_perm (n := 1) h60 hr (by omega) hb).trans hp
  have p2 := (file_perm (n := 2) h60 hr (by omega) hb).trans hp
  have o1 := file_ord (n := 1) h60 hr (by omega) hb
  have o2 := file_ord (n := 2) h60 hr (by omega) hb
  refine ⟨?_, ?_, fun w => (hp.filter (isW w)).length_eq.symm⟩
  · have h := by_words hv.1 (o1.imp fun h => word_ord (.inl rfl) h) fun x hx => hin x (p1.mem_iff.1 hx)
    refine h.trans ?_
    rw [List.flatMap_def, List.flatMap_def]
    congr 1
    refine List.map_congr_left fun w _ => ?_
    have hnd : (fileL L 1 boxes).Nodup := p1.nodup_iff.2 F.nd
    refine perm_uniq (R := fun x y => ordS x y = -1) (fun a b h1 h2 => by have := ord_slip.anti a b; omega) (p1.filter _) ?_ ?_
    · refine List.Pairwise.filter _ ?_
      refine List.Pairwise.imp (R := fun x y => cmpBy 1 x y ≤ 0 ∧ x ≠ y) (fun {a b} hab => ?_) (o1.and hnd)
      have e : cmpBy 1 a b = ordS a b := rfl
      have := ord_slip.r a b
      have := mt (ord_slip.z a b).1 hab.2
      rw [e] at hab
      omega
    · have hs := allP_sorted t t.length
      rw [← allS_fst (side := side) (wd := wd), List.pairwise_map] at hs
      have hs2 := hs.filter (isW w)
      refine List.Pairwise.imp_of_mem (fun {a b} ha hb' hab => ?_) hs2
      have ea : a.2.1 = w := by simpa using (List.mem_filter.1 ha).2
      have eb : b.2.1 = w := by simpa using (List.mem_filter.1 hb').2
      rw [ordS, ea, eb, orF_cons, cmpS_self, if_pos rfl, orF_cons]
      have hc := cmpP_lt hab
      rw [hc]
      rfl
  · have h := by_words hv.1 (o2.imp fun h => word_ord (.inr rfl) h) fun x hx => hin x (p2.mem_iff.1 hx)
    refine h.trans ?_
    rw [List.flatMap_def, List.flatMap_def]
    congr 1
    refine List.map_congr_left fun w _ => ?_
    rw [file_fil (n := 2) h60 hr (by omega) hb]
    refine fil_same (isW w) fun x _ y _ hx => ?_
    have e : cmpBy 2 y x = cmpS y.2.1 x.2.1 := rfl
    have ex : x.2.1 = w := by simpa using hx
    rw [e, ex, ord_cmpS.z]
    simp
/-- The next slip of a word. -/
theorem came_skip {w : ByteArray} {L : List Slp} {c j : Nat} (h : (L.drop c).filter (isW w) = (L.filter (isW w)).drop j) (hc : c < L.length) (hn : ¬ L[c].2.1 = w) : (L.drop (c + 1)).filter (isW w) = (L.filter (isW w)).drop j := by
  rw [List.drop_eq_getElem_cons hc, List.filter_cons_of_neg (by simpa using hn)] at h
  exact h
theorem came_hit {w : ByteArray} {L : List Slp} {c j : Nat} (h : (L.drop c).filter (isW w) = (L.filter (isW w)).drop j) (hc : c < L.length) (hj : j < (L.filter (isW w)).length) (hn : L[c].2.1 = w) : L[c] = (L.filter (isW w))[j] ∧ (L.drop (c + 1)).filter (isW w) = (L.filter (isW w)).drop (j + 1) := by
  rw [List.drop_eq_getElem_cons hc, List.filter_cons_of_pos (by simpa using hn), List.drop_eq_getElem_cons hj] at h
  exact ⟨(List.cons.inj h).1, (List.cons.inj h).2⟩
theorem came_in {w : ByteArray} {L : List Slp} {c j : Nat} (h : (L.drop c).filter (isW w) = (L.filter (isW w)).drop j) (hj : j < (L.filter (isW w)).length) : c < L.length := by
  refine Nat.lt_of_not_le fun hc => ?_
  rw [List.drop_of_length_le hc] at h
  have := congrArg List.length h
  simp at this
  omega


section rules
variable {P : Program} {ro : Option Nat} {n : Nat} {all rest : List Oper} {K : Sl → World → Prop} {s : Sl} {w : World} {d : Nat} {ty : Nat} {pos : String} {af : Array Edge} {x y : Operand} {t t' : Nat} {a b : Int}
theorem Ops.rem (hx : ev n s x = .int .i64 a) (hy : ev n s y = .int .i64 b) (h0 : 0 ≤ a) (h1 : 0 < b) (h : Ops P ro n all rest K (upd s d (.int .i64 (a % b))) w) :
    Ops P ro n all (⟨some d, .binOp .rem t x y t', ty, pos, af, none⟩ :: rest) K s w :=
  Ops.ofRun rfl (by
    have e1 : Int.tmod a b = a % b := Int.tmod_eq_emod_of_nonneg h0
    have e3 : ¬ b = 0 := by omega
    simp [execOp, hx, hy, go_sem, Op.intDiv, e1, e3]) h
theorem Ops.quo (hx : ev n s x = .int .i64 a) (hy : ev n s y = .int .i64 b) (h0 : 0 ≤ a) (h0' : a ≤ 9223372036854775807) (h1 : 0 < b) (h : Ops P ro n all rest K (upd s d (.int .i64 (a / b))) w) :
    Ops P ro n all (⟨some d, .binOp .quo t x y t', ty, pos, af, none⟩ :: rest) K s w :=
  Ops.ofRun rfl (by
    have e1 : Int.tdiv a b = a / b := Int.tdiv_eq_ediv_of_nonneg h0
    have e2 : IntKind.i64.wrap (a / b) = a / b := by
      have := Int.ediv_nonneg h0 (Int.le_of_lt h1)
      have := Int.ediv_le_self b h0
      rw [IntKind.wrap_i64]; omega
    have e3 : ¬ b = 0 := by omega
    simp [execOp, hx, hy, go_sem, Op.intDiv, e1, e2, e3]) h
theorem Ops.neqTN {α : Type} [DecidableEq α] {enc : α → Value} (u : α) [he : EqT P t enc] (hx : ev n s x = enc u) (hy : ev n s y = enc u) (h : Ops P ro n all rest K (upd s d (.bool false)) w) :
    Ops P ro n all (⟨some d, .binOp .neq t x y t', ty, pos, af, none⟩ :: rest) K s w :=
  Ops.neqT u u hx hy (by rw [decide_eq_false (by simp)]; exact h)
end rules

theorem eqT_arr2 {P : Program} {t e bytes : Nat} {z : Value} (hu : P.underlying t = some (.array 2 e)) (u0 : TU P e (.int .i64)) (hz : TS P e z 1 bytes) (hg : P.eqGuardType P.depth t = false) : EqT P t encII where
  eq w a b := by
    obtain ⟨i, hi, _, hs, _⟩ := hz.info
    have hc : P.cellsOf e = 1 := by simp [Program.cellsOf, hi, hs]
    simp only [encII, Op.equal, Op.maxDepth]
    rw [run_equalIn_array w 9999 _ _ hu hi, hc]
    have e0 : (Op.equalIn 9999 e (.int .i64 a.1) (.int .i64 b.1)).run P w = .ok (a.1 == b.1) w := run_equalIn_int (P := P) w 9998 e .i64 .i64 a.1 b.1 u0.h
    have e1 : (Op.equalIn 9999 e (.int .i64 a.2) (.int .i64 b.2)).run P w = .ok (a.2 == b.2) w := run_equalIn_int (P := P) w 9998 e .i64 .i64 a.2 b.2 u0.h
    obtain ⟨a1, a2⟩ := a
    obtain ⟨b1, b2⟩ := b
    simp only at e0 e1
    have p0 : ∀ c1 c2 : Int, (part e #[Value.int .i64 c1, Value.int .i64 c2] 0).run P w = .ok (.int .i64 c1) w := fun c1 c2 => by simp [part, run_isAgg w u0, TypeDesc.isAgg]
    have p1 : ∀ c1 c2 : Int, (part e #[Value.int .i64 c1, Value.int .i64 c2] 1).run P w = .ok (.int .i64 c2) w := fun c1 c2 => by simp [part, run_isAgg w u0, TypeDesc.isAgg]
    have hr : List.range 2 = [0, 1] := by decide
    rw [hr]
    simp only [Op.eqItems, Nat.zero_mul, Nat.one_mul, Sem.run_bind, p0, Result.andThen_ok, e0]
    by_cases c0 : a1 = b1
    · subst c0
      by_cases c1 : a2 = b2
      · subst c1; simp [p1, e1]
      · have c1' : (a2 == b2) = false := by simpa using c1
        simp [c1, p1, e1, c1']
    · simp [c0]
  guard op x y w a b := by
    cases op <;> simp [encII, eqGuard, hg]
  kind a b := ⟨fun w => by simp [encII, binOp], fun w => by simp [encII, binOp]⟩
section rules
variable {P : Program} {ro : Option Nat} {n : Nat} {all rest : List Oper} {K : Sl → World → Prop} {s : Sl} {w : World} {d : Nat} {ty : Nat} {pos : String} {af : Array Edge}
variable {x y : Operand} {t t' : Nat}
end rules
section rules
variable {P : Program} {ro : Option Nat} {n : Nat} {all rest : List Oper} {K : Sl → World → Prop} {s : Sl} {w : World} {d : Nat} {ty : Nat} {pos : String} {af : Array Edge}
variable {x y z : Operand} {at_ : Array Nat}
end rules

theorem choose_law6 (ba : Option Addr) (bc : Nat) (by_ : List Int) (i : Nat) (hu : U32s by_) (hi : i ≤ 100000000) (w : World) [hb : RowI w (.slice ba by_.length bc) false 1 (by_.map u32V)] :
    Ct Tryz.prog 39 [.slice ba by_.length bc, .int .i64 (i : Int)] w fun v _ => ∃ x : Int, v = .int .i64 x ∧ 0 ≤ x ∧ x ≤ 4294967295 := by
  refine Ct.ofW (by simp) ?_
  by_cases h0 : by_.length = 0
  · (refine jjB (jjC (jJ (eI rfl) (jz (jjB (jjB ?_))))); refine jjC (jI (eS rfl) (jh rfl (jjh rfl rfl (by omega) (jz (jjJ rfl ?_))))); refine jjB (jjC (jJ (eI rfl) (jz (jjF ?_)))); refine jB rfl rfl ⟨inferInstance, ?_⟩)
    exact ⟨0, rfl, by omega, by omega⟩
  (refine jjB (jjC (jJ (eI rfl) (jz (jjB (jjB ?_))))); refine jjC (jI (eS rfl) (jh rfl (jji rfl rfl (by omega) (jz (jjK rfl ?_))))); refine jjG (jjB (jjC (jI (eS rfl) (jI (eI rfl) (jI (eS rfl) ?_))))); refine jh rfl ?_)
  refine Ops.rem rfl rfl (by omega) (by omega) ?_
  have hr1 : (i : Int) % (by_.length : Int) = ((i % by_.length : Nat) : Int) := by omega
  have hX := Nat.mod_lt i (show 0 < by_.length by omega)
  rw [hr1]
  generalize i % by_.length = X at *
  have hv := hu by_[X] (List.getElem_mem hX)
  (refine jF rfl rfl rfl (map_get (by omega)) ?_; intro _ _ _; refine jQ rfl rfl ?_)
  refine Ops.convI rfl rfl (wrapi (by omega) (by omega)) ?_
  (refine jJ (eI rfl) (jz (jjF ?_)); refine jB rfl rfl ⟨inferInstance, ?_⟩)
  exact ⟨_, rfl, hv.1, hv.2⟩
section
variable (a1 a2 : Option Addr) (c1 c2 : Nat) (d l : List Int) (w : World) (hll : l.length ≤ 1000000) [h1 : RowI w (.slice a1 d.length c1) false 1 (d.map intV)] [h2 : RowI w (.slice a2 l.length c2) false 1 (l.map intV)]
include hll
end
section
variable (a1 a2 : Option Addr) (c1 c2 : Nat) (d l : List Int) (w : World) (hll : l.length ≤ 1000000) [h1 : RowI w (.slice a1 d.length c1) false 1 (d.map intV)] [h2 : RowI w (.slice a2 l.length c2) false 1 (l.map intV)]
include hll
end

theorem App.row {B : Nat} {w w' : World} {u v : Value} {agg : Bool} {k : Nat} {xs : List Value} (a : App B w w' u) (h : RowV w agg k v xs) (hne : ∀ g, u.ownBlock = some g → v.ownBlock ≠ some g) : RowV w' agg k v xs :=
  ⟨h.len, h.fit, h.at_.imp id fun ⟨b, o, c, hv, hl, hc⟩ => ⟨b, o, c, hv, hl, fun j x hx => a.at_ (hc j x hx) (fun e => hne b e (by rw [hv]; rfl))⟩⟩
section rules
variable {P : Program} {ro : Option Nat} {n : Nat} {all rest : List Oper} {K : Sl → World → Prop} {s : Sl} {w : World} {d t e ty : Nat} {pos : String} {af : Array Edge} {x : Operand}
theorem Ops.sliceXLv {k bytes l c lo : Nat} {z : Value} {a : Option Addr} {i : Int} {k1 : IntKind} {xl : Operand} (hx : ev n s x = .slice a l c) (hl : ev n s xl = .int k1 i)
    (hi' : i = (lo : Int)) (h1 : lo ≤ l) [ht : TSl P t e] [hz : TS P e z k bytes]
    (h : Ops P ro n all rest K (upd s d (cutV a c k lo l)) w) : Ops P ro n all (⟨some d, .slice t x (some xl) none none, ty, pos, af, none⟩ :: rest) K s w := by
  subst hi'
  refine Ops.ofRun (v := cutV a c k lo l) (w' := w) rfl ?_ h
  simp [cutV, execOp, Instr.sliceAt, Instr.slice, Instr.sliceBounds, Instr.sliceBound, hx, hl, run_underlying ht.h, asIntOf, h1, run_sizeOf' w hz]
end rules
section rules
variable {P : Program} {ro : Option Nat} {n : Nat} {all rest : List Oper} {K : Sl → World → Prop} {s : Sl} {w : World} {d : Nat} {ty : Nat} {pos : String} {af : Array Edge}
variable {x : Operand} {t : Nat}
theorem Ops.loadOA {b o off : Nat} {cs cs' : List Value} {dd : TypeDesc} {z : Value} {size bytes : Nat} (hc : At w b o cs) (hx : ev n s x = .pointer (some ⟨b, o + off, none⟩)) [ht : TU P t dd] (hs : TypeDesc.isAgg dd = true) [hz : TS P t z size bytes]
    (hl : (cs.drop off).take size = cs') (hn : cs'.length = size) (h : Ops P ro n all rest K (upd s d (.agg cs'.toArray)) w) : Ops P ro n all (⟨some d, .load t x, ty, pos, af, none⟩ :: rest) K s w :=
  Ops.loadA (cs := cs') ⟨fun i v hv => by
    refine (hc.drop off).h i v ?_
    rw [← hl, List.getElem?_take] at hv
    split at hv
    · exact hv
    · cases hv⟩ hx hs hn h
end rules
end Go.Proofs.YtpijeomnplmakaaGreatDoor

/- slices at slips: Clone, BinarySearchFunc. -/
namespace Go.Proofs.YtpijeomnplmakaaGreatDoor
open Go.RowKit Go.Sort

theorem all_encSl (l : List Slp) : (l.map encSl).all (fun v => v.cells.toList.all (·.oneCell')) = true := by
  rw [List.all_eq_true]
  intro x hx
  obtain ⟨b, _, rfl⟩ := List.mem_map.1 hx
  rfl
theorem Clone_Slip (a : Option Addr) (c : Nat) (l : List Slp) (w : World) (hl : l.length ≤ 1000000) [hrow : RowI w (.slice a l.length c) true 6 (l.map encSl)] :
    Ct Tryz.prog 64 [.slice a l.length c] w fun v w' => ∃ a' c', v = .slice a' l.length c' ∧ OwnL w' w.heap.size 49 true 6 (.slice a' l.length c') (l.map encSl) := by
  refine Ct.ofW (by simp) ?_
  (refine jjB (jjC (jJ (eS rfl) (jz (jjB (jjB ?_))))); refine jjC (jI (eS rfl) ?_))
  refine Ops.eqlNil rfl rfl ?_
  repeat' (first|(apply jJ; exact eS rfl)|refine jz ?_|(refine jjA ?_; (first|refine jjB ?_|refine jjC ?_|refine jjF ?_|refine jjG ?_))|(refine jjA ?_; (refine jjO rfl ?_ ?_ <;> intro _))|refine jB rfl rfl ⟨inferInstance, ?_⟩)
  · obtain rfl : a = none := by cases a with
      | none => rfl
      | some x => cases ‹(some x).isNone = true›
    have e : l = [] := by have := row_none hrow.h; simpa using this
    subst e
    exact ⟨none, 0, rfl, OwnL.nil _ _ _ _ _⟩
  · refine Ops.buildSlice0 ?_
    intro b3 w4 hb3 hs4 hS4 hk4
    have hO4 := OwnL.empty (agg := true) (k := 6) (B := w.heap.size) (by omega) hk4
    (apply jI; exact eS rfl)
    refine Ops.appendL hO4 (by omega) (hrow.h.ext inferInstance) rfl rfl rfl rfl (all_encSl l) ?_ ?_ ?_
    · simp only [List.length_map, List.length_nil]; omega
    · simp only [List.length_map, List.length_nil]; omega
    intro v5 w5 hA hO5 _ _
    rw [List.nil_append] at hO5
    obtain ⟨a5, c5, rfl⟩ := hO5.slice
    rw [List.length_map] at hO5 ⊢
    have hE5 : Ext w w5 := hA.ext inferInstance (Nat.le_refl _)
    have hS5 := hE5.toStep
    (refine jJ (eS rfl) (jz (jjF ?_)); refine jB rfl rfl ⟨inferInstance, ?_⟩)
    exact ⟨a5, c5, rfl, hO5⟩
theorem place_k {w : World} {agg : Bool} {k l c j b o : Nat} {xs : List Value} {x : Value} (h : RowV w agg k (.slice (some ⟨b, o, none⟩) l c) xs) (hj : xs[j]? = some x) : At w b (o + j * k) x.cells.toList := by
  obtain ⟨b', o', e, hA⟩ := h.place' hj
  cases e
  exact hA
set_option maxHeartbeats 4000000 in
theorem Search_slip (q : Nat) [he : Enters Tryz.prog q] (cf : Slp → Slp → Int) (hf : Pre3 cf) (hc : CmpQ q cf)
    (a : Option Addr) (c : Nat) (C : List Slp) (x : Slp) (hgd : ∀ y ∈ C, GdS y) (hgx : GdS x) (w : World) (hl : C.length ≤ 1000000) (hC : C.Pairwise (fun a b => cf a b = -1)) [hmx : MxI w] [hrow : RowI w (.slice a C.length c) true 6 (C.map encSl)] :
    Ct Tryz.prog 68 [.slice a C.length c, encSl x, .func (.func q) #[] #[]] w fun v w' => ∃ b : Bool, v = .tuple #[.int .i64 (((C.filter fun y => decide (cf y x < 0)).length : Nat) : Int), .bool b] := by
  refine Ct.ofW (by simp) ?_
  (refine jjB (jjC ?_))
  (refine jy rfl ?_; intro b4 w_b4 hb_b4 hs_b4 hS_b4 hk_b4; have hA_b4 := At.ofBlock hk_b4)
  (refine jJ (eI rfl) (jJ (eB rfl) (jz (jjB (jjC (jI (eS rfl) ?_))))); refine jh rfl (jJ (eI rfl) (jz (jjB (jjC (jI (eI rfl) ?_))))); refine jJ (eI rfl) (jJ (eI rfl) (jz (jjB (jjD ?_)))))
  refine W.keep0 [(0, .slice a C.length c), (2, .func (.func q) #[] #[]), (4, .pointer (some ⟨b4, 0, none⟩)), (8, .int .i64 (C.length : Int)), (9, .int .i64 ((0 : Nat) : Int)), (10, .int .i64 ((C.length : Nat) : Int))] ⟨eS rfl, rfl, eP rfl, eI rfl, eI rfl, eI rfl, trivial⟩ fun s0 => ?_
  refine W.loop (15 :: 16 :: 17 :: 18 :: 19 :: 20 :: 21 :: 22 :: 23 :: 11 :: 24 :: 25 :: 26 :: 27 :: 28 :: 29 :: 30 :: 31 :: 32 :: 33 :: 9 :: 34 :: 10 :: []) (fun g s' V => ∃ i j : Nat, s' 9 = .int .i64 (i : Int) ∧ s' 10 = .int .i64 (j : Int) ∧ g = j - i ∧ i ≤ j ∧ j ≤ C.length ∧ (∀ t (h : t < C.length), t < i → cf C[t] x < 0) ∧ (∀ t (h : t < C.length), j ≤ t → ¬ cf C[t] x < 0)) C.length ⟨0, C.length, rfl, rfl, rfl, Nat.zero_le _, Nat.le_refl _, fun t h1 h2 => absurd h2 (Nat.not_lt_zero _), fun t h1 h2 => by omega⟩ ?_
  rintro _ sd V hSV ⟨i, j, h9, h10, rfl, hij, hj, hlo, hhi⟩
  refine W.fix (d := 9) h9 (W.fix (d := 10) h10 ?_)
  clear h9 h10
  by_cases hlt : i < j
  rotate_left
  · obtain rfl : i = j := by omega
    have hcnt := filt_upto (fun y => decide (cf y x < 0)) C i hj (fun t h1 h2 => decide_eq_true (hlo t h1 h2)) (fun t h1 h2 => decide_eq_false (hhi t h1 h2))
    rw [hcnt]
    (refine jjB (jjB (jjC (jI (eI rfl) (jI (eI rfl) (jja rfl rfl (by omega) ?_))))); refine jz (jjK rfl (jjE (jjB ?_))))
    refine W.draw (fun w' => Ext V w') ?_
    intro w5 hS5
    rcases Nat.lt_or_ge i C.length with hi | hi
    · have hg : (C.map encSl)[i]? = some (encSl C[i]) := by rw [List.getElem?_map, List.getElem?_eq_getElem hi]; rfl
      obtain ⟨pb, po, rfl, -⟩ := hrow.h.place' hg
      have hAi : At V pb (po + i * 6) (encSl C[i]).cells.toList := place_k (hrow.h.ext inferInstance) hg
      refine jjV [0, 1, 2, 3, 4, 5, 6, 7] (by decide +kernel) hS5.ext ?_
      (((apply jjT; exact rfl; rintro w' hq; have := hq.toStep; refine jI (eI rfl) (jz ?_); exact ⟨rfl, rfl⟩; apply jjT; exact rfl; rintro w' hq; have := hq.toStep; refine jI (eI rfl) (jz ?_); exact ⟨rfl, rfl⟩; apply jjT; exact rfl; rintro w' hq; have := hq.toStep; refine jI (eI rfl) (jz ?_); exact ⟨rfl, rfl⟩; apply jjT; exact rfl; rintro w' hq; have := hq.toStep; refine jjZ rfl rfl (by omega) (jz ?_); exact ⟨rfl, rfl⟩; apply jjT; exact rfl; rintro w' hq; have := hq.toStep; refine jI (eB rfl) (jz ?_); exact ⟨rfl, rfl⟩; apply jjT; exact rfl; rintro w' hq; have := hq.toStep; refine jT rfl rfl rfl (jI (eF rfl) (jz ?_)); exact ⟨rfl, rfl⟩; apply jjT; exact rfl; rintro w' hq; have := hq.toStep; refine jT rfl rfl rfl (jI (eS rfl) (jz ?_)); exact ⟨rfl, rfl⟩; apply jjT; exact rfl; rintro w' hq; have := hq.toStep; refine jT rfl rfl rfl (jI (eI rfl) (jz ?_)); exact ⟨rfl, rfl⟩; refine jjU ?_)))
      refine jjV [8] (by decide +kernel) hS5.ext (jjT (v := .pointer (some ⟨pb, po + i * 6, none⟩)) rfl (fun w' q1 => ?_) (jjU ?_)); (refine jT rfl rfl rfl ?_; refine jH i rfl rfl rfl (by omega) ?_; refine jz ?_; exact ⟨rfl, rfl⟩)
      refine jjV [9] (by decide +kernel) hS5.ext (jjT (v := encSl C[i]) rfl (fun w' q1 => ?_) (jjU ?_)); (refine jT rfl rfl rfl ?_; refine Ops.loadOA (off := 0) (hAi.ext q1) rfl rfl rfl rfl ?_; refine jz ?_; exact ⟨rfl, rfl⟩)
      refine jjV [10] (by decide +kernel) hS5.ext (jjT (v := encSl x) rfl (fun w' q1 => ?_) (jjU ?_)); (have := q1.toStep; refine jT rfl rfl rfl (jO rfl rfl rfl rfl (jz ?_)); exact ⟨rfl, rfl⟩)
      (apply jjW 11; (decide +kernel); exact rfl; (exact inferInstance))
      (refine jT rfl rfl rfl ?_)
      refine Ops.callR rfl (Enters.h (P := Tryz.prog) (g := q)) rfl (hc C[i] x _ inferInstance (hgd _ (List.getElem_mem _)) hgx) ?_
      rintro e w6 ⟨rfl, x6, -⟩
      refine ⟨_, rfl, ?_⟩
      have s6 := x6.toStep
      refine jz ?_
      generalize cf C[i] x = z at *
      refine jjV [12, 13, 14, 15] (by decide +kernel) inferInstance ?_
      (((apply jjT; exact rfl; rintro w' hq; have := hq.toStep; refine jT rfl rfl rfl (jb rfl rfl (jz ?_)); exact ⟨rfl, rfl⟩; apply jjT; exact rfl; rintro w' hq; have := hq.toStep; refine jK rfl (eB rfl) (jz ?_); exact ⟨rfl, rfl⟩; apply jjT; exact rfl; rintro w' hq; have := hq.toStep; refine jJ (eI rfl) (jz ?_); exact ⟨rfl, rfl⟩; apply jjT; exact rfl; rintro w' hq; have := hq.toStep; refine jJ (eB rfl) (jz ?_); exact ⟨rfl, rfl⟩; refine jjU ?_)))
      refine jjX (by decide +kernel) inferInstance ?_
      (refine jjF ?_; refine jC rfl rfl rfl ⟨inferInstance, ?_⟩)
      exact ⟨_, rfl⟩
    · refine jjV [0, 1, 2, 3, 4, 5, 6, 7, 8, 9, 10, 11, 12, 13, 14, 15] (by decide +kernel) hS5.ext ?_
      (((apply jjT; exact rfl; rintro w' hq; have := hq.toStep; refine jI (eI rfl) (jz ?_); exact ⟨rfl, rfl⟩; apply jjT; exact rfl; rintro w' hq; have := hq.toStep; refine jI (eI rfl) (jz ?_); exact ⟨rfl, rfl⟩; apply jjT; exact rfl; rintro w' hq; have := hq.toStep; refine jI (eI rfl) (jz ?_); exact ⟨rfl, rfl⟩; apply jjT; exact rfl; rintro w' hq; have := hq.toStep; refine jja rfl rfl (by omega) (jz ?_); exact ⟨rfl, rfl⟩; apply jjT; exact rfl; rintro w' hq; have := hq.toStep; refine jI (eB rfl) (jz ?_); exact ⟨rfl, rfl⟩; apply jjT; exact rfl; rintro w' hq; have := hq.toStep; refine jU rfl rfl rfl rfl (jz ?_); exact ⟨rfl, rfl⟩; apply jjT; exact rfl; rintro w' hq; have := hq.toStep; refine jU rfl rfl rfl rfl (jz ?_); exact ⟨rfl, rfl⟩; apply jjT; exact rfl; rintro w' hq; have := hq.toStep; refine jU rfl rfl rfl rfl (jz ?_); exact ⟨rfl, rfl⟩; apply jjT; exact rfl; rintro w' hq; have := hq.toStep; refine jU rfl rfl rfl rfl (jz ?_); exact ⟨rfl, rfl⟩; apply jjT; exact rfl; rintro w' hq; have := hq.toStep; refine jU rfl rfl rfl rfl (jz ?_); exact ⟨rfl, rfl⟩; apply jjT; exact rfl; rintro w' hq; have := hq.toStep; refine jU rfl rfl rfl rfl (jz ?_); exact ⟨rfl, rfl⟩; apply jjT; exact rfl; rintro w' hq; have := hq.toStep; refine jU rfl rfl rfl rfl (jz ?_); exact ⟨rfl, rfl⟩; apply jjT; exact rfl; rintro w' hq; have := hq.toStep; refine jU rfl rfl rfl rfl (jz ?_); exact ⟨rfl, rfl⟩; apply jjT; exact rfl; rintro w' hq; have := hq.toStep; refine jL rfl (eB rfl) (jz ?_); exact ⟨rfl, rfl⟩; apply jjT; exact rfl; rintro w' hq; have := hq.toStep; refine jJ (eI rfl) (jz ?_); exact ⟨rfl, rfl⟩; apply jjT; exact rfl; rintro w' hq; have := hq.toStep; refine jJ (eB rfl) (jz ?_); exact ⟨rfl, rfl⟩; refine jjU ?_)))
      refine jjX (by decide +kernel) inferInstance ?_
      (refine jjF ?_; refine jC rfl rfl rfl ⟨inferInstance, ?_⟩)
      exact ⟨_, rfl⟩
  obtain ⟨h, hh⟩ : ∃ h, h = (i + j) / 2 := ⟨_, rfl⟩
  have hhl : h < C.length := by omega
  (refine jjB (jjB (jjC (jI (eI rfl) (jI (eI rfl) (jjZ rfl rfl (by omega) ?_))))); refine jz (jjJ rfl (jjG (jjD (jjB (jjC ?_))))); refine jI (eI rfl) (jI (eI rfl) (jY rfl rfl (by omega) ?_)))
  refine Ops.convI rfl rfl (wrap64 (by omega) (by omega)) ?_
  skip
  refine Ops.half (a := i + j) rfl (by omega) rfl ?_
  skip
  refine Ops.convI rfl rfl (wrapi (by omega) (by omega)) ?_
  (refine jJ (eI rfl) (jz (jjB ?_)))
  rw [← hh]
  have hg : (C.map encSl)[h]? = some (encSl C[h]) := by rw [List.getElem?_map, List.getElem?_eq_getElem hhl]; rfl
  obtain ⟨pb, po, rfl, -⟩ := hrow.h.place' hg
  have hAh : At V pb (po + h * 6) (encSl C[h]).cells.toList := place_k (hrow.h.ext inferInstance) hg
  refine W.draw (fun w' => Ext V w') ?_
  intro w5 hS5
  refine jjV [0, 1, 2] (by decide +kernel) hS5.ext ?_
  (((apply jjT; exact rfl; rintro w' hq; have := hq.toStep; refine jI (eF rfl) (jz ?_); exact ⟨rfl, rfl⟩; apply jjT; exact rfl; rintro w' hq; have := hq.toStep; refine jI (eS rfl) (jz ?_); exact ⟨rfl, rfl⟩; apply jjT; exact rfl; rintro w' hq; have := hq.toStep; refine jI (eI rfl) (jz ?_); exact ⟨rfl, rfl⟩; refine jjU ?_)))
  refine jjV [3] (by decide +kernel) hS5.ext (jjT (v := .pointer (some ⟨pb, po + h * 6, none⟩)) rfl (fun w' q1 => ?_) (jjU ?_)); (refine jH h rfl rfl rfl (by omega) ?_; refine jz ?_; exact ⟨rfl, rfl⟩)
  refine jjV [4] (by decide +kernel) hS5.ext (jjT (v := encSl C[h]) rfl (fun w' q1 => ?_) (jjU ?_)); (refine Ops.loadOA (off := 0) (hAh.ext q1) rfl rfl rfl rfl ?_; refine jz ?_; exact ⟨rfl, rfl⟩)
  refine jjV [5] (by decide +kernel) hS5.ext (jjT (v := encSl x) rfl (fun w' q1 => ?_) (jjU ?_)); (have := q1.toStep; refine jO rfl rfl rfl rfl (jz ?_); exact ⟨rfl, rfl⟩)
  (apply jjW 6; (decide +kernel); exact rfl; (exact inferInstance))
  refine Ops.callR rfl (Enters.h (P := Tryz.prog) (g := q)) rfl (hc C[h] x _ inferInstance (hgd _ (List.getElem_mem _)) hgx) ?_
  rintro e w6 ⟨rfl, x6, -⟩
  refine ⟨_, rfl, ?_⟩
  have s6 := x6.toStep
  refine jz ?_
  have hmn := fun t (ht : t < h) => less_mono hf hC (s := x) ht hhl
  have hup := fun t (ht : t < C.length) (hht : h < t) => less_mono hf hC (s := x) hht ht
  generalize hz : cf C[h] x = z at *
  by_cases hz0 : z < 0
  · refine jjV [7] (by decide +kernel) inferInstance ?_
    (((apply jjT; exact rfl; rintro w' hq; have := hq.toStep; refine jjZ rfl rfl (by omega) (jz ?_); exact ⟨rfl, rfl⟩; refine jjU ?_)))
    refine jjX (by decide +kernel) inferInstance ?_
    (refine jjJ rfl (jjC (jI (eI rfl) (jY rfl rfl (by omega) (jJ (eI rfl) (jz ?_))))))
    refine ⟨rfl, by (((iterate 23 refine Same.upd rfl ?_); exact Same.ovN)), j - (h + 1), by omega, inferInstance, h + 1, j, congrArg (Value.int .i64) (by omega), rfl, rfl, by omega, hj, fun t h1 h2 => ?_, hhi⟩
    rcases Nat.lt_or_ge t h with c1 | c1
    · exact hmn t c1 hz0
    · obtain rfl : t = h := by omega
      rw [hz]; exact hz0
  · refine jjV [7] (by decide +kernel) inferInstance ?_
    (((apply jjT; exact rfl; rintro w' hq; have := hq.toStep; refine jja rfl rfl (by omega) (jz ?_); exact ⟨rfl, rfl⟩; refine jjU ?_)))
    refine jjX (by decide +kernel) inferInstance ?_
    (refine jjK rfl (jjC (jI (eI rfl) (jJ (eI rfl) (jz ?_)))))
    refine ⟨rfl, by (((iterate 22 refine Same.upd rfl ?_); exact Same.ovN)), h - i, by omega, inferInstance, i, h, rfl, rfl, rfl, by omega, by omega, hlo, fun t h1 h2 h3 => ?_⟩
    rcases Nat.lt_or_ge h t with c1 | c1
    · exact hz0 (hz ▸ hup t h1 c1 h3)
    · obtain rfl : t = h := by omega
      exact hz0 (hz ▸ h3)
end Go.Proofs.YtpijeomnplmakaaGreatDoor
namespace Go.Proofs.YtpijeomnplmakaaGreatDoor
open Go.RowKit

theorem flat_put {k : Nat} {x' : Value} (hx' : x'.cells.size = k) : ∀ {xs : List Value} {j : Nat}, (∀ x ∈ xs, x.cells.size = k) → j < xs.length →
    ((xs.set j x').flatMap (·.cells.toList)) = (xs.flatMap (·.cells.toList)).take (j * k) ++ x'.cells.toList ++ (xs.flatMap (·.cells.toList)).drop (j * k + k)
  | [], j, _, hj => absurd hj (Nat.not_lt_zero _)
  | y :: xs, j, hk, hj => by
    have hy : y.cells.toList.length = k := by simpa using hk y List.mem_cons_self
    cases j with
    | zero =>
      rw [List.set_cons_zero, List.flatMap_cons, List.flatMap_cons, Nat.zero_mul, List.take_zero, List.nil_append, Nat.zero_add, List.drop_append_of_le_length (by omega), List.drop_of_length_le (by omega), List.nil_append]
    | succ j =>
      have := flat_put hx' (xs := xs) (j := j) (fun z hz => hk z (List.mem_cons_of_mem _ hz)) (by simpa using hj)
      have e1 : (j + 1) * k = y.cells.toList.length + j * k := by rw [hy, Nat.add_mul]; omega
      have ht : ∀ F : List Value, (y.cells.toList ++ F).take (y.cells.toList.length + j * k) = y.cells.toList ++ F.take (j * k) := fun F => List.take_length_add_append _
      have hd : ∀ F : List Value, (y.cells.toList ++ F).drop (y.cells.toList.length + (j * k + k)) = F.drop (j * k + k) := fun F => List.drop_length_add_append _
      rw [List.set_cons_succ, List.flatMap_cons, List.flatMap_cons, this, e1, Nat.add_assoc, ht, hd]
      simp only [List.append_assoc]
section rules
variable {P : Program} {ro : Option Nat} {n : Nat} {all rest : List Oper} {K : Sl → World → Prop} {s : Sl} {w : World} {d : Nat} {ty : Nat} {pos : String} {af : Array Edge}
variable {x y : Operand}
theorem Ops.storeW {B e k g j bytes t : Nat} {agg : Bool} {v z : Value} {xs : List Value} {X' : Value} (hown : OwnL w B e agg k v xs) (hg : v.ownBlock = some g) (hj : j < xs.length) (hX' : fitsV agg k X' = true)
    (hx : ev n s x = .pointer (some ⟨g, j * k, none⟩)) (hy : ev n s y = X') (hu1 : X'.cells.toList.all (·.oneCell') = true) [hz : TS P t z k bytes]
    (h : ∀ w' o, PutO w w' g o → OwnL w' B e agg k v (xs.set j X') → Ops P ro n all rest K s w') : Ops P ro n all (⟨none, .store t x y, ty, pos, af, none⟩ :: rest) K s w := by
  have hxk : X'.cells.size = k := fitsV_cells hX'
  rcases hown.own.2 with ⟨rfl, _⟩ | ⟨g', cap, cur, rfl, hB, hh, hn, hm, hs, ht⟩
  · simp [Value.ownBlock] at hg
  · have hgg : g' = g := by simpa [Value.ownBlock] using hg
    subst hgg
    have hfl := flat_len (k := k) (xs := xs) fun y hy => fitsV_cells (hown.fit y hy)
    have hjk : j * k + k ≤ xs.length * k := by
      have : (j + 1) * k ≤ xs.length * k := Nat.mul_le_mul_right k hj
      rw [Nat.add_mul] at this; omega
    have hcl : xs.length * k ≤ cap * k := Nat.mul_le_mul_right k hn
    have hbk : Bk w g' cur.toList e := ⟨by simpa using hh⟩
    have hcs : cur.toList.length = cap * k := by simpa using hs
    have hput := flat_put (x' := X') hxk (xs := xs) (j := j) (fun y hy => fitsV_cells (hown.fit y hy)) hj
    have hfl' := flat_len (k := k) (xs := xs.set j X') fun y hy => by
      rcases List.mem_or_eq_of_mem_set hy with h1 | h1
      · exact fitsV_cells (hown.fit y h1)
      · subst h1; exact hxk
    rw [List.length_set] at hfl'
    have e0 : cur.toList = xs.flatMap (·.cells.toList) ++ cur.toList.drop (xs.length * k) := by rw [← ht, List.take_append_drop]
    refine Ops.store hx hy hxk (Nat.ble_eq_true_of_le (by omega)) hu1 ?_
    intro w' hp
    have e1 : cur.toList.take (j * k) ++ X'.cells.toList ++ cur.toList.drop (j * k + k) = (xs.set j X').flatMap (·.cells.toList) ++ cur.toList.drop (xs.length * k) := by
      rw [hput]
      conv => lhs; rw [e0]
      rw [List.take_append_of_le_length (by omega), List.drop_append_of_le_length (by omega)]
      simp only [List.append_assoc]
    rw [e1] at hp
    refine h w' _ hp ⟨⟨?_, .inr ⟨g', cap, ((xs.set j X').flatMap (·.cells.toList) ++ cur.toList.drop (xs.length * k)).toArray, by rw [List.length_set], hB, hp.new, by rw [List.length_set]; exact hn, hm, ?_, ?_⟩⟩, ?_, by rw [List.length_set]; exact hown.len⟩
    · rw [List.length_set]; exact hfl'
    · simp only [List.size_toArray, List.length_append, List.length_drop]
      omega
    · rw [List.length_set]
      show List.take (xs.length * k) (_ ++ _) = _
      rw [List.take_append_of_le_length (by omega), List.take_of_length_le (by omega)]
    · intro y hy
      rcases List.mem_or_eq_of_mem_set hy with h1 | h1
      · exact hown.fit y h1
      · subst h1; exact hX'
end rules
theorem own_addr {w : World} {B e : Nat} {agg : Bool} {k n c : Nat} {a : Option Addr} {xs : List Value} (h : OwnL w B e agg k (.slice a n c) xs) (hn : 0 < n) : ∃ g, a = some ⟨g, 0, none⟩ := by
  rcases h.own.2 with ⟨e, _⟩ | ⟨g, cap, cur, e, _⟩
  · simp only [Value.slice.injEq] at e; omega
  · simp only [Value.slice.injEq] at e; exact ⟨g, e.1⟩

theorem OwnL.cellsK {w : World} {B e k n c g : Nat} {agg : Bool} {l : List Value} (h : OwnL w B e agg k (.slice (some ⟨g, 0, none⟩) n c) l) : ∃ cs, Bk w g cs e ∧ cs.length = c * k ∧ n ≤ c ∧ c ≤ maxLen ∧ l.length = n ∧ cs.take (n * k) = l.flatMap (·.cells.toList) ∧ B ≤ g := by
  rcases h.own.2 with ⟨e0, _⟩ | ⟨g', cap, cur, e0, hB, hg, hn, hm, hs, ht⟩
  · simp at e0
  · simp only [Value.slice.injEq, Option.some.injEq, Addr.mk.injEq] at e0
    obtain ⟨⟨rfl, _⟩, rfl, rfl⟩ := e0
    exact ⟨cur.toList, ⟨by simpa using hg⟩, by simpa using hs, hn, hm, rfl, ht, hB⟩
theorem OwnL.ofCellsK {w : World} {B e k n c g : Nat} {agg : Bool} {l cs : List Value} (hB : Bk w g cs e) (hc : cs.length = c * k) (hn : n ≤ c) (hm : c ≤ maxLen) (hl : l.length = n) (ht : cs.take (n * k) = l.flatMap (·.cells.toList)) (hn' : n ≤ 140737488355328) (hg : B ≤ g) (hf : ∀ x ∈ l, fitsV agg k x = true) : OwnL w B e agg k (.slice (some ⟨g, 0, none⟩) n c) l := by
  have hfl := flat_len (k := k) (xs := l) fun y hy => fitsV_cells (hf y hy)
  refine ⟨⟨hfl, .inr ⟨g, c, cs.toArray, by rw [hl], hg, hB.h, by omega, hm, by simp [hc], ?_⟩⟩, hf, by rw [hl]; exact hn'⟩
  rw [hl]; exact ht

theorem lset_perm {L : List Slp} {i k : Nat} (hi : i < L.length) (hk : k < L.length) : ((L.set i L[k]).set k L[i]).Perm L := @List.set_set_perm _ L i k hi hk
section
variable (a : Option Addr) (c : Nat) (cs : List Ch) (wd side : Int) (ba : Option Addr) (bc : Nat) (by_ : List Int) (w : World) [hrow : RowI w (.slice a cs.length c) true 2 (cs.map encCh)] [hT : TextI w cs] [hgs : At w 1 0 sidesC] [hby : RowI w (.slice ba by_.length bc) false 1 (by_.map u32V)]
set_option maxHeartbeats 8000000 in
theorem mixed_law6 (hs : SmallT cs) (hd : 0 ≤ side ∧ side ≤ 255) (ht : textB (txF cs) = true) (hc : cutB wd side = true) (hu : U32s by_) : Ct Tryz.prog 44 [.agg #[.slice a cs.length c], encCut wd side, .slice ba by_.length bc] w fun v w' =>
    ∃ (L : List Slp) (va : Option Addr) (vc : Nat), v = .slice va (L.take 60).length vc ∧ L.Perm (allS (txF cs) side wd) ∧ OwnL w' w.heap.size 49 true 6 (.slice va (L.take 60).length vc) ((L.take 60).map encSl) := by
  refine Ct.ofW (by simp) ?_
  have F := allF (wd := wd) (side := side) ht hc
  have ha : askE (txF cs) wd side = 0 := askE_yes ht hc
  (refine jjB (jjC ?_))
  (refine jy rfl ?_; intro b3 w_b3 hb_b3 hs_b3 hS_b3 hk_b3; have hA_b3 := At.ofBlock hk_b3)
  skip
  (refine jy rfl ?_; intro b4 w_b4 hb_b4 hs_b4 hS_b4 hk_b4; have hA_b4 := At.ofBlock hk_b4)
  have z4 := hS_b4.size
  have z3 := hS_b3.size
  (refine jJ (eS rfl) (jz (jjB (jjC (jO rfl rfl rfl rfl (jO rfl rfl rfl rfl ?_))))))
  refine jjQ ((All_slip a c cs wd side _ hs hd).mono fun v _ _ h => by rw [ha, allR, if_pos ha] at h; exact h) rfl rfl ?_
  rintro _ w8 hS8 ⟨sv, rfl, hO⟩
  obtain ⟨S, hS⟩ : ∃ l, allS (txF cs) side wd = l := ⟨_, rfl⟩
  rw [hS] at hO F ⊢
  have hn6 := F.len
  have hn0 := F.pos
  obtain ⟨la, lc, rfl⟩ := hO.slice
  have hO := hO.mono (B' := w.heap.size) (by omega)
  rw [List.length_map] at hO ⊢
  obtain ⟨g, rfl⟩ := own_addr hO hn0
  have hE8 : Ext w w8 := inferInstance
  (refine jI (eU rfl) (ju rfl rfl (ju rfl rfl (jJ (eS rfl) (jJ (eI rfl) (jz ?_))))); refine jjB (jjB (jjC (jI (eS rfl) (jh rfl (jI (eI rfl) ?_))))); refine jz (jjD ?_))
  refine W.keep0 [(2, .slice ba by_.length bc), (7, .slice (some ⟨g, 0, none⟩) S.length lc), (19, .int .i64 (S.length : Int)), (20, .int .i64 ((0 : Nat) : Int))] ⟨eS rfl, eS rfl, eI rfl, eI rfl, trivial⟩ fun s0 => ?_
  refine W.loopG (21 :: 22 :: 9 :: 23 :: 24 :: 25 :: 26 :: 27 :: 28 :: 10 :: 29 :: 30 :: 31 :: 32 :: 11 :: 33 :: 34 :: 35 :: 36 :: 37 :: 38 :: 39 :: 40 :: 41 :: 42 :: 43 :: 44 :: 20 :: []) (fun g' s' V => ∃ (i : Nat) (L : List Slp), s' 20 = .int .i64 (i : Int) ∧ g' = S.length - i ∧ i ≤ S.length ∧ L.Perm S ∧ Ext w V ∧ OwnL V w.heap.size 49 true 6 (.slice (some ⟨g, 0, none⟩) S.length lc) (L.map encSl)) S.length ⟨0, S, rfl, rfl, Nat.zero_le _, .refl _, hE8, hO⟩ ?_
  rintro _ sd V ⟨i, L, h20, rfl, hi, hp, hEV, hOV⟩
  refine W.fix h20 ?_
  clear h20
  have hl := hp.length_eq
  have hgV := hOV.block g rfl
  have := hEV.toStep
  by_cases hi1 : i < S.length
  rotate_left
  · obtain ⟨m, hm⟩ : ∃ m : Nat, min (S.length : Int) 60 = (m : Int) := ⟨(min (S.length : Int) 60).toNat, by omega⟩
    have hlt : L.take 60 = L.take m := by
      rcases Nat.le_total L.length 60 with h | h
      · rw [List.take_of_length_le h, List.take_of_length_le (by omega)]
      · rw [show m = 60 by omega]
    have hlm : (L.take 60).length = m := by rw [hlt, List.length_take]; omega
    have hc0 : 0 < lc ∧ m ≤ lc := by obtain ⟨_, _, _, h1, _⟩ := hOV.cellsK; omega
    have hcut := hOV.cut (m := m) (by rw [List.length_map]; omega) hc0.1
    (refine jjB (jjC (jja rfl rfl (by omega) (jz (jjB (jjK rfl ?_))))); refine jjE (jjB (jjC (jI (eS rfl) (jI (eS rfl) (jh rfl ?_))))); refine jj rfl rfl ?_)
    rw [hm]
    refine Ops.sliceXHv (k := 6) (hi := m) rfl rfl rfl (by omega) (by omega) ?_
    (refine jJ (eS rfl) (jz (jjF ?_)); refine jB rfl rfl ⟨inferInstance, ?_⟩)
    refine ⟨L, some ⟨g, 0, none⟩, lc, by rw [hlm]; exact rfl, hp, ?_⟩
    rw [hlm, hlt, List.map_take]
    exact hcut
  have hryV : RowI V (.slice ba by_.length bc) false 1 (by_.map u32V) := inferInstance
  (refine jjB (jjC (jjZ rfl rfl (by omega) (jz (jjB (jjJ rfl ?_))))); refine jjG (jjB (jjD (jjB (jjC (jI (eI rfl) ?_))))); refine jJ (eI rfl) (jz (jjB (jjC (jI (eS rfl) (jI (eI rfl) ?_))))))
  refine jjQ (choose_law6 ba bc by_ i hu (by omega) _) rfl rfl ?_
  rintro _ w9 hS9 ⟨x, rfl, hx0, hx1⟩
  (refine jI (eI rfl) (jY rfl rfl (by omega) ?_))
  refine Ops.rem rfl rfl (by omega) (by omega) ?_
  have r1 := Int.emod_nonneg x (show (i : Int) + 1 ≠ 0 by omega)
  have r2 := Int.emod_lt_of_pos x (show 0 < (i : Int) + 1 by omega)
  generalize x % ((i : Int) + 1) = R at *
  obtain ⟨K, rfl⟩ : ∃ K : Nat, R = (K : Int) := ⟨R.toNat, by omega⟩
  have hK : K < L.length := by omega
  have hiL : i < L.length := by omega
  have hO9 := hOV.ext hS9.ext
  have gi : (L.map encSl)[i]? = some (encSl L[i]) := by rw [List.getElem?_map, List.getElem?_eq_getElem hiL]; rfl
  have gk : (L.map encSl)[K]? = some (encSl L[K]) := by rw [List.getElem?_map, List.getElem?_eq_getElem hK]; rfl
  (refine jJ (eI rfl) (jz (jjB (jjC (jI (eS rfl) (jI (eI rfl) ?_))))))
  refine jH i rfl rfl rfl (by omega) ?_
  skip
  refine Ops.loadOA (off := 0) (place_k hO9.row gi) rfl rfl rfl rfl ?_
  skip
  (apply jjR rfl; (intro _; first|exact eI rfl|exact eB rfl|exact eP rfl|exact eS rfl|exact eT rfl|exact eA rfl|exact eU rfl|exact eF rfl|exact eM rfl|exact eN rfl|exact rfl); exact rfl; exact rfl; exact rfl; exact rfl; intro b11 w_b11 hb_b11 hs_b11 hS_b11 hk_b11; have hA_b11 := Bk.of hk_b11)
  have hO11 := hO9.ext hS_b11.ext
  have hE11 : Ext w w_b11 := hEV.trans (hS9.ext.trans hS_b11.ext)
  have hne : b11 ≠ g := by have := hS9.size; omega
  have hA11 : At w_b11 b11 0 (encSl L[i]).cells.toList := Bk.toAt (h := hA_b11)
  (refine jz (jjB (jjC (jI (eS rfl) (jI (eI rfl) (jI (eS rfl) ?_))))); refine jI (eI rfl) ?_)
  refine jH K rfl rfl rfl (by omega) ?_
  skip
  refine Ops.loadOA (off := 0) (place_k hO11.row gk) rfl rfl rfl rfl ?_
  skip
  refine jH i rfl rfl rfl (by omega) ?_
  skip
  refine Ops.storeW (g := g) (j := i) (X' := encSl L[K]) hO11 rfl (by rw [List.length_map]; omega) rfl (show Value.pointer (some ⟨g, 0 + i * 6, none⟩) = Value.pointer (some ⟨g, i * 6, none⟩) from by rw [Nat.zero_add]) rfl rfl ?_
  intro w12 o12 hp12 hO12
  have hA12 : At w12 b11 0 (encSl L[i]).cells.toList := hp12.at_ hA11 hne
  (refine jz (jjC (jI (eS rfl) (jI (eI rfl) (jO rfl rfl rfl rfl ?_)))))
  refine jH K rfl rfl rfl (by omega) ?_
  skip
  refine Ops.storeW (g := g) (j := K) (X' := encSl L[i]) hO12 rfl (by rw [List.length_set, List.length_map]; omega) rfl (show Value.pointer (some ⟨g, 0 + K * 6, none⟩) = Value.pointer (some ⟨g, K * 6, none⟩) from by rw [Nat.zero_add]) rfl rfl ?_
  intro w13 o13 hp13 hO13
  rw [← List.map_set, ← List.map_set] at hO13
  (refine jz (jjC (jY rfl rfl (by omega) (jI (eI rfl) (jz ?_)))))
  exact ⟨rfl, by (((iterate 29 refine Same.upd rfl ?_); exact Same.ovN)), S.length - (i + 1), by omega, i + 1, _, congrArg (Value.int .i64) (by omega), rfl, by omega, (lset_perm hiL hK).trans hp, hp13.ext (hp12.ext hE11 hgV.1) hgV.1, hO13⟩
end

theorem cptGo_snoc {α : Type} {f : α → α → Int} : ∀ (r : List α) (p y : α), cptGo f p (r ++ [y]) = cptGo f p r ++ if f y (r.getLastD p) = 0 then [] else [y]
  | [], p, y => by
    show (if f y p = 0 then cptGo f y [] else y :: cptGo f y []) = [] ++ if f y p = 0 then [] else [y]
    rw [List.nil_append]
    rfl
  | z :: r, p, y => by
    have ih := cptGo_snoc (f := f) r z y
    rw [List.cons_append, List.getLastD_cons]
    show (if f z p = 0 then cptGo f z (r ++ [y]) else z :: cptGo f z (r ++ [y])) = (if f z p = 0 then cptGo f z r else z :: cptGo f z r) ++ _
    by_cases e : f z p = 0
    · rw [if_pos e, if_pos e, ih]
    · rw [if_neg e, if_neg e, ih, List.cons_append]
theorem cpt_step {α : Type} {f : α → α → Int} {l : List α} {i : Nat} (hi : i + 1 < l.length) : cptL f (l.take (i + 2)) = cptL f (l.take (i + 1)) ++ if f l[i + 1] l[i] = 0 then [] else [l[i + 1]] := by
  cases l with
  | nil => simp at hi
  | cons x r =>
    have hi' : i < r.length := by simpa using hi
    have e1 : (x :: r).take (i + 2) = x :: (r.take i ++ [r[i]]) := by
      rw [List.take_succ_cons, List.take_succ_eq_append_getElem hi']
    have e2 : (x :: r).take (i + 1) = x :: r.take i := List.take_succ_cons
    rw [e1, e2, cptL, cptL, cptGo_snoc, List.cons_append, List.getElem_cons_succ]
    have e3 : (r.take i).getLastD x = (x :: r)[i]'(by omega) := by
      cases i with
      | zero => rfl
      | succ i =>
        rw [List.getElem_cons_succ, List.take_succ_eq_append_getElem (by omega), List.getLastD_concat]
    rw [e3]
theorem cpt_all {α : Type} {f : α → α → Int} {l : List α} : ∀ {k : Nat}, 1 ≤ k → k ≤ l.length → (∀ t (h : t + 1 < l.length), t + 1 < k → f l[t + 1] l[t] ≠ 0) → cptL f (l.take k) = l.take k
  | 0, h, _, _ => absurd h (by omega)
  | 1, _, h1, _ => by
    cases l with
    | nil => simp at h1
    | cons x r => rfl
  | k + 2, _, h1, h => by
    have ih := cpt_all (f := f) (l := l) (k := k + 1) (by omega) (by omega) fun t h2 h3 => h t h2 (by omega)
    rw [cpt_step (by omega), ih, if_neg (h k (by omega) (by omega))]
    exact (List.take_succ_eq_append_getElem (by omega)).symm
section rules
variable {P : Program} {ro : Option Nat} {n : Nat} {all rest : List Oper} {K : Sl → World → Prop} {s : Sl} {w : World} {t e ty : Nat} {pos : String} {af : Array Edge} {x : Operand} {g o l c bytes k : Nat} {cs : List Value} {z : Value}
/-- Clear within a block that is known whole: what lies there then is told by its length alone. -/
theorem Ops.clearK (hB : Bk w g cs e) (hx : ev n s x = .slice (some ⟨g, o, none⟩) l c) (hl0 : 0 < l) (hfit : o + l * k ≤ cs.length) [ht : TSl P t e] [hz : TS P e z k bytes] (hzz : z.cells.size = k) (hk : Nat.blt 0 k = true) (h1 : z.cells.toList.all (·.oneCell') = true)
    (h : ∀ (w' : World) (Z : List Value), Z.length = l * k → (∀ v ∈ Z, v.oneCell' = true) → PutO w w' g (.cells (cs.take o ++ Z ++ cs.drop (o + l * k)).toArray e (0, 0)) → Ops P ro n all rest K s w') :
    Ops P ro n all (⟨none, .call { callee := .builtin .clear, args := #[x], argTypes := #[t] }, ty, pos, af, none⟩ :: rest) K s w := by
  obtain ⟨inf, hi1, hiz, his, _⟩ := hz.info
  have hzv : (zeroValue e).run P w = .ok z w := by simp [zeroValue, typeInfo, hi1, hiz]
  have hk0 : 0 < k := by simpa using hk
  obtain ⟨Z, hZ⟩ : ∃ Z, (Builtin.zeroCells z.cells l).toList = Z := ⟨_, rfl⟩
  have hZl : Z.length = l * k := by rw [← hZ]; simp [Builtin.zeroCells, hzz]
  have hZ1 : ∀ v ∈ Z, v.oneCell' = true := by
    intro v hv
    rw [← hZ] at hv
    simp only [Builtin.zeroCells, Array.toList_map, List.mem_map] at hv
    obtain ⟨i, _, rfl⟩ := hv
    have hi : i % z.cells.size < z.cells.size := Nat.mod_lt _ (by omega)
    rw [getElem!_pos z.cells _ hi]
    exact List.all_eq_true.1 h1 _ (by simp)
  have hst := run_storeCells_at P g o e Z 0 cs.toArray w hB.h (by simpa [hZl] using hfit) hZ1
  simp only [Nat.add_zero, hZl] at hst
  have hr : (Builtin.clear_ #[t] ty #[.slice (some ⟨g, o, none⟩) l c]).run P w = .ok (.tuple #[]) (w.setRow g (cs.take o ++ Z ++ cs.drop (o + l * k)).toArray) := by
    obtain ⟨m, rfl⟩ : ∃ m, l = m + 1 := ⟨l - 1, by omega⟩
    simp [Builtin.clear_, run_underlying ht.h, hzv, hZ, hst]
  exact Ops.step rfl (OpW.ofRun (v := .tuple #[]) (w' := w.setRow g (cs.take o ++ Z ++ cs.drop (o + l * k)).toArray) rfl (by simp [execOp, resolve, invoke, builtin, hx, hr]) (h _ Z hZl hZ1 (putO_setRow hB)))
end rules
end Go.Proofs.YtpijeomnplmakaaGreatDoor

/- rack: two slips that rank alike; slices.CompactFunc at slips. -/
namespace Go.Proofs.YtpijeomnplmakaaGreatDoor
open Go.RowKit Go.Sort

theorem same_slip (q : Nat) [he : Enters Tryz.prog q] (cf : Slp → Slp → Int) (hc : CmpQ q cf)
    (x y : Slp) (hx : GdS x) (hy : GdS y) (b : Nat) (w : World) [hmx : MxI w] [hA : At w b 0 [.func (.func q) #[] #[]]] : Ct Tryz.prog 67 [encSl x, encSl y, .pointer (some ⟨b, 0, none⟩)] w fun v _ => v = .bool (decide (cf x y = 0)) := by
  refine Ct.ofW (by simp) ?_
  (refine jjB (jjC ?_))
  (refine jy rfl ?_; intro b3 w_b3 hb_b3 hs_b3 hS_b3 hk_b3; have hA_b3 := At.ofBlock hk_b3)
  (refine jy rfl ?_; intro b4 w_b4 hb_b4 hs_b4 hS_b4 hk_b4; have hA_b4 := At.ofBlock hk_b4)
  (refine jJ (eB rfl) (jz (jjB (jjC (jN rfl rfl rfl (jO rfl rfl rfl rfl ?_))))); refine jO rfl rfl rfl rfl ?_)
  refine Ops.callR rfl (Enters.h (P := Tryz.prog) (g := q)) rfl (hc x y _ inferInstance hx hy) ?_
  rintro e w6 ⟨rfl, x6, -⟩
  refine ⟨_, rfl, ?_⟩
  have s6 := x6.toStep
  (refine jb rfl rfl (jJ (eB rfl) (jz (jjF ?_))); refine jB rfl rfl ⟨inferInstance, ?_⟩)
  exact rfl
end Go.Proofs.YtpijeomnplmakaaGreatDoor

/- slices.CompactFunc at slips: writes in the caller's slice. -/
namespace Go.Proofs.YtpijeomnplmakaaGreatDoor
open Go.RowKit Go.Sort

section
variable (q : Nat) [he : Enters Tryz.prog q] (cf : Slp → Slp → Int) (hc : CmpQ q cf)
include hc in
set_option maxHeartbeats 4000000 in
theorem Compact_slip (bk g n c : Nat) (l : List Slp) (hg : ∀ x ∈ l, GdS x) (w : World) (hA : At w bk 0 [.func (.func q) #[] #[]]) (hne : bk ≠ g) (hbk : bk < w.heap.size) {B : Nat} (hO : OwnL w B 49 true 6 (.slice (some ⟨g, 0, none⟩) n c) (l.map encSl)) (hn : n ≤ 1000000) (hmx : ∀ V, Only g w V → MxI V) :
    Calls Tryz.prog 66 [.slice (some ⟨g, 0, none⟩) n c, .func (.func 67) #[] #[.pointer (some ⟨bk, 0, none⟩)]].toArray w fun e w' => e = .returned (.slice (some ⟨g, 0, none⟩) (cptL cf l).length c) ∧ Only g w w' ∧ OwnL w' B 49 true 6 (.slice (some ⟨g, 0, none⟩) (cptL cf l).length c) ((cptL cf l).map encSl) := by
  have hln : l.length = n := by obtain ⟨cs, _, _, _, _, h, _⟩ := hO.cellsK; rw [List.length_map] at h; exact h
  subst hln
  refine Calls.ofW (by simp) ?_
  by_cases h2 : l.length < 2
  · have e : cptL cf l = l := by
      match l, h2 with
      | [], _ => rfl
      | [x], _ => rfl
      | x :: y :: r, h => simp at h; omega
    rw [e]
    (refine jjB (jjC (jJ (eS rfl) (jz (jjB (jjB ?_))))); refine jjC (jI (eS rfl) (jh rfl (jjZ rfl rfl (by omega) (jz (jjJ rfl ?_))))); refine jjB (jjC (jI (eS rfl) (jJ (eS rfl) (jz (jjF ?_))))))
    exact jB rfl rfl ⟨rfl, .ofExt (Ext.refl w), hO⟩
  (refine jjB (jjC (jJ (eS rfl) (jz (jjB (jjB ?_))))); refine jjC (jI (eS rfl) (jh rfl (jja rfl rfl (by omega) (jz (jjK rfl ?_))))); refine jjG (jjB (jjB (jjC (jJ (eI rfl) (jz ?_))))); refine jjD ?_)
  refine W.keep0 [(0, .slice (some ⟨g, 0, none⟩) l.length c), (1, .func (.func 67) #[] #[.pointer (some ⟨bk, 0, none⟩)]), (5, .int .i64 ((1 : Nat) : Int))] ⟨eS rfl, rfl, eI rfl, trivial⟩ fun s0 => ?_
  refine W.loopG (12 :: 13 :: 14 :: 15 :: 18 :: 19 :: 20 :: 21 :: 22 :: 23 :: 24 :: 25 :: 26 :: 27 :: 28 :: 29 :: 30 :: 31 :: 6 :: 7 :: 32 :: 33 :: 34 :: 35 :: 38 :: 39 :: 40 :: 41 :: 42 :: 43 :: 44 :: 45 :: 46 :: 47 :: 48 :: 49 :: 50 :: 51 :: 52 :: 53 :: 54 :: 55 :: 56 :: 57 :: 58 :: 5 :: 36 :: 37 :: 59 :: 60 :: 61 :: 62 :: 63 :: 64 :: 4 :: 16 :: 17 :: []) (fun g' s' V => ∃ k : Nat, s' 5 = .int .i64 (k : Int) ∧ g' = l.length - k ∧ 1 ≤ k ∧ k ≤ l.length ∧ (∀ t (h : t + 1 < l.length), t + 1 < k → cf l[t + 1] l[t] ≠ 0) ∧ Only g w V ∧ OwnL V B 49 true 6 (.slice (some ⟨g, 0, none⟩) l.length c) (l.map encSl)) (l.length - 1) ⟨1, rfl, by omega, by omega, by omega, fun t h h' => by omega, .ofExt (Ext.refl w), hO⟩ ?_
  rintro _ sd V ⟨k, h5, rfl, hk1, hk2, hdf, hOn, hOV⟩
  refine W.fix (d := 5) h5 ?_
  clear h5
  by_cases hk3 : k < l.length
  rotate_left
  · obtain rfl : k = l.length := by omega
    have e : cptL cf l = l := by
      have := cpt_all (f := cf) (l := l) (k := l.length) (by omega) (Nat.le_refl _) hdf
      rwa [List.take_length] at this
    rw [e]
    (refine jjB (jjB (jjC (jI (eI rfl) (jI (eS rfl) (jh rfl ?_))))); refine jja rfl rfl (by omega) (jz (jjK rfl (jjE (jjB (jjC ?_))))); refine jI (eS rfl) (jJ (eS rfl) (jz (jjF ?_))))
    exact jB rfl rfl ⟨rfl, hOn, hOV⟩
  obtain ⟨i, rfl⟩ : ∃ i, k = i + 1 := ⟨k - 1, by omega⟩
  have hi1 : i + 1 < l.length := by omega
  have hmV := hmx V hOn
  have hAb : At V bk 0 [.func (.func q) #[] #[]] := hOn.at_ hA hne
  have hR : RowV V true 6 (.slice (some ⟨g, 0, none⟩) l.length c) (l.map encSl) := hOV.row
  have hA1 : At V g (0 + (i + 1) * 6) (encSl l[i + 1]).cells.toList := place_k hR (by rw [List.getElem?_map, List.getElem?_eq_getElem hi1]; rfl)
  have hA0 : At V g (0 + i * 6) (encSl l[i]).cells.toList := place_k hR (by rw [List.getElem?_map, List.getElem?_eq_getElem (by omega)]; rfl)
  (refine jjB (jjB (jjC (jI (eI rfl) (jI (eS rfl) (jh rfl ?_))))); refine jjZ rfl rfl (by omega) (jz (jjJ rfl (jjG (jjB (jjD ?_))))); refine jjB ?_)
  refine W.draw (fun w' => Ext V w') ?_
  intro w5 hS5
  refine jjV [0, 1, 2] (by decide +kernel) hS5.ext ?_
  (((apply jjT; exact rfl; rintro w' hq; have := hq.toStep; refine jI (eF rfl) (jz ?_); exact ⟨rfl, rfl⟩; apply jjT; exact rfl; rintro w' hq; have := hq.toStep; refine jI (eS rfl) (jz ?_); exact ⟨rfl, rfl⟩; apply jjT; exact rfl; rintro w' hq; have := hq.toStep; refine jI (eI rfl) (jz ?_); exact ⟨rfl, rfl⟩; refine jjU ?_)))
  refine jjV [3] (by decide +kernel) hS5.ext (jjT (v := .pointer (some ⟨g, 0 + (i + 1) * 6, none⟩)) rfl (fun w' q1 => ?_) (jjU ?_)); (refine jH (i + 1) rfl rfl rfl (by omega) ?_; refine jz ?_; exact ⟨rfl, rfl⟩)
  refine jjV [4] (by decide +kernel) hS5.ext (jjT (v := encSl l[i + 1]) rfl (fun w' q1 => ?_) (jjU ?_)); (refine Ops.loadOA (off := 0) (hA1.ext q1) rfl rfl rfl rfl ?_; refine jz ?_; exact ⟨rfl, rfl⟩)
  refine jjV [5, 6, 7] (by decide +kernel) hS5.ext ?_
  (((apply jjT; exact rfl; rintro w' hq; have := hq.toStep; refine jI (eS rfl) (jz ?_); exact ⟨rfl, rfl⟩; apply jjT; exact rfl; rintro w' hq; have := hq.toStep; refine jI (eI rfl) (jz ?_); exact ⟨rfl, rfl⟩; apply jjT; exact rfl; rintro w' hq; have := hq.toStep; refine jZ rfl rfl (by omega) (jz ?_); exact ⟨rfl, rfl⟩; refine jjU ?_)))
  refine jjV [8] (by decide +kernel) hS5.ext (jjT (v := .pointer (some ⟨g, 0 + i * 6, none⟩)) rfl (fun w' q1 => ?_) (jjU ?_)); (refine jH i rfl rfl (by omega) (by omega) ?_; refine jz ?_; exact ⟨rfl, rfl⟩)
  refine jjV [9] (by decide +kernel) hS5.ext (jjT (v := encSl (l[i]'(by omega))) rfl (fun w' q1 => ?_) (jjU ?_)); (refine Ops.loadOA (off := 0) (hA0.ext q1) rfl rfl rfl rfl ?_; refine jz ?_; exact ⟨rfl, rfl⟩)
  (apply jjW 10; (decide +kernel); exact rfl; (exact inferInstance))
  refine jjQ (same_slip q cf hc l[i + 1] l[i] (hg _ (List.getElem_mem _)) (hg _ (List.getElem_mem _)) bk _) rfl rfl ?_
  rintro _ w6 hS6 rfl
  refine jz ?_
  refine jjX (by decide +kernel) inferInstance ?_
  have hO6 := (hOV.ext hS5.ext).ext hS6.ext
  have hOn6 : Only g w w6 := hOn.trans (.ofExt inferInstance)
  by_cases hz : cf l[i + 1] l[i] = 0
  rotate_left
  · rw [decide_eq_false hz]
    (refine jjK rfl (jjG (jjC (jI (eI rfl) (jY rfl rfl (by omega) (jJ (eI rfl) ?_))))); refine jz ?_)
    refine ⟨rfl, by (((iterate 19 refine Same.upd rfl ?_); exact Same.ovN)), l.length - (i + 2), by omega, i + 2, congrArg (Value.int .i64) (by omega), rfl, by omega, by omega, fun t h h' => ?_, hOn6, hO6⟩
    rcases Nat.lt_or_ge t i with c1 | c1
    · exact hdf t h (by omega)
    · obtain rfl : t = i := by omega
      exact hz
  rw [decide_eq_true hz]
  obtain ⟨hlc, hcm⟩ : l.length ≤ c ∧ c ≤ maxLen := by obtain ⟨cs, _, _, h1, h2, _⟩ := hOV.cellsK; exact ⟨h1, h2⟩
  have hcut : cutV (some ⟨g, 0, none⟩) c 6 (i + 1) l.length = .slice (some ⟨g, 0 + (i + 1) * 6, none⟩) (l.length - (i + 1)) (c - (i + 1)) := by
    show Value.slice (if c = i + 1 then _ else _) _ _ = _
    rw [if_neg (by omega)]; rfl
  (refine jjJ rfl (jjB (jjC (jI (eS rfl) (jI (eI rfl) ?_)))))
  refine Ops.sliceXLv (k := 6) (lo := i + 1) rfl rfl rfl (by omega) ?_
  rw [hcut]
  (refine jJ (eS rfl) (jz (jjB (jjB (jjC (jJ (eI rfl) ?_))))); refine jz (jjD ?_))
  have hP0 : cptL cf (l.take (i + 2)) = l.take (i + 1) := by
    rw [cpt_step hi1, if_pos hz, List.append_nil]
    exact cpt_all (by omega) (by omega) hdf
  refine W.keep [(0, .slice (some ⟨g, 0, none⟩) l.length c), (1, .func (.func 67) #[] #[.pointer (some ⟨bk, 0, none⟩)]), (5, .int .i64 ((i + 1 : Nat) : Int)), (6, .slice (some ⟨g, 0 + (i + 1) * 6, none⟩) (l.length - (i + 1)) (c - (i + 1))), (7, .int .i64 ((1 : Nat) : Int))] (D := (12 :: 13 :: 14 :: 15 :: 18 :: 19 :: 20 :: 21 :: 22 :: 23 :: 24 :: 25 :: 26 :: 27 :: 28 :: 29 :: 30 :: 31 :: 6 :: 7 :: 32 :: 33 :: 34 :: 35 :: 38 :: 39 :: 40 :: 41 :: 42 :: 43 :: 44 :: 45 :: 46 :: 47 :: 48 :: 49 :: 50 :: 51 :: 52 :: 53 :: 54 :: 55 :: 56 :: 57 :: 58 :: 5 :: 36 :: 37 :: 59 :: 60 :: 61 :: 62 :: 63 :: 64 :: 4 :: 16 :: 17 :: [])) (sO := upds s0 _) (by (((iterate 21 refine Same.upd rfl ?_); exact Same.ovN))) ⟨eS rfl, rfl, eI rfl, eS rfl, eI rfl, trivial⟩ fun s1 hs1' => ?_
  refine W.loopG (32 :: 33 :: 34 :: 35 :: 38 :: 39 :: 40 :: 41 :: 42 :: 43 :: 44 :: 45 :: 46 :: 47 :: 48 :: 49 :: 50 :: 51 :: 52 :: 53 :: 54 :: 55 :: 56 :: 57 :: 58 :: 5 :: 36 :: 37 :: 7 :: []) (fun g' s' V => ∃ (k2 kk : Nat) (P : List Slp), s' 7 = .int .i64 (k2 : Int) ∧ s' 5 = .int .i64 (kk : Int) ∧ g' = l.length - (i + 1) - k2 ∧ 1 ≤ k2 ∧ i + 1 + k2 ≤ l.length ∧ P = cptL cf (l.take (i + k2 + 1)) ∧ P.length = kk ∧ kk ≤ i + k2 ∧ 1 ≤ kk ∧ Only g w V ∧ OwnL V B 49 true 6 (.slice (some ⟨g, 0, none⟩) l.length c) ((P ++ l.drop kk).map encSl)) (l.length - (i + 1) - 1) ⟨1, i + 1, l.take (i + 1), rfl, rfl, rfl, by omega, by omega, hP0.symm, by rw [List.length_take]; omega, by omega, by omega, hOn6, by rw [List.take_append_drop]; exact hO6⟩ ?_
  rintro _ sd2 V2 ⟨k2, kk, P, h7, h5, rfl, hk21, hk22, hP, hPl, hkk, hkk1, hOn2, hO2⟩
  refine W.fix (d := 7) h7 (W.fix (d := 5) h5 ?_)
  clear h7 h5
  by_cases hk23 : k2 < l.length - (i + 1)
  rotate_left
  · have hPe : P = cptL cf l := by rw [hP, List.take_of_length_le (by omega)]
    subst hPe
    subst hPl
    obtain ⟨cs, hB, hcl, _, _, _, htk, hBg⟩ := hO2.cellsK
    have hkc : (cptL cf l).length * 6 ≤ cs.length := by rw [hcl]; omega
    have hcutk : cutV (some ⟨g, 0, none⟩) c 6 (cptL cf l).length l.length = .slice (some ⟨g, 0 + (cptL cf l).length * 6, none⟩) (l.length - (cptL cf l).length) (c - (cptL cf l).length) := by
      show Value.slice (if c = (cptL cf l).length then _ else _) _ _ = _
      rw [if_neg (by omega)]
      simp [Addr.add]
      omega
    have hflat : cs.take ((cptL cf l).length * 6) = ((cptL cf l).map encSl).flatMap (·.cells.toList) := by
      have h1 : cs.take ((cptL cf l).length * 6) = (cs.take (l.length * 6)).take ((cptL cf l).length * 6) := by rw [List.take_take, Nat.min_eq_left (by omega)]
      have hl := flat_len (k := 6) (xs := (cptL cf l).map encSl) fun x hx => by obtain ⟨y, _, rfl⟩ := List.mem_map.1 hx; rfl
      rw [List.length_map] at hl
      rw [h1, htk, List.map_append, List.flatMap_append, List.take_append_of_le_length (by omega), List.take_of_length_le (by omega)]
    (refine jjB (jjB (jjC (jI (eI rfl) (jI (eS rfl) (jh rfl ?_))))); refine jja rfl rfl (by omega) (jz (jjK rfl (jjE (jjB (jjC ?_))))); refine jI (eS rfl) (jI (eI rfl) ?_))
    refine Ops.sliceXLv (k := 6) (lo := (cptL cf l).length) rfl rfl rfl (by omega) ?_
    rw [hcutk]
    skip
    refine Ops.clearK (k := 6) hB rfl (by omega) (by rw [hcl]; omega) rfl rfl rfl ?_
    intro w9 Z hZ hZ1 hp9
    have hOn9 : Only g w w9 := hOn2.trans (.ofPut hp9)
    have hO9 : OwnL w9 B 49 true 6 (.slice (some ⟨g, 0, none⟩) (cptL cf l).length c) ((cptL cf l).map encSl) := by
      refine OwnL.ofCellsK (cs := cs.take (0 + (cptL cf l).length * 6) ++ Z ++ cs.drop (0 + (cptL cf l).length * 6 + (l.length - (cptL cf l).length) * 6)) ⟨hp9.new⟩ ?_ (by omega) hcm (by rw [List.length_map]) ?_ (by omega) hBg fun x hx => by obtain ⟨y, _, rfl⟩ := List.mem_map.1 hx; rfl
      · rw [List.length_append, List.length_append, List.length_take, List.length_drop, hZ, hcl]; omega
      · rw [List.append_assoc, List.take_append_of_le_length (by rw [List.length_take]; omega), List.take_take, Nat.zero_add, Nat.min_self]
        exact hflat
    (refine jz (jjB (jjC (jI (eS rfl) (jI (eI rfl) ?_)))))
    refine Ops.sliceXHv (k := 6) (hi := (cptL cf l).length) rfl rfl rfl (by omega) (by omega) ?_
    (refine jJ (eS rfl) (jz (jjF ?_)))
    exact jB rfl rfl ⟨rfl, hOn9, hO9⟩
  obtain ⟨m, hm⟩ : ∃ m, i + k2 = m := ⟨_, rfl⟩
  have hm1 : m + 1 < l.length := by omega
  have hXl : (P ++ l.drop kk).length = l.length := by rw [List.length_append, List.length_drop]; omega
  have hX : ∀ t (h : t < l.length), kk ≤ t → ((P ++ l.drop kk).map encSl)[t]? = some (encSl l[t]) := fun t h h' => by
    rw [List.getElem?_map, List.getElem?_append_right (by omega), List.getElem?_drop, show kk + (t - P.length) = t by omega, List.getElem?_eq_getElem h]; rfl
  have hmV2 := hmx V2 hOn2
  have hAb2 : At V2 bk 0 [.func (.func q) #[] #[]] := hOn2.at_ hA hne
  have hA1' : At V2 g (0 + (i + 1) * 6 + k2 * 6) (encSl l[m + 1]).cells.toList := by
    have := place_k hO2.row (hX (m + 1) hm1 (by omega))
    rwa [show 0 + (m + 1) * 6 = 0 + (i + 1) * 6 + k2 * 6 by omega] at this
  have hA0' : At V2 g (0 + (i + 1) * 6 + (k2 - 1) * 6) (encSl l[m]).cells.toList := by
    have := place_k hO2.row (hX m (by omega) (by omega))
    rwa [show 0 + m * 6 = 0 + (i + 1) * 6 + (k2 - 1) * 6 by omega] at this
  have hst := cpt_step (f := cf) hm1
  (refine jjB (jjB (jjC (jI (eI rfl) (jI (eS rfl) (jh rfl ?_))))); refine jjZ rfl rfl (by omega) (jz (jjJ rfl (jjG (jjB (jjD ?_))))); refine jjB ?_)
  refine W.draw (fun w' => Ext V2 w') ?_
  intro w7 hS7
  refine jjV [0, 1, 2] (by decide +kernel) hS7.ext ?_
  (((apply jjT; exact rfl; rintro w' hq; have := hq.toStep; refine jI (eF rfl) (jz ?_); exact ⟨rfl, rfl⟩; apply jjT; exact rfl; rintro w' hq; have := hq.toStep; refine jI (eS rfl) (jz ?_); exact ⟨rfl, rfl⟩; apply jjT; exact rfl; rintro w' hq; have := hq.toStep; refine jI (eI rfl) (jz ?_); exact ⟨rfl, rfl⟩; refine jjU ?_)))
  refine jjV [3] (by decide +kernel) hS7.ext (jjT (v := .pointer (some ⟨g, 0 + (i + 1) * 6 + k2 * 6, none⟩)) rfl (fun w' q1 => ?_) (jjU ?_)); (refine jH k2 rfl rfl rfl (by omega) ?_; refine jz ?_; exact ⟨rfl, rfl⟩)
  refine jjV [4] (by decide +kernel) hS7.ext (jjT (v := encSl l[m + 1]) rfl (fun w' q1 => ?_) (jjU ?_)); (refine Ops.loadOA (off := 0) (hA1'.ext q1) rfl rfl rfl rfl ?_; refine jz ?_; exact ⟨rfl, rfl⟩)
  refine jjV [5, 6, 7] (by decide +kernel) hS7.ext ?_
  (((apply jjT; exact rfl; rintro w' hq; have := hq.toStep; refine jI (eS rfl) (jz ?_); exact ⟨rfl, rfl⟩; apply jjT; exact rfl; rintro w' hq; have := hq.toStep; refine jI (eI rfl) (jz ?_); exact ⟨rfl, rfl⟩; apply jjT; exact rfl; rintro w' hq; have := hq.toStep; refine jZ rfl rfl (by omega) (jz ?_); exact ⟨rfl, rfl⟩; refine jjU ?_)))
  refine jjV [8] (by decide +kernel) hS7.ext (jjT (v := .pointer (some ⟨g, 0 + (i + 1) * 6 + (k2 - 1) * 6, none⟩)) rfl (fun w' q1 => ?_) (jjU ?_)); (refine jH (k2 - 1) rfl rfl (by omega) (by omega) ?_; refine jz ?_; exact ⟨rfl, rfl⟩)
  refine jjV [9] (by decide +kernel) hS7.ext (jjT (v := encSl (l[m]'(by omega))) rfl (fun w' q1 => ?_) (jjU ?_)); (refine Ops.loadOA (off := 0) (hA0'.ext q1) rfl rfl rfl rfl ?_; refine jz ?_; exact ⟨rfl, rfl⟩)
  (apply jjW 10; (decide +kernel); exact rfl; (exact inferInstance))
  refine jjQ (same_slip q cf hc l[m + 1] l[m] (hg _ (List.getElem_mem _)) (hg _ (List.getElem_mem _)) bk _) rfl rfl ?_
  rintro _ w8 hS8 rfl
  refine jz ?_
  have hO8 := (hO2.ext hS7.ext).ext hS8.ext
  have hOn8 : Only g w w8 := hOn2.trans (.ofExt inferInstance)
  by_cases hz2 : cf l[m + 1] l[m] = 0
  · rw [if_pos hz2, List.append_nil] at hst
    rw [decide_eq_true hz2]
    refine jjV [11] (by decide +kernel) inferInstance ?_
    (((apply jjT; exact rfl; rintro w' hq; have := hq.toStep; refine jp rfl (jz ?_); exact ⟨rfl, rfl⟩; refine jjU ?_)))
    refine jjX (by decide +kernel) inferInstance ?_
    (refine jjK rfl (jjG (jjC (jI (eI rfl) (jY rfl rfl (by omega) (jJ (eI rfl) ?_))))); refine jz ?_)
    exact ⟨rfl, by (((iterate 21 refine Same.upd rfl ?_); exact Same.ovN)), l.length - (i + 1) - (k2 + 1), by omega, k2 + 1, kk, P, congrArg (Value.int .i64) (by omega), rfl, rfl, by omega, by omega, by rw [hP, show i + (k2 + 1) + 1 = m + 2 by omega, hst, hm], hPl, by omega, hkk1, hOn8, hO8⟩
  rw [if_neg hz2] at hst
  rw [decide_eq_false hz2]
  refine jjV [11] (by decide +kernel) inferInstance ?_
  (((apply jjT; exact rfl; rintro w' hq; have := hq.toStep; refine jq rfl (jz ?_); exact ⟨rfl, rfl⟩; refine jjU ?_)))
  refine jjX (by decide +kernel) inferInstance ?_
  (refine jjJ rfl (jjB (jjC (jI (eS rfl) (jI (eI rfl) (jI (eS rfl) ?_))))); refine jI (eI rfl) ?_)
  refine jH k2 rfl rfl rfl (by omega) ?_
  refine Ops.loadOA (off := 0) ((hA1'.ext hS7.ext).ext hS8.ext) rfl rfl rfl rfl ?_
  refine jH kk rfl rfl rfl (by omega) ?_
  refine Ops.storeW (g := g) (j := kk) (X' := encSl l[m + 1]) hO8 rfl (by rw [List.length_map]; omega) rfl (show Value.pointer (some ⟨g, 0 + kk * 6, none⟩) = Value.pointer (some ⟨g, kk * 6, none⟩) from by rw [Nat.zero_add]) rfl rfl ?_
  intro w9 o9 hp9 hO9
  have hset : (P ++ l.drop kk).set kk l[m + 1] = (P ++ [l[m + 1]]) ++ l.drop (kk + 1) := by
    rw [List.drop_eq_getElem_cons (show kk < l.length by omega), List.set_append, if_neg (by omega), hPl, Nat.sub_self, List.set_cons_zero, List.append_assoc]
    rfl
  rw [← List.map_set, hset] at hO9
  have hOn9 : Only g w w9 := hOn8.trans (.ofPut hp9)
  (refine jz (jjC (jI (eI rfl) (jY rfl rfl (by omega) (jJ (eI rfl) (jz ?_))))); refine jjC (jI (eI rfl) (jY rfl rfl (by omega) (jJ (eI rfl) (jz ?_)))))
  exact ⟨rfl, by (((iterate 31 refine Same.upd rfl ?_); exact Same.ovN)), l.length - (i + 1) - (k2 + 1), by omega, k2 + 1, kk + 1, P ++ [l[m + 1]], congrArg (Value.int .i64) (by omega), congrArg (Value.int .i64) (by omega), rfl, by omega, by omega, by rw [hP, show i + (k2 + 1) + 1 = m + 2 by omega, hst, hm], by rw [List.length_append, hPl]; rfl, by omega, by omega, hOn9, hO9⟩
end
end Go.Proofs.YtpijeomnplmakaaGreatDoor

/- slices.SortFunc of slips: the contract of the library's shelf at this program. -/
namespace Go.Proofs.YtpijeomnplmakaaGreatDoor
open Go.Shelf Go.RowKit Go.Lib Go.Sort
def sh_laysSlF06_f65_ren : Go.Shelf.Ren := ⟨fun | 6 => 65 | 15 => 99 | 14 => 98 | 28 => 136 | 29 => 137 | 20 => 128 | 21 => 129 | 22 => 130 | 23 => 131 | 24 => 132 | 25 => 133 | 26 => 134 | 27 => 135 | 46 => 155 | 47 => 156 | 48 => 157 | 49 => 158 | 50 => 159 | 57 => 170 | n => n, fun | 22 => 44 | 24 => 49 | 25 => 114 | 3 => 3 | 39 => 158 | 0 => 0 | 53 => 129 | 55 => 192 | 4 => 4 | 46 => 185 | 45 => 184 | 50 => 71 | 5 => 5 | 9 => 9 | 66 => 205 | 70 => 209 | 76 => 225 | 77 => 102 | n => n, fun | n => n⟩

theorem sh_laysSlF06_f65 : Go.Proofs.SlLaysF0.n6 Tryz.prog sh_laysSlF06_f65_ren := {
  mixed := by kernel_rfl
  f6 := ⟨Tryz.f65.name, by decide, Tryz.func65.trans (congrArg some (by kernel_rfl))⟩
  f14 := ⟨Tryz.f98.name, by decide, Tryz.func98.trans (congrArg some (by kernel_rfl))⟩
  f15 := Tryz.func99.trans (congrArg some (by kernel_rfl))
  f20 := ⟨Tryz.f128.name, by decide, Tryz.func128.trans (congrArg some (by kernel_rfl))⟩
  f21 := ⟨Tryz.f129.name, by decide, Tryz.func129.trans (congrArg some (by kernel_rfl))⟩
  f22 := ⟨Tryz.f130.name, by decide, Tryz.func130.trans (congrArg some (by kernel_rfl))⟩
  f23 := ⟨Tryz.f131.name, by decide, Tryz.func131.trans (congrArg some (by kernel_rfl))⟩
  f24 := ⟨Tryz.f132.name, by decide, Tryz.func132.trans (congrArg some (by kernel_rfl))⟩
  f25 := ⟨Tryz.f133.name, by decide, Tryz.func133.trans (congrArg some (by kernel_rfl))⟩
  f26 := ⟨Tryz.f134.name, by decide, Tryz.func134.trans (congrArg some (by kernel_rfl))⟩
  f27 := ⟨Tryz.f135.name, by decide, Tryz.func135.trans (congrArg some (by kernel_rfl))⟩
  f28 := Tryz.func136.trans (congrArg some (by kernel_rfl))
  f29 := Tryz.func137.trans (congrArg some (by kernel_rfl))
  f46 := ⟨Tryz.f155.name, by decide, Tryz.func155.trans (congrArg some (by kernel_rfl))⟩
  f47 := Tryz.func156.trans (congrArg some (by kernel_rfl))
  f48 := Tryz.func157.trans (congrArg some (by kernel_rfl))
  f49 := ⟨Tryz.f158.name, by decide, Tryz.func158.trans (congrArg some (by kernel_rfl))⟩
  f50 := ⟨Tryz.f159.name, by decide, Tryz.func159.trans (congrArg some (by kernel_rfl))⟩
  f57 := ⟨Tryz.f170.name, by decide, Tryz.func170.trans (congrArg some (by kernel_rfl))⟩
  t0 := Tryz.underlying0
  a0 := Tryz.isAgg0
  z0 := Tryz.sizeOf0
  v0 := Tryz.zeroValue0
  t3 := Tryz.underlying3
  a3 := Tryz.isAgg3
  z3 := Tryz.sizeOf3
  v3 := Tryz.zeroValue3
  t4 := Tryz.underlying4
  a4 := Tryz.isAgg4
  z4 := Tryz.sizeOf4
  v4 := Tryz.zeroValue4
  t5 := Tryz.underlying5
  a5 := Tryz.isAgg5
  z5 := Tryz.sizeOf5
  v5 := Tryz.zeroValue5
  t9 := Tryz.underlying9
  a9 := Tryz.isAgg9
  z9 := Tryz.sizeOf9
  v9 := Tryz.zeroValue9
  t22 := Tryz.underlying44
  a22 := Tryz.isAgg44
  z22 := Tryz.sizeOf44
  v22 := Tryz.zeroValue44
  t25 := Tryz.underlying114
  a25 := Tryz.isAgg114
  z25 := Tryz.sizeOf114
  v25 := Tryz.zeroValue114
  t39 := Tryz.underlying158
  a39 := Tryz.isAgg158
  z39 := Tryz.sizeOf158
  v39 := Tryz.zeroValue158
  t45 := Tryz.underlying184
  a45 := Tryz.isAgg184
  z45 := Tryz.sizeOf184
  v45 := Tryz.zeroValue184
  t46 := Tryz.underlying185
  a46 := Tryz.isAgg185
  z46 := Tryz.sizeOf185
  v46 := Tryz.zeroValue185
  t50 := Tryz.underlying71
  a50 := Tryz.isAgg71
  z50 := Tryz.sizeOf71
  v50 := Tryz.zeroValue71
  t53 := Tryz.underlying129
  a53 := Tryz.isAgg129
  z53 := Tryz.sizeOf129
  v53 := Tryz.zeroValue129
  t55 := Tryz.underlying192
  a55 := Tryz.isAgg192
  z55 := Tryz.sizeOf192
  v55 := Tryz.zeroValue192
  t66 := Tryz.underlying205
  a66 := Tryz.isAgg205
  z66 := Tryz.sizeOf205
  v66 := Tryz.zeroValue205
  t70 := Tryz.underlying209
  a70 := Tryz.isAgg209
  z70 := Tryz.sizeOf209
  v70 := Tryz.zeroValue209
  t76 := Tryz.underlying225
  a76 := Tryz.isAgg225
  z76 := Tryz.sizeOf225
  v76 := Tryz.zeroValue225
  t77 := Tryz.underlying102
  a77 := Tryz.isAgg102
  z77 := Tryz.sizeOf102
  v77 := Tryz.zeroValue102 }

theorem sh_slices_SortFunc {α : Type} [Inhabited α] (k : Nat) (aE : ∀ w, (isAgg 49).run Tryz.prog w = .ok true w) (zE : ∀ w, (Go.sizeOf 49).run Tryz.prog w = .ok k w) (enc : α → List Value) (hk : ∀ x, (enc x).length = k) (h1 : ∀ x, ∀ v ∈ enc x, v.oneCell' = true) (cf : α → α → Int) (hO : SWO (ltOf cf)) (g : Nat) (cb : Array Value) (blk off cap : Nat) (d : Array α) (w : World) (eg : ∀ args w, (callFunc g args).run Tryz.prog w = .ok (.enter g args) w) (hcmp : CmpLays Tryz.prog g cb enc k cf blk off d.size w) (hH : HoldsK enc k w blk off d) (hblk : blk < w.heap.size) (hsz : d.size < 4611686018427387904) :
    Calls Tryz.prog 65 #[.slice (some ⟨blk, off, none⟩) d.size cap, .func (.func g) #[] cb] w fun e w' =>
      e = .returned (.tuple #[]) ∧ ∃ d' n os, PermIn 0 d.size d d' ∧ SortedIn (ltOf cf) 0 d.size d' ∧ w' = sortWorldK enc k w blk off n d' os := AnyQ.slices_SortFunc sh_laysSlF06_f65 k aE zE enc hk h1 cf hO g cb blk off cap d w eg hcmp hH hblk hsz

theorem flat_getK {k : Nat} (hk : 0 < k) : ∀ {xs : List Value}, (∀ x ∈ xs, x.cells.size = k) → ∀ t, t < xs.length * k → (xs.flatMap (·.cells.toList))[t]? = (xs[t / k]?).bind fun x => x.cells.toList[t % k]?
  | [], _, t, h => by simp at h
  | y :: xs, hx, t, h => by
    have hy : y.cells.toList.length = k := by simpa using hx y List.mem_cons_self
    rw [List.flatMap_cons]
    rcases Nat.lt_or_ge t k with c | c
    · rw [List.getElem?_append_left (by omega), Nat.div_eq_of_lt c, Nat.mod_eq_of_lt c]
      rfl
    · rw [List.getElem?_append_right (by omega), hy]
      have e1 : t / k = (t - k) / k + 1 := by rw [Nat.div_eq_sub_div hk c]
      have e2 : t % k = (t - k) % k := Nat.mod_eq_sub_mod c
      rw [e1, e2, List.getElem?_cons_succ]
      refine flat_getK hk (fun z hz => hx z (List.mem_cons_of_mem _ hz)) (t - k) ?_
      rw [List.length_cons, Nat.add_mul] at h
      omega
def slC (x : Slp) : List Value := (encSl x).cells.toList
theorem swo_pre {α : Type} {f : α → α → Int} (hf : Pre3 f) : SWO (ltOf f) where
  irrefl x := by rw [ltOf, hf.refl]; rfl
  trans x y z h1 h2 := by
    simp only [ltOf, decide_eq_true_eq] at h1 h2 ⊢
    have r1 := hf.r x y
    have r2 := hf.r y z
    have := hf.tr x y z (by omega) (by omega)
    omega
  ntrans x y z h1 h2 := by
    simp only [ltOf, decide_eq_false_iff_not] at h1 h2 ⊢
    intro h3
    have r1 := hf.r x y
    have r3 := hf.r x z
    have a1 := hf.anti x y
    by_cases e : f x y = 0
    · have := hf.eql x y z e; omega
    · have := hf.tr y x z (by omega) (by omega); omega
theorem Only.sortedK {α : Type} [Inhabited α] {enc : α → List Value} {k : Nat} {w : World} {g m : Nat} {d : Array α} {os : Array Obj} : Only g w (sortWorldK enc k w g 0 m d os) := by
  refine ⟨rfl, rfl, rfl, by simp [sortWorldK, grow, putRowK, putRow, mapBlock, Go.Sort.ahead], fun q hq hn => ?_⟩
  have h1 : q < (putRowK enc k (Go.Sort.ahead w m) g 0 d).heap.size := by simpa [putRowK, putRow, mapBlock, Go.Sort.ahead] using hq
  rw [sortWorldK, heap_grow_old _ _ h1]
  simp only [putRowK, putRow, mapBlock, Go.Sort.ahead, Array.getElem?_modify]
  rw [if_neg (fun e => hn e.symm)]
theorem grown_ext {w w' : World} (h : Ext w w') (hd : w.drawn ≤ w'.drawn) : ∃ (q : Nat) (os : Array Obj), w' = grow (w.drewN q) os := by
  refine ⟨w'.drawn - w.drawn, w'.heap.extract w.heap.size w'.heap.size, ?_⟩
  obtain ⟨h1, h2, h3, h4, h5⟩ := h.b
  have hh : w'.heap = w.heap ++ w'.heap.extract w.heap.size w'.heap.size := by
    apply Array.ext_getElem?
    intro i
    rw [Array.getElem?_append]
    split
    · rename_i hi; exact h5 i hi
    · rename_i hi
      rw [Array.getElem?_extract]
      by_cases hj : i < w'.heap.size
      · rw [if_pos (by omega), show w.heap.size + (i - w.heap.size) = i by omega]
      · rw [if_neg (by omega), Array.getElem?_eq_none (by omega)]
  have hd : w'.drawn = w.drawn + (w'.drawn - w.drawn) := by omega
  clear h4 h5 h
  cases w
  cases w'
  simp only [grow, World.drewN] at *
  subst h1 h2 h3
  rw [← hh, ← hd]
def GSl : Type := {x : Slp // GdS x}
def aSl : Slp := (((0 : Int), (0 : Int), (0 : Int)), ⟨#[97]⟩, ⟨#[]⟩, ⟨#[]⟩)
theorem gd_a : GdS aSl := ⟨by decide +kernel, by unfold SmallS; decide +kernel⟩
instance : Inhabited GSl := ⟨⟨aSl, gd_a⟩⟩
theorem sub_gsl : ∀ {l : List Slp}, (∀ x ∈ l, GdS x) → ∃ m : List GSl, l = m.map fun x => x.1
  | [], _ => ⟨[], rfl⟩
  | x :: l, h => by
    obtain ⟨m, rfl⟩ := sub_gsl (l := l) fun y hy => h y (List.mem_cons_of_mem _ hy)
    exact ⟨⟨x, h x List.mem_cons_self⟩ :: m, rfl⟩
def slG (x : GSl) : List Value := slC x.1
theorem flatG_get (l : List GSl) (t : Nat) (h : t < l.length * 6) : ((l.map fun x => encSl x.1).flatMap (·.cells.toList))[t]? = some ((flatK slG 6 l.toArray)[t]!) := by
  rw [flat_getK (k := 6) (by omega) (fun x hx => by obtain ⟨y, _, rfl⟩ := List.mem_map.1 hx; rfl) t (by rw [List.length_map]; exact h)]
  have h1 : t / 6 < l.length := by omega
  have h2 : t % 6 < 6 := Nat.mod_lt _ (by omega)
  rw [get_flatK slG 6 l.toArray t (by simpa using h), List.getElem?_map, List.getElem?_eq_getElem h1]
  have e : l.toArray[t / 6]! = l[t / 6] := by rw [getElem!_pos _ _ (by simpa using h1)]; rfl
  rw [e]
  show (slG l[t / 6])[t % 6]? = some ((slG l[t / 6])[t % 6]!)
  have h3 : (slG l[t / 6]).length = 6 := rfl
  rw [List.getElem?_eq_getElem (by omega), getElem!_pos _ _ (by omega)]
set_option maxHeartbeats 1000000 in
theorem SortFunc_slip (q : Nat) [he : Enters Tryz.prog q] (cf : Slp → Slp → Int) (hf : Pre3 cf) (hc : CmpQ q cf)
    (g n c : Nat) (l0 : List Slp) (hg : ∀ x ∈ l0, GdS x) (w : World) {B : Nat} (hO : OwnL w B 49 true 6 (.slice (some ⟨g, 0, none⟩) n c) (l0.map encSl)) (hn : n ≤ 1000000) (hmx : ∀ V, Only g w V → MxI V) :
    Calls Tryz.prog 65 [.slice (some ⟨g, 0, none⟩) n c, .func (.func q) #[] #[]].toArray w fun e w' => (∃ v, e = .returned v) ∧ Only g w w' ∧ ∃ r : List Slp, r.Perm l0 ∧ r.Pairwise (fun a b => cf b a ≠ -1) ∧ OwnL w' g 49 true 6 (.slice (some ⟨g, 0, none⟩) n c) (r.map encSl) := by
  obtain ⟨l, hl⟩ := sub_gsl hg
  subst hl
  have emp : ∀ l : List GSl, (l.map fun x => x.1).map encSl = l.map fun x => encSl x.1 := fun l => by rw [List.map_map]; rfl
  rw [emp] at hO
  have hf' : Pre3 fun x y : GSl => cf x.1 y.1 := ⟨fun _ _ => hf.r _ _, fun _ _ => hf.anti _ _, fun _ _ _ => hf.tr _ _ _, fun _ _ _ => hf.eql _ _ _⟩
  obtain ⟨cs, hB, hcl, hnc, hcm, hln, htk, hBg⟩ := hO.cellsK
  rw [List.length_map] at hln
  have hsz : l.toArray.size = n := by simpa using hln
  have hH : HoldsK slG 6 w g 0 l.toArray := fun j hj => by
    rw [size_flatK, hsz] at hj
    have h1 := flatG_get l j (by rw [hln]; exact hj)
    rw [← htk, List.getElem?_take, if_pos hj] at h1
    rw [Nat.zero_add]
    constructor
    · simp only [World.cell?, hB.h]
      simpa using h1
    · simp [World.frozen?, hB.h]
  have hcc := sh_slices_SortFunc (k := 6) (fun w => by kernel_rfl) (fun w => by kernel_rfl) slG (fun _ => rfl) (fun x v hv => List.all_eq_true.1 (show (slG x).all (·.oneCell') = true from rfl) v hv) (fun x y : GSl => cf x.1 y.1) (swo_pre hf') q #[] g 0 c l.toArray w (Enters.h (P := Tryz.prog) (g := q)) (fun m os dk _ x y => by
    refine Calls.mono (hc x.1 y.1 _ (hmx _ Only.sortedK) x.2 y.2) fun e w' ⟨h1, h2, h3⟩ => ⟨h1, ?_⟩
    exact grown_ext h2 h3) hH hB.lt (by omega)
  rw [hsz] at hcc
  refine Calls.mono hcc fun e w' ⟨he, d', m, os, hp, hs, hw⟩ => ⟨⟨_, he⟩, by rw [hw]; exact Only.sortedK, d'.toList.map fun x => x.1, ?_, ?_, ?_⟩
  · obtain ⟨h1, _, h2⟩ := hp
    have ex : ∀ (x : Array GSl), x.size = n → x.extract 0 n = x := fun x hx => by subst hx; simp
    have e1 := ex d' (h1.trans hsz)
    have e2 := ex l.toArray hsz
    rw [e1, e2] at h2
    exact List.Perm.map _ (by simpa using h2)
  · have h1 : d'.size = n := hp.1.trans hsz
    rw [List.pairwise_map, List.pairwise_iff_getElem]
    intro i j hi hj hij
    have := hs i j (Nat.zero_le _) hij (by simpa [h1] using hj)
    rw [getElem!_pos _ j (by simpa using hj), getElem!_pos _ i (by simpa using hi)] at this
    simp only [ltOf, decide_eq_false_iff_not] at this
    simp only [Array.getElem_toList]
    omega
  · have h1 : d'.size = n := hp.1.trans hsz
    have hBk : Bk w' g (putCells id 0 (flatK slG 6 d') cs.toArray).toList 49 := by
      refine ⟨?_⟩
      rw [hw, sortWorldK, heap_grow_old _ _ (by simpa [putRowK, putRow, mapBlock, Go.Sort.ahead] using hB.lt)]
      simp [putRowK, putRow, mapBlock, Go.Sort.ahead, Array.getElem?_modify, hB.h, onCells]
    rw [emp]
    refine OwnL.ofCellsK hBk (by simp [putCells, hcl]) hnc hcm (by simpa using h1) ?_ (by omega) (Nat.le_refl _) fun x hx => by obtain ⟨y, _, rfl⟩ := List.mem_map.1 hx; rfl
    apply List.ext_getElem?
    intro j
    rw [List.getElem?_take]
    by_cases hj : j < n * 6
    · rw [if_pos hj]
      have hnc' : n * 6 ≤ c * 6 := Nat.mul_le_mul_right 6 hnc
      have hjc : j < cs.length := by omega
      have hjd : j < (flatK slG 6 d').size := by rw [size_flatK, h1]; exact hj
      rw [flatG_get d'.toList j (by simpa [h1] using hj)]
      have hjd' : j < d'.size * 6 := by rw [h1]; exact hj
      simp [putCells, hjc, hjd']
    · rw [if_neg hj]
      have hl := flat_len (k := 6) (xs := d'.toList.map fun x : GSl => encSl x.1) fun x hx => by obtain ⟨y, _, rfl⟩ := List.mem_map.1 hx; rfl
      rw [List.getElem?_eq_none (by rw [hl, List.length_map, Array.length_toList, h1]; omega)]
end Go.Proofs.YtpijeomnplmakaaGreatDoor

/- slices.SortFunc, slices.CompactFunc of slips: nil slices too. -/
namespace Go.Proofs.YtpijeomnplmakaaGreatDoor
open Go.Shelf Go.RowKit Go.Lib Go.Sort
def sh_lays125_ren : Go.Shelf.Ren := ⟨fun | 125 => 99 | 128 => 136 | 129 => 137 | n => n, fun | 46 => 158 | 3 => 3 | 51 => 129 | 53 => 192 | 4 => 4 | 5 => 5 | 9 => 9 | n => n, fun | n => n⟩

theorem sh_lays125 : Go.Proofs.Lays.n125 Tryz.prog sh_lays125_ren := {
  mixed := by kernel_rfl
  f125 := Tryz.func99.trans (congrArg some (by kernel_rfl))
  f128 := Tryz.func136.trans (congrArg some (by kernel_rfl))
  f129 := Tryz.func137.trans (congrArg some (by kernel_rfl))
  t3 := Tryz.underlying3
  a3 := Tryz.isAgg3
  z3 := Tryz.sizeOf3
  v3 := Tryz.zeroValue3
  t4 := Tryz.underlying4
  a4 := Tryz.isAgg4
  z4 := Tryz.sizeOf4
  v4 := Tryz.zeroValue4
  t5 := Tryz.underlying5
  a5 := Tryz.isAgg5
  z5 := Tryz.sizeOf5
  v5 := Tryz.zeroValue5
  t9 := Tryz.underlying9
  a9 := Tryz.isAgg9
  z9 := Tryz.sizeOf9
  v9 := Tryz.zeroValue9
  t46 := Tryz.underlying158
  a46 := Tryz.isAgg158
  z46 := Tryz.sizeOf158
  v46 := Tryz.zeroValue158
  t51 := Tryz.underlying129
  a51 := Tryz.isAgg129
  z51 := Tryz.sizeOf129
  v51 := Tryz.zeroValue129
  t53 := Tryz.underlying192
  a53 := Tryz.isAgg192
  z53 := Tryz.sizeOf192
  v53 := Tryz.zeroValue192 }

theorem sh_bits_Len (x : Int) (w : World) (h0 : 0 ≤ x) (h1 : x ≤ 18446744073709551615) :
    Calls Tryz.prog 99 #[.int .u64 x] w fun e w' => e = .returned (.int .i64 (Lib.bitLen x.toNat)) ∧ w' = w := Any.bits_Len sh_lays125 x w h0 h1

section
variable (q : Nat) [he : Enters Tryz.prog q] (cf : Slp → Slp → Int)
omit he in
theorem insert_none (w : World) : Ct Tryz.prog 128 [.slice none 0 0, .int .i64 0, .int .i64 0, .func (.func q) #[] #[]] w fun _ _ => True := by
  refine Ct.ofW (by simp) ?_
  (refine jjB (jjC (jI (eI rfl) (jY rfl rfl (by omega) (jJ (eI rfl) (jz ?_))))); refine jjD ?_)
  refine W.loop (12 :: 13 :: 14 :: 17 :: 9 :: 18 :: 19 :: 20 :: 21 :: 22 :: 23 :: 24 :: 25 :: 26 :: 27 :: 28 :: 29 :: 30 :: 31 :: 32 :: 33 :: 34 :: 37 :: 38 :: 39 :: 40 :: 41 :: 42 :: 43 :: 44 :: 45 :: 46 :: 47 :: 48 :: 49 :: 50 :: 51 :: 52 :: 35 :: 36 :: 15 :: 16 :: 8 :: []) (fun g s' _ => s' 8 = .int .i64 1) 1 rfl ?_
  rintro _ sd V hSV h8
  refine W.fix h8 ?_
  (refine jjB (jjB (jjC (jI (eI rfl) (jI (eI rfl) (jja rfl rfl (by omega) ?_))))); refine jz (jjK rfl (jjE ?_)); refine jA rfl ⟨inferInstance, ?_⟩)
  trivial
omit he in
theorem pdq_none (m : Int) (w : World) : Ct Tryz.prog 98 [.slice none 0 0, .int .i64 0, .int .i64 0, .int .i64 m, .func (.func q) #[] #[]] w fun _ _ => True := by
  refine Ct.ofW (by simp) ?_
  (refine jjB (jjC (jJ (eB rfl) (jz (jjB (jjC ?_))))); refine jJ (eB rfl) (jz (jjD ?_)))
  refine W.loop (21 :: 22 :: 23 :: 12 :: 24 :: 25 :: 26 :: 27 :: 28 :: 29 :: 30 :: 31 :: 32 :: 33 :: 34 :: 35 :: 36 :: 37 :: 38 :: 39 :: 40 :: 41 :: 42 :: 43 :: 44 :: 45 :: 46 :: 3 :: 48 :: 49 :: 50 :: 51 :: 52 :: 47 :: 53 :: 54 :: 13 :: 14 :: 55 :: 56 :: 57 :: 58 :: 59 :: 60 :: 61 :: 62 :: 63 :: 64 :: 65 :: 66 :: 67 :: 68 :: 69 :: 70 :: 71 :: 72 :: 73 :: 74 :: 75 :: 76 :: 77 :: 78 :: 79 :: 80 :: 81 :: 82 :: 83 :: 84 :: 85 :: 86 :: 87 :: 88 :: 89 :: 90 :: 91 :: 92 :: 93 :: 94 :: 95 :: 96 :: 97 :: 98 :: 99 :: 100 :: 101 :: 102 :: 103 :: 15 :: 104 :: 1 :: 106 :: 107 :: 108 :: 109 :: 110 :: 111 :: 105 :: 112 :: 113 :: 16 :: 17 :: 114 :: 11 :: 115 :: 116 :: 117 :: 118 :: 119 :: 120 :: 18 :: 19 :: 121 :: 122 :: 20 :: 123 :: 124 :: 125 :: 126 :: 127 :: 128 :: 10 :: 129 :: 130 :: 131 :: 132 :: 133 :: 134 :: 135 :: 136 :: 137 :: 138 :: 139 :: 140 :: 141 :: 142 :: 143 :: 144 :: 145 :: 146 :: 147 :: 2 :: []) (fun g s' _ => s' 1 = .int .i64 0 ∧ s' 2 = .int .i64 0) 1 ⟨rfl, rfl⟩ ?_
  rintro _ sd V hSV ⟨h1, h2⟩
  refine W.fix h1 (W.fix (d := 2) h2 ?_)
  (refine jjD (jjB (jjC (jI (eI rfl) (jI (eI rfl) (jZ rfl rfl (by omega) ?_))))); refine jJ (eI rfl) (jz (jjB (jjB (jjC (jI (eI rfl) ?_))))); refine jjb rfl rfl (by omega) (jz (jjJ rfl (jjB (jjC (jI (eS rfl) ?_))))); refine jI (eI rfl) (jI (eI rfl) (jI (eF rfl) ?_)))
  refine jjQ (insert_none q _) rfl rfl ?_
  rintro _ w2 hS2 _
  (refine jz (jjF ?_); refine jA rfl ⟨inferInstance, ?_⟩)
  trivial
omit he in
theorem SortFunc_none (w : World) : Ct Tryz.prog 65 [.slice none 0 0, .func (.func q) #[] #[]] w fun _ _ => True := by
  refine Ct.ofW (by simp) ?_
  (refine jjB (jjC (jI (eS rfl) (jh rfl (jJ (eI rfl) (jz ?_))))); refine jjC (jI (eS rfl) (jI (eI rfl) (jI (eI rfl) ?_))))
  refine Ops.convI rfl rfl (show _ = (0 : Int) from by rfl) ?_
  skip
  refine Ops.callR rfl (Enters.h (P := Tryz.prog) (g := 99)) rfl (sh_bits_Len 0 _ (by omega) (by omega)) ?_
  rintro e w3 ⟨rfl, rfl⟩
  refine ⟨_, rfl, ?_⟩
  (apply jI; exact eF rfl)
  refine jjQ (pdq_none q _ _) rfl rfl ?_
  rintro _ w4 hS4 _
  (refine jz ?_; refine jA rfl ⟨inferInstance, ?_⟩)
  trivial
theorem Compact_none (bk : Nat) (w : World) : Ct Tryz.prog 66 [.slice none 0 0, .func (.func 67) #[] #[.pointer (some ⟨bk, 0, none⟩)]] w fun v _ => v = .slice none 0 0 := by
  refine Ct.ofW (by simp) ?_
  (refine jjB (jjC (jJ (eS rfl) (jz (jjB (jjB ?_))))); refine jjC (jI (eS rfl) (jh rfl (jjZ rfl rfl (by omega) (jz (jjJ rfl ?_))))); refine jjB (jjC (jI (eS rfl) (jJ (eS rfl) (jz (jjF ?_))))); refine jB rfl rfl ⟨inferInstance, ?_⟩)
  exact rfl
variable (hf : Pre3 cf) (hc : CmpQ q cf)
include hf hc in
theorem SortAny (a : Option Addr) (c : Nat) (l : List Slp) (hg : ∀ x ∈ l, GdS x) (w : World) {B : Nat} (hO : OwnL w B 49 true 6 (.slice a l.length c) (l.map encSl)) (hB : B ≤ w.heap.size) (hl : l.length ≤ 1000000) (hmx : ∀ V, (∀ w0, Ext w0 w → w0.heap.size ≤ B → Ext w0 V) → MxI V) :
    Calls Tryz.prog 65 [.slice a l.length c, .func (.func q) #[] #[]].toArray w fun e w' => (∃ v, e = .returned v) ∧ (∀ w0, Ext w0 w → w0.heap.size ≤ B → Ext w0 w') ∧ ∃ r : List Slp, r.Perm l ∧ r.Pairwise (fun a b => cf b a ≠ -1) ∧ OwnL w' B 49 true 6 (.slice a l.length c) (r.map encSl) := by
  rcases hO.own.2 with ⟨e1, _⟩ | ⟨g, cap, cur, e1, hBg, _⟩
  · simp only [Value.slice.injEq] at e1
    obtain ⟨rfl, h0, rfl⟩ := e1
    obtain rfl := List.length_eq_zero_iff.1 h0
    have h := SortFunc_none q w
    unfold Ct at h
    exact Calls.mono h fun e w' ⟨v, h1, h2, _⟩ => ⟨⟨v, h1⟩, fun w0 h3 _ => h3.trans h2, [], List.Perm.refl _, List.Pairwise.nil, hO.ext h2⟩
  · simp only [Value.slice.injEq] at e1
    obtain ⟨rfl, _, rfl⟩ := e1
    refine Calls.mono (SortFunc_slip q cf hf hc g l.length _ l hg w hO hl fun V hV => hmx V fun w0 x0 hb => hV.ext x0 (by omega)) fun e w' ⟨h1, h2, r, h3, h4, h5⟩ => ⟨h1, fun w0 x0 hb => h2.ext x0 (by omega), r, h3, h4, h5.mono hBg⟩
include hc in
theorem CompactAny (bk : Nat) (a : Option Addr) (c : Nat) (l : List Slp) (hg : ∀ x ∈ l, GdS x) (w : World) {B : Nat} (hA : At w bk 0 [.func (.func q) #[] #[]]) (hbk : bk < B) (hO : OwnL w B 49 true 6 (.slice a l.length c) (l.map encSl)) (hB : B ≤ w.heap.size) (hl : l.length ≤ 1000000) (hmx : ∀ V, (∀ w0, Ext w0 w → w0.heap.size ≤ B → Ext w0 V) → MxI V) :
    Calls Tryz.prog 66 [.slice a l.length c, .func (.func 67) #[] #[.pointer (some ⟨bk, 0, none⟩)]].toArray w fun e w' => e = .returned (.slice a (cptL cf l).length c) ∧ (∀ w0, Ext w0 w → w0.heap.size ≤ B → Ext w0 w') ∧ OwnL w' B 49 true 6 (.slice a (cptL cf l).length c) ((cptL cf l).map encSl) := by
  rcases hO.own.2 with ⟨e1, _⟩ | ⟨g, cap, cur, e1, hBg, _⟩
  · simp only [Value.slice.injEq] at e1
    obtain ⟨rfl, h0, rfl⟩ := e1
    obtain rfl := List.length_eq_zero_iff.1 h0
    have h := Compact_none bk w
    unfold Ct at h
    exact Calls.mono h fun e w' ⟨v, h1, h2, h4⟩ => ⟨by rw [h1, h4]; rfl, fun w0 h3 _ => h3.trans h2, hO.ext h2⟩
  · simp only [Value.slice.injEq] at e1
    obtain ⟨rfl, _, rfl⟩ := e1
    refine Calls.mono (Compact_slip q cf hc bk g l.length _ l hg w hA (by omega) (by omega) hO hl fun V hV => hmx V fun w0 x0 hb => hV.ext x0 (by omega)) fun e w' ⟨h1, h2, h5⟩ => ⟨h1, fun w0 x0 hb => h2.ext x0 (by omega), h5⟩
end
end Go.Proofs.YtpijeomnplmakaaGreatDoor

/- rack.Ranks: the ranks of slips. -/
namespace Go.Proofs.YtpijeomnplmakaaGreatDoor
open Go.RowKit Go.Sort

/-- The table of comparators. -/
abbrev bysC : List Value := [.nilFunc, .func (.func 224) #[] ([] : List Value).toArray, .func (.func 225) #[] ([] : List Value).toArray, .func (.func 227) #[] ([] : List Value).toArray, .func (.func 228) #[] ([] : List Value).toArray]
theorem cptGo_len {α : Type} {f : α → α → Int} : ∀ (r : List α) (p : α), (cptGo f p r).length ≤ r.length
  | [], _ => Nat.le_refl _
  | x :: r, p => by
    rw [cptGo]
    have := cptGo_len (f := f) r x
    split <;> simp <;> omega
theorem cpt_len {α : Type} {f : α → α → Int} (l : List α) : (cptL f l).length ≤ l.length := by
  cases l with
  | nil => exact Nat.le_refl _
  | cons x r => have := cptGo_len (f := f) r x; simp [cptL]; exact this
def RanksR (l : List Slp) (n : Int) (B : Nat) (v : Value) (w' : World) : Prop := ∃ (a : Option Addr) (c : Nat), v = .tuple #[.slice a (ranksR l n).1.length c, .int .i64 (ranksR l n).2] ∧ OwnL w' B 3 false 1 (.slice a (ranksR l n).1.length c) ((ranksR l n).1.map intV)
theorem ordR_self (x : Slp) : (ordR x x).2 = if slipB x = true then 0 else 31 := by
  rw [ordR]
  cases slipB x <;> rfl
/-- What the table holds for one way. -/
theorem by_row (w : World) (by_ : Int) (hb : 1 ≤ by_ ∧ by_ ≤ 4) (h1 : by_ = 1 → CmpQ 224 (cmpBy 1)) (hgb : At w 0 0 bysC) : ∃ (q : Nat) (j : Nat) (rest : List Value), by_ = (j : Int) ∧ j < 5 ∧ Enters Tryz.prog q ∧ CmpQ q (cmpBy by_) ∧ At w 0 (0 + j * 1) (.func (.func q) #[] #[] :: rest) := by
  have h4 : by_ = 1 ∨ by_ = 2 ∨ by_ = 3 ∨ by_ = 4 := by omega
  rcases h4 with rfl | rfl | rfl | rfl
  · exact ⟨224, 1, _, rfl, by omega, inferInstance, h1 rfl, hgb.drop 1⟩
  · exact ⟨225, 2, _, rfl, by omega, inferInstance, by2_slip, hgb.drop 2⟩
  · exact ⟨227, 3, _, rfl, by omega, inferInstance, by3_slip, hgb.drop 3⟩
  · exact ⟨228, 4, _, rfl, by omega, inferInstance, by4_slip, hgb.drop 4⟩
section
variable (a : Option Addr) (c : Nat) (l : List Slp) (by_ : Int) (w : World) [hgb : At w 0 0 bysC] [hmx : MxI w] [hrow : RowI w (.slice a l.length c) true 6 (l.map encSl)]
set_option maxHeartbeats 4000000 in
theorem Ranks_rack (hq1 : by_ = 1 → CmpQ 224 (cmpBy 1)) (hs : ∀ x ∈ l, SmallS x) (hb : 0 ≤ by_ ∧ by_ ≤ 255) : Ct Tryz.prog 22 [.slice a l.length c, .int .u8 by_] w fun v w' => RanksR l by_ w.heap.size v w' := by
  refine Ct.ofW (by simp) ?_
  by_cases h60 : 60 < l.length
  · (refine jjB (jjC (jJ (eS rfl) (jJ (eI rfl) (jz (jjB ?_))))); refine jjB (jjC (jI (eS rfl) (jh rfl (jjd rfl rfl (by omega) (jz ?_))))); refine jjJ rfl (jjB (jjC (jJ (eS rfl) (jJ (eI rfl) (jz ?_))))); refine jjF ?_; refine jC rfl rfl rfl ⟨inferInstance, ?_⟩)
    have e : ranksR l by_ = ([], 4) := by rw [ranksR, if_pos h60]
    unfold RanksR; rw [e]
    exact ⟨none, 0, rfl, OwnL.nil _ _ _ _ _⟩
  (refine jjB (jjC (jJ (eS rfl) (jJ (eI rfl) (jz (jjB ?_))))); refine jjB (jjC (jI (eS rfl) (jh rfl (jje rfl rfl (by omega) (jz ?_))))); refine jjK rfl (jjG (jjB (jjB (jjC (jI (eS rfl) ?_))))); refine jh rfl (jI (eI rfl) (jz (jjD ?_))))
  refine W.keep0 [(0, .slice a l.length c), (1, .int .u8 by_), (20, .slice a l.length c), (21, .int .i64 (l.length : Int)), (22, .int .i64 ((0 : Nat) : Int))] ⟨eS rfl, eI rfl, eS rfl, eI rfl, eI rfl, trivial⟩ fun s0 => ?_
  refine W.loop (23 :: 24 :: 25 :: 7 :: 27 :: 28 :: 29 :: 26 :: 30 :: 31 :: 8 :: 9 :: 32 :: 33 :: 34 :: 4 :: 5 :: 35 :: 22 :: []) (fun g s' _ => ∃ k : Nat, s' 22 = .int .i64 (k : Int) ∧ g = l.length - k ∧ k ≤ l.length ∧ ∀ j (h : j < l.length), j < k → slipB l[j] = true) l.length ⟨0, rfl, rfl, Nat.zero_le _, fun j _ h => absurd h (Nat.not_lt_zero _)⟩ ?_
  rintro _ sd V hSV ⟨k, h22, rfl, hk, hpre⟩
  refine W.fix h22 ?_
  clear h22
  by_cases hk1 : k < l.length
  · have hx := hs l[k] (List.getElem_mem hk1)
    (refine jjB (jjC (jjZ rfl rfl (by omega) (jz (jjB (jjJ rfl ?_))))); refine jjG (jjB (jjD (jjB (jjC ?_)))); refine jF rfl rfl rfl (map_get (by omega)) ?_; intro _ _ _; refine jQ rfl rfl ?_)
    (apply jjR rfl; (intro _; first|exact eI rfl|exact eB rfl|exact eP rfl|exact eS rfl|exact eT rfl|exact eA rfl|exact eU rfl|exact eF rfl|exact eM rfl|exact eN rfl|exact rfl); exact rfl; exact rfl; exact rfl; exact rfl; intro b7 w_b7 hb_b7 hs_b7 hS_b7 hk_b7; have hA_b7 := Bk.of hk_b7)
    have hA7 : At w_b7 b7 0 (encSl l[k]).cells.toList := Bk.toAt (h := hA_b7)
    (refine jz (jjB (jjC (jO rfl rfl rfl rfl (jO rfl rfl rfl rfl ?_)))))
    refine jjQ (Order_slip _ l[k] l[k] hx hx) rfl rfl ?_
    rintro _ w8 hS8 rfl
    by_cases hr : slipB l[k] = true
    · rw [ordR_self, if_pos hr]
      (refine jI (eU rfl) (ju rfl rfl (ju rfl rfl (jJ (eI rfl) (jJ (eI rfl) (jz ?_))))); refine jjB (jjC (jI (eI rfl) (jjk rfl rfl (by omega) (jz (jjK rfl ?_))))); refine jjG (jjC (jY rfl rfl (by omega) (jI (eI rfl) (jz ?_)))))
      refine ⟨rfl, by (((iterate 17 refine Same.upd rfl ?_); exact Same.ovN)), l.length - (k + 1), by omega, inferInstance, k + 1, congrArg (Value.int .i64) (by omega), rfl, by omega, fun j h1 h2 => ?_⟩
      rcases Nat.lt_or_ge j k with c1 | c1
      · exact hpre j h1 c1
      · obtain rfl : j = k := by omega
        exact hr
    · rw [ordR_self, if_neg hr]
      (refine jI (eU rfl) (ju rfl rfl (ju rfl rfl (jJ (eI rfl) (jJ (eI rfl) (jz ?_))))); refine jjB (jjC (jI (eI rfl) (jjj rfl rfl (by omega) (jz (jjJ rfl ?_))))); refine jjB (jjC (jI (eI rfl) (jJ (eS rfl) (jJ (eI rfl) (jz ?_))))); refine jjF ?_; refine jC rfl rfl rfl ⟨inferInstance, ?_⟩)
      have e : ranksR l by_ = ([], 31) := by
        rw [ranksR, if_neg h60, if_pos fun h => hr (List.all_eq_true.1 h _ (List.getElem_mem hk1))]
      unfold RanksR; rw [e]
      exact ⟨none, 0, rfl, OwnL.nil _ _ _ _ _⟩
  have hall : l.all slipB = true := List.all_eq_true.2 fun x hx => by
    obtain ⟨j, hj, rfl⟩ := List.mem_iff_getElem.1 hx
    exact hpre j hj (by omega)
  have hgd : ∀ x ∈ l, GdS x := fun x hx => ⟨List.all_eq_true.1 hall x hx, hs x hx⟩
  clear hpre hk
  (refine jjB (jjC (jja rfl rfl (by omega) (jz (jjB (jjK rfl ?_))))); refine jjE (jjB (jjB (jjC (jI (eI rfl) ?_)))))
  refine Ops.convI rfl rfl (wrapi (by omega) (by omega)) ?_
  skip
  (refine jjP (v := .int _ _) rfl (by exact rfl) (by exact rfl) (by exact rfl) (by exact rfl) ?_; intro b38 w_b38 hb_b38 hs_b38 hS_b38 hk_b38; have hR_b38 := RowV.one (agg := false) (k := 1) rfl hk_b38)
  ((skip); refine jjQ (in_rack 1 4 _ [by_] _ hR_b38) rfl rfl ?_)
  rintro _ w3 hS3 rfl
  rw [all_one]
  by_cases hby : 1 ≤ by_ ∧ by_ ≤ 4
  rotate_left
  · have e : ranksR l by_ = ([], 2) := by rw [ranksR, if_neg h60, if_neg (by simp [hall]), if_pos hby]
    rw [show inB 1 4 by_ = false by rw [inB]; exact decide_eq_false hby]
    (refine jq rfl (jz (jjJ rfl (jjB (jjC (jJ (eS rfl) ?_))))); refine jJ (eI rfl) (jz (jjF ?_)); refine jC rfl rfl rfl ⟨inferInstance, ?_⟩)
    unfold RanksR; rw [e]
    exact ⟨none, 0, rfl, OwnL.nil _ _ _ _ _⟩
  rw [show inB 1 4 by_ = true by rw [inB]; exact decide_eq_true hby]
  have hE3 : Ext w w3 := inferInstance
  obtain ⟨q, j, rest, hj, hj5, he, hc, hAq⟩ := by_row w3 by_ hby hq1 (hgb.ext hE3)
  have hf := pre_by by_
  have e : ranksR l by_ = (l.map fun s => (rankF (cmpBy by_) l s : Int), 0) := ranksR_ok (by omega) hall hby
  unfold RanksR
  rw [e]
  clear e
  generalize cmpBy by_ = cf at *
  (refine jp rfl (jz (jjK rfl (jjG (jjB (jjC ?_))))); refine jI (eI rfl) ?_)
  refine Ops.indexAP j rfl rfl hj (by simpa using hj5) ?_
  (refine jm (jn rfl (jP rfl rfl rfl ?_)))
  (apply jjR rfl; (intro _; first|exact eI rfl|exact eB rfl|exact eP rfl|exact eS rfl|exact eT rfl|exact eA rfl|exact eU rfl|exact eF rfl|exact eM rfl|exact eN rfl|exact rfl); exact rfl; exact rfl; exact rfl; exact rfl; intro b10 w_b10 hb_b10 hs_b10 hS_b10 hk_b10; have hA_b10 := Bk.of hk_b10)
  have hA10 : At w_b10 b10 0 [.func (.func q) #[] #[]] := Bk.toAt (h := hA_b10)
  have hEb : Ext w w_b10 := inferInstance
  have hr10 : RowI w_b10 (.slice a l.length c) true 6 (l.map encSl) := inferInstance
  (refine jz (jjB (jjC (jI (eS rfl) ?_))))
  refine jjQ (Clone_Slip a c l _ (by omega)) rfl rfl ?_
  rintro _ w13 hS13 ⟨ca, cc, rfl, hO13⟩
  have hbl : b10 < w_b10.heap.size := hA10.lt
  (refine jJ (eS rfl) (jz (jjB (jjC (jI (eS rfl) (jN rfl rfl rfl ?_))))))
  refine Ops.callR rfl (Enters.h (P := Tryz.prog) (g := 65)) rfl (SortAny q cf hf hc ca cc l hgd w13 hO13 hS13.size (by omega) fun V hV => (inferInstance : MxI w_b10).ext (hV _ hS13.ext (Nat.le_refl _))) ?_
  rintro e w14 ⟨⟨v14, rfl⟩, hx14, r, hp, hsr, hO14⟩
  refine ⟨_, rfl, ?_⟩
  have hE14 : Ext w_b10 w14 := hx14 _ hS13.ext (Nat.le_refl _)
  have hlr := hp.length_eq
  rw [← hlr] at hO14
  (refine jz (jjB (jjC (jI (eS rfl) (jv ?_)))))
  refine Ops.callR rfl (Enters.h (P := Tryz.prog) (g := 66)) (by rw [← hlr]; rfl) (CompactAny q cf hc b10 ca cc r (fun x hx => hgd x (hp.mem_iff.1 hx)) w14 (hA10.ext hE14) hbl hO14 hE14.size (by omega) fun V hV => (inferInstance : MxI w_b10).ext (hV _ hE14 (Nat.le_refl _))) ?_
  rintro e w15 ⟨rfl, hx15, hO15⟩
  refine ⟨_, rfl, ?_⟩
  have hE15 : Ext w_b10 w15 := hx15 _ hE14 (Nat.le_refl _)
  have hcp := cpt_facts hf hsr
  have hrk := fun s => rank_cpt hf (s := s) hp hsr
  have hgC : ∀ y ∈ cptL cf r, GdS y := fun y hy => hgd y (hp.mem_iff.1 (hcp.1 y hy))
  have hlC : (cptL cf r).length ≤ 1000000 := by
    have := cpt_len (f := cf) r
    omega
  have hpw := hcp.2.1
  generalize cptL cf r = C at *
  clear hx14 hx15 hsr hcp hp hO14 hO13
  have hE15' : Ext w w15 := hEb.trans hE15
  have hA15 : At w15 b10 0 [.func (.func q) #[] #[]] := hA10.ext hE15
  have hr15 : RowI w15 (.slice a l.length c) true 6 (l.map encSl) := ⟨hr10.h.ext hE15⟩
  have hrC : RowI w15 (.slice ca C.length cc) true 6 (C.map encSl) := ⟨hO15.row⟩
  have := hE15'.toStep
  (refine jJ (eS rfl) (jz (jjB (jjC (jJ (eS rfl) (jz ?_))))); refine jjB (jjB (jjC (jI (eS rfl) (jh rfl (jI (eI rfl) ?_))))); refine jz (jjD ?_))
  refine W.keep0 [(10, .pointer (some ⟨b10, 0, none⟩)), (11, .slice ca C.length cc), (12, .slice none 0 0), (53, .slice a l.length c), (54, .int .i64 (l.length : Int)), (55, .int .i64 ((0 : Nat) : Int))] ⟨eP rfl, eS rfl, eS rfl, eS rfl, eI rfl, eI rfl, trivial⟩ fun s1 => ?_
  refine W.loopG (56 :: 57 :: 58 :: 14 :: 60 :: 61 :: 62 :: 63 :: 59 :: 64 :: 65 :: 15 :: 16 :: 66 :: 67 :: 68 :: 69 :: 12 :: 70 :: 55 :: []) (fun g s' V => ∃ (k : Nat) (dv : Value), s' 55 = .int .i64 (k : Int) ∧ s' 12 = dv ∧ g = l.length - k ∧ k ≤ l.length ∧ Ext w15 V ∧ OwnL V w15.heap.size 3 false 1 dv (((l.take k).map fun s => (rankF cf l s : Int)).map intV)) l.length ⟨0, _, rfl, rfl, rfl, Nat.zero_le _, Ext.refl _, OwnL.nil _ _ _ _ _⟩ ?_
  rintro _ sd2 V2 ⟨k, dv, h55, h12, rfl, hk, hEV, hO⟩
  refine W.fix h55 (W.fix (d := 12) h12 ?_)
  clear h55 h12
  obtain ⟨da, dc, rfl⟩ := hO.slice
  have hdl : (((l.take k).map fun s => (rankF cf l s : Int)).map intV).length = k := by simp; omega
  rw [hdl] at hO ⊢
  have := hEV.toStep
  by_cases hk1 : k < l.length
  rotate_left
  · obtain rfl : k = l.length := by omega
    rw [List.take_length] at hO
    (refine jjB (jjC (jja rfl rfl (by omega) (jz (jjB (jjK rfl ?_))))); refine jjE (jjB (jjC (jI (eS rfl) (jJ (eS rfl) (jJ (eI rfl) ?_))))); refine jz (jjF ?_); refine jC rfl rfl rfl ⟨inferInstance, ?_⟩)
    exact ⟨da, dc, by rw [List.length_map]; rfl, by rw [List.length_map]; exact hO.mono hE15'.size⟩
  have hgk := List.getElem?_eq_getElem hk1
  have hgx := hgd l[k] (List.getElem_mem hk1)
  (refine jjB (jjC (jjZ rfl rfl (by omega) (jz (jjB (jjJ rfl ?_))))); refine jjG (jjB (jjD (jjB (jjC ?_)))); refine jF rfl rfl rfl (map_get (by omega)) ?_; intro _ _ _; refine jQ rfl rfl ?_)
  (apply jjR rfl; (intro _; first|exact eI rfl|exact eB rfl|exact eP rfl|exact eS rfl|exact eT rfl|exact eA rfl|exact eU rfl|exact eF rfl|exact eM rfl|exact eN rfl|exact rfl); exact rfl; exact rfl; exact rfl; exact rfl; intro b14 w_b14 hb_b14 hs_b14 hS_b14 hk_b14; have hA_b14 := Bk.of hk_b14)
  have hA14 : At w_b14 b14 0 (encSl l[k]).cells.toList := Bk.toAt (h := hA_b14)
  have hEb14 : Ext w15 w_b14 := inferInstance
  have hrC14 : RowI w_b14 (.slice ca C.length cc) true 6 (C.map encSl) := inferInstance
  (refine jz (jjB (jjC (jI (eS rfl) (jO rfl rfl rfl rfl (jN rfl rfl rfl ?_))))))
  refine jjQ (Search_slip q cf hf hc ca cc C l[k] hgC hgx w_b14 hlC hpw) rfl rfl ?_
  rintro _ w17 hS17 ⟨bb, rfl⟩
  rw [← hrk l[k]]
  (refine jI (eU rfl) (ju rfl rfl (ju rfl rfl (jJ (eI rfl) (jJ (eB rfl) (jz ?_))))); refine jjC (jI (eS rfl) (jI (eI rfl) ?_)))
  (refine jjP (v := .int _ _) rfl (by exact rfl) (by exact rfl) (by exact rfl) (by exact rfl) ?_; intro b68 w_b68 hb_b68 hs_b68 hS_b68 hk_b68; have hR_b68 := RowV.one (agg := false) (k := 1) rfl hk_b68)
  have hE68 : Ext V2 w_b68 := inferInstance
  refine Ops.appendL (hO.ext hE68) (by have := hE68.size; have := hEV.size; omega) hR_b68 rfl rfl rfl rfl rfl ?_ ?_ ?_
  · rw [hdl]; simp only [List.length_cons, List.length_nil]; omega
  · rw [hdl]; simp only [List.length_cons, List.length_nil]; omega
  intro v69 w69 hA69 hO69 _ _
  have hE69 : Ext w15 w69 := hA69.ext (hEV.trans hE68) (Nat.le_refl _)
  (refine jJ rfl (jz (jjC (jY rfl rfl (by omega) (jI (eI rfl) (jz ?_))))))
  refine ⟨rfl, by (((iterate 22 refine Same.upd rfl ?_); exact Same.ovN)), l.length - (k + 1), by omega, k + 1, _, congrArg (Value.int .i64) (by omega), rfl, rfl, by omega, hE69, ?_⟩
  rw [take_snoc_get hgk, List.map_append, List.map_append]
  exact hO69
end
end Go.Proofs.YtpijeomnplmakaaGreatDoor
namespace Go.Proofs.YtpijeomnplmakaaGreatDoor
open Go.RowKit

set_option maxHeartbeats 1000000 in
theorem passes_rack (bb : Nat) (v0 v1 : Value) (ae : Option Addr) (ce m b : Nat) (w : World) (hm : m ≤ 60) (hb : 2 ≤ b ∧ b ≤ 20) [hA : At w bb 0 [v0, .slice ae m ce, v1, .int .i64 (b : Int)]] :
    Ct Tryz.prog 54 [.pointer (some ⟨bb, 0, none⟩)] w fun v _ => ∃ p : Nat, PassR b m p ∧ v = .tuple #[.int .i64 ((p : Nat) : Int), .int .i64 (((if p = 0 then 0 else b ^ (p - 1) : Nat)) : Int)] := by
  refine Ct.ofW (by simp) ?_
  (refine jjB (jjC (jJ (eI rfl) (jJ (eI rfl) (jz (jjB ?_))))); refine jjB (jjC (jJ (eI rfl) (jz (jjD ?_)))))
  refine W.loop (5 :: 6 :: 7 :: 8 :: 9 :: 10 :: 11 :: 12 :: 19 :: 20 :: 21 :: 2 :: 3 :: 13 :: 14 :: 15 :: 16 :: 17 :: 18 :: 4 :: []) (fun g s' _ => ∃ p : Nat, s' 2 = .int .i64 ((p : Nat) : Int) ∧ s' 3 = .int .i64 (((if p = 0 then 0 else b ^ (p - 1) : Nat)) : Int) ∧ s' 4 = .int .i64 ((b ^ p : Nat) : Int) ∧ g = 61 - p ∧ ∀ q, q < p → b ^ q ≤ m) 61 ⟨0, rfl, rfl, by simp only [Nat.pow_zero]; exact rfl, rfl, by omega⟩ ?_
  rintro _ sd w1 hS1 ⟨p, h2, h3, h4, rfl, hpre⟩
  refine W.fix h2 (W.fix (d := 3) h3 (W.fix (d := 4) h4 ?_))
  clear h2 h3 h4
  have hp60 := p_le_60 hb.1 hm hpre
  have hpw := pow_le_60 hb.2 hm hpre
  obtain ⟨P, hP⟩ : ∃ P, P = b ^ p := ⟨_, rfl⟩
  rw [← hP] at hpw
  rw [← hP]
  repeat' (first|((first|apply jI|apply jJ); (first|exact eI rfl|exact eP rfl))|(refine jM (jN rfl rfl rfl ?_))|(refine jW ?_; (first|refine jY rfl rfl (by omega) ?_|refine jd rfl rfl ?_))|(refine jg (jh rfl ?_))|(refine jm (jn rfl ?_))|refine jw rfl ?_|refine jz ?_|(refine jjA ?_; (first|refine jjB ?_|refine jjC ?_|refine jjD ?_|refine jjE ?_|refine jjF ?_|refine jjG ?_))|(refine jjA ?_; (refine jjN rfl ?_ ?_ <;> intro _))|refine jC rfl rfl rfl ⟨inferInstance, ?_⟩)
  · have hle : P ≤ m := by omega
    have hmul : P * b ≤ 1200 * 20 := Nat.mul_le_mul hpw hb.2
    have hmul' : (P : Int) * (b : Int) = ((P * b : Nat) : Int) := by push_cast; rfl
    refine Ops.mul rfl rfl (by rw [hmul']; omega) ?_
    rw [hmul']
    (refine jJ (eI rfl) (jz ?_))
    refine ⟨rfl, by (((iterate 23 refine Same.upd rfl ?_); exact Same.ovN)), 61 - (p + 1), by omega, inferInstance, p + 1, congrArg (Value.int .i64) (by omega), ?_, ?_, rfl, ?_⟩
    · rw [if_neg (Nat.succ_ne_zero p), Nat.add_sub_cancel, ← hP]; exact rfl
    · rw [Nat.pow_succ, ← hP]; exact rfl
    · intro q hq
      by_cases e : q = p
      · subst e; omega
      · exact hpre q (by omega)
  · exact ⟨p, ⟨by omega, hpre⟩, rfl⟩

theorem opE_boxes {d : List Int} {boxes : Int} (he : opE d boxes = 0) : 2 ≤ boxes ∧ boxes ≤ 20 := by
  simp only [opE] at he
  split at he
  · split at he
    · rename_i h; simpa [inB] using h
    · omega
  · omega
theorem opE_len {d : List Int} {boxes : Int} (he : opE d boxes = 0) : d.length ≤ 60 := by
  simp only [opE] at he
  split at he
  · exact deckB_len ‹_›
  · omega

section
variable (a : Option Addr) (c : Nat) (d : List Int) (boxes : Int) (w : World) (hl : d.length ≤ 1000000) [hrow : RowI w (.slice a d.length c) false 1 (d.map intV)]
include hl
/-- What Runs answers. -/
def RunsR (d : List Int) (v : Value) (w' : World) : Prop := ∃ a c, v = .tuple #[.slice a (if opE d 2 = 0 then numF d else []).length c, .int .i64 (opE d 2)] ∧ RowV w' false 1 (.slice a (if opE d 2 = 0 then numF d else []).length c) ((if opE d 2 = 0 then numF d else []).map intV)
theorem Runs_rack : Ct Tryz.prog 32 [.slice a d.length c] w fun v w' => RunsR d v w' := by
  refine Ct.ofW (by simp) ?_
  (refine jjB (jjC (jJ (eS rfl) (jJ (eI rfl) (jz (jjB ?_))))); refine jjC (jI (eS rfl) ?_))
  refine jjQ (open_rack a c d 2 _ hl) rfl rfl ?_
  rintro _ w2 hS2 (⟨he, rfl⟩ | ⟨he, bb, bn, ae, ce, rfl, _, _, hA, hN, hE⟩)
  · (refine jI (eU rfl) (ju rfl rfl (ju rfl rfl (jJ (eN rfl) (jJ (eI rfl) (jz ?_))))); refine jjB (jjB (jjC (jI (eI rfl) (jjj rfl rfl (by omega) (jz ?_))))); refine jjJ rfl (jjB (jjC (jI (eI rfl) (jJ (eS rfl) (jJ (eI rfl) ?_))))); refine jz (jjF ?_); refine jC rfl rfl rfl ⟨inferInstance, ?_⟩)
    refine ⟨none, 0, ?_, ?_⟩
    · rw [if_neg he]; exact rfl
    · rw [if_neg he]; exact RowV.nilS _ _ _ _ _
  · (refine jI (eU rfl) (ju rfl rfl (ju rfl rfl (jJ (eP rfl) (jJ (eI rfl) (jz ?_))))); refine jjB (jjB (jjC (jI (eI rfl) (jjk rfl rfl (by omega) (jz ?_))))); refine jjK rfl (jjG (jjB (jjC (jI (eP rfl) (jw rfl ?_))))); refine jm (jn rfl (jm (jn rfl (jN rfl rfl rfl (jJ (eS rfl) ?_))))); refine jJ (eI rfl) (jz (jjF ?_)); refine jC rfl rfl rfl ⟨inferInstance, ?_⟩)
    refine ⟨some ⟨bn, 0, none⟩, d.length, ?_, ?_⟩
    · rw [if_pos he, he, numF_len]; exact rfl
    · rw [if_pos he, numF_len]; exact hN

theorem Passes_rack : Ct Tryz.prog 14 [.slice a d.length c, .int .i64 boxes] w fun v _ => ∃ p : Nat, (if opE d boxes = 0 then PassR boxes.toNat (endF d).length p else p = 0) ∧ v = .tuple #[.int .i64 (p : Int), .int .i64 (opE d boxes)] := by
  refine Ct.ofW (by simp) ?_
  (refine jjB (jjC (jJ (eI rfl) (jJ (eI rfl) (jz (jjB ?_))))); refine jjC (jI (eS rfl) (jI (eI rfl) ?_)))
  refine jjQ (open_rack a c d boxes _ hl) rfl rfl ?_
  rintro _ w2 hS2 (⟨he, rfl⟩ | ⟨he, bb, bn, ae, ce, rfl, _, _, hA, hN, hE⟩)
  · (refine jI (eU rfl) (ju rfl rfl (ju rfl rfl (jJ (eN rfl) (jJ (eI rfl) (jz ?_))))); refine jjB (jjB (jjC (jI (eI rfl) (jjj rfl rfl (by omega) (jz ?_))))); refine jjJ rfl (jjB (jjC (jI (eI rfl) (jJ (eI rfl) (jJ (eI rfl) ?_))))); refine jz (jjF ?_); refine jC rfl rfl rfl ⟨inferInstance, ?_⟩)
    exact ⟨0, by rw [if_neg he], rfl⟩
  · have hb := opE_boxes he
    have hdl := opE_len he
    have hel := endF_len d
    obtain ⟨b, rfl⟩ : ∃ b : Nat, boxes = b := ⟨boxes.toNat, by omega⟩
    (refine jI (eU rfl) (ju rfl rfl (ju rfl rfl (jJ (eP rfl) (jJ (eI rfl) (jz ?_))))); refine jjB (jjB (jjC (jI (eI rfl) (jjk rfl rfl (by omega) (jz ?_))))); refine jjK rfl (jjG (jjB (jjC (jI (eP rfl) ?_)))))
    refine jjQ (passes_rack bb _ _ ae ce (endF d).length b _ (by omega) (by omega)) rfl rfl ?_
    rintro _ w3 hS3 ⟨p, hp, rfl⟩
    (refine jI (eU rfl) (ju rfl rfl (ju rfl rfl (jJ (eI rfl) (jJ (eI rfl) (jz ?_))))); refine jjB (jjC (jI (eI rfl) (jJ (eI rfl) (jJ (eI rfl) (jz ?_))))); refine jjF ?_; refine jC rfl rfl rfl ⟨inferInstance, ?_⟩)
    exact ⟨p, by rw [if_pos he]; exact hp, by rw [he]; exact rfl⟩

/-- What Proof answers. -/
def ProofR (d : List Int) (boxes : Int) (v : Value) (w' : World) : Prop := ∃ (l : List (Int × Int)) (e : Int) (a : Option Addr) (c : Nat), v = .tuple #[.slice a l.length c, .int .i64 e] ∧ RowV w' true 2 (.slice a l.length c) (l.map encII) ∧
  ((opE d boxes ≠ 0 ∧ l = [] ∧ e = opE d boxes) ∨ (opE d boxes = 0 ∧ PassR boxes.toNat (endF d).length 0 ∧ l = [] ∧ e = 6) ∨ (opE d boxes = 0 ∧ ∃ p, PassR boxes.toNat (endF d).length (p + 1) ∧ l = (endF d).take (boxes.toNat ^ p) ∧ e = 0))
theorem Proof_rack : Ct Tryz.prog 17 [.slice a d.length c, .int .i64 boxes] w fun v w' => ProofR d boxes v w' := by
  refine Ct.ofW (by simp) ?_
  (refine jjB (jjC (jJ (eS rfl) (jJ (eI rfl) (jz (jjB ?_))))); refine jjC (jI (eS rfl) (jI (eI rfl) ?_)))
  refine jjQ (open_rack a c d boxes _ hl) rfl rfl ?_
  rintro _ w2 hS2 (⟨he, rfl⟩ | ⟨he, bb, bn, ae, ce, rfl, _, _, hA, hN, hE⟩)
  · (refine jI (eU rfl) (ju rfl rfl (ju rfl rfl (jJ (eN rfl) (jJ (eI rfl) (jz ?_))))); refine jjB (jjB (jjC (jI (eI rfl) (jjj rfl rfl (by omega) (jz ?_))))); refine jjJ rfl (jjB (jjC (jI (eI rfl) (jJ (eS rfl) (jJ (eI rfl) ?_))))); refine jz (jjF ?_); refine jC rfl rfl rfl ⟨inferInstance, ?_⟩)
    exact ⟨[], _, none, 0, rfl, RowV.nilS _ _ _ _ _, .inl ⟨he, rfl, rfl⟩⟩
  · have hb := opE_boxes he
    have hdl := opE_len he
    have hel := endF_len d
    obtain ⟨b, rfl⟩ : ∃ b : Nat, boxes = b := ⟨boxes.toNat, by omega⟩
    (refine jI (eU rfl) (ju rfl rfl (ju rfl rfl (jJ (eP rfl) (jJ (eI rfl) (jz ?_))))); refine jjB (jjB (jjC (jI (eI rfl) (jjk rfl rfl (by omega) (jz ?_))))); refine jjK rfl (jjG (jjB (jjC (jI (eP rfl) ?_)))))
    refine jjQ (passes_rack bb _ _ ae ce (endF d).length b _ (by omega) (by omega)) rfl rfl ?_
    rintro _ w3 hS3 ⟨p, hp, rfl⟩
    cases p with
    | zero =>
      (refine jI (eU rfl) (ju rfl rfl (ju rfl rfl (jJ (eI rfl) (jJ (eI rfl) (jz ?_))))); refine jjB (jjB (jjC (jI (eI rfl) (jjh rfl rfl (by omega) (jz ?_))))); refine jjJ rfl (jjB (jjC (jJ (eS rfl) (jJ (eI rfl) (jz ?_))))); refine jjF ?_; refine jC rfl rfl rfl ⟨inferInstance, ?_⟩)
      exact ⟨[], _, none, 0, rfl, RowV.nilS _ _ _ _ _, .inr (.inl ⟨he, hp, rfl, rfl⟩)⟩
    | succ p =>
      have hpl := hp.2 p (by omega)
      (refine jI (eU rfl) (ju rfl rfl (ju rfl rfl (jJ (eI rfl) (jJ (eI rfl) (jz ?_))))); refine jjB (jjB (jjC (jI (eI rfl) (jji rfl rfl (by omega) (jz ?_))))); refine jjK rfl (jjG (jjB (jjC (jI (eP rfl) (jw rfl ?_))))); refine jm (jn rfl (jm (jn rfl (jN rfl rfl rfl (jI (eI rfl) ?_))))))
      rw [if_neg (Nat.succ_ne_zero p), Nat.add_sub_cancel]
      have hE3 : RowV w3 true 2 (.slice ae (endF d).length ce) ((endF d).map encII) := hE.ext hS3.ext
      refine Ops.sliceH (hi := b ^ p) hE3 rfl rfl rfl (by rw [List.length_map]; omega) ?_
      rintro _ hR ⟨a', c', rfl⟩
      (refine jJ (eS rfl) (jJ (eI rfl) (jz (jjF ?_))); refine jC rfl rfl rfl ⟨inferInstance, ?_⟩)
      have hlen : ((endF d).take (b ^ p)).length = b ^ p := by rw [List.length_take]; omega
      refine ⟨(endF d).take (b ^ p), 0, a', c', ?_, ?_, .inr (.inr ⟨he, p, hp, rfl, rfl⟩)⟩
      · rw [hlen]; exact rfl
      · rw [hlen, List.map_take]; exact hR
end
end Go.Proofs.YtpijeomnplmakaaGreatDoor
