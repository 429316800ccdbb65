/- galley: plain functions. -/
import Derived.Test.YtfjlochcghlleaaDoorGal2
namespace Go.Proofs.YtfjlochcghlleaaDoor
open Go.RowKit

def endOk (L k : Int) : Bool := decide (k = L) || tearsB k (L - k)
def blockEnds (n L : Int) (m : Nat) : List Int := ((List.range m).filter (fun (k : Nat) => endOk L ((k : Int) + 1))).map (fun (k : Nat) => n + ((k : Int) + 1))
def endsF (n : Int) : List Blk → List Int
  | [] => []
  | b :: bs => blockEnds n b.2 b.2.toNat ++ endsF (n + b.2) bs
def sumL (bs : List Blk) : Int := (bs.map (·.2)).sum

theorem blockEnds_succ (n L : Int) (m : Nat) : blockEnds n L (m + 1) = blockEnds n L m ++ if endOk L ((m : Int) + 1) then [n + ((m : Int) + 1)] else [] := by
  simp only [blockEnds, List.range_succ, List.filter_append, List.map_append]
  congr 1
  by_cases h : endOk L ((m : Int) + 1) = true
  · simp [h]
  · simp [h]
theorem blockEnds_prefix (n L : Int) (k j : Nat) : ∃ t, blockEnds n L (k + j) = blockEnds n L k ++ t := by
  induction j with
  | zero => exact ⟨[], by simp⟩
  | succ j ih =>
    obtain ⟨t, h⟩ := ih
    rw [← Nat.add_assoc, blockEnds_succ, h, List.append_assoc]
    exact ⟨_, rfl⟩
theorem blockEnds_get {n L : Int} {k m : Nat} (hk : k < m) (he : endOk L ((k : Int) + 1) = true) (rest : List Int) : (blockEnds n L m ++ rest)[(blockEnds n L k).length]? = some (n + ((k : Int) + 1)) := by
  obtain ⟨t, h⟩ := blockEnds_prefix n L (k + 1) (m - (k + 1))
  rw [show k + 1 + (m - (k + 1)) = m from by omega, blockEnds_succ, he] at h
  rw [h]
  simp
theorem endsF_split (bs : List Blk) : ∀ (n : Int) (i : Nat), endsF n bs = endsF n (bs.take i) ++ endsF (n + sumL (bs.take i)) (bs.drop i) := by
  induction bs with
  | nil => intro n i; simp [endsF]
  | cons b bs ih =>
    intro n i
    cases i with
    | zero => simp [endsF, sumL]
    | succ i =>
      simp only [List.take_succ_cons, List.drop_succ_cons, endsF, sumL, List.map_cons, List.sum_cons]
      rw [ih (n + b.2) i, List.append_assoc, Int.add_assoc]
      rfl
theorem take_succ_get {α : Type} {l : List α} {i : Nat} (h : i < l.length) : l.take (i + 1) = l.take i ++ [l[i]] := by
  rw [List.take_succ_eq_append_getElem h]
theorem endsF_append (bs cs : List Blk) (n : Int) : endsF n (bs ++ cs) = endsF n bs ++ endsF (n + sumL bs) cs := by
  induction bs generalizing n with
  | nil => simp [endsF, sumL]
  | cons b bs ih =>
    simp only [List.cons_append, endsF, sumL, List.map_cons, List.sum_cons]
    rw [ih, List.append_assoc, Int.add_assoc]
    rfl
theorem sumL_append (bs cs : List Blk) : sumL (bs ++ cs) = sumL bs + sumL cs := by simp [sumL]
theorem endsF_get {bs : List Blk} {i k : Nat} (hi : i < bs.length) (hk : k < (bs[i]).2.toNat) (he : endOk (bs[i]).2 ((k : Int) + 1) = true) :
    (endsF 0 bs)[(endsF 0 (bs.take i)).length + (blockEnds (sumL (bs.take i)) (bs[i]).2 k).length]? = some (sumL (bs.take i) + ((k : Int) + 1)) := by
  rw [endsF_split bs 0 i, List.getElem?_append_right (by omega), Nat.add_sub_cancel_left, Int.zero_add]
  rw [List.drop_eq_getElem_cons hi]
  exact blockEnds_get hk he _
theorem sumL_le {bs : List Blk} (hb : ∀ b ∈ bs, 1 ≤ b.2 ∧ b.2 ≤ 20) : 0 ≤ sumL bs ∧ sumL bs ≤ 20 * bs.length := by
  induction bs with
  | nil => simp [sumL]
  | cons b bs ih =>
    have h1 := hb b (by simp)
    have h2 := ih fun x hx => hb x (by simp [hx])
    simp only [sumL, List.map_cons, List.sum_cons, List.length_cons] at *
    omega
theorem blockEnds_len (n L : Int) (m : Nat) : (blockEnds n L m).length ≤ m := by
  simp only [blockEnds, List.length_map]
  exact Nat.le_trans (List.length_filter_le _ _) (by simp)
theorem endsF_len {bs : List Blk} (hb : ∀ b ∈ bs, 1 ≤ b.2 ∧ b.2 ≤ 20) : ∀ n : Int, (endsF n bs).length ≤ 20 * bs.length := by
  induction bs with
  | nil => intro n; simp [endsF]
  | cons b bs ih =>
    intro n
    have h1 := hb b (by simp)
    have h2 := ih (fun x hx => hb x (by simp [hx])) (n + b.2)
    have h3 := blockEnds_len n b.2 b.2.toNat
    simp only [endsF, List.length_append, List.length_cons]
    omega
/-- The map that says of each number of xs that it may. -/
def mayM (xs : List Int) : List (Int × Value) := xs.foldl (fun m n => mset m n (.bool true)) []
theorem mayM_snoc (xs : List Int) (n : Int) : mayM (xs ++ [n]) = mset (mayM xs) n (.bool true) := by simp [mayM]
theorem mset_mset {κ : Type} [DecidableEq κ] (m : List (κ × Value)) (k : κ) (u v : Value) : mset (mset m k u) k v = mset m k v := by
  induction m with
  | nil => simp [mset]
  | cons p m ih =>
    obtain ⟨x, y⟩ := p
    by_cases h : k = x
    · simp [mset, h]
    · simp [mset, h, ih]
theorem mget_foldl (xs : List Int) : ∀ (m : List (Int × Value)) (n : Int), mget (xs.foldl (fun m n => mset m n (.bool true)) m) n = if n ∈ xs then some (.bool true) else mget m n := by
  induction xs with
  | nil => intro m n; simp
  | cons x xs ih =>
    intro m n
    rw [List.foldl_cons, ih]
    by_cases h : n ∈ xs
    · simp [h]
    · by_cases e : n = x
      · subst e; simp [h, mget_set_same]
      · simp [h, e, mget_set_other _ _ e]
theorem mget_may (xs : List Int) (n : Int) : (mget (mayM xs) n).getD (.bool false) = .bool (decide (n ∈ xs)) := by
  rw [mayM, mget_foldl]
  by_cases h : n ∈ xs <;> simp [h, mget]
def lastZ (xs : List Int) : Int := xs.getLastD 0
theorem lastZ_snoc (xs : List Int) (n : Int) : lastZ (xs ++ [n]) = n := by simp [lastZ, List.getLastD_eq_getLast?]
theorem blockEnds_yes {n L : Int} {k : Nat} (h : endOk L ((k : Int) + 1) = true) : (blockEnds n L (k + 1)).length = (blockEnds n L k).length + 1 := by
  rw [blockEnds_succ, h]; simp
theorem blockEnds_no {n L : Int} {k : Nat} (h : endOk L ((k : Int) + 1) = false) : (blockEnds n L (k + 1)).length = (blockEnds n L k).length := by
  rw [blockEnds_succ, h]; simp
theorem endOk_eq {L k : Int} (h : k = L) : endOk L k = true := by simp [endOk, h]
theorem endOk_ne {L k : Int} (h : ¬ k = L) : endOk L k = tearsB k (L - k) := by simp [endOk, h]
theorem endsF_take_succ {bs : List Blk} {i : Nat} (h : i < bs.length) : (endsF 0 (bs.take (i + 1))).length = (endsF 0 (bs.take i)).length + (blockEnds (sumL (bs.take i)) bs[i].2 bs[i].2.toNat).length := by
  rw [take_succ_get h, endsF_append]
  simp [endsF]
theorem sumL_take_succ {bs : List Blk} {i : Nat} (h : i < bs.length) : sumL (bs.take (i + 1)) = sumL (bs.take i) + bs[i].2 := by
  rw [take_succ_get h, sumL_append]
  simp [sumL]
theorem getLastD_append {α : Type} (l m : List α) (d : α) : (l ++ m).getLastD d = m.getLastD (l.getLastD d) := by
  cases m with
  | nil => simp
  | cons x m => simp [List.getLastD_eq_getLast?, List.getLast?_append]
theorem blockEnds_last {n L : Int} (hL : 1 ≤ L) (d : Int) : (blockEnds n L L.toNat).getLastD d = n + L := by
  obtain ⟨m, hm⟩ : ∃ m, L.toNat = m + 1 := ⟨L.toNat - 1, by omega⟩
  have e : (m : Int) + 1 = L := by omega
  rw [hm, blockEnds_succ, e, endOk_eq rfl, getLastD_append]
  rfl
theorem ends_last {bs : List Blk} (hb : ∀ b ∈ bs, 1 ≤ b.2 ∧ b.2 ≤ 20) : ∀ (n d : Int), bs ≠ [] → (endsF n bs).getLastD d = n + sumL bs := by
  induction bs with
  | nil => intro n d h; exact absurd rfl h
  | cons b bs ih =>
    intro n d _
    have h1 := hb b (by simp)
    simp only [endsF, sumL, List.map_cons, List.sum_cons]
    rw [getLastD_append, blockEnds_last h1.1]
    cases bs with
    | nil => simp [endsF]
    | cons b' bs' =>
      rw [ih (fun x hx => hb x (by simp [hx])) _ _ (by simp)]
      simp only [sumL]
      omega
theorem lastZ_ends {bs : List Blk} (hb : ∀ b ∈ bs, 1 ≤ b.2 ∧ b.2 ≤ 20) (hne : 1 ≤ bs.length) : lastZ (endsF 0 bs) = sumL bs := by
  have := ends_last hb 0 0 (by intro e; subst e; simp at hne)
  rw [Int.zero_add] at this
  exact this
theorem lastZ_bound {bs : List Blk} (hb : ∀ b ∈ bs, 1 ≤ b.2 ∧ b.2 ≤ 20) (hne : 1 ≤ bs.length) (hl : bs.length ≤ 30) : 0 ≤ lastZ (endsF 0 bs) ∧ lastZ (endsF 0 bs) ≤ 1000 := by
  rw [lastZ_ends hb hne]
  have := sumL_le hb
  omega
end Go.Proofs.YtfjlochcghlleaaDoor
