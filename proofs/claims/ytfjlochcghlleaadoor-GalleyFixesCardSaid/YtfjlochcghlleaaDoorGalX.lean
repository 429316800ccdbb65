/- galley, plain laws: a corrected block. -/
import Derived.Test.YtfjlochcghlleaaDoorGalT
import Derived.Test.YtfjlochcghlleaaDoorGalL2
namespace Go.Proofs.YtfjlochcghlleaaDoor
open Go.RowKit

def setB (bs : List Blk) (k : Nat) (ln : Int) : List Blk := bs.set k ((bs.getD k (ByteArray.empty, 0)).1, ln)
theorem setB_len (bs : List Blk) (k : Nat) (ln : Int) : (setB bs k ln).length = bs.length := by simp [setB]
theorem setB_ok {bs : List Blk} {k : Nat} {ln : Int} (hb : ∀ b ∈ bs, 1 ≤ b.2 ∧ b.2 ≤ 20) (hln : 1 ≤ ln ∧ ln ≤ 20) : ∀ b ∈ setB bs k ln, 1 ≤ b.2 ∧ b.2 ≤ 20 := fun b hm => by
  rcases List.mem_or_eq_of_mem_set hm with h | h
  · exact hb b h
  · subst h; exact hln
theorem setB_sum {bs : List Blk} : ∀ {k : Nat} {ln : Int}, k < bs.length → sumL (setB bs k ln) = sumL bs + (ln - linesL bs k) := by
  induction bs with
  | nil => intro k ln h; simp at h
  | cons b bs ih =>
    intro k ln h
    cases k with
    | zero => simp [setB, sumL, linesL]; omega
    | succ k =>
      have := ih (k := k) (ln := ln) (by simp at h; omega)
      simp only [setB, sumL, linesL, List.set_cons_succ, List.map_cons, List.sum_cons, List.getD_cons_succ] at this ⊢
      omega
theorem may_tot {bs : List Blk} (hb : ∀ b ∈ bs, 1 ≤ b.2 ∧ b.2 ≤ 20) : ∀ {p : Int}, bs ≠ [] → mayR (p + sumL bs) p bs = true := by
  induction bs with
  | nil => intro p h; exact absurd rfl h
  | cons b bs ih =>
    intro p _
    have h1 := hb b (by simp)
    have h2 := sumL_le (bs := bs) fun x hx => hb x (by simp [hx])
    have e : sumL (b :: bs) = b.2 + sumL bs := by simp [sumL]
    cases bs with
    | nil =>
      have e0 : sumL ([] : List Blk) = 0 := rfl
      rw [mayR, if_pos (by omega), decide_eq_true (by omega), endOk_eq (by omega)]
      rfl
    | cons b' bs' =>
      have h3 := hb b' (by simp)
      have e' : sumL (b' :: bs') = b'.2 + sumL bs' := by simp [sumL]
      have h4 := sumL_le (bs := bs') fun x hx => hb x (by simp [hx])
      rw [mayR, if_neg (by omega), e, ← Int.add_assoc]
      exact ih (fun x hx => hb x (by simp [hx])) (by simp)

/-- The next number at which a column may end is at most three lines off. -/
theorem may_next {bs : List Blk} (hb : ∀ b ∈ bs, 1 ≤ b.2 ∧ b.2 ≤ 20) {n : Int} (h0 : 0 ≤ n) (hn : n < sumL bs) : ∃ m, mayR m 0 bs = true ∧ n < m ∧ m ≤ n + 3 := by
  have hne : bs ≠ [] := by rintro rfl; simp [sumL] at hn; omega
  have ht := may_tot (p := 0) hb hne
  rw [Int.zero_add] at ht
  suffices ∀ (d : Nat) (m : Int), (m - n).toNat = d → n < m → mayR m 0 bs = true → ∃ m, mayR m 0 bs = true ∧ n < m ∧ m ≤ n + 3 from this _ (sumL bs) rfl hn ht
  intro d
  induction d using Nat.strongRecOn with
  | _ d ih =>
  intro m hd hm hmay
  by_cases h3 : m ≤ n + 3
  · exact ⟨m, hmay, hm, h3⟩
  · obtain ⟨m', h4, h5, h6, h7⟩ := may_gap hb hmay
    have : n < m' := by omega
    rcases h4 with e | e
    · omega
    · exact ih (m' - n).toNat (by omega) m' rfl this e

theorem onW_some {h tot to : Int} {may : Int → Bool} {n : Int} (hh : 0 ≤ h ∧ h ≤ 40) (hl : to - n ≤ 1000) {m : Int} (hnm : n < m) (hmh : m - n ≤ h) (hmt : m ≤ to) (hm : may m = true) (ho : onW h tot to may m ≠ noneW) : onW h tot to may n ≠ noneW := by
  have hp := onP_any (may := may) (tot := tot) hh hl (by omega : n ≤ to)
  obtain ⟨i, hi⟩ : ∃ i : Nat, m = n + 1 + i := ⟨(m - n - 1).toNat, by omega⟩
  have hle := hp.le i (by omega) (by rw [← hi]; exact hm)
  have hcol := colW_small (tot := tot) (n := n) (i := i) (h := h) (by omega) hh.2
  have hc := onC_all (may := may) (tot := tot) hh (to - m).toNat m rfl hmt (by omega)
  have hv : valR h tot to may n i = colW h tot n (n + 1 + i) + costR h tot to may m := by rw [valR, ← hi]
  rw [onW_eq _ _ _ _ _ (by omega)]
  rcases hc with ⟨e, _⟩ | ⟨_, _, c1, c2⟩
  · exact absurd e ho
  · rcases hp.way with ⟨_, e⟩ | ⟨q, h1, h2, h3, h4, h5, h6, _⟩
    · omega
    · rw [h3]
      intro e
      have := congrArg Prod.fst e
      simp only [noneW] at this
      omega
/-- From wherever one begins, columns can go on to the end. -/
theorem reach {h tot : Int} {bs : List Blk} (hb : ∀ b ∈ bs, 1 ≤ b.2 ∧ b.2 ≤ 20) (hh : 3 ≤ h ∧ h ≤ 40) (hs : sumL bs ≤ 1000) : ∀ (d : Nat) (n : Int), (sumL bs - n).toNat = d → 0 ≤ n → n ≤ sumL bs → onW h tot (sumL bs) (fun n => mayR n 0 bs) n ≠ noneW := by
  intro d
  induction d using Nat.strongRecOn with
  | _ d ih =>
  intro n hd h0 hn
  by_cases e : n = sumL bs
  · subst e
    rw [onW_to]
    intro e; have := congrArg Prod.fst e; simp [noneW] at this
  · obtain ⟨m, h1, h2, h3⟩ := may_next hb h0 (by omega)
    have hin := may_in hb h1
    exact onW_some (by omega) (by omega) h2 (by omega) hin.2 h1 (ih (sumL bs - m).toNat (by omega) m rfl (by omega) hin.2)

theorem pathW_len {h tot to : Int} {may : Int → Bool} : ∀ (k : Nat) (n : Int), (pathW h tot to may k n).length ≤ k
  | 0, _ => by simp [pathW]
  | k + 1, n => by
    simp only [pathW]
    split
    · have := pathW_len (h := h) (tot := tot) (to := to) (may := may) k (onW h tot to may n).2
      simp; omega
    · simp
theorem drop_get {l : List Int} {t i : Nat} (h : i < (l.drop t).length) : (l.drop t)[i] = l.getD (t + i) 0 := by
  have h2 : t + i < l.length := by simp at h; omega
  simp [List.getD_eq_getElem?_getD, h2]
theorem standF_low : ∀ {l : List Int} {line : Int} {j : Nat}, j < standF l line → l.getD j 0 ≤ line
  | [], _, _, h => by simp [standF] at h
  | x :: l, line, j, h => by
    by_cases c : x ≤ line
    · cases j with
      | zero => exact c
      | succ j =>
        have : j < standF l line := by
          simp only [standF, List.takeWhile_cons, decide_eq_true c, if_true, List.length_cons] at h
          simp only [standF]; omega
        have := standF_low this
        simpa using this
    · simp [standF, c] at h
theorem standF_high : ∀ {l : List Int} {line : Int}, standF l line < l.length → line < l.getD (standF l line) 0
  | [], _, h => by simp at h
  | x :: l, line, h => by
    by_cases c : x ≤ line
    · have e : standF (x :: l) line = standF l line + 1 := by simp [standF, c]
      rw [e] at h ⊢
      have := standF_high (l := l) (line := line) (by simp at h; omega)
      simpa using this
    · have e : standF (x :: l) line = 0 := by simp [standF, c]
      rw [e]
      show line < x
      omega
theorem standF_last {l : List Int} {line : Int} (hp : 0 < l.length) (h : line < l.getD (l.length - 1) 0) : standF l line < l.length := by
  rcases Nat.lt_or_ge (standF l line) l.length with c | c
  · exact c
  · have := standF_low (l := l) (line := line) (j := l.length - 1) (by omega)
    omega

/-- What the correction's ways are asked with. -/
structure FixD (h : Int) (bs : List Blk) (l : List Int) (k : Nat) (ln : Int) : Prop where
  hk : k < bs.length
  hln : 1 ≤ ln ∧ ln ≤ 20
  hb : ∀ b ∈ bs, 1 ≤ b.2 ∧ b.2 ≤ 20
  hbl : bs.length ≤ 30
  hh : 4 ≤ h ∧ h ≤ 40
  V : ValidI h bs l
def startF (bs : List Blk) (l : List Int) (k : Nat) : Int := prevD l (colF bs l k)
def moreF (bs : List Blk) (k : Nat) (ln : Int) : Int := ln - linesL bs k
def okT (h : Int) (bs : List Blk) (l : List Int) (k : Nat) (ln : Int) (t : Nat) : Prop :=
  onW h (sumL (setB bs k ln)) (l.getD t 0 + moreF bs k ln) (fun n => mayR n 0 (setB bs k ln)) (startF bs l k) ≠ noneW
structure FixT (h : Int) (bs : List Blk) (l : List Int) (k : Nat) (ln : Int) (t : Nat) : Prop where
  lo : colT bs l k ≤ t
  hi : t < l.length
  ok : okT h bs l k ln t
  min : ∀ j, colT bs l k ≤ j → j < t → ¬ okT h bs l k ln j
theorem FixT.uniq {h : Int} {bs : List Blk} {l : List Int} {k : Nat} {ln : Int} {t t' : Nat} (a : FixT h bs l k ln t) (b : FixT h bs l k ln t') : t = t' := by
  rcases Nat.lt_trichotomy t t' with c | c | c
  · exact absurd a.ok (b.min t a.lo c)
  · exact c
  · exact absurd b.ok (a.min t' b.lo c)
def fixL (h : Int) (bs : List Blk) (l : List Int) (k : Nat) (ln : Int) (t : Nat) : List Int :=
  l.take (colF bs l k) ++ pathW h (sumL (setB bs k ln)) (l.getD t 0 + moreF bs k ln) (fun n => mayR n 0 (setB bs k ln)) (l.getD t 0 + moreF bs k ln - startF bs l k).toNat (startF bs l k) ++ (l.drop (t + 1)).map fun n => n + moreF bs k ln

section
variable {h : Int} {bs : List Blk} {l : List Int} {k : Nat} {ln : Int}
theorem FixD.facts (D : FixD h bs l k ln) : 0 < l.length ∧ sumL bs ≤ 600 ∧ 0 ≤ beginL bs k ∧ 1 ≤ linesL bs k ∧ linesL bs k ≤ 20 ∧ beginL bs k + linesL bs k ≤ sumL bs ∧ l.getD (l.length - 1) 0 = sumL bs ∧ colT bs l k < l.length ∧ colF bs l k ≤ l.length ∧ 0 ≤ startF bs l k ∧ startF bs l k ≤ beginL bs k := by
  have hsl := sumL_le D.hb
  have hkk := D.hk
  have hlk := D.hb bs[k] (List.getElem_mem D.hk)
  have hle : linesL bs k = bs[k].2 := by simp [linesL, List.getD_eq_getElem?_getD, D.hk]
  have hpre := sumL_pre0 D.hb (by have := D.hbl; omega) k
  have h1 : sumL bs = sumL (bs.take (k + 1)) + sumL (bs.drop (k + 1)) := by rw [← sumL_append, List.take_append_drop]
  have h2 := sumL_le (bs := bs.drop (k + 1)) fun b h => D.hb b (List.mem_of_mem_drop h)
  rw [sumL_take_succ hkk] at h1
  have hpos := D.V.pos (by omega)
  have hlast : l.getD (l.length - 1) 0 = sumL bs := by
    obtain ⟨q, hq⟩ : ∃ q, l.length = q + 1 := ⟨l.length - 1, by omega⟩
    have := D.V.last
    rw [hq] at this ⊢
    exact this
  have hbg : beginL bs k = sumL (bs.take k) := rfl
  have hcT : colT bs l k < l.length := standF_last hpos (by rw [hlast]; omega)
  have hcF : colF bs l k ≤ l.length := standF_le _ _
  have hbl := D.hbl
  have hst : 0 ≤ startF bs l k ∧ startF bs l k ≤ beginL bs k := by
    unfold startF
    cases hc : colF bs l k with
    | zero => exact ⟨Int.le_refl (0 : Int), (by omega : (0 : Int) ≤ beginL bs k)⟩
    | succ q =>
      have h4 : l.getD q 0 ≤ beginL bs k := standF_low (l := l) (line := beginL bs k) (j := q) (by have : standF l (beginL bs k) = q + 1 := hc; omega)
      have h5 := D.V.step q (by omega)
      exact ⟨by simp only [prevD]; omega, h4⟩
  exact ⟨hpos, by omega, by omega, by omega, by omega, by omega, hlast, hcT, hcF, hst.1, hst.2⟩
theorem FixD.at_ (D : FixD h bs l k ln) {t : Nat} (h1 : colT bs l k ≤ t) (h2 : t < l.length) : beginL bs k + linesL bs k ≤ l.getD t 0 ∧ l.getD t 0 ≤ sumL bs := by
  obtain ⟨f1, f2, f3, f4, f5, f6, f7, f8, f9, f10, f11⟩ := D.facts
  have h3 : beginL bs k + linesL bs k - 1 < l.getD (colT bs l k) 0 := standF_high f8
  have h4 := D.V.step t h2
  by_cases e : colT bs l k = t
  · subst e; omega
  · have := D.V.up t (colT bs l k) (by omega) h2
    omega
theorem FixD.sum (D : FixD h bs l k ln) : sumL (setB bs k ln) = sumL bs + moreF bs k ln := setB_sum D.hk
/-- The last column always serves. -/
theorem FixD.last_ok (D : FixD h bs l k ln) : okT h bs l k ln (l.length - 1) := by
  obtain ⟨f1, f2, f3, f4, f5, f6, f7, f8, f9, f10, f11⟩ := D.facts
  have hs := D.sum
  have hm : moreF bs k ln = ln - linesL bs k := rfl
  have hln := D.hln
  have hh := D.hh
  unfold okT
  rw [f7, ← hs]
  exact reach (setB_ok D.hb D.hln) (by omega) (by omega) _ _ rfl f10 (by omega)
end
end Go.Proofs.YtfjlochcghlleaaDoor
