/- Stable sorting, in plain Lean. -/
import Derived.Test.YtcelhpbcdpefnaaEng1
namespace Go.Proofs.Ytcelhpbcdpefnaa

def Filt (k : Int → Int) (l r : List Int) : Prop := ∀ c, l.filter (fun x => decide (k x = c)) = r.filter (fun x => decide (k x = c))
def Srt (k : Int → Int) (l : List Int) : Prop := l.Pairwise (fun a b => k a ≤ k b)
theorem Filt.refl (k : Int → Int) (l : List Int) : Filt k l l := fun _ => rfl
theorem Filt.symm {k : Int → Int} {l r : List Int} (h : Filt k l r) : Filt k r l := fun c => (h c).symm
theorem Filt.trans {k : Int → Int} {a b c : List Int} (h : Filt k a b) (g : Filt k b c) : Filt k a c := fun x => (h x).trans (g x)
theorem Filt.app {k : Int → Int} {a b c d : List Int} (h : Filt k a b) (g : Filt k c d) : Filt k (a ++ c) (b ++ d) := fun x => by simp [List.filter_append, h x, g x]
theorem Filt.cons {k : Int → Int} {a b : List Int} (x : Int) (h : Filt k a b) : Filt k (x :: a) (x :: b) := Filt.app (Filt.refl k [x]) h
theorem Filt.mem {k : Int → Int} {a b : List Int} (h : Filt k a b) {x : Int} (hx : x ∈ a) : x ∈ b := by
  have : x ∈ a.filter (fun y => decide (k y = k x)) := by simp [hx]
  rw [h] at this
  exact (List.mem_filter.1 this).1
theorem Filt.mem_iff {k : Int → Int} {a b : List Int} (h : Filt k a b) {x : Int} : x ∈ a ↔ x ∈ b := ⟨h.mem, h.symm.mem⟩
theorem Filt.nil {k : Int → Int} {b : List Int} (h : Filt k [] b) : b = [] := by
  cases b with
  | nil => rfl
  | cons x b => exact absurd (h.symm.mem List.mem_cons_self) (by simp)
/-- Two blocks without a common key may change places. -/
theorem Filt.swap {k : Int → Int} {a b : List Int} (h : ∀ x ∈ a, ∀ y ∈ b, k x ≠ k y) : Filt k (a ++ b) (b ++ a) := by
  intro c
  rw [List.filter_append, List.filter_append]
  by_cases hc : ∃ x ∈ a, k x = c
  · obtain ⟨x, hx, rfl⟩ := hc
    have : b.filter (fun y => decide (k y = k x)) = [] := by
      rw [List.filter_eq_nil_iff]
      intro y hy
      simpa using fun e => h x hx y hy e.symm
    rw [this]; simp
  · have : a.filter (fun y => decide (k y = c)) = [] := by
      rw [List.filter_eq_nil_iff]
      intro y hy
      simpa using fun e => hc ⟨y, hy, e⟩
    rw [this]; simp
theorem Srt.uniq {k : Int → Int} : ∀ {a b : List Int}, Srt k a → Srt k b → Filt k a b → a = b
  | [], b, _, _, h => h.nil.symm
  | x :: a, [], _, _, h => absurd (h.symm.nil) (by simp)
  | x :: a, y :: b, ha, hb, h => by
    have h1 : k y ≤ k x := by
      have := h.mem (List.mem_cons_self (a := x) (l := a))
      rcases List.mem_cons.1 this with e | e
      · rw [e]; exact Int.le_refl _
      · exact (List.pairwise_cons.1 hb).1 x e
    have h2 : k x ≤ k y := by
      have := h.symm.mem (List.mem_cons_self (a := y) (l := b))
      rcases List.mem_cons.1 this with e | e
      · rw [e]; exact Int.le_refl _
      · exact (List.pairwise_cons.1 ha).1 y e
    have hk : k y = k x := by omega
    have hx := h (k x)
    simp [hk] at hx
    obtain ⟨rfl, hx⟩ := hx
    have : Filt k a b := fun c => by
      have := h c
      by_cases e : k x = c
      · simpa [e] using this
      · simpa [e] using this
    rw [Srt.uniq (List.pairwise_cons.1 ha).2 (List.pairwise_cons.1 hb).2 this]

def insF (k : Int → Int) (x : Int) : List Int → List Int
  | [] => [x]
  | y :: l => if k x ≤ k y then x :: y :: l else y :: insF k x l
def ssort (k : Int → Int) : List Int → List Int
  | [] => []
  | x :: l => insF k x (ssort k l)
theorem insF_filt (k : Int → Int) (x : Int) : ∀ l, Filt k (x :: l) (insF k x l)
  | [] => Filt.refl _ _
  | y :: l => by
    unfold insF
    split
    · exact Filt.refl _ _
    · have h1 : Filt k (x :: y :: l) (y :: x :: l) := Filt.app (a := [x] ++ [y]) (b := [y] ++ [x]) (Filt.swap (by intro a ha b hb; simp at ha hb; subst ha; subst hb; omega)) (Filt.refl _ l)
      exact h1.trans ((insF_filt k x l).cons y)
theorem insF_srt {k : Int → Int} {x : Int} : ∀ {l}, Srt k l → Srt k (insF k x l)
  | [], _ => by simp [insF, Srt]
  | y :: l, h => by
    obtain ⟨h1, h2⟩ := List.pairwise_cons.1 h
    unfold insF
    split
    · rename_i hxy
      refine List.pairwise_cons.2 ⟨fun z hz => ?_, h⟩
      rcases List.mem_cons.1 hz with rfl | hz
      · exact hxy
      · have := h1 z hz; omega
    · rename_i hxy
      refine List.pairwise_cons.2 ⟨fun z hz => ?_, insF_srt h2⟩
      rcases List.mem_cons.1 ((insF_filt k x l).symm.mem hz) with rfl | hz
      · omega
      · exact h1 z hz
theorem ssort_filt (k : Int → Int) : ∀ l, Filt k l (ssort k l)
  | [] => Filt.refl _ _
  | x :: l => ((ssort_filt k l).cons x).trans (insF_filt k x _)
theorem ssort_srt (k : Int → Int) : ∀ l, Srt k (ssort k l)
  | [] => List.Pairwise.nil
  | _ :: l => insF_srt (ssort_srt k l)
theorem ssort_eq {k : Int → Int} {l r : List Int} (hs : Srt k r) (hf : Filt k l r) : r = ssort k l := Srt.uniq hs (ssort_srt k l) (hf.symm.trans (ssort_filt k l))
theorem ssort_of_srt {k : Int → Int} {l : List Int} (hs : Srt k l) : ssort k l = l := (ssort_eq hs (Filt.refl _ _)).symm
theorem ssort_mem {k : Int → Int} {l : List Int} {x : Int} : x ∈ ssort k l ↔ x ∈ l := (ssort_filt k l).mem_iff.symm
theorem ssort_len (k : Int → Int) (l : List Int) : (ssort k l).length = l.length := by
  induction l with
  | nil => rfl
  | cons x l ih =>
    have : ∀ m, (insF k x m).length = m.length + 1 := by
      intro m
      induction m with
      | nil => rfl
      | cons y m ih2 => unfold insF; split <;> simp_all
    rw [ssort, this, ih]; rfl
theorem ssort_app_l (k : Int → Int) (a b : List Int) : ssort k (ssort k a ++ b) = ssort k (a ++ b) := ssort_eq (ssort_srt _ _) (((ssort_filt k a).app (Filt.refl k b)).trans (ssort_filt k _))
theorem ssort_app (k : Int → Int) (a b : List Int) : ssort k (ssort k a ++ ssort k b) = ssort k (a ++ b) := (ssort_eq (ssort_srt _ _) (((ssort_filt k a).app (ssort_filt k b)).trans (ssort_filt k _))).symm ▸ rfl
/-- The law of symMerge. -/
theorem ssort_sym {k : Int → Int} {U1 U2 V1 V2 : List Int} (hU : Srt k (U1 ++ U2)) (hV : Srt k (V1 ++ V2)) (h1 : ∀ u ∈ U2, ∀ v ∈ V1, k v < k u) (h2 : ∀ u ∈ U1, ∀ v ∈ V2, k u ≤ k v) :
    ssort k (U1 ++ U2 ++ (V1 ++ V2)) = ssort k (U1 ++ V1) ++ ssort k (U2 ++ V2) := by
  refine (ssort_eq ?_ ?_).symm
  · refine List.pairwise_append.2 ⟨ssort_srt _ _, ssort_srt _ _, fun a ha b hb => ?_⟩
    rw [ssort_mem] at ha hb
    rcases List.mem_append.1 ha with ha | ha <;> rcases List.mem_append.1 hb with hb | hb
    · exact (List.pairwise_append.1 hU).2.2 a ha b hb
    · exact h2 a ha b hb
    · exact Int.le_of_lt (h1 b hb a ha)
    · exact (List.pairwise_append.1 hV).2.2 a ha b hb
  · have e : Filt k (U1 ++ (U2 ++ V1) ++ V2) (U1 ++ (V1 ++ U2) ++ V2) := ((Filt.refl k U1).app (Filt.swap fun x hx y hy e => by have := h1 x hx y hy; omega)).app (Filt.refl k V2)
    have e2 : U1 ++ U2 ++ (V1 ++ V2) = U1 ++ (U2 ++ V1) ++ V2 := by simp
    have e3 : U1 ++ (V1 ++ U2) ++ V2 = (U1 ++ V1) ++ (U2 ++ V2) := by simp
    rw [e2]
    refine e.trans ?_
    rw [e3]
    exact (ssort_filt k _).app (ssort_filt k _)
/-- One that is put in from behind: the ones behind it are greater, the ones ahead not. -/
theorem ssort_snoc {k : Int → Int} {a b : List Int} {x : Int} (h : Srt k (a ++ b)) (h1 : ∀ y ∈ b, k x < k y) (h2 : ∀ y ∈ a, k y ≤ k x) : ssort k (a ++ b ++ [x]) = a ++ [x] ++ b := by
  have := ssort_sym (k := k) (U1 := a) (U2 := b) (V1 := [x]) (V2 := []) h (by simp [Srt]) (by intro u hu v hv; simp at hv; subst hv; exact h1 u hu) (by simp)
  rw [List.append_nil] at this
  rw [this]
  obtain ⟨ha, hb, _⟩ := List.pairwise_append.1 h
  rw [List.append_nil, ssort_of_srt hb, ssort_of_srt]
  exact List.pairwise_append.2 ⟨ha, by simp, by intro y hy z hz; simp at hz; subst hz; exact h2 y hy⟩
/-- One that is put in from ahead. -/
theorem ssort_front {k : Int → Int} {a b : List Int} {x : Int} (h : Srt k (a ++ b)) (h1 : ∀ y ∈ a, k y < k x) (h2 : ∀ y ∈ b, k x ≤ k y) : ssort k ([x] ++ (a ++ b)) = a ++ [x] ++ b := by
  have := ssort_sym (k := k) (U1 := []) (U2 := [x]) (V1 := a) (V2 := b) (by simp [Srt]) h (by intro u hu v hv; simp at hu; subst hu; exact h1 v hv) (by simp)
  simp only [List.nil_append] at this
  rw [this]
  obtain ⟨ha, hb, _⟩ := List.pairwise_append.1 h
  rw [ssort_of_srt ha, ssort_of_srt, List.append_assoc]
  exact List.pairwise_cons.2 ⟨fun y hy => h2 y hy, hb⟩
end Go.Proofs.Ytcelhpbcdpefnaa
