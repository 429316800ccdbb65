/- The proof engine, part 3: loops; lengths, indexes, literals of slices and structs; loads by place. -/
import Derived.Test.YtcelhpbcdpefnaaEng2
namespace Go.Proofs.Ytcelhpbcdpefnaa
open Go.RowKit

/-! ### Loops -/
def memN : List Nat → Nat → Bool
  | [], _ => false
  | d :: D, i => bif Nat.beq i d then true else memN D i
def ovN (D : List Nat) (d s : Sl) : Sl := fun i => bif memN D i then d i else s i
/-- Slots outside D are as they were. -/
def Same (D : List Nat) (s s' : Sl) : Prop := ∀ i, memN D i = false → s' i = s i

theorem Same.refl (D : List Nat) (s : Sl) : Same D s s := fun _ _ => rfl
theorem Same.upd {D : List Nat} {s s' : Sl} {d : Nat} {v : Value} (hd : memN D d = true) (h : Same D s s') : Same D s (upd s' d v) := fun i hi => by
  simp only [Go.Proofs.Ytcelhpbcdpefnaa.upd]
  cases e : Nat.beq i d
  · exact h i hi
  · rw [Nat.eq_of_beq_eq_true e, hd] at hi; cases hi
theorem Same.putS {D : List Nat} {s s' : Sl} {d : Nat} {v : Value} (hd : memN D d = true) (h : Same D s s') : Same D s (putS s' (some d) v) := h.upd hd
theorem Same.putN {D : List Nat} {s s' : Sl} {v : Value} (h : Same D s s') : Same D s (Go.Proofs.Ytcelhpbcdpefnaa.putS s' none v) := h
theorem Same.ovN {D : List Nat} {d s : Sl} : Same D s (ovN D d s) := fun i hi => by simp [Go.Proofs.Ytcelhpbcdpefnaa.ovN, hi]
def allN (D : List Nat) : List Nat → Bool
  | [] => true
  | d :: E => bif memN D d then allN D E else false
theorem mem_of_allN {D : List Nat} : ∀ {E : List Nat} {i : Nat}, allN D E = true → memN E i = true → memN D i = true
  | d :: E, i, h, hi => by
    simp only [memN] at hi
    simp only [allN] at h
    cases hd : memN D d
    · rw [hd] at h; cases h
    · rw [hd] at h
      cases e : Nat.beq i d
      · rw [e] at hi; exact mem_of_allN h hi
      · rw [Nat.eq_of_beq_eq_true e]; exact hd
theorem Same.ovN' {D E : List Nat} {d s s' : Sl} (hE : allN D E = true) (h : Same D s s') : Same D s (Go.Proofs.Ytcelhpbcdpefnaa.ovN E d s') := fun i hi => by
  have : memN E i = false := by
    cases e : memN E i
    · rfl
    · rw [mem_of_allN hE e] at hi; cases hi
  simp only [Go.Proofs.Ytcelhpbcdpefnaa.ovN, this, cond_false]; exact h i hi
theorem Same.ov_eq {D : List Nat} {s s' : Sl} (h : Same D s s') : Go.Proofs.Ytcelhpbcdpefnaa.ovN D s' s = s' := by
  funext i
  simp only [Go.Proofs.Ytcelhpbcdpefnaa.ovN]
  cases e : memN D i
  · exact (h i e).symm
  · rfl

section
variable {P : Program} {ro : Option Nat} {n : Nat} {X : Ctx} {s : Sl} {ds : List Deferred} {w : World}

theorem wpIn_loopJ {F : Fence} {m : Nat} {c : Code} {Q : Exit → Act → World → Prop} {a : Act} {w : World} (J : Nat → Act → World → Prop) (j0 : Nat) (h₀ : J j0 a w)
    (round : ∀ j a w, J j a w → c.wpIn F m P (Exit.then (fun a' w' => ∃ j', j' < j ∧ J j' a' w') Q) a w) : (Code.loop c).wpIn F m P Q a w := by
  intro b k cs hro hb hr
  have key : ∀ j a w, J j a w →
      ∃ e a' w', Q e a' w' ∧ ArrivesIn (Machine.fenced P F) P (lone (b.atR a (.code c :: .inLoop c :: k)) cs w) b k cs e a' w' := by
    intro j
    induction j using Nat.strongRecOn with
    | _ j ih =>
      intro a w hJ
      obtain ⟨e, a₁, w₁, hq, harr⟩ := round j a w hJ b (.inLoop c :: k) cs hro hb hr
      cases e with
      | normal =>
        obtain ⟨j', hlt, hJ'⟩ := hq
        obtain ⟨e₂, a₂, w₂, hq₂, harr₂⟩ := ih j' hlt a₁ w₁ hJ'
        exact ⟨e₂, a₂, w₂, hq₂, .of_steps (StepsIn.trans harr (.one (fenced_calm hb hr rfl) stepR_inLoop)) harr₂⟩
      | exit id => exact ⟨_, a₁, w₁, hq, .pass (x := .inLoop c) rfl (fun _ _ => .inl (by simp)) harr⟩
      | goto l => exact ⟨_, a₁, w₁, hq, .pass (x := .inLoop c) rfl (fun _ _ => .inl (by simp)) harr⟩
      | ret => exact ⟨_, a₁, w₁, hq, .pass (x := .inLoop c) rfl (fun _ _ => .inl (by simp)) harr⟩
      | panic ch => exact ⟨_, a₁, w₁, hq, .pass (x := .inLoop c) rfl (fun _ _ => .inl (by simp)) harr⟩
      | outgrown => exact ⟨_, a₁, w₁, hq, .pass (x := .inLoop c) rfl (fun _ _ => .inl (by simp)) harr⟩
  obtain ⟨e, a', w', hq, harr⟩ := key _ a w h₀
  exact ⟨e, a', w', hq, .of_steps (.one (fenced_calm hb hr rfl) stepR_loop) harr⟩

/-- A loop: slots in D may turn; I holds at each round's head, at a number that falls. -/
theorem W.loopG (D : List Nat) {c : Code} (I : Nat → Sl → World → Prop) (g0 : Nat) (h0 : I g0 s w)
    (hr : ∀ g d w', I g (ovN D d s) w' → W P ro n c { X with nx := fun s' ds' w'' => ds' = ds ∧ Same D s s' ∧ ∃ g', g' < g ∧ I g' s' w'' } (ovN D d s) ds w') :
    W P ro n (.loop c) X s ds w := by
  unfold W at hr ⊢
  refine wpIn_loopJ (fun j a w' => ∃ s', a = mkA n s' ds ∧ Same D s s' ∧ I j s' w') g0 ⟨s, rfl, Same.refl D s, h0⟩ ?_
  rintro j a w' ⟨s', rfl, hs, hI⟩
  have hr' := hr j s' w'
  rw [hs.ov_eq] at hr'
  refine wpIn_mono (hr' hI) fun e a w'' hp => ?_
  cases e with
  | normal =>
    obtain ⟨s'', ds'', rfl, rfl, hs', g', hlt, hI'⟩ := hp
    exact ⟨g', hlt, s'', rfl, hs', hI'⟩
  | ret => exact hp
  | exit i => exact hp
  | goto l => exact hp
  | panic c => exact hp
  | outgrown => exact hp

/-- A loop in which the heap only grows. -/
theorem W.loop (D : List Nat) {c : Code} (I : Nat → Sl → World → Prop) (g0 : Nat) (h0 : I g0 s w)
    (hr : ∀ g d w', Step w w' → I g (ovN D d s) w' → W P ro n c { X with nx := fun s' ds' w'' => ds' = ds ∧ Same D s s' ∧ ∃ g', g' < g ∧ Ext w w'' ∧ I g' s' w'' } (ovN D d s) ds w') :
    W P ro n (.loop c) X s ds w :=
  W.loopG D (fun g s' w' => Ext w w' ∧ I g s' w') g0 ⟨Ext.refl w, h0⟩ fun g d w' h => hr g d w' h.1.toStep h.2
end

/-! ### Slices, structs, lengths -/
class TSl (P : Program) (t : Nat) (e : outParam Nat) : Prop where
  h : P.underlying t = some (.slice e)

section rules
variable {P : Program} {ro : Option Nat} {n : Nat} {all rest : List Oper} {K : Sl → World → Prop} {s : Sl} {w : World} {d : Nat} {ty : Nat} {pos : String} {af : Array Edge}
variable {x y : Operand} {t t' e : Nat} {at_ : Array Nat}

theorem jh {a : Option Addr} {l c : Nat} (hx : ev n s x = .slice a l c) [ht : TSl P t e] (h : Ops P ro n all rest K (upd s d (.int .i64 (l : Nat))) w) :
    Ops P ro n all (⟨some d, .call { callee := .builtin .len, args := #[x], argTypes := #[t] }, ty, pos, af, none⟩ :: rest) K s w :=
  Ops.ofRun rfl (by simp [execOp, resolve, invoke, builtin, hx, Builtin.len_, run_underlying ht.h, goInt]) h
theorem ji {b : ByteArray} (hx : ev n s x = .string b) [ht : TU P t .string] (h : Ops P ro n all rest K (upd s d (.int .i64 (b.size : Nat))) w) :
    Ops P ro n all (⟨some d, .call { callee := .builtin .len, args := #[x], argTypes := #[t] }, ty, pos, af, none⟩ :: rest) K s w :=
  Ops.ofRun rfl (by simp [execOp, resolve, invoke, builtin, hx, Builtin.len_, run_underlying ht.h, goInt]) h
theorem jl {a : Option Addr} {l c : Nat} (hx : ev n s x = .slice a l c) [ht : TSl P t e] (h : Ops P ro n all rest K (upd s d (.int .i64 (c : Nat))) w) :
    Ops P ro n all (⟨some d, .call { callee := .builtin .cap, args := #[x], argTypes := #[t] }, ty, pos, af, none⟩ :: rest) K s w :=
  Ops.ofRun rfl (by simp [execOp, resolve, invoke, builtin, hx, Builtin.cap_, run_underlying ht.h, goInt]) h
theorem jj {a b : Int} {k : IntKind} (hx : ev n s x = .int k a) (hy : ev n s y = .int k b) (h : Ops P ro n all rest K (upd s d (.int k (min a b))) w) :
    Ops P ro n all (⟨some d, .call { callee := .builtin .min, args := #[x, y], argTypes := at_ }, ty, pos, af, none⟩ :: rest) K s w :=
  Ops.ofRun rfl (by
    have e : min a b = if b < a then b else a := by rw [Int.min_def]; by_cases h : a ≤ b <;> (simp [h]; try omega)
    rw [e]
    simp [execOp, resolve, invoke, builtin, hx, hy, run_min_int2]) h
theorem jk {a b : Int} {k : IntKind} (hx : ev n s x = .int k a) (hy : ev n s y = .int k b) (h : Ops P ro n all rest K (upd s d (.int k (max a b))) w) :
    Ops P ro n all (⟨some d, .call { callee := .builtin .max, args := #[x, y], argTypes := at_ }, ty, pos, af, none⟩ :: rest) K s w :=
  Ops.ofRun rfl (by
    have e : max a b = if a < b then b else a := by rw [Int.max_def]; by_cases h : a ≤ b <;> (simp [h]; try omega)
    rw [e]
    simp [execOp, resolve, invoke, builtin, hx, hy, run_max_int2]) h

/-- The address of an element. -/
theorem jH {z : Value} {size bytes b o l c : Nat} {i : Int} {k : IntKind} (j : Nat) (hx : ev n s x = .slice (some ⟨b, o, none⟩) l c) (hy : ev n s y = .int k i) (hi : i = (j : Int)) (hj : j < l)
    [ht : TSl P t e] [hz : TS P e z size bytes] (h : Ops P ro n all rest K (upd s d (.pointer (some ⟨b, o + j * size, none⟩))) w) :
    Ops P ro n all (⟨some d, .indexAddr t x y, ty, pos, af, none⟩ :: rest) K s w := by
  subst hi
  exact Ops.ofRun rfl (by
    have h1 : (0 : Int) ≤ (j : Int) ∧ (j : Int) < (l : Int) := by omega
    simp [execOp, Instr.indexAt, hx, hy, asIntOf, run_underlying ht.h, h1, run_sizeOf' w hz, Addr.add_lit, hj]) h

/-- Loads at the very place that is known. -/
theorem Ops.loadI {cs : List Value} {b o : Nat} {v : Value} {dd : TypeDesc} (hx : ev n s x = .pointer (some ⟨b, o, none⟩)) [hc : At w b o cs] (hv : cs[0]? = some v) [ht : TU P t dd] (hs : TypeDesc.isAgg dd = false) (h : Ops P ro n all rest K (upd s d v) w) :
    Ops P ro n all (⟨some d, .load t x, ty, pos, af, none⟩ :: rest) K s w :=
  jR (by have := hc.get hv; simpa using this) hx hs h
theorem Ops.loadIA {cs : List Value} {b o : Nat} {dd : TypeDesc} {z : Value} {size bytes : Nat} (hx : ev n s x = .pointer (some ⟨b, o, none⟩)) [hc : At w b o cs] [ht : TU P t dd] (hs : TypeDesc.isAgg dd = true) [hz : TS P t z size bytes] (hl : cs.length = size)
    (h : Ops P ro n all rest K (upd s d (.agg cs.toArray)) w) : Ops P ro n all (⟨some d, .load t x, ty, pos, af, none⟩ :: rest) K s w :=
  Ops.loadA hc hx hs hl h

/-- A literal of a slice of one-cell elements, or of one struct. -/
theorem jjP {z : Value} {size bytes : Nat} {v : Value} (hx : ev n s x = v) [ht : TSl P t e] [hz : TS P e z size bytes] (hsz : v.cells.size = size) (hs0 : Nat.blt 0 size = true)  (hs1 : Nat.blt size 1000 = true) (hzz : z.cells.size = size)
    (h : ∀ b w', b = w.heap.size → w'.heap.size = w.heap.size + 1 → Step w w' → w'.heap[b]? = some (.cells v.cells e (0, 0)) → Ops P ro n all rest K (upd s d (.slice (some ⟨b, 0, none⟩) 1 1)) w') :
    Ops P ro n all (⟨some d, .buildSlice t 1 #[(0, x)], ty, pos, af, none⟩ :: rest) K s w := by
  have h0 : 0 < size := by simpa using hs0
  have h1 : size < 1000 := by simpa using hs1
  have hfill : ∀ (z' : Array Value), z'.size = size → Instr.fill (fun i => some (i * size, size)) z' [(0, v)] = some v.cells := by
    intro z' hz'
    simp only [Instr.fill, hsz, hz']
    rw [if_neg (by simp)]
    congr 1
    apply Array.ext_getElem?
    intro i
    have key : ∀ (l : List (Value × Nat)) (a : Array Value) (k0 : Nat), (∀ j p, l[j]? = some p → p.2 = k0 + j) → k0 + l.length ≤ a.size →
        (l.foldl (fun cs (x : Value × Nat) => cs.setIfInBounds (0 * size + x.2) x.1) a)[i]? = if k0 ≤ i ∧ i < k0 + l.length then (l[i - k0]?).map (·.1) else a[i]? := by
      intro l
      induction l with
      | nil => intro a k0 _ _; simp; intro h1 h2; omega
      | cons p l ih =>
        intro a k0 hp hlen
        simp only [List.foldl_cons, List.length_cons] at hlen ⊢
        have hp0 : p.2 = k0 := by simpa using hp 0 p rfl
        rw [ih _ (k0 + 1) (fun j q hq => by have := hp (j + 1) q (by simpa using hq); omega) (by simp; omega)]
        by_cases h1 : k0 + 1 ≤ i ∧ i < k0 + 1 + l.length
        · rw [if_pos h1, if_pos (by omega)]
          rw [show i - k0 = (i - (k0 + 1)) + 1 from by omega]
          simp
        · rw [if_neg h1]
          by_cases h2 : i = k0
          · subst h2
            rw [if_pos (by omega)]
            have hia : i < a.size := by omega
            simp [hp0, hia]
          · rw [if_neg (by omega)]
            simp [hp0, Array.getElem?_setIfInBounds]
            intro h; omega
    rw [← Array.foldl_toList, Array.toList_zipIdx, key v.cells.toList.zipIdx z' 0 (fun j p hp => by
      simp [List.getElem?_zipIdx] at hp
      obtain ⟨q, _, rfl⟩ := hp
      simp) (by simp [hz', hsz])]
    simp only [Nat.zero_le, true_and, Nat.zero_add, List.length_zipIdx, Array.length_toList, Nat.sub_zero]
    by_cases hi : i < v.cells.size
    · rw [if_pos hi]
      cases hvi : v.cells[i]? <;> simp [List.getElem?_zipIdx, hvi]
    · rw [if_neg hi]
      rw [Array.getElem?_eq_none (by omega), Array.getElem?_eq_none (by omega)]
  have hne : ¬ size = 0 := by omega
  have hbig : ¬ (16777216 < size) := by omega
  refine Ops.ofRun (w' := w.alloc (.cells v.cells e)) rfl ?_ (h w.heap.size _ rfl (by simp) ⟨(Below.refl _ w).alloc (Nat.le_refl _) _⟩ (World.alloc_heap_new w _))
  have hf := hfill ((Array.range (1 * size)).map (z.cells[· % z.cells.size]!)) (by simp)
  simp only [Nat.one_mul] at hf
  simp [execOp, Instr.buildSlice, hx, run_underlying ht.h, run_sizeOf' w hz, run_zeroValue' w hz, hne, hbig, hf, newRow]
end rules
end Go.Proofs.Ytcelhpbcdpefnaa
