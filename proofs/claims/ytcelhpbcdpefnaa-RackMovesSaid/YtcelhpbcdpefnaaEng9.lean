/- The proof engine, part 9: regions that draw their order. -/
import Derived.OrdersIn
import Derived.Test.YtcelhpbcdpefnaaEng8
namespace Go.Proofs.Ytcelhpbcdpefnaa
open Go.RowKit

class Mixed (P : Program) : Prop where
  h : P.follows .mixedOrders = true

section
variable {P : Program} {ro : Option Nat} {n : Nat} {all : List Oper} {S : World → Prop} {K : Sl → World → Prop}

def Op1 (P : Program) (ro : Option Nat) (n : Nat) (all : List Oper) (o : Oper) (s : Sl) (w : World) (K : Value → World → Prop) : Prop :=
  if Region.wanted o (fun j => asB ((gdst all j).bind (fun d => if d < n then some (s d) else none))) then OpW P ro n o s w K else K undef w

theorem op1_ops {o : Oper} {s : Sl} {w : World} : Ops P ro n all [o] K s w = Op1 P ro n all o s w (fun v w' => K (putS s o.dst v) w') := by unfold Ops Op1; unfold Ops; rfl

theorem OpW.mono {o : Oper} {s : Sl} {w : World} {K K' : Value → World → Prop} (h : OpW P ro n o s w K) (hk : ∀ v w', K v w' → K' v w') : OpW P ro n o s w K' := by
  unfold OpW at *
  exact fun ds => Oper.wpIn_mono (fun _ _ ⟨v, e, h⟩ => ⟨v, e, hk _ _ h⟩) (h ds)
theorem Op1.mono {o : Oper} {s : Sl} {w : World} {K K' : Value → World → Prop} (h : Op1 P ro n all o s w K) (hk : ∀ v w', K v w' → K' v w') : Op1 P ro n all o s w K' := by
  unfold Op1 at *
  split
  · rename_i hw; rw [if_pos hw] at h; exact h.mono hk
  · rename_i hw; rw [if_neg hw] at h; exact hk _ _ h

def Oper.nice (o : Oper) : Bool := Op.noDefer o.op && match o.op with
  | .select _ _ => false
  | _ => true

theorem OpW.congr {o : Oper} {s s' : Sl} {w : World} {K : Value → World → Prop} (hn : Oper.nice o = true) (ha : ∀ x ∈ o.op.operands, ev n s x = ev n s' x) (h : OpW P ro n o s w K) : OpW P ro n o s' w K := by
  simp only [Oper.nice, Bool.and_eq_true] at hn
  have hsel : ∀ cs b, o.op ≠ .select cs b := fun cs b e => by rw [e] at hn; simp at hn
  have he : execOp (ev n s) o = execOp (ev n s') o := execOp_congr o hsel ha
  unfold OpW at *
  intro ds
  have h := h ds
  unfold Oper.wpIn at *
  rw [mkA_eval, show (Fw ro).round = ro from rfl, OpW.semAt hn.1] at *
  rw [he] at h
  rw [← about_congr o w ha]
  refine ⟨h.1, ?_⟩
  have h := h.2
  generalize (execOp (ev n s') o).run P w = r at *
  have key : ∀ v w', (∃ u, (mkA n s ds).put o.dst v = (mkA n s ds).put o.dst u ∧ K u w') → ∃ u, (mkA n s' ds).put o.dst v = (mkA n s' ds).put o.dst u ∧ K u w' := fun v w' ⟨u, e, hk⟩ => by
    cases hd : o.dst with
    | none => exact ⟨u, rfl, hk⟩
    | some d =>
      rw [hd] at e
      by_cases hlt : d < n
      · have : v = u := by
          have := congrArg (fun a : Act => a.tmps[d]?) e
          simpa [Act.put, mkA, hlt] using this
        exact ⟨u, by rw [this], hk⟩
      · refine ⟨u, ?_, hk⟩
        have hlt' : n ≤ d := Nat.le_of_not_lt hlt
        have hs : ∀ x : Value, (mkA n s' ds).put (some d) x = mkA n s' ds := fun x => by
          rw [mkA_put]
          refine act_ext (fun i => ?_) rfl
          rw [mkA_getElem?, mkA_getElem?]
          by_cases hi : i < n
          · have : Nat.beq i d = false := by
              cases e : Nat.beq i d
              · rfl
              · exact absurd (Nat.eq_of_beq_eq_true e) (Nat.ne_of_lt (Nat.lt_of_lt_of_le hi hlt'))
            simp [hi, putS, upd, this]
          · simp [hi]
        rw [hs, hs]
  cases r with
  | halt x w' => cases x <;> exact h.elim
  | ok x w' =>
    cases x
    case value v => exact key _ _ h
    case skip => exact key _ _ h
    case defer d =>
      obtain ⟨u, e, hk⟩ := h
      have e := congrArg (fun a : Act => a.defers.length) e
      exfalso
      revert e
      cases o.dst <;> simp [Act.put, mkA]
    case enter f args =>
      refine ⟨h.1, CallsIn.mono h.2 fun e w'' he => ?_⟩
      cases e with
      | returned v => exact key _ _ he
      | panicked c => exact he
      | outgrown => obtain ⟨_, _, h⟩ := he; exact h.elim
    case row row args => exact ⟨h.1, RowsIn.mono h.2 fun v w'' he => key _ _ he⟩
    case round l f tmps assign body =>
      refine ⟨h.1, RoundIn.mono h.2 fun e w'' he => ?_⟩
      cases e with
      | returned v => exact key _ _ he
      | panicked c => exact he
      | outgrown => obtain ⟨_, _, h⟩ := he; exact h.elim
    all_goals exact h.elim

theorem ev_putS {s : Sl} {dst : Option Nat} {v : Value} {x : Operand} (h : ∀ d, dst = some d → x ≠ .tmp d) : ev n (putS s dst v) x = ev n s x := by
  cases dst with
  | none => rfl
  | some d =>
    cases x with
    | tmp t =>
      have hne : Nat.beq t d = false := by
        cases e : Nat.beq t d
        · rfl
        · exact absurd (congrArg Operand.tmp (Nat.eq_of_beq_eq_true e)) (h d rfl)
      simp [ev, putS, upd, hne]
    | _ => rfl

theorem Op1.congr {o : Oper} {s : Sl} {dst : Option Nat} {u : Value} {w : World} {K : Value → World → Prop} (hn : Oper.nice o = true) (ha : ∀ d, dst = some d → d ∉ o.looksAt all.toArray) :
    (Op1 P ro n all o s w K → Op1 P ro n all o (putS s dst u) w K) ∧ (Op1 P ro n all o (putS s dst u) w K → Op1 P ro n all o s w K) := by
  have hx : ∀ x ∈ o.op.operands, ev n s x = ev n (putS s dst u) x := fun x hx => (ev_putS fun d hd hxd => ha d hd (by
    subst hxd
    exact List.mem_append_left _ (List.mem_filterMap.2 ⟨.tmp d, by simpa using hx, rfl⟩))).symm
  have hw : Region.wanted o (fun j => asB ((gdst all j).bind (fun d => if d < n then some (s d) else none))) = Region.wanted o (fun j => asB ((gdst all j).bind (fun d => if d < n then some (putS s dst u d) else none))) := by
    unfold Region.wanted
    cases hg : o.guard with
    | none => rfl
    | some gw =>
      obtain ⟨g, want⟩ := gw
      simp only
      have : (gdst all g).bind (fun d => if d < n then some (s d) else none) = (gdst all g).bind (fun d => if d < n then some (putS s dst u d) else none) := by
        cases hq : gdst all g with
        | none => rfl
        | some t =>
          simp only [Option.bind_some]
          cases dst with
          | none => rfl
          | some d =>
            have hne : t ≠ d := fun e => ha d rfl (by
              subst e
              refine List.mem_append_right _ ?_
              have : (all.toArray[g]?).bind (·.dst) = some t := by simpa [gdst] using hq
              simp only [hg, this, Option.toList, List.mem_singleton])
            have hb : Nat.beq t d = false := by
              cases e : Nat.beq t d
              · rfl
              · exact absurd (Nat.eq_of_beq_eq_true e) hne
            simp [putS, upd, hb]
      rw [this]
  unfold Op1
  rw [← hw]
  split
  · exact ⟨OpW.congr hn hx, OpW.congr hn fun x h => (hx x h).symm⟩
  · exact ⟨id, id⟩

theorem putS_comm (s : Sl) {x y : Option Nat} (v u : Value) (h : ∀ d, x = some d → y ≠ some d) : putS (putS s x v) y u = putS (putS s y u) x v := by
  cases x with
  | none => rfl
  | some d =>
    cases y with
    | none => rfl
    | some e =>
      have hne : d ≠ e := fun he => h d rfl (he ▸ rfl)
      funext i
      simp only [putS, upd]
      cases h1 : Nat.beq i e <;> cases h2 : Nat.beq i d <;> simp
      exact absurd ((Nat.eq_of_beq_eq_true h2).symm.trans (Nat.eq_of_beq_eq_true h1)) hne

/-- Each order of the operations that are not yet listed ends, and K; the world stays in S. -/
def AnyS (P : Program) (ro : Option Nat) (n : Nat) (all : List Oper) (S : World → Prop) (K : Sl → World → Prop) : Nat → Array Bool → Sl → World → Prop
  | 0, listed, s, w => S w ∧ Region.ready .any all.toArray listed = [] ∧ K s w
  | fuel + 1, listed, s, w => S w ∧ (Region.ready .any all.toArray listed = [] → K s w) ∧
      ∀ i ∈ Region.ready .any all.toArray listed, ∀ o, all[i]? = some o → Op1 P ro n all o s w (fun v w' => AnyS P ro n all S K fuel (listed.setIfInBounds i true) (putS s o.dst v) w')

theorem AnyS.succ {fuel : Nat} {listed : Array Bool} {s : Sl} {w : World} : AnyS P ro n all S K (fuel + 1) listed s w ↔ (S w ∧ (Region.ready .any all.toArray listed = [] → K s w) ∧
      ∀ i ∈ Region.ready .any all.toArray listed, ∀ o, all[i]? = some o → Op1 P ro n all o s w (fun v w' => AnyS P ro n all S K fuel (listed.setIfInBounds i true) (putS s o.dst v) w')) := Iff.rfl
theorem AnyS.zero {listed : Array Bool} {s : Sl} {w : World} : AnyS P ro n all S K 0 listed s w ↔ (S w ∧ Region.ready .any all.toArray listed = [] ∧ K s w) := Iff.rfl

theorem AnyS.inS : ∀ {fuel : Nat} {listed : Array Bool} {s : Sl} {w : World}, AnyS P ro n all S K fuel listed s w → S w
  | 0, _, _, _, h => h.1
  | _ + 1, _, _, _, h => h.1

theorem Op1.sound {i : Nat} {o : Oper} {s : Sl} {w : World} {K' : Value → World → Prop} {KK : Act → World → Prop} {Q : Exit → Act → World → Prop} {ds : List Deferred} (hi : all[i]? = some o) (h : Op1 P ro n all o s w K')
    (hk : ∀ v w', K' v w' → KK (mkA n (putS s o.dst v) ds) w') : wpOpIn (Fw ro) 0 P all.toArray Q i KK (mkA n s ds) w := by
  unfold wpOpIn
  simp only [List.getElem?_toArray, hi]
  have hyf : (yielded all.toArray (mkA n s ds).tmps) = (fun j => asB ((gdst all j).bind (fun d => if d < n then some (s d) else none))) :=
    funext fun j => yielded_mkA all n s ds j
  rw [hyf]
  unfold Op1 at h
  split
  · rename_i hw
    rw [if_pos hw] at h
    unfold OpW at h
    obtain ⟨ha, hu⟩ := h ds
    refine ⟨ha, ?_⟩
    revert hu
    generalize (o.semAt (Fw ro).round (mkA n s ds).eval).run P w = r
    intro hu
    have key : ∀ v w', (∃ u, (mkA n s ds).put o.dst v = (mkA n s ds).put o.dst u ∧ K' u w') → KK ((mkA n s ds).put o.dst v) w' := fun v w' ⟨u, e, h⟩ => by
      rw [e, mkA_put]; exact hk _ _ h
    cases r with
    | halt x w' => cases x <;> exact hu.elim
    | ok x w' =>
      cases x
      case value v => exact key _ _ hu
      case skip => exact key _ _ hu
      case defer d =>
        obtain ⟨u, e, h⟩ := hu
        have e := congrArg (fun a : Act => a.defers.length) e
        exfalso
        revert e
        cases o.dst <;> simp [Act.put, mkA]
      case enter f args =>
        refine ⟨hu.1, CallsIn.mono hu.2 fun e w'' he => ?_⟩
        cases e with
        | returned v => exact key _ _ he
        | panicked c => exact he.elim
        | outgrown => obtain ⟨_, _, h⟩ := he; exact h.elim
      case row row args => exact ⟨hu.1, RowsIn.mono hu.2 fun v w'' he => key _ _ he⟩
      case round l f tmps assign body =>
        refine ⟨hu.1, RoundIn.mono hu.2 fun e w'' he => ?_⟩
        cases e with
        | returned v => exact key _ _ he
        | panicked c => exact he.elim
        | outgrown => obtain ⟨_, _, h⟩ := he; exact h.elim
      all_goals exact hu.elim
  · rename_i hw
    rw [if_neg hw] at h
    refine ⟨fun _ _ => trivial, ?_⟩
    rw [mkA_put]
    exact hk _ _ h

theorem AnyS.sound {ds : List Deferred} {Q : Exit → Act → World → Prop} (hQ : ∀ s w, K s w → Q .normal (mkA n s ds) w) : ∀ (fuel : Nat) (listed : Array Bool) (s : Sl) (w : World), AnyS P ro n all S K fuel listed s w →
    wpAnyIn (Fw ro) 0 P .any all.toArray Q fuel listed (mkA n s ds) w := by
  intro fuel
  induction fuel with
  | zero => intro listed s w h; exact ⟨h.2.1, hQ _ _ h.2.2⟩
  | succ fuel ih =>
    intro listed s w h
    refine ⟨fun h0 => hQ _ _ (h.2.1 h0), fun i hi => ?_⟩
    obtain ⟨_, o, ho, _⟩ := mem_ready.1 hi
    have ho' : all[i]? = some o := by simpa using ho
    exact Op1.sound ho' (h.2.2 i hi o ho') fun v w' hk => ih _ _ _ hk

def niceAll (all : List Oper) : Bool := all.all Oper.nice
theorem niceAll.get (h : niceAll all = true) {i : Nat} {o : Oper} (hi : all[i]? = some o) : Oper.nice o = true := List.all_eq_true.1 h o (List.mem_of_getElem? hi)

/-- o yields v in each world of S, and does nothing else. -/
def Quiet (P : Program) (ro : Option Nat) (n : Nat) (all : List Oper) (S : World → Prop) (o : Oper) (v : Value) (s : Sl) : Prop :=
  ∀ w, S w → Op1 P ro n all o s w (fun u w' => (∀ d, o.dst = some d → u = v) ∧ w' = w)

theorem AnyS.first {i : Nat} {oi : Oper} {v : Value} (hn : niceAll all = true) (hi : all[i]? = some oi) :
    ∀ (fuel : Nat) (listed : Array Bool) (s : Sl) (w : World),
      (∀ j oj, all[j]? = some oj → j ≠ i → listed.getD j true = false → (∀ e ∈ oj.after, Region.binds .any e = true → e.on ≠ i) → oi.apart all.toArray oj = true) →
      i ∈ Region.ready .any all.toArray listed → Quiet P ro n all S oi v s → S w →
      AnyS P ro n all S K fuel (listed.setIfInBounds i true) (putS s oi.dst v) w → AnyS P ro n all S K (fuel + 1) listed s w := by
  have putv : ∀ (s : Sl) (u : Value), (∀ d, oi.dst = some d → u = v) → putS s oi.dst u = putS s oi.dst v := fun s u h => by
    cases hd : oi.dst with
    | none => rfl
    | some d => rw [h d hd]
  intro fuel
  induction fuel with
  | zero =>
    intro listed s w _ hr hy hS H
    refine AnyS.succ.2 ⟨hS, fun h => (by rw [h] at hr; cases hr), fun j hj oj hoj => ?_⟩
    by_cases hji : j = i
    · subst hji
      have : oj = oi := by rw [hi] at hoj; exact (Option.some.inj hoj).symm
      subst this
      refine (hy w hS).mono fun u w' ⟨h1, h2⟩ => ?_
      subst h2; rw [putv s u h1]; exact H
    · have := ready_mono hj hji
      rw [(AnyS.zero.1 H).2.1] at this
      cases this
  | succ fuel ih =>
    intro listed s w hfree hr hy hS H
    refine AnyS.succ.2 ⟨hS, fun h => (by rw [h] at hr; cases hr), fun j hj oj hoj => ?_⟩
    by_cases hji : j = i
    · subst hji
      have : oj = oi := by rw [hi] at hoj; exact (Option.some.inj hoj).symm
      subst this
      refine (hy w hS).mono fun u w' ⟨h1, h2⟩ => ?_
      subst h2; rw [putv s u h1]; exact H
    · obtain ⟨hjun, oj', hoj', hall⟩ := mem_ready.1 hj
      have : oj' = oj := by
        have : all[j]? = some oj' := by simpa using hoj'
        rw [hoj] at this; exact (Option.some.inj this).symm
      subst this
      have hnot : ∀ e ∈ oj'.after, Region.binds .any e = true → e.on ≠ i := fun e he hb heq => by
        have h1 := hall e he hb
        have h0 := (mem_ready.1 hr).1
        rw [heq] at h1
        rcases Nat.lt_or_ge i listed.size with h' | h'
        · simp [h'] at h0 h1; rw [h0] at h1; cases h1
        · simp [Array.getElem?_eq_none h'] at h1
      obtain ⟨a1, a2, a3⟩ := Oper.apart_spec (hfree j oj' hoj hji hjun hnot)
      have h1 := (Op1.congr (niceAll.get hn hoj) a1).2 ((AnyS.succ.1 H).2.2 j (ready_mono hj hji) oj' hoj)
      have hfree' : ∀ k ok, all[k]? = some ok → k ≠ i → (listed.setIfInBounds j true).getD k true = false →
          (∀ e ∈ ok.after, Region.binds .any e = true → e.on ≠ i) → oi.apart all.toArray ok = true := fun k ok hk hki hun hno => by
        refine hfree k ok hk hki ?_ hno
        by_cases hjk : j = k
        · subst hjk; exact hjun
        · rw [getD_set_ne true hjk] at hun; exact hun
      refine h1.mono fun u w' h3 => ?_
      refine ih (listed.setIfInBounds j true) (putS s oj'.dst u) w' hfree' (ready_mono hr (Ne.symm hji)) (fun w hw => (Op1.congr (niceAll.get hn hi) a3).1 (hy w hw)) h3.inS ?_
      rw [Array.setIfInBounds_comm _ _ hji, ← putS_comm s v u a2]
      exact h3

/-- The quiet operations of a list of places, one after the other. -/
def Takes (P : Program) (ro : Option Nat) (n : Nat) (all : List Oper) (S : World → Prop) : List Nat → (Sl → Prop) → Sl → Prop
  | [], K, s => K s
  | i :: is, K, s => ∃ o v, all[i]? = some o ∧ (∀ w, S w → Ops P ro n all [o] (fun s' w' => s' = putS s o.dst v ∧ w' = w) s w) ∧ Takes P ro n all S is K (putS s o.dst v)

theorem jjU {K : Sl → Prop} {s : Sl} (h : K s) : Takes P ro n all S [] K s := h
theorem jjT {i : Nat} {is : List Nat} {o : Oper} {v : Value} {K : Sl → Prop} {s : Sl} (ho : all[i]? = some o) (hq : ∀ w, S w → Ops P ro n all [o] (fun s' w' => s' = putS s o.dst v ∧ w' = w) s w)
    (h : Takes P ro n all S is K (putS s o.dst v)) : Takes P ro n all S (i :: is) K s := ⟨o, v, ho, hq, h⟩

def okTake (all : List Oper) : List Nat → Array Bool → Bool
  | [], _ => true
  | i :: is, listed => (Region.ready .any all.toArray listed).contains i && Region.free .any all.toArray listed i && okTake all is (listed.setIfInBounds i true)
def listAll (listed : Array Bool) (is : List Nat) : Array Bool := is.foldl (fun l i => l.setIfInBounds i true) listed

theorem AnyS.takes (hn : niceAll all = true) : ∀ (is : List Nat) {fuel : Nat} {listed : Array Bool} {s : Sl} {w : World}, okTake all is listed = true → S w →
    Takes P ro n all S is (fun s' => AnyS P ro n all S K fuel (listAll listed is) s' w) s → AnyS P ro n all S K (fuel + is.length) listed s w := by
  intro is
  induction is with
  | nil => intro fuel listed s w _ _ h; exact h
  | cons i is ih =>
    intro fuel listed s w hok hS h
    simp only [okTake, Bool.and_eq_true] at hok
    obtain ⟨⟨h1, h2⟩, h3⟩ := hok
    obtain ⟨o, v, ho, hq, hr⟩ := h
    have ho' : all.toArray[i]? = some o := by simpa using ho
    refine AnyS.first (v := v) hn ho (fuel + is.length) listed s w (fun j oj hj => Region.free_spec ho' h2 j oj (by simpa using hj)) (by simpa using h1) ?_ hS (ih h3 hS hr)
    intro w hw
    have := hq w hw
    rw [op1_ops] at this
    refine this.mono fun u w' ⟨e1, e2⟩ => ⟨fun d hd => ?_, e2⟩
    rw [hd] at e1
    have := congrFun e1 d
    simpa [putS, upd] using this

theorem jjV (is : List Nat) {fuel : Nat} {listed : Array Bool} {s : Sl} {w : World} (hok : (niceAll all && Nat.ble is.length fuel && okTake all is listed) = true) (hS : S w)
    (h : Takes P ro n all S is (fun s' => AnyS P ro n all S K (fuel - is.length) (listAll listed is) s' w) s) : AnyS P ro n all S K fuel listed s w := by
  simp only [Bool.and_eq_true] at hok
  have hle : is.length ≤ fuel := by simpa using hok.1.2
  have := AnyS.takes (K := K) (fuel := fuel - is.length) hok.1.1 is hok.2 hS h
  rwa [Nat.sub_add_cancel hle] at this

theorem jjX {fuel : Nat} {listed : Array Bool} {s : Sl} {w : World} (hr : (Region.ready .any all.toArray listed).isEmpty = true) (hS : S w) (h : K s w) : AnyS P ro n all S K fuel listed s w := by
  have hr' : Region.ready .any all.toArray listed = [] := List.isEmpty_iff.1 hr
  cases fuel with
  | zero => exact ⟨hS, hr', h⟩
  | succ fuel => exact ⟨hS, fun _ => h, fun i hi => by rw [hr'] at hi; cases hi⟩

theorem jjW (i : Nat) {o : Oper} {fuel : Nat} {listed : Array Bool} {s : Sl} {w : World} (hr : (Nat.blt 0 fuel && (Region.ready .any all.toArray listed == [i])) = true) (ho : all[i]? = some o) (hS : S w)
    (h : Ops P ro n all [o] (fun s' w' => AnyS P ro n all S K (fuel - 1) (listed.setIfInBounds i true) s' w') s w) : AnyS P ro n all S K fuel listed s w := by
  simp only [Bool.and_eq_true, beq_iff_eq] at hr
  obtain ⟨hf, hr⟩ := hr
  have hf : 0 < fuel := by simpa using hf
  obtain ⟨f, rfl⟩ : ∃ f, fuel = f + 1 := ⟨fuel - 1, by omega⟩
  refine ⟨hS, fun h0 => (by rw [hr] at h0; cases h0), fun j hj oj hoj => ?_⟩
  rw [hr] at hj
  obtain rfl : j = i := by simpa using hj
  obtain rfl : o = oj := by rw [ho] at hoj; exact Option.some.inj hoj
  rw [op1_ops] at h; exact h

theorem jjl (i j : Nat) {o q : Oper} {fuel : Nat} {listed : Array Bool} {s : Sl} {w : World} (hr : (Nat.blt 0 fuel && (Region.ready .any all.toArray listed == [i, j])) = true) (ho : all[i]? = some o) (hq : all[j]? = some q) (hS : S w)
    (h : Ops P ro n all [o] (fun s' w' => AnyS P ro n all S K (fuel - 1) (listed.setIfInBounds i true) s' w') s w)
    (h2 : Ops P ro n all [q] (fun s' w' => AnyS P ro n all S K (fuel - 1) (listed.setIfInBounds j true) s' w') s w) : AnyS P ro n all S K fuel listed s w := by
  simp only [Bool.and_eq_true, beq_iff_eq] at hr
  obtain ⟨hf, hr⟩ := hr
  have hf : 0 < fuel := by simpa using hf
  obtain ⟨f, rfl⟩ : ∃ f, fuel = f + 1 := ⟨fuel - 1, by omega⟩
  refine ⟨hS, fun h0 => (by rw [hr] at h0; cases h0), fun k hk oj hoj => ?_⟩
  rw [hr] at hk
  rcases List.mem_cons.1 hk with rfl | hk
  · obtain rfl : o = oj := by rw [ho] at hoj; exact Option.some.inj hoj
    rw [op1_ops] at h; exact h
  · obtain rfl : k = j := by simpa using hk
    obtain rfl : q = oj := by rw [hq] at hoj; exact Option.some.inj hoj
    rw [op1_ops] at h2; exact h2
end

/-- A region that draws its order. -/
theorem W.draw {P : Program} {ro : Option Nat} {n : Nat} {X : Ctx} {s : Sl} {ds : List Deferred} {w : World} {id : Nat} {ops : List Oper} [hm : Mixed P] (S : World → Prop)
    (h : ∀ w1, Step w w1 → AnyS P ro n ops S (fun s' w' => X.nx s' ds w') ops.length (Array.replicate ops.length false) s w1) : W P ro n (.region id ops.toArray true) X s ds w := by
  unfold W
  refine wpIn_region_any hm.h ?_
  have h1 := h { w with drawn := w.drawn + 1 } ⟨(Below.refl _ w).drew⟩
  have := AnyS.sound (ds := ds) (Q := X.post n) (fun s w hk => ⟨s, ds, rfl, hk⟩) _ _ _ _ h1
  simpa using this
attribute [irreducible] AnyS Takes
end Go.Proofs.Ytcelhpbcdpefnaa
