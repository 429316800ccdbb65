/- The proof engine, part 7: maps. -/
import Derived.Test.YtcelhpbcdpefnaaEng6
namespace Go.Proofs.Ytcelhpbcdpefnaa
open Go.RowKit

/-- What the model asks of a type of keys: that equal keys, and no others, are found. -/
class KeyL (P : Program) (kt : Nat) {κ : Type} [DecidableEq κ] (encK : κ → Value) : Prop where
  chk : ∀ (em : Bool) (w : World) (k : κ), (Instr.checkKey em 10000 kt (encK k)).run P w = .ok () w
  find : ∀ (w : World) (k : κ) (es : List MapEntry) (ks : List κ), es.map (·.key) = ks.map encK →
    (Instr.findKey kt (encK k) es).run P w = .ok ((ks.findIdx? (fun x => decide (k = x))).map fun i => (i, ((es[i]?).map (·.val)).getD undef)) w
  bits : ∀ (k : κ), Instr.sameBits 10000 (encK k) (encK k) = true

/-- Values v of a map lie as they are; keys through encK. The map of block b reads as m, in the order of its entries. -/
structure MapE {κ : Type} (encK : κ → Value) (w : World) (b : Nat) (m : List (κ × Value)) : Prop where
  h : ∃ (es : Array MapEntry) (clock : Nat), w.heap[b]? = some (.map es clock) ∧ es.toList.map (·.key) = m.map (fun p => encK p.1) ∧ es.toList.map (·.val) = m.map (·.2) ∧
    (∀ e ∈ es.toList, e.born < clock) ∧ (es.toList.map (·.born)).Nodup
theorem MapE.ext {κ : Type} {encK : κ → Value} {w w' : World} {b : Nat} {m : List (κ × Value)} (h : MapE encK w b m) (hs : Ext w w') : MapE encK w' b m := by
  obtain ⟨es, c, h1, h2⟩ := h.h
  exact ⟨es, c, hs.block' h1, h2⟩
theorem MapE.grow {κ : Type} {encK : κ → Value} {N : Nat} {w w' : World} {b : Nat} {m : List (κ × Value)} (h : MapE encK w b m) (hs : Grow N w w') : MapE encK w' b m := by
  obtain ⟨es, c, h1, h2⟩ := h.h
  exact ⟨es, c, hs.data _ _ h1 rfl, h2⟩
theorem MapE.put {κ : Type} {encK : κ → Value} {w w' : World} {b c : Nat} {o : Obj} {m : List (κ × Value)} (h : MapE encK w b m) (p : PutO w w' c o) (hne : b ≠ c) : MapE encK w' b m := by
  obtain ⟨es, cl, h1, h2⟩ := h.h
  exact ⟨es, cl, (p.other b hne).trans h1, h2⟩
theorem MapE.app {κ : Type} {encK : κ → Value} {B : Nat} {w w' : World} {v : Value} {b : Nat} {m : List (κ × Value)} (h : MapE encK w b m) (a : App B w w' v) (hne : v.ownBlock ≠ some b) : MapE encK w' b m := by
  obtain ⟨es, cl, h1, h2⟩ := h.h
  exact ⟨es, cl, a.other h1 hne, h2⟩
theorem MapE.lt {κ : Type} {encK : κ → Value} {w : World} {b : Nat} {m : List (κ × Value)} (h : MapE encK w b m) : b < w.heap.size := by
  obtain ⟨es, cl, h1, h2⟩ := h.h
  exact (Array.getElem?_eq_some_iff.1 h1).1
theorem MapE.loopy {κ : Type} {encK : κ → Value} {w : World} {b : Nat} {m : List (κ × Value)} (h : MapE encK w b m) : ∃ o, w.heap[b]? = some o ∧ Obj.loopy o = false := by
  obtain ⟨es, cl, h1, h2⟩ := h.h
  exact ⟨_, h1, rfl⟩

def mget {κ : Type} [DecidableEq κ] (m : List (κ × Value)) (k : κ) : Option Value :=
  match m with
  | [] => none
  | (x, v) :: m => if k = x then some v else mget m k
def mset {κ : Type} [DecidableEq κ] (m : List (κ × Value)) (k : κ) (v : Value) : List (κ × Value) :=
  match m with
  | [] => [(k, v)]
  | (x, u) :: m => if k = x then (k, v) :: m else (x, u) :: mset m k v
def mdel {κ : Type} [DecidableEq κ] (m : List (κ × Value)) (k : κ) : List (κ × Value) :=
  match m with
  | [] => []
  | (x, u) :: m => if k = x then m else (x, u) :: mdel m k

section
variable {κ : Type} [DecidableEq κ]
theorem mget_set_same (m : List (κ × Value)) (k : κ) (v : Value) : mget (mset m k v) k = some v := by
  induction m with
  | nil => simp [mset, mget]
  | cons p m ih =>
    obtain ⟨x, u⟩ := p
    by_cases h : k = x
    · simp [mset, mget, h]
    · simp [mset, mget, h, ih]
theorem mget_set_other (m : List (κ × Value)) {k j : κ} (v : Value) (hne : j ≠ k) : mget (mset m k v) j = mget m j := by
  induction m with
  | nil => simp [mset, mget, hne]
  | cons p m ih =>
    obtain ⟨x, u⟩ := p
    by_cases h : k = x
    · subst h; simp [mset, mget, hne]
    · by_cases h2 : j = x
      · simp [mset, mget, h, h2]
      · simp [mset, mget, h, h2, ih]
theorem mget_idx (m : List (κ × Value)) (k : κ) : ((m.map (·.1)).findIdx? (fun x => decide (k = x))).map (fun i => ((m[i]?).map (·.2)).getD undef) = mget m k := by
  induction m with
  | nil => rfl
  | cons p m ih =>
    obtain ⟨x, u⟩ := p
    by_cases h : k = x
    · simp [List.findIdx?_cons, mget, h]
    · simp only [List.map_cons, List.findIdx?_cons, h, decide_false, Bool.false_eq_true, if_false, mget, Option.map_map]
      rw [← ih]
      congr 1
omit [DecidableEq κ] in
theorem map_eraseIdx {α β : Type} (f : α → β) : ∀ (l : List α) (i : Nat), (l.eraseIdx i).map f = (l.map f).eraseIdx i
  | [], _ => rfl
  | _ :: _, 0 => rfl
  | x :: l, i + 1 => by simp [map_eraseIdx f l i]
theorem mset_len (m : List (κ × Value)) (k : κ) (v : Value) : (mset m k v).length ≤ m.length + 1 := by
  induction m with
  | nil => simp [mset]
  | cons p m ih =>
    obtain ⟨x, u⟩ := p
    by_cases h : k = x
    · simp [mset, h]
    · simp only [mset, h, if_false, List.length_cons]; omega
theorem mset_new (m : List (κ × Value)) (k : κ) (v : Value) (h : (m.map (·.1)).findIdx? (fun x => decide (k = x)) = none) : mset m k v = m ++ [(k, v)] := by
  induction m with
  | nil => rfl
  | cons p m ih =>
    obtain ⟨x, u⟩ := p
    rw [List.findIdx?_eq_none_iff] at h
    have h0 : ¬ k = x := by simpa using h x (by simp)
    have := ih (by rw [List.findIdx?_eq_none_iff]; intro y hy; exact h y (by simp at hy ⊢; exact .inr hy))
    simp [mset, h0, this]
theorem mset_old (m : List (κ × Value)) (k : κ) (v : Value) (i : Nat) (h : (m.map (·.1)).findIdx? (fun x => decide (k = x)) = some i) : mset m k v = m.set i (k, v) ∧ i < m.length ∧ (m[i]?).map (·.1) = some k := by
  induction m generalizing i with
  | nil => simp at h
  | cons p m ih =>
    obtain ⟨x, u⟩ := p
    by_cases hk : k = x
    · subst hk
      simp [List.findIdx?_cons] at h
      subst h
      simp [mset]
    · simp [List.findIdx?_cons, hk] at h
      obtain ⟨j, hj, rfl⟩ := h
      obtain ⟨h1, h2, h3⟩ := ih j (by rw [List.findIdx?_map]; exact hj)
      simp only [mset, hk, if_false, h1, List.set_cons_succ, List.length_cons, List.getElem?_cons_succ, h3, and_true, true_and]
      omega
theorem mdel_none (m : List (κ × Value)) (k : κ) (h : (m.map (·.1)).findIdx? (fun x => decide (k = x)) = none) : mdel m k = m := by
  induction m with
  | nil => rfl
  | cons p m ih =>
    obtain ⟨x, u⟩ := p
    rw [List.findIdx?_eq_none_iff] at h
    have h0 : ¬ k = x := by simpa using h x (by simp)
    have := ih (by rw [List.findIdx?_eq_none_iff]; intro y hy; exact h y (by simp at hy ⊢; exact .inr hy))
    simp [mdel, h0, this]
theorem mdel_some (m : List (κ × Value)) (k : κ) (i : Nat) (h : (m.map (·.1)).findIdx? (fun x => decide (k = x)) = some i) : mdel m k = m.eraseIdx i := by
  induction m generalizing i with
  | nil => simp at h
  | cons p m ih =>
    obtain ⟨x, u⟩ := p
    by_cases hk : k = x
    · subst hk
      simp [List.findIdx?_cons] at h
      subst h
      simp [mdel]
    · simp [List.findIdx?_cons, hk] at h
      obtain ⟨j, hj, rfl⟩ := h
      simp [mdel, hk, ih j (by rw [List.findIdx?_map]; exact hj)]
end

class TMap (P : Program) (t : Nat) (k e : outParam Nat) : Prop where
  h : P.underlying t = some (.map k e)

section rules
variable {P : Program} {ro : Option Nat} {n : Nat} {all rest : List Oper} {K : Sl → World → Prop} {s : Sl} {w : World} {d : Nat} {ty : Nat} {pos : String} {af : Array Edge}
variable {x y z' : Operand} {t kt et : Nat} {κ : Type} [DecidableEq κ] {encK : κ → Value} {b : Nat} {m : List (κ × Value)} {k : κ}

theorem run_getObj_m {es : Array MapEntry} {c : Nat} (h : w.heap[b]? = some (.map es c)) : (getObj b).run P w = .ok (.map es c) w := by simp [getObj, Sem.run, h]
theorem run_setObj_m {es : Array MapEntry} {c : Nat} (o : Obj) (h : w.heap[b]? = some (.map es c)) : (setObj b o).run P w = .ok () (w.putObj b o) := by simp [setObj, Sem.run, h, World.putObj]
theorem putO_putObj {ob : Obj} (o : Obj) (h : w.heap[b]? = some ob) : PutO w (w.putObj b o) b o :=
  ⟨rfl, rfl, rfl, by simp, World.putObj_heap_same (Array.getElem?_eq_some_iff.1 h).1, fun _ hk => World.putObj_heap_other hk⟩

omit [DecidableEq κ] in
/-- A new map. -/
theorem Ops.makeMap (encK : κ → Value) (h : ∀ b w', b = w.heap.size → w'.heap.size = w.heap.size + 1 → Step w w' → MapE encK w' b [] → Ops P ro n all rest K (upd s d (.map (some b))) w') :
    Ops P ro n all (⟨some d, .makeMap t none, ty, pos, af, none⟩ :: rest) K s w :=
  Ops.ofRun (w' := w.alloc (.map #[] 0)) rfl (by simp [execOp, Instr.makeMap]) (h w.heap.size _ rfl (by simp) ⟨(Below.refl _ w).alloc (Nat.le_refl _) _⟩ ⟨#[], 0, World.alloc_heap_new w _, by simp, by simp, by simp, by simp⟩)

theorem run_lookup {z : Value} {size bytes : Nat} (ok : Bool) [hk : KeyL P kt encK] [ht : TMap P t kt et] [hz : TS P et z size bytes] (hm : MapE encK w b m) :
    (Instr.lookup t (.map (some b)) (encK k) ok).run P w = .ok (if ok then .tuple #[(mget m k).getD z, .bool (mget m k).isSome] else (mget m k).getD z) w := by
  obtain ⟨es, c, h1, h2, h3, h4, h5⟩ := hm.h
  have hf := hk.find w k es.toList (m.map (·.1)) (by rw [h2, List.map_map]; rfl)
  have hg := mget_idx m k
  have hv : ∀ i : Nat, (es.toList[i]?).map (·.val) = (m[i]?).map (·.2) := fun i => by
    have := congrArg (fun l : List Value => l[i]?) h3
    simpa using this
  have hi : ∀ i, (m.map (·.1)).findIdx? (fun x => decide (k = x)) = some i → i < m.length := fun i h => (mset_old m k undef i h).2.1
  simp only [Instr.lookup, Sem.run_bind, run_underlying ht.h, Result.andThen, run_getObj_m h1, hk.chk, Sem.run_pure, hf]
  cases hidx : (m.map (·.1)).findIdx? (fun x => decide (k = x)) with
  | none =>
    rw [hidx] at hg
    simp only [Option.map_none] at hg ⊢
    rw [← hg]
    simp [run_zeroValue' w hz]
  | some i =>
    rw [hidx] at hg
    simp only [Option.map_some] at hg ⊢
    rw [← hg, hv i]
    simp

theorem Ops.lookup {z : Value} {size bytes : Nat} (hm : MapE encK w b m) (hx : ev n s x = .map (some b)) (hy : ev n s y = encK k) [hk : KeyL P kt encK] [ht : TMap P t kt et] [hz : TS P et z size bytes]
    (h : Ops P ro n all rest K (upd s d ((mget m k).getD z)) w) : Ops P ro n all (⟨some d, .lookup t x y false, ty, pos, af, none⟩ :: rest) K s w :=
  Ops.ofRun rfl (by have hr := run_lookup (P := P) (t := t) (k := k) false hm; simp only [Bool.false_eq_true, if_false] at hr; simp [execOp, hx, hy, hr]) h
theorem Ops.lookupOk {z : Value} {size bytes : Nat} (hm : MapE encK w b m) (hx : ev n s x = .map (some b)) (hy : ev n s y = encK k) [hk : KeyL P kt encK] [ht : TMap P t kt et] [hz : TS P et z size bytes]
    (h : Ops P ro n all rest K (upd s d (.tuple #[(mget m k).getD z, .bool (mget m k).isSome])) w) : Ops P ro n all (⟨some d, .lookup t x y true, ty, pos, af, none⟩ :: rest) K s w :=
  Ops.ofRun rfl (by have hr := run_lookup (P := P) (t := t) (k := k) true hm; simp only [if_true] at hr; simp [execOp, hx, hy, hr]) h

/-- What an update leaves. -/
theorem run_mapUpdate {v : Value} [hk : KeyL P kt encK] [ht : TMap P t kt et] (hm : MapE encK w b m) :
    ∃ o, (Instr.mapUpdate t (.map (some b)) (encK k) v).run P w = .ok () (w.putObj b o) ∧ MapE encK (w.putObj b o) b (mset m k v) := by
  obtain ⟨es, c, h1, h2, h3, h4, h5⟩ := hm.h
  have hlt : b < w.heap.size := (Array.getElem?_eq_some_iff.1 h1).1
  have hf := hk.find w k es.toList (m.map (·.1)) (by rw [h2, List.map_map]; rfl)
  have hlen : es.size = m.length := by have := congrArg List.length h2; simpa using this
  cases hidx : (m.map (·.1)).findIdx? (fun x => decide (k = x)) with
  | none =>
    rw [hidx] at hf
    refine ⟨.map (es.push { key := encK k, val := v, born := c }) (c + 1), ?_, ?_⟩
    · simp only [Instr.mapUpdate, Sem.run_bind, run_underlying ht.h, Result.andThen, run_getObj_m h1, hk.chk, hf, Option.map_none, run_setObj_m _ h1]
    · refine ⟨_, _, World.putObj_heap_same hlt, ?_, ?_, ?_, ?_⟩
      · rw [mset_new m k v hidx]; simp [h2]
      · rw [mset_new m k v hidx]; simp [h3]
      · intro e he
        simp only [Array.toList_push, List.mem_append, List.mem_singleton] at he
        rcases he with he | rfl
        · have := h4 e he; omega
        · simp
      · rw [Array.toList_push, List.map_append, List.nodup_append]
        refine ⟨h5, by simp, ?_⟩
        intro a ha b' hb'
        obtain ⟨e, he, rfl⟩ := List.mem_map.1 ha
        simp only [List.map_cons, List.map_nil, List.mem_singleton] at hb'
        have := h4 e he
        omega
  | some i =>
    rw [hidx] at hf
    obtain ⟨e1, e2, e3⟩ := mset_old m k v i hidx
    have hi : i < es.size := by omega
    have hkey : es[i].key = encK k := by
      have := congrArg (fun l : List Value => l[i]?) h2
      simp only [List.getElem?_map, Array.getElem?_toList] at this
      rw [Array.getElem?_eq_getElem hi] at this
      cases hmi : m[i]? with
      | none => rw [hmi] at e3; cases e3
      | some p => rw [hmi] at e3 this; simp at e3 this; rw [this, e3]
    refine ⟨.map (es.modify i fun e => { e with key := encK k, val := v }) c, ?_, ?_⟩
    · have hb := hk.bits k
      simp only [Instr.mapUpdate, Sem.run_bind, run_underlying ht.h, Result.andThen, run_getObj_m h1, hk.chk, hf, Option.map_some, Array.getElem?_eq_getElem hi, Option.getD_some, hkey, Instr.keyThatStays, hb, if_true, Sem.run_pure, run_setObj_m _ h1]
    · refine ⟨_, _, World.putObj_heap_same hlt, ?_, ?_, ?_, ?_⟩
      · rw [e1]
        apply List.ext_getElem?
        intro j
        simp only [List.getElem?_map, Array.getElem?_toList, Array.getElem?_modify, List.getElem?_set]
        have hj := congrArg (fun l : List Value => l[j]?) h2
        simp only [List.getElem?_map, Array.getElem?_toList] at hj
        by_cases hij : i = j
        · subst hij
          simp [Array.getElem?_eq_getElem hi, e2]
        · simp only [hij, if_false]; exact hj
      · rw [e1]
        apply List.ext_getElem?
        intro j
        simp only [List.getElem?_map, Array.getElem?_toList, Array.getElem?_modify, List.getElem?_set]
        have hj := congrArg (fun l : List Value => l[j]?) h3
        simp only [List.getElem?_map, Array.getElem?_toList] at hj
        by_cases hij : i = j
        · subst hij
          simp [Array.getElem?_eq_getElem hi, e2]
        · simp only [hij, if_false]; exact hj
      · intro e he
        obtain ⟨j, hj⟩ := List.getElem?_of_mem he
        simp only [Array.getElem?_toList, Array.getElem?_modify] at hj
        by_cases hij : i = j
        · subst hij
          simp [Array.getElem?_eq_getElem hi] at hj
          subst hj
          exact h4 es[i] (by simp)
        · simp only [hij, if_false] at hj
          exact h4 e (List.mem_of_getElem? (by simpa using hj))
      · have : (es.modify i fun e => { e with key := encK k, val := v }).toList.map (·.born) = es.toList.map (·.born) := by
          apply List.ext_getElem?
          intro j
          simp only [List.getElem?_map, Array.getElem?_toList, Array.getElem?_modify]
          by_cases hij : i = j
          · subst hij; simp [Array.getElem?_eq_getElem hi]
          · simp [hij]
        rw [this]; exact h5

theorem Ops.mapUpdate {v : Value} (hm : MapE encK w b m) (hx : ev n s x = .map (some b)) (hy : ev n s y = encK k) (hv : ev n s z' = v) [hk : KeyL P kt encK] [ht : TMap P t kt et]
    (h : ∀ w' o, PutO w w' b o → MapE encK w' b (mset m k v) → Ops P ro n all rest K s w') : Ops P ro n all (⟨none, .mapUpdate t x y z', ty, pos, af, none⟩ :: rest) K s w := by
  obtain ⟨o, hr, hm'⟩ := run_mapUpdate (P := P) (t := t) (k := k) (v := v) hm
  obtain ⟨es, c, h1, _⟩ := hm.h
  exact Ops.ofRunU rfl (by simp [execOp, hx, hy, hv, hr]) (h _ _ (putO_putObj o h1) hm')
theorem Ops.insert {v : Value} (hm : MapE encK w b m) (hx : ev n s x = .map (some b)) (hy : ev n s y = encK k) (hv : ev n s z' = v) [hk : KeyL P kt encK] [ht : TMap P t kt et]
    (h : ∀ w' o, PutO w w' b o → MapE encK w' b (mset m k v) → Ops P ro n all rest K s w') : Ops P ro n all (⟨none, .insert t x y z', ty, pos, af, none⟩ :: rest) K s w := by
  obtain ⟨o, hr, hm'⟩ := run_mapUpdate (P := P) (t := t) (k := k) (v := v) hm
  obtain ⟨es, c, h1, _⟩ := hm.h
  exact Ops.ofRunU rfl (by simp [execOp, hx, hy, hv, hr]) (h _ _ (putO_putObj o h1) hm')

theorem Ops.delete (hm : MapE encK w b m) (hx : ev n s x = .map (some b)) (hy : ev n s y = encK k) [hk : KeyL P kt encK] [ht : TMap P t kt et] {at2 : Nat}
    (h : ∀ w' o, PutO w w' b o → MapE encK w' b (mdel m k) → Ops P ro n all rest K (putS s (some d) (.tuple #[])) w') : Ops P ro n all (⟨some d, .call { callee := .builtin .delete, args := #[x, y], argTypes := #[t, at2] }, ty, pos, af, none⟩ :: rest) K s w := by
  obtain ⟨es, c, h1, h2, h3, h4, h5⟩ := hm.h
  have hlt : b < w.heap.size := (Array.getElem?_eq_some_iff.1 h1).1
  have hf := hk.find w k es.toList (m.map (·.1)) (by rw [h2, List.map_map]; rfl)
  have hlen : es.size = m.length := by have := congrArg List.length h2; simpa using this
  cases hidx : (m.map (·.1)).findIdx? (fun x => decide (k = x)) with
  | none =>
    rw [hidx] at hf
    refine Ops.ofRun (v := .tuple #[]) (w' := w.putObj b (.map es c)) rfl ?_ (h _ _ (putO_putObj _ h1) ?_)
    · simp only [execOp, resolve, invoke, builtin, Sem.run_bind, Sem.run_pure, Result.andThen, List.map_toArray, List.map_cons, List.map_nil, hx, hy, Builtin.delete_, List.getElem?_toArray, List.getElem?_cons_zero, List.getElem?_cons_succ, run_underlying ht.h, run_getObj_m h1, hk.chk, hf, Option.map_none, run_setObj_m _ h1]
    · rw [mdel_none m k hidx]
      exact ⟨es, c, World.putObj_heap_same hlt, h2, h3, h4, h5⟩
  | some i =>
    rw [hidx] at hf
    obtain ⟨_, hi, _⟩ := mset_old m k undef i hidx
    refine Ops.ofRun (v := .tuple #[]) (w' := w.putObj b (.map (es.eraseIdxIfInBounds i) c)) rfl ?_ (h _ _ (putO_putObj _ h1) ?_)
    · simp only [execOp, resolve, invoke, builtin, Sem.run_bind, Sem.run_pure, Result.andThen, List.map_toArray, List.map_cons, List.map_nil, hx, hy, Builtin.delete_, List.getElem?_toArray, List.getElem?_cons_zero, List.getElem?_cons_succ, run_underlying ht.h, run_getObj_m h1, hk.chk, hf, Option.map_some, run_setObj_m _ h1]
    · rw [mdel_some m k i hidx]
      have hi' : i < es.size := by omega
      have e : (es.eraseIdxIfInBounds i).toList = es.toList.eraseIdx i := by simp [Array.eraseIdxIfInBounds, hi']
      refine ⟨_, c, World.putObj_heap_same hlt, ?_, ?_, ?_, ?_⟩
      · rw [e, map_eraseIdx, h2, ← map_eraseIdx]
      · rw [e, map_eraseIdx, h3, ← map_eraseIdx]
      · intro x hx; rw [e] at hx; exact h4 x (List.mem_of_mem_eraseIdx hx)
      · rw [e, map_eraseIdx]; exact h5.sublist (List.eraseIdx_sublist _ _)
end rules

/-! ### Keys that are integers or strings -/
theorem findNow_of {κ : Type} [DecidableEq κ] {encK : κ → Value} (kind : TypeDesc) (hs : ∀ a b : κ, Instr.sameNow kind (encK a) (encK b) = some (decide (a = b))) (k : κ) : ∀ (es : List MapEntry) (ks : List κ) (i : Nat), es.map (·.key) = ks.map encK →
    Instr.findNow kind (encK k) es i = some ((ks.findIdx? (fun x => decide (k = x))).map fun j => (i + j, ((es[j]?).map (·.val)).getD undef))
  | [], [], i, _ => rfl
  | [], _ :: _, i, h => by simp at h
  | _ :: _, [], i, h => by simp at h
  | e :: es, x :: ks, i, h => by
    simp only [List.map_cons, List.cons.injEq] at h
    have ih := findNow_of kind hs k es ks (i + 1) h.2
    simp only [Instr.findNow, h.1, hs]
    by_cases hk : k = x
    · simp [hk, List.findIdx?_cons]
    · simp only [hk, decide_false, ih, List.findIdx?_cons, Bool.false_eq_true, if_false, Option.map_map]
      congr 2
      funext j
      simp; omega

theorem chk_flat {P : Program} {kt : Nat} {d : TypeDesc} (h : P.underlying kt = some d) (hd : d = .string ∨ ∃ q, d = .int q) (em : Bool) (w : World) (v : Value) (n : Nat) : (Instr.checkKey em (n + 1) kt v).run P w = .ok () w := by
  rcases hd with rfl | ⟨q, rfl⟩ <;> simp [Instr.checkKey, run_underlying h]
theorem byteArray_beq (a b : ByteArray) : (a == b) = decide (a = b) := by
  show ByteArray.beq a b = _
  cases a; cases b
  rename_i x y
  show (x == y) = _
  by_cases h : x = y <;> simp [h]
theorem keyL_int {P : Program} {kt : Nat} {q : IntKind} (h : P.underlying kt = some (.int q)) : KeyL P kt (Value.int q) where
  chk em w k := chk_flat h (.inr ⟨q, rfl⟩) em w _ 9999
  find w k es ks hk := by
    have := findNow_of (encK := Value.int q) (.int q) (fun a b => by simp [Instr.sameNow]; by_cases h : a = b <;> simp [h]) k es ks 0 hk
    simp only [Instr.findKey, Sem.run_bind, run_underlying h, Result.andThen, this]
    simp
  bits k := by
    have : ∀ n, Instr.sameBits n (.int q k) (.int q k) = true := fun n => by cases n <;> simp [Instr.sameBits]
    exact this 10000
theorem keyL_string {P : Program} {kt : Nat} (h : P.underlying kt = some .string) : KeyL P kt Value.string where
  chk em w k := chk_flat h (.inl rfl) em w _ 9999
  find w k es ks hk := by
    have := findNow_of (encK := Value.string) .string (fun a b => by simp only [Instr.sameNow]; rw [byteArray_beq]) k es ks 0 hk
    simp only [Instr.findKey, Sem.run_bind, run_underlying h, Result.andThen, this]
    simp
  bits k := by
    have : ∀ n, Instr.sameBits n (.string k) (.string k) = true := fun n => by cases n <;> simp [Instr.sameBits, byteArray_beq]
    exact this 10000
end Go.Proofs.Ytcelhpbcdpefnaa
