/- The proof engine, part 10: an entry of a map that is made first and stored into later. -/
import Derived.Test.YtcelhpbcdpefnaaEng9
namespace Go.Proofs.Ytcelhpbcdpefnaa
open Go.RowKit

/-! What a value looks like. -/
theorem eI {v : Value} {k : IntKind} {a : Int} (h : v = .int k a) : v = .int k a := h
theorem eB {v : Value} {a : Bool} (h : v = .bool a) : v = .bool a := h
theorem eP {v : Value} {a : Addr} (h : v = .pointer (some a)) : v = .pointer (some a) := h
theorem eN {v : Value} (h : v = .pointer none) : v = .pointer none := h
theorem eS {v : Value} {a : Option Addr} {l c : Nat} (h : v = .slice a l c) : v = .slice a l c := h
theorem eT {v : Value} {a : ByteArray} (h : v = .string a) : v = .string a := h
theorem eA {v : Value} {a : Array Value} (h : v = .agg a) : v = .agg a := h
theorem eU {v : Value} {a : Array Value} (h : v = .tuple a) : v = .tuple a := h
theorem eF {v : Value} {f : Fn} {a b : Array Value} (h : v = .func f a b) : v = .func f a b := h
theorem eM {v : Value} {a : Option Nat} (h : v = .map a) : v = .map a := h

theorem PutO.frS {M : Nat → Prop} {w w' : World} {b : Nat} {o : Obj} (p : PutO w w' b o) (hb : M b) : Fr (fun _ => M) w w' :=
  ⟨by rw [p.size]; exact Nat.le_refl _, fun k _ hk _ hm => (p.other k (fun e => hm (e ▸ hb))).trans hk, fun _ h => .inl h⟩
theorem take_snoc_get {α : Type} {l : List α} {i : Nat} {x : α} (h : l[i]? = some x) : l.take (i + 1) = l.take i ++ [x] := by
  obtain ⟨hi, rfl⟩ := List.getElem?_eq_some_iff.1 h
  exact List.take_succ_eq_append_getElem hi

theorem At.pre {w : World} {b o : Nat} {cs ds : List Value} (h : At w b o (cs ++ ds)) : At w b o cs := ⟨fun i v hv => h.h i v (by
  rw [List.getElem?_append_left (List.getElem?_eq_some_iff.1 hv).1]; exact hv)⟩

/-! ### A variable that holds a slice of the call's own -/
theorem Bk.cell1 {w : World} {b e : Nat} {v : Value} (h : Bk w b [v] e) : w.cell? ⟨b, 0, none⟩ = some v := by have := (Bk.toAt (h := h)).h 0 v rfl; simpa using this
/-- The blocks below N, and the block of the slice that variable b holds. -/
def MB (N b : Nat) (V : World) (k : Nat) : Prop := k < N ∨ ∃ v, V.cell? ⟨b, 0, none⟩ = some v ∧ v.ownBlock = some k
theorem MB.lt {N b B e e' k' : Nat} {agg : Bool} {V : World} {v : Value} {xs : List Value} {k : Nat} (hN : N ≤ V.heap.size) (hb : Bk V b [v] e) (ho : OwnL V B e' agg k' v xs) (h : MB N b V k) : k < V.heap.size := by
  rcases h with h | ⟨v', hv, hk⟩
  · omega
  · rw [hb.cell1] at hv; cases hv
    exact (ho.block k hk).2
theorem MB.back {N n b e : Nat} {V V' : World} {v : Value} {k : Nat} (hb : Bk V b [v] e) (g : Grow n V V') (h : MB N b V' k) : MB N b V k := by
  rcases h with h | ⟨v', hv, hk⟩
  · exact .inl h
  · rw [g.cell hb.cell1] at hv; cases hv
    exact .inr ⟨v, hb.cell1, hk⟩
theorem MB.grow {N b : Nat} {V V' : World} {k : Nat} (hb : b < N) (g : Grow N V V') (h : MB N b V' k) : MB N b V k := by
  rcases h with h | ⟨v', hv, hk⟩
  · exact .inl h
  · refine .inr ⟨v', ?_, hk⟩
    rw [← hv]
    exact (World.cell?_of_block (a := ⟨b, 0, none⟩) (g.old b hb)).symm
theorem MB.same {N b e e' : Nat} {V V' : World} {v : Value} {k : Nat} (hb : Bk V b [v] e) (hb' : Bk V' b [v] e') (h : MB N b V' k) : MB N b V k := by
  rcases h with h | ⟨v', hv, hk⟩
  · exact .inl h
  · rw [hb'.cell1] at hv; cases hv
    exact .inr ⟨v, hb.cell1, hk⟩
/-- An append to it, and the store of what comes back. -/
theorem MB.append {N b B e e' : Nat} {V1 V2 V3 : World} {v v2 : Value} {o : Obj} (hbN : b < N) (hb : Bk V1 b [v] e) (hA : App B V1 V2 v) (hp : PutO V2 V3 b o) (hb3 : Bk V3 b [v2] e') (hw : v2.ownBlock = v.ownBlock ∨ v2.ownBlock = some V1.heap.size) : Fr (MB N b) V1 V3 :=
  ⟨by rw [hp.size]; exact hA.g.size, fun k o' hk _ hm => by
    have h1 : v.ownBlock ≠ some k := fun e => hm (.inr ⟨v, hb.cell1, e⟩)
    have h2 : k ≠ b := fun e => hm (.inl (by omega))
    exact (hp.other k h2).trans (hA.other hk h1),
   fun k hk => by
    rcases hk with h | ⟨v', hv, hk⟩
    · exact .inl (.inl h)
    · rw [hb3.cell1] at hv; cases hv
      rcases hw with h | h
      · exact .inl (.inr ⟨v, hb.cell1, by rw [← h]; exact hk⟩)
      · rw [h] at hk; cases hk; exact .inr (Nat.le_refl _)⟩

/-! ### Struct and array values built out of parts -/
/-- How a value of type t is built: its zero cells, and where each part lies. -/
class TB (P : Program) (t : Nat) (zs : outParam (List Value)) (place : outParam (Nat → Option (Nat × Nat))) : Prop where
  h : ∀ parts, P.built t parts = Instr.fill place zs.toArray parts
theorem TB.struct {P : Program} {t size bytes : Nat} {fs : Array Field} {zs : List Value} {places : List (Nat × Nat)} (hu : P.underlying t = some (.struct fs)) (hz : TS P t (.agg zs.toArray) size bytes)
    (hp : fs.toList.mapM (fun f => (P.info? f.type).map fun i => (f.offset, i.size)) = some places) : TB P t zs (fun i => places[i]?) := ⟨fun parts => by
  obtain ⟨i, hi, hzz, _, _⟩ := hz.info
  simp only [Program.built, hi, hu, hzz, hp, Value.cells]
  congr 1
  funext i
  simp⟩
theorem TB.array {P : Program} {t e size bytes len s' b' : Nat} {ze : Value} {zs : List Value} (hu : P.underlying t = some (.array len e)) (hz : TS P t (.agg zs.toArray) size bytes) (he : TS P e ze s' b') : TB P t zs (fun i => some (i * s', s')) := ⟨fun parts => by
  obtain ⟨i, hi, hzz, _, _⟩ := hz.info
  obtain ⟨j, hj, _, hjs, _⟩ := he.info
  simp only [Program.built, hi, hu, hzz, hj, hjs, Value.cells]⟩

def setsL (cs : List Value) (off : Nat) : List Value → List Value
  | [] => cs
  | v :: vs => setsL (cs.set off v) (off + 1) vs
theorem setsL_len (vs : List Value) : ∀ (cs : List Value) (off : Nat), (setsL cs off vs).length = cs.length := by
  induction vs with
  | nil => intro cs off; rfl
  | cons v vs ih => intro cs off; simp [setsL, ih]
theorem foldl_sets (off : Nat) : ∀ (vs : List Value) (k : Nat) (cs : List Value), (vs.zipIdx k).foldl (fun (cs : Array Value) (x : Value × Nat) => cs.setIfInBounds (off + x.2) x.1) cs.toArray = (setsL cs (off + k) vs).toArray := by
  intro vs
  induction vs with
  | nil => intro k cs; rfl
  | cons v vs ih =>
    intro k cs
    simp only [List.zipIdx_cons, List.foldl_cons, setsL]
    rw [List.setIfInBounds_toArray, ih]
    rfl
def fillL (place : Nat → Option (Nat × Nat)) (cs : List Value) : List (Nat × Value) → Option (List Value)
  | [] => some cs
  | (i, v) :: rest =>
    match place i with
    | none => none
    | some (off, size) => bif Nat.beq v.cells.toList.length size && Nat.ble (off + v.cells.toList.length) cs.length then fillL place (setsL cs off v.cells.toList) rest else none
theorem fillL_eq (place : Nat → Option (Nat × Nat)) : ∀ (parts : List (Nat × Value)) (cs r : List Value), fillL place cs parts = some r → Instr.fill place cs.toArray parts = some r.toArray := by
  intro parts
  induction parts with
  | nil => intro cs r h; simp only [fillL, Option.some.injEq] at h; subst h; rfl
  | cons p rest ih =>
    obtain ⟨i, v⟩ := p
    intro cs r h
    simp only [fillL] at h
    simp only [Instr.fill]
    cases hp : place i with
    | none => rw [hp] at h; cases h
    | some os =>
      obtain ⟨off, size⟩ := os
      rw [hp] at h
      simp only at h ⊢
      cases hc : (Nat.beq v.cells.toList.length size && Nat.ble (off + v.cells.toList.length) cs.length) with
      | false => rw [hc] at h; cases h
      | true =>
        rw [hc] at h
        simp only [cond_true] at h
        simp only [Bool.and_eq_true, Nat.beq_eq, Nat.ble_eq, Array.length_toList] at hc
        have hne : ¬ ((decide (v.cells.size ≠ size) || decide (off + v.cells.size > cs.toArray.size)) = true) := by simp; omega
        have e : Array.foldl (fun (cs : Array Value) (x : Value × Nat) => cs.setIfInBounds (off + x.2) x.1) cs.toArray v.cells.zipIdx = (setsL cs off v.cells.toList).toArray := by
          have := foldl_sets off v.cells.toList 0 cs
          rw [← Array.foldl_toList, Array.toList_zipIdx]
          exact this
        rw [if_neg hne]
        exact (congrArg (fun a => Instr.fill place a rest) e).trans (ih _ _ h)

theorem jjS {P : Program} {ro : Option Nat} {n : Nat} {all rest : List Oper} {K : Sl → World → Prop} {s : Sl} {w : World} {d ty : Nat} {pos : String} {af : Array Edge} {t : Nat} {cells zs : List Value} {place : Nat → Option (Nat × Nat)} {parts : Array (Nat × Operand)} [hb : TB P t zs place]
    (hf : fillL place zs (parts.toList.map fun (i, x) => (i, ev n s x)) = some cells) (h : Ops P ro n all rest K (upd s d (.agg cells.toArray)) w) :
    Ops P ro n all (⟨some d, .build t parts, ty, pos, af, none⟩ :: rest) K s w :=
  Ops.build (by rw [hb.h]; exact fillL_eq _ _ _ _ hf) h

/-- The map of block b reads as m, and its entry of key k has the stamp st. -/
structure MapN {κ : Type} [DecidableEq κ] (encK : κ → Value) (w : World) (b : Nat) (m : List (κ × Value)) (k : κ) (st : Nat) : Prop where
  h : ∃ (es : Array MapEntry) (clock i : Nat), w.heap[b]? = some (.map es clock) ∧ es.toList.map (·.key) = m.map (fun p => encK p.1) ∧ es.toList.map (·.val) = m.map (·.2) ∧
    (∀ e ∈ es.toList, e.born < clock) ∧ (es.toList.map (·.born)).Nodup ∧ (m.map (·.1)).findIdx? (fun x => decide (k = x)) = some i ∧ (es.toList.map (·.born))[i]? = some st

section
variable {κ : Type} [DecidableEq κ] {encK : κ → Value} {w w' : World} {b c st : Nat} {o : Obj} {m : List (κ × Value)} {k : κ}
theorem MapN.put (h : MapN encK w b m k st) (p : PutO w w' c o) (hne : b ≠ c) : MapN encK w' b m k st := by
  obtain ⟨es, cl, i, h1, h2⟩ := h.h
  exact ⟨es, cl, i, (p.other b hne).trans h1, h2⟩
theorem MapN.ext (h : MapN encK w b m k st) (p : Ext w w') : MapN encK w' b m k st := by
  obtain ⟨es, cl, i, h1, h2⟩ := h.h
  exact ⟨es, cl, i, p.block' h1, h2⟩
theorem MapN.loopy (h : MapN encK w b m k st) : ∃ o, w.heap[b]? = some o ∧ Obj.loopy o = false := by
  obtain ⟨es, cl, i, h1, h2⟩ := h.h
  exact ⟨_, h1, rfl⟩
theorem MapN.toE (h : MapN encK w b m k st) : MapE encK w b m := by
  obtain ⟨es, cl, i, h1, h2, h3, h4, h5, _⟩ := h.h
  exact ⟨es, cl, h1, h2, h3, h4, h5⟩

theorem mget_none_idx (m : List (κ × Value)) (k : κ) (h : (m.map (·.1)).findIdx? (fun x => decide (k = x)) = none) : mget m k = none := by
  rw [← mget_idx, h]; rfl
end

section rules
variable {P : Program} {ro : Option Nat} {n : Nat} {all rest : List Oper} {K : Sl → World → Prop} {s : Sl} {w : World} {d : Nat} {ty : Nat} {pos : String} {af : Array Edge}
variable {x y z' : Operand} {t kt et b : Nat} {κ : Type} [DecidableEq κ] {encK : κ → Value} {m : List (κ × Value)} {k : κ}

theorem run_mapEntry {z : Value} {size bytes : Nat} [hk : KeyL P kt encK] [ht : TMap P t kt et] [hz : TS P et z size bytes] (hm : MapE encK w b m) :
    ∃ o st, (Instr.mapEntry t (.map (some b)) (encK k)).run P w = .ok (.tuple #[(mget m k).getD z, .int .i64 (st : Nat)]) (w.putObj b o) ∧ MapN encK (w.putObj b o) b (mset m k ((mget m k).getD z)) k st := by
  obtain ⟨es, c, h1, h2, h3, h4, h5⟩ := hm.h
  have hlt : b < w.heap.size := (Array.getElem?_eq_some_iff.1 h1).1
  have hf := hk.find w k es.toList (m.map (·.1)) (by rw [h2, List.map_map]; rfl)
  have hlen : es.size = m.length := by have := congrArg List.length h2; simpa using this
  cases hidx : (m.map (·.1)).findIdx? (fun x => decide (k = x)) with
  | none =>
    rw [hidx] at hf
    refine ⟨.map (es.push { key := encK k, val := z, born := c }) (c + 1), c, ?_, ?_⟩
    · rw [mget_none_idx m k hidx]
      simp only [Instr.mapEntry, Sem.run_bind, run_underlying ht.h, Result.andThen, run_getObj_m h1, hk.chk, hf, Option.map_none, run_setObj_m _ h1, run_zeroValue' w hz, Sem.run_pure]
      rfl
    · rw [mget_none_idx m k hidx, Option.getD_none, mset_new m k z hidx]
      refine ⟨_, _, m.length, World.putObj_heap_same hlt, ?_, ?_, ?_, ?_, ?_, ?_⟩
      · simp [h2]
      · simp [h3]
      · intro e he
        simp only [Array.toList_push, List.mem_append, List.mem_singleton] at he
        rcases he with he | rfl
        · have := h4 e he; omega
        · simp
      · rw [Array.toList_push, List.map_append, List.nodup_append]
        refine ⟨h5, by simp, ?_⟩
        intro a ha b' hb'
        obtain ⟨e, he, rfl⟩ := List.mem_map.1 ha
        simp only [List.map_cons, List.map_nil, List.mem_singleton] at hb'
        have := h4 e he
        omega
      · rw [List.map_append, List.findIdx?_append, hidx]
        simp
      · simp [← hlen]
  | some i =>
    rw [hidx] at hf
    obtain ⟨e1, e2, e3⟩ := mset_old m k ((mget m k).getD z) i hidx
    have hi : i < es.size := by omega
    have hkey : es[i].key = encK k := by
      have := congrArg (fun l : List Value => l[i]?) h2
      simp only [List.getElem?_map, Array.getElem?_toList] at this
      rw [Array.getElem?_eq_getElem hi] at this
      cases hmi : m[i]? with
      | none => rw [hmi] at e3; cases e3
      | some p => rw [hmi] at e3 this; simp at e3 this; rw [this, e3]
    have hval : mget m k = some es[i].val := by
      rw [← mget_idx, hidx, Option.map_some]
      have := congrArg (fun l : List Value => l[i]?) h3
      simp only [List.getElem?_map, Array.getElem?_toList] at this
      rw [Array.getElem?_eq_getElem hi] at this
      rw [← this]; rfl
    have hset : mset m k ((mget m k).getD z) = m := by
      rw [e1, hval, Option.getD_some]
      apply List.ext_getElem?
      intro j
      rw [List.getElem?_set]
      by_cases hij : i = j
      · subst hij
        simp only [if_true, e2]
        cases hmi : m[i]? with
        | none => rw [hmi] at e3; cases e3
        | some p =>
          rw [hmi] at e3
          simp at e3
          have := congrArg (fun l : List Value => l[i]?) h3
          simp only [List.getElem?_map, Array.getElem?_toList] at this
          rw [Array.getElem?_eq_getElem hi, hmi] at this
          simp at this
          obtain ⟨p1, p2⟩ := p
          simp_all
      · simp [hij]
    rw [hset]
    refine ⟨.map (es.modify i fun e => { e with key := encK k }) c, es[i].born, ?_, ?_⟩
    · have hb := hk.bits k
      simp only [Instr.mapEntry, Sem.run_bind, run_underlying ht.h, Result.andThen, run_getObj_m h1, hk.chk, hf, Option.map_some, Array.getElem?_eq_getElem hi, Option.getD_some, hkey, Instr.keyThatStays, hb, if_true, Sem.run_pure, run_setObj_m _ h1, hval]
      simp [Array.getElem?_eq_getElem hi]
      rfl
    · have hes : (es.modify i fun e => { e with key := encK k }) = es := by
        apply Array.ext_getElem?
        intro j
        rw [Array.getElem?_modify]
        by_cases hij : i = j
        · subst hij
          simp [Array.getElem?_eq_getElem hi, ← hkey]
        · simp [hij]
      rw [hes]
      exact ⟨es, c, i, World.putObj_heap_same hlt, h2, h3, h4, h5, hidx, by simp [hi]⟩

theorem Ops.mapEntry {z : Value} {size bytes : Nat} (hm : MapE encK w b m) (hx : ev n s x = .map (some b)) (hy : ev n s y = encK k) [hk : KeyL P kt encK] [ht : TMap P t kt et] [hz : TS P et z size bytes]
    (h : ∀ w' o st, PutO w w' b o → MapN encK w' b (mset m k ((mget m k).getD z)) k st → Ops P ro n all rest K (upd s d (.tuple #[(mget m k).getD z, .int .i64 (st : Nat)])) w') : Ops P ro n all (⟨some d, .mapEntry t x y, ty, pos, af, none⟩ :: rest) K s w := by
  obtain ⟨o, st, hr, hm'⟩ := run_mapEntry (P := P) (t := t) (k := k) (z := z) hm
  obtain ⟨es, c, h1, _⟩ := hm.h
  exact Ops.ofRun rfl (by simp [execOp, hx, hy, hr]) (h _ _ _ (putO_putObj o h1) hm')

theorem nodup_idx : ∀ (l : List Nat) (i : Nat) (a : Nat), l.Nodup → l[i]? = some a → l.findIdx? (fun x => ((x : Nat) : Int) == (a : Int)) = some i
  | [], i, a, _, h => by simp at h
  | x :: l, 0, a, _, h => by
    simp only [List.getElem?_cons_zero, Option.some.injEq] at h
    subst h; simp [List.findIdx?_cons]
  | x :: l, i + 1, a, hn, h => by
    simp only [List.getElem?_cons_succ] at h
    have hx : x ≠ a := fun e => by
      subst e
      exact (List.nodup_cons.1 hn).1 (List.mem_of_getElem? h)
    have ih := nodup_idx l i a (List.nodup_cons.1 hn).2 h
    have hb : ((x : Int) == (a : Int)) = false := by simp; omega
    rw [List.findIdx?_cons, hb, ih]
    simp

theorem run_entryStore {v : Value} {st : Nat} (hm : MapN encK w b m k st) :
    ∃ o, (Instr.entryStore t (.map (some b)) (.int .i64 (st : Nat)) v).run P w = .ok () (w.putObj b o) ∧ MapE encK (w.putObj b o) b (mset m k v) := by
  obtain ⟨es, c, i, h1, h2, h3, h4, h5, h6, h7⟩ := hm.h
  have hlt : b < w.heap.size := (Array.getElem?_eq_some_iff.1 h1).1
  have hlen : es.size = m.length := by have := congrArg List.length h2; simpa using this
  obtain ⟨e1, e2, e3⟩ := mset_old m k v i h6
  have hi : i < es.size := by omega
  have hkey : es[i].key = encK k := by
    have := congrArg (fun l : List Value => l[i]?) h2
    simp only [List.getElem?_map, Array.getElem?_toList] at this
    rw [Array.getElem?_eq_getElem hi] at this
    cases hmi : m[i]? with
    | none => rw [hmi] at e3; cases e3
    | some p => rw [hmi] at e3 this; simp at e3 this; rw [this, e3]
  have hfind : es.findIdx? (fun e => ((e.born : Nat) : Int) == (st : Int)) = some i := by
    have := nodup_idx _ i st h5 h7
    rw [List.findIdx?_map] at this
    rw [← List.findIdx?_toArray, Array.toArray_toList] at this
    exact this
  refine ⟨.map (es.modify i fun e => { e with val := v }) c, ?_, ?_⟩
  · simp only [Instr.entryStore, Sem.run_bind, Result.andThen, run_getObj_m h1, asInt, asIntOf, Sem.run_pure, hfind, run_setObj_m _ h1]
  · rw [e1]
    refine ⟨_, c, World.putObj_heap_same hlt, ?_, ?_, ?_, ?_⟩
    · apply List.ext_getElem?
      intro j
      simp only [List.getElem?_map, Array.getElem?_toList, Array.getElem?_modify, List.getElem?_set]
      have hj := congrArg (fun l : List Value => l[j]?) h2
      simp only [List.getElem?_map, Array.getElem?_toList] at hj
      by_cases hij : i = j
      · subst hij
        simp [Array.getElem?_eq_getElem hi, e2, hkey]
      · simp only [hij, if_false]; exact hj
    · apply List.ext_getElem?
      intro j
      simp only [List.getElem?_map, Array.getElem?_toList, Array.getElem?_modify, List.getElem?_set]
      have hj := congrArg (fun l : List Value => l[j]?) h3
      simp only [List.getElem?_map, Array.getElem?_toList] at hj
      by_cases hij : i = j
      · subst hij
        simp [Array.getElem?_eq_getElem hi, e2]
      · simp only [hij, if_false]; exact hj
    · intro e he
      obtain ⟨j, hj⟩ := List.getElem?_of_mem he
      simp only [Array.getElem?_toList, Array.getElem?_modify] at hj
      by_cases hij : i = j
      · subst hij
        simp [Array.getElem?_eq_getElem hi] at hj
        subst hj
        exact h4 es[i] (by simp)
      · simp only [hij, if_false] at hj
        exact h4 e (List.mem_of_getElem? (by simpa using hj))
    · have : (es.modify i fun e => { e with val := v }).toList.map (·.born) = es.toList.map (·.born) := by
        apply List.ext_getElem?
        intro j
        simp only [List.getElem?_map, Array.getElem?_toList, Array.getElem?_modify]
        by_cases hij : i = j
        · subst hij; simp [Array.getElem?_eq_getElem hi]
        · simp [hij]
      rw [this]; exact h5

theorem Ops.entryStore {v : Value} {st : Nat} (hm : MapN encK w b m k st) (hx : ev n s x = .map (some b)) (hy : ev n s y = .int .i64 (st : Nat)) (hv : ev n s z' = v)
    (h : ∀ w' o, PutO w w' b o → MapE encK w' b (mset m k v) → Ops P ro n all rest K s w') : Ops P ro n all (⟨none, .entryStore t x y z', ty, pos, af, none⟩ :: rest) K s w := by
  obtain ⟨o, hr, hm'⟩ := run_entryStore (P := P) (t := t) (k := k) (v := v) hm
  obtain ⟨es, c, i, h1, _⟩ := hm.h
  exact Ops.ofRunU rfl (by simp [execOp, hx, hy, hv, hr]) (h _ _ (putO_putObj o h1) hm')
end rules
end Go.Proofs.Ytcelhpbcdpefnaa
