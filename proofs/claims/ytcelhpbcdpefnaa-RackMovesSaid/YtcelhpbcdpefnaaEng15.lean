/- The proof engine, part 15: a slice compared with nil; five results; stores into a slice of the call's own. -/
import Derived.Lib.SliceRun
import Derived.Test.YtcelhpbcdpefnaaEng14
namespace Go.Proofs.Ytcelhpbcdpefnaa
open Go.RowKit

section rules
variable {P : Program} {ro : Option Nat} {n : Nat} {all rest : List Oper} {K : Sl → World → Prop} {s : Sl} {w : World} {d : Nat} {ty : Nat} {pos : String} {af : Array Edge}
variable {x y : Operand}
theorem Ops.eqlNil {t t' e l c : Nat} {a : Option Addr} (hx : ev n s x = .slice a l c) (hy : ev n s y = .slice none 0 0) [ht : TSl P t e] (h : Ops P ro n all rest K (upd s d (.bool a.isNone)) w) :
    Ops P ro n all (⟨some d, .binOp .eql t x y t', ty, pos, af, none⟩ :: rest) K s w := by
  refine Ops.ofRun rfl ?_ h
  have hg : (eqGuard .eql t x y (.slice a l c) (.slice none 0 0)).run P w = .ok () w := by cases a <;> simp [eqGuard]
  have hr := Lib.run_eql_slice_nil w t e a l c 0 0 ht.h
  simp [execOp, hx, hy, hg, hr]

theorem flat_len {k : Nat} : ∀ {xs : List Value}, (∀ x ∈ xs, x.cells.size = k) → (xs.flatMap (·.cells.toList)).length = xs.length * k
  | [], _ => by simp
  | y :: xs, h => by
    rw [List.flatMap_cons, List.length_append, flat_len fun x hx => h x (List.mem_cons_of_mem _ hx), Array.length_toList, h y List.mem_cons_self, List.length_cons, Nat.add_mul]; omega
theorem flat_set {k i : Nat} {u : Value} (hi : i < k) : ∀ {xs : List Value} {j : Nat} {x x' : Value}, (∀ x ∈ xs, x.cells.size = k) → xs[j]? = some x → x'.cells.toList = x.cells.toList.set i u →
    ((xs.set j x').flatMap (·.cells.toList)) = (xs.flatMap (·.cells.toList)).set (j * k + i) u
  | [], j, x, x', _, hx, _ => by simp at hx
  | y :: xs, j, x, x', hk, hx, he => by
    have hy : y.cells.toList.length = k := by simpa using hk y List.mem_cons_self
    cases j with
    | zero =>
      simp at hx; subst hx
      rw [List.set_cons_zero, List.flatMap_cons, List.flatMap_cons, he, Nat.zero_mul, Nat.zero_add, List.set_append_left _ _ (by omega)]
    | succ j =>
      have := flat_set hi (fun z hz => hk z (List.mem_cons_of_mem _ hz)) (by simpa using hx : xs[j]? = some x) he
      rw [List.set_cons_succ, List.flatMap_cons, List.flatMap_cons, this, List.set_append_right _ _ (by rw [hy, Nat.add_mul]; omega)]
      congr 2
      rw [hy, Nat.add_mul]; omega

/-- A slice from a place on; what it reads as holds in an elder world, too. -/
theorem Ops.sliceL2 {agg : Bool} {t e k bytes c lo : Nat} {z : Value} {a : Option Addr} {xs : List Value} {i : Int} {k1 : IntKind} {xl : Operand} {w0 : World} (hrow : RowV w agg k (.slice a xs.length c) xs) (hrow0 : RowV w0 agg k (.slice a xs.length c) xs) (hx : ev n s x = .slice a xs.length c) (hl : ev n s xl = .int k1 i)
    (hi' : i = (lo : Int)) (h1 : lo ≤ xs.length) [ht : TSl P t e] [hz : TS P e z k bytes]
    (h : ∀ v, RowV w0 agg k v (xs.drop lo) → (∃ a' c', v = .slice a' (xs.length - lo) c') → Ops P ro n all rest K (upd s d v) w) : Ops P ro n all (⟨some d, .slice t x (some xl) none none, ty, pos, af, none⟩ :: rest) K s w := by
  subst hi'
  obtain ⟨_, hlc⟩ := hrow.cap
  have hp := hrow0.part lo xs.length h1 (Nat.le_refl _) (c - lo) (by omega) (if c = lo then a else a.map (·.add (lo * k))) (fun hlt => by rw [if_neg (by omega)])
  rw [List.take_length] at hp
  refine Ops.ofRun (v := .slice (if c = lo then a else a.map (·.add (lo * k))) (xs.length - lo) (c - lo)) (w' := w) rfl ?_ (h _ hp ⟨_, _, rfl⟩)
  simp [execOp, Instr.sliceAt, Instr.slice, Instr.sliceBounds, Instr.sliceBound, hx, hl, run_underlying ht.h, asIntOf, h1, run_sizeOf' w hz]

/-- A store into one cell of an element of a slice of the call's own. -/
theorem Ops.storeL {B e k g j i bytes t : Nat} {agg : Bool} {v u z : Value} {xs : List Value} {X X' : Value} (hown : OwnL w B e agg k v xs) (hg : v.ownBlock = some g) (hX : xs[j]? = some X) (hX' : fitsV agg k X' = true) (hc : X'.cells.toList = X.cells.toList.set i u) (hi : Nat.blt i k = true)
    (hx : ev n s x = .pointer (some ⟨g, j * k + i, none⟩)) (hy : ev n s y = u) (huc : u.cells = #[u]) (hu1 : u.oneCell' = true) [hz : TS P t z 1 bytes]
    (h : ∀ w' o, PutO w w' g o → OwnL w' B e agg k v (xs.set j X') → Ops P ro n all rest K s w') : Ops P ro n all (⟨none, .store t x y, ty, pos, af, none⟩ :: rest) K s w := by
  have hi : i < k := by simpa using hi
  rcases hown.own.2 with ⟨rfl, _⟩ | ⟨g', cap, cur, rfl, hB, hh, hn, hm, hs, ht⟩
  · simp [Value.ownBlock] at hg
  · have hgg : g' = g := by simpa [Value.ownBlock] using hg
    subst hgg
    have hjl : j < xs.length := (List.getElem?_eq_some_iff.1 hX).1
    have hfl := flat_len (k := k) (xs := xs) fun y hy => fitsV_cells (hown.fit y hy)
    have hjk : j * k + i < xs.length * k := by
      have : (j + 1) * k ≤ xs.length * k := Nat.mul_le_mul_right k hjl
      rw [Nat.add_mul] at this; omega
    have hcl : xs.length * k ≤ cap * k := Nat.mul_le_mul_right k hn
    have hbk : Bk w g' cur.toList e := ⟨by simpa using hh⟩
    refine Ops.store hx hy (by rw [huc]; rfl) (Nat.ble_eq_true_of_le (by rw [Array.length_toList, hs]; omega)) (by rw [huc]; simp [hu1]) ?_
    intro w' hp
    refine h w' _ hp ⟨⟨?_, .inr ⟨g', cap, (cur.toList.take (j * k + i) ++ u.cells.toList ++ cur.toList.drop (j * k + i + 1)).toArray, by rw [List.length_set], hB, hp.new, by rw [List.length_set]; exact hn, hm, ?_, ?_⟩⟩, ?_, by rw [List.length_set]; exact hown.len⟩
    · rw [flat_set hi (fun y hy => fitsV_cells (hown.fit y hy)) hX hc, List.length_set, List.length_set]; exact hfl
    · have hcs : cur.toList.length = cap * k := by simpa using hs
      rw [huc]
      simp only [List.size_toArray, List.length_append, List.length_take, List.length_drop, List.length_cons, List.length_nil]
      omega
    · have hcs : cur.toList.length = cap * k := by simpa using hs
      rw [List.length_set, flat_set hi (fun y hy => fitsV_cells (hown.fit y hy)) hX hc, ← ht, huc]
      have e1 : cur.toList.take (j * k + i) ++ #[u].toList ++ cur.toList.drop (j * k + i + 1) = cur.toList.set (j * k + i) u := by
        rw [List.set_eq_take_append_cons_drop, if_pos (by omega)]
        simp
      rw [e1, List.take_set]
    · intro y hy
      rcases List.mem_or_eq_of_mem_set hy with h1 | h1
      · exact hown.fit y h1
      · subst h1; exact hX'
end rules

/-- Results: a variable of its own (a struct), a slot, and three more. -/
theorem fin5C {P : Program} {fn : Func} {n t ty b size bytes t1 t2 t3 t4 : Nat} {R : Value → World → Prop} {s : Sl} {w : World} {cs : List Value} {dd : TypeDesc} {z : Value} (hf : fn.results = #[.cell t ty, .tmp t1, .tmp t2, .tmp t3, .tmp t4]) (ht : Nat.blt t n = true) (h1 : Nat.blt t1 n = true) (h2 : Nat.blt t2 n = true) (h3 : Nat.blt t3 n = true) (h4 : Nat.blt t4 n = true)
    (hs : s t = .pointer (some ⟨b, 0, none⟩)) (hb : At w b 0 cs) [hu : TU P ty dd] (hag : TypeDesc.isAgg dd = true) [hz : TS P ty z size bytes] (hl : cs.length = size)
    (h : R (.tuple #[.agg cs.toArray, s t1, s t2, s t3, s t4]) w) : finR P fn n R s [] w := by
  unfold finR
  refine ⟨rfl, _, ?_, h⟩
  have e : (mkA n s []).tmps[t]?.getD undef = .pointer (some ⟨b, 0, none⟩) := by
    rw [mkA_getElem?, if_pos (by simpa using ht)]; exact hs
  have e1 : (mkA n s []).tmps[t1]?.getD undef = s t1 := by rw [mkA_getElem?, if_pos (by simpa using h1)]; rfl
  have e2 : (mkA n s []).tmps[t2]?.getD undef = s t2 := by rw [mkA_getElem?, if_pos (by simpa using h2)]; rfl
  have e3 : (mkA n s []).tmps[t3]?.getD undef = s t3 := by rw [mkA_getElem?, if_pos (by simpa using h3)]; rfl
  have e4 : (mkA n s []).tmps[t4]?.getD undef = s t4 := by rw [mkA_getElem?, if_pos (by simpa using h4)]; rfl
  have := run_loadVar_agg (P := P) (t := ty) (w := w) (b := b) (o := 0) hu hag hz (cs := cs) hl (fun i v hv => by have := hb.h i v hv; simpa using this)
  simp [results, hf, e, e1, e2, e3, e4, asAddr, this]
end Go.Proofs.Ytcelhpbcdpefnaa
