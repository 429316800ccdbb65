/- The proof engine, part 13: what a reading of the arguments says of memory; how a law's contract answers its row. -/
import Derived.WalkKit
import Derived.ProofKit
import Derived.OpenShut
import Derived.WideKeyArgs
import Derived.LaidMore
import Derived.Lib.LaidTab
import Derived.Deep.Slices
import Derived.Deep.DeepHandedRow
import Derived.Deep.DeepWitnessRowRef
import Derived.Test.YtcelhpbcdpefnaaEng12
import Derived.Test.YtcelhpbcdpefnaaData
namespace Go.Proofs.Ytcelhpbcdpefnaa
open Go.ChangeShapes Go.WideShapes Go.ChangeAt Go.RowKit Go.WideElems

theorem spot_none {w : World} {a : Addr} {v : Value} (h : w.cell? (a.add 0) = some v) : a.spot = none := by simpa [Addr.add] using World.cell?_spot h
theorem at_of_cells {w : World} {a : Addr} {n : Nat} {cs : List Value} (h : w.cells? 0 a n = some cs) : cs.length = n ∧ (0 < n → ∃ b o, a = ⟨b, o, none⟩ ∧ At w b o cs) := by
  unfold World.cells? at h
  rw [if_pos (Nat.zero_le _)] at h
  have hl : cs.length = n := by simpa using Lib.mapM_length h
  refine ⟨hl, fun hn => ?_⟩
  have key : ∀ (i : Nat) (v : Value), cs[i]? = some v → w.cell? (a.add i) = some v := fun i v hv => by
    have hi : i < n := by rw [← hl]; exact (List.getElem?_eq_some_iff.1 hv).1
    obtain ⟨b, h1, h2⟩ := Lib.mapM_at h i i (by simp [hi])
    rw [hv] at h1; cases h1; exact h2
  obtain ⟨b, o, sp⟩ := a
  have h0 : 0 < cs.length := by omega
  have hsp : sp = none := spot_none (key 0 cs[0] (by simp [h0]))
  subst hsp
  exact ⟨b, o, rfl, ⟨fun i v hv => by have := key i v hv; rwa [Addr.add_lit] at this⟩⟩

theorem mem_weightsAll {H : Type} {P : Program} {e : TypeId} : ∀ {l : List (DataW H)} {d : DataW H}, d ∈ l → ∀ n ∈ d.weights P e, n ∈ DataW.weightsAll P e l
  | [], _, h, _, _ => by cases h
  | a :: r, d, h, n, hn => by
    simp only [DataW.weightsAll, List.mem_append]
    rcases List.mem_cons.1 h with rfl | h
    · exact .inl hn
    · exact .inr (mem_weightsAll h n hn)
/-- A value out of its cells. -/
def ofCells (agg : Bool) (cs : List Value) : Value := if agg then .agg cs.toArray else cs.headD undef
theorem rowV_of_trod {H : Type} {enc : TypeId × Value → H} {P : Program} {W : World} {sp : Nat → Bool} {n t e : Nat} {v : Value} {x : DataW H × List MemPlace} [ht : TSl P t e] {k : Nat} {agg : Bool} (hk : P.cellsOf e = k) (hk0 : 0 < k) (hone : agg = false → k = 1)
    (hsh : ∀ n' c z, agg = false → DataW.trod enc P W 0 sp true n' e [c] = some z → fitsV false 1 c = true) (hby : 0 < P.bytesOf e) (h : DataW.trod enc P W 0 sp true n t [v] = some x) (hw : ∀ q ∈ x.1.weights P t, q ≤ reachBytes) :
    ∃ a c vs, v = .slice a vs.length c ∧ RowV W agg k v vs ∧ ∀ y ∈ vs, ∃ n' z, DataW.trod enc P W 0 sp true n' e y.cells.toList = some z ∧ ∀ q ∈ z.1.weights P e, q ≤ reachBytes := by
  rcases Deep.open_slice ht.h h with ⟨hcs, rfl⟩ | ⟨a, len, cap, m, n', D, Pl, hcs, _, hl, hm, hme, rfl, hel⟩
  · cases hcs
    exact ⟨none, 0, [], rfl, RowV.nilS _ _ _ _ _, by simp⟩
  · cases hcs
    have hlm : len ≤ m := by rw [hme]; split <;> omega
    have hwt : (len + (m - len)) * P.bytesOf e ≤ reachBytes := hw _ (by simp [DataW.weights, ht.h])
    have hlen : len ≤ 140737488355328 := by
      have h1 : len * 1 ≤ (len + (m - len)) * P.bytesOf e := Nat.mul_le_mul (by omega) hby
      have h2 : reachBytes = 140737488351232 := rfl
      omega
    have hC : ∀ i, i < len → ∃ cs', W.cells? 0 (a.add (i * k)) k = some cs' ∧ DataW.trod enc P W 0 sp true n' e cs' = some (D i, Pl i) := fun i hi => by
      have := hel i (by omega)
      rwa [hk] at this
    have hV : ∀ i, i < len → ∃ cs', W.cells? 0 (a.add (i * k)) k = some cs' ∧ DataW.trod enc P W 0 sp true n' e cs' = some (D i, Pl i) ∧ fitsV agg k (ofCells agg cs') = true ∧ (ofCells agg cs').cells.toList = cs' := fun i hi => by
      obtain ⟨cs', h1, h2⟩ := hC i hi
      obtain ⟨hl', _⟩ := at_of_cells h1
      refine ⟨cs', h1, h2, ?_⟩
      cases agg with
      | true => exact ⟨by simp [ofCells, fitsV, hl'], by simp [ofCells, Value.cells]⟩
      | false =>
        obtain rfl := hone rfl
        obtain ⟨c, rfl⟩ := List.length_eq_one_iff.1 hl'
        have hf := hsh n' c _ rfl h2
        refine ⟨hf, ?_⟩
        show c.cells.toList = [c]
        cases c <;> simp [fitsV] at hf <;> rfl
    refine ⟨some a, cap, (List.range len).map fun i => ofCells agg ((W.cells? 0 (a.add (i * k)) k).getD []), by simp, ⟨by simpa using hlen, fun y hy => ?_, ?_⟩, fun y hy => ?_⟩
    · obtain ⟨i, hi, rfl⟩ := List.mem_map.1 hy
      obtain ⟨cs', h1, h2, h3, h4⟩ := hV i (by simpa using hi)
      rw [h1]; exact h3
    · by_cases h0 : len = 0
      · subst h0; exact .inl ⟨rfl, some a, cap, by simp⟩
      · right
        obtain ⟨cs0, h1, _⟩ := hV 0 (by omega)
        obtain ⟨b, o, hab, _⟩ := (at_of_cells h1).2 hk0
        obtain ⟨b', o', sp'⟩ := a
        have hs' : sp' = none := by simpa [Addr.add] using congrArg Addr.spot hab
        subst hs'
        refine ⟨b', o', cap, by simp, by simpa using hl, fun j y hy => ?_⟩
        have hj : j < len := by
          have := (List.getElem?_eq_some_iff.1 hy).1
          simpa using this
        obtain ⟨cs', h1, h2, h3, h4⟩ := hV j hj
        have e : y = ofCells agg cs' := by
          simp [hj] at hy
          rw [← hy, h1]; rfl
        rw [e, h4]
        obtain ⟨b2, o2, e2, hA⟩ := (at_of_cells h1).2 hk0
        rw [Addr.add_lit] at e2
        cases e2
        exact hA
    · obtain ⟨i, hi, rfl⟩ := List.mem_map.1 hy
      have hi' : i < len := by simpa using hi
      obtain ⟨cs', h1, h2, h3, h4⟩ := hV i hi'
      rw [h1]
      refine ⟨n', (D i, Pl i), ?_, fun q hq => hw q ?_⟩
      · show DataW.trod enc P W 0 sp true n' e (ofCells agg cs').cells.toList = _
        rw [h4]; exact h2
      · simp only [DataW.weights, ht.h, List.mem_cons, List.mem_append]
        exact .inr (.inl (mem_weightsAll (List.mem_map.2 ⟨i, hi, rfl⟩) q hq))

/-- Values of one shape are a list's. -/
theorem exists_map {α : Type} {enc : α → Value} {Q : α → Prop} : ∀ {vs : List Value}, (∀ y ∈ vs, ∃ a, y = enc a ∧ Q a) → ∃ xs : List α, vs = xs.map enc ∧ ∀ a ∈ xs, Q a
  | [], _ => ⟨[], rfl, by simp⟩
  | y :: vs, h => by
    obtain ⟨a, rfl, hq⟩ := h y (by simp)
    obtain ⟨xs, rfl, hxs⟩ := exists_map fun z hz => h z (List.mem_cons_of_mem _ hz)
    exact ⟨a :: xs, rfl, fun b hb => by rcases List.mem_cons.1 hb with rfl | hb; exact hq; exact hxs b hb⟩

theorem trodAll_stays {H : Type} {enc : TypeId × Value → H} {P : Program} (hl : laidOutB P = true) {W W' : World} {sp : Nat → Bool} (hb : Below W.heap.size W W') : ∀ {ts : List TypeId} {vs : List Value} {ds : List (DataW H)} {ps : List MemPlace},
    (∀ t ∈ ts, P.readableRec t = true ∧ t < P.types.size) → DataW.TrodAll enc P W 0 (fun _ => true) true ts vs ds ps → (∀ x ∈ ps, x.block < W.heap.size) → (∀ x ∈ ps, sp x.block = true) → DataW.TrodAll enc P W' 0 sp true ts vs ds ps
  | [], [], [], _, _, h, _, _ => h
  | t :: ts, v :: vs, d :: ds, ps, hts, ⟨p, q, h1, h2, e⟩, hlt, hsp => by
    subst e
    refine ⟨p, q, Trod_stays hl (hts t (by simp)).1 (hts t (by simp)).2 h1 (fun x hx => hb.same (hlt x (List.mem_append_left _ hx))) (fun x hx => hsp x (List.mem_append_left _ hx)), ?_, rfl⟩
    exact trodAll_stays hl hb (fun t ht => hts t (List.mem_cons_of_mem _ ht)) h2 (fun x hx => hlt x (List.mem_append_right _ hx)) (fun x hx => hsp x (List.mem_append_right _ hx))

/-- A law that answers true and has left memory as it was, but for new blocks: what its row asks behind the call. -/
theorem law_post {H : Type} {enc : TypeId × Value → H} {P : Program} {fn : Func} {s : ChangeSpec} {W W' : World} {args : Array Value} {ds gs : List (DataW H)} {before : List MemPlace} {tb : Nat}
    (hW : DataW.Whole enc P fn.params.toList s.vars false W args.toList ds gs before) (hs : s.vars = []) (hfn : s.fn H (ds ++ gs) = { results := [.lit (.bool true)], args := ds })
    (hres : fn.resultTypes = #[tb]) (htb : P.underlying tb = some .bool) (hl : laidOutB P = true) (hts : ∀ t ∈ fn.params.toList, P.readableRec t = true ∧ t < P.types.size) (hb : Below W.heap.size W W') :
    s.post enc P fn false true false false W args (.bool true) W' := by
  have hlt := hW.lt
  have hW' := hW
  obtain ⟨p, q, hA, hV, rfl, _, _⟩ := hW
  rw [hs] at hV
  obtain ⟨rfl, rfl⟩ := trodVars_none hV
  rw [List.append_nil] at hlt hW'
  refine ⟨ds, [], p, [], p, [], hW', ?_, ?_, ?_, World.keptBut_mono (fun x hx => ⟨hx, .inr (.inl hx)⟩) (hb.frame _), fun h => by cases h⟩
  · rw [hfn, hres]
    exact trodAll_mk1 ⟨1, by simp [DataW.trod, Value.cells, htb]⟩
  · rw [hfn]
    exact trodAll_stays hl hb hts hA hlt fun x hx => by simpa using hlt x hx
  · rw [hfn, hs]; rfl

theorem law_calls {H : Type} {enc : TypeId × Value → H} {P : Program} {f : Nat} {fn : Func} {s : ChangeSpec} {W : World} {args : Array Value} {ds gs : List (DataW H)} {before : List MemPlace} {tb : Nat}
    (hW : DataW.Whole enc P fn.params.toList s.vars false W args.toList ds gs before) (hs : s.vars = []) (hfn : s.fn H (ds ++ gs) = { results := [.lit (.bool true)], args := ds })
    (hres : fn.resultTypes = #[tb]) (htb : P.underlying tb = some .bool) (hl : laidOutB P = true) (hts : ∀ t ∈ fn.params.toList, P.readableRec t = true ∧ t < P.types.size)
    (hct : Ct P f args.toList W (fun v _ => v = .bool true)) : Calls P f args W fun e W' => ∃ v, e = .returned v ∧ s.post enc P fn false true false false W args v W' := by
  unfold Ct at hct
  rw [Array.toArray_toList] at hct
  refine hct.mono fun e W' ⟨v, he, hE, hv⟩ => ?_
  subst hv
  exact ⟨_, he, law_post hW hs hfn hres htb hl hts hE.b⟩
end Go.Proofs.Ytcelhpbcdpefnaa
