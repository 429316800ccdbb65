/- Texts of the proof, part 5: Rc3, Rc4, Rc5, SrW, SlX, SlM, SlW, SlO, SrO, SameT, Tr4. -/
import Derived.Test.YtgmgiepdehlinaaDoorSlipOrdersP4
/- The reference: a line of a copy. -/
namespace Go.Proofs.YtgmgiepdehlinaaDoor
open Go.RowKit

theorem wrdS_len (l : List ByteArray) (rs : List Rd) (k n : Int) (q : Nat) : (wrdS l rs k n q).length ≤ rs.length + 1 := by
  unfold wrdS
  have h1 := foldR_len (l.getD q ⟨#[]⟩) (hereR (k, n, (q : Int)) rs)
  have h2 := here_len (k, n, (q : Int)) rs
  have h3 : ∀ z : ByteArray, (if z.size = 0 then ([] : List ByteArray) else [z]).length ≤ 1 := fun z => by split <;> simp
  have h4 := h3 (foldR (l.getD q ⟨#[]⟩) (hereR (k, n, (q : Int)) rs)).2
  rw [List.length_append]
  omega
theorem fold_snoc {o : ByteArray} {rs : List Rd} {i : Nat} {r : Rd} (h : rs[i]? = some r) (p : Pl) : foldR o (hereR p (rs.take (i + 1))) = if r.1 = p then stepR (foldR o (hereR p (rs.take i))) r else foldR o (hereR p (rs.take i)) := by
  rw [here_snoc h]
  by_cases e : r.1 = p
  · rw [if_pos e, if_pos e, foldR, List.foldl_append]; rfl
  · rw [if_neg e, if_neg e, List.append_nil]
theorem W.cutS {P : Program} {ro : Option Nat} {n : Nat} {X : Ctx} {s : Sl} {ds : List Deferred} {w : World} {c : Code} (D : List Nat) (sO : Sl) (L : List (Nat × Value)) (Q : World → Prop) (h : W P ro n c { X with nx := fun s' ds' w' => ds' = ds ∧ Same D sO s' ∧ AllEq s' L ∧ Q w' } s ds w)
    (h2 : ∀ s0 w', Same D sO (upds s0 L) → Q w' → X.nx (upds s0 L) ds w') : W P ro n c X s ds w :=
  W.mono h (fun s' _ w' ⟨e, hS, hA, q⟩ => by
    subst e
    have e2 := upds_id hA
    have := h2 s' w' (by rw [e2]; exact hS) q
    rw [e2] at this; exact this) (fun _ _ _ h => h) (fun _ _ _ _ h => h)
set_option maxHeartbeats 8000000 in
theorem read_ref1 (a : Option Addr) (c : Nat) (cs : List Ch) (w : World) [hrow : RowI w (.slice a cs.length c) true 2 (cs.map encCh)] [hT : TextI w cs] (id : Int) (ra : Option Addr) (rc : Nat) (rs : List Rd) (hs : SmallT cs) (hl : rs.length ≤ 1000) [hrd : RowI w (.slice ra rs.length rc) true 5 (rs.map encRd)]
    (k n : Nat) (hk : k < cs.length) (hn : n < cs[k].2.2.2.length) :
    Ct Tryd.prog 89 [.agg #[.slice a cs.length c], .agg #[.int .i64 id, .slice ra rs.length rc], .int .i64 (k : Int), .int .i64 (n : Int)] w fun v w' => OwnL w' w.heap.size 9 false 1 v ((lineS cs[k].2.2.2[n].2.2 rs k n).map strV) := by
  have hs1 := hs.1
  have hsk := hs.2 _ (List.getElem_mem hk)
  have hsn := hsk.2 _ (List.getElem_mem hn)
  have hz : ∃ l, cs[k].2.2.2[n].2.2 = l := ⟨_, rfl⟩
  obtain ⟨l, hlw⟩ := hz
  rw [hlw]
  have hll := hsn.1
  rw [hlw] at hll
  have i1 := hT.line hk
  have i2 := hT.word hk hn
  have hLR : RowV w false 1 (.slice cs[k].2.2.2[n].1 l.length cs[k].2.2.2[n].2.1) (l.map strV) := by have := i2.h; rw [hlw] at this; exact this
  refine Ct.ofW (by simp) ?_
  (refine jjB ?_; refine jjC ?_)
  (refine jy rfl ?_; intro b4 w_b4 hb_b4 hs_b4 hS_b4 hk_b4; have hA_b4 := At.ofBlock hk_b4)
  skip
  (refine jy rfl ?_; intro b5 w_b5 hb_b5 hs_b5 hS_b5 hk_b5; have hA_b5 := At.ofBlock hk_b5)
  (apply jJ; exact eS rfl; refine jz ?_; refine jjB ?_; refine jjC ?_; apply jJ; exact eS rfl; refine jz ?_; refine jjB ?_; refine jjC ?_; refine jm ?_; refine jn rfl ?_; refine jN rfl rfl rfl ?_; apply jI; exact eI rfl; refine jF rfl rfl rfl (map_get (by omega)) ?_; intro _ _ _; refine jm ?_; refine jn rfl ?_; refine jP rfl rfl rfl ?_; apply jI; exact eI rfl; refine jF rfl rfl rfl (map_get (by omega)) ?_; intro _ _ _; refine jQ rfl rfl ?_; apply jJ; exact eS rfl; refine jz ?_; refine jjB ?_; refine jjB ?_; refine jjC ?_; apply jJ; exact eI rfl; refine jz ?_; refine jjD ?_)
  have hE5 : Ext w w_b5 := inferInstance
  refine W.keep0 [(2, .int .i64 (k : Int)), (3, .int .i64 (n : Int)), (5, .pointer (some ⟨b5, 0, none⟩)), (9, .slice none 0 0), (10, .slice cs[k].2.2.2[n].1 l.length cs[k].2.2.2[n].2.1), (11, .int .i64 ((0 : Nat) : Int))] ⟨eI rfl, eI rfl, eP rfl, eS rfl, (by rw [← hlw]; exact rfl), eI rfl, trivial⟩ fun s0 => ?_
  have hB5 : At w_b5 b5 0 [.int .i64 id, .slice ra rs.length rc] := inferInstance
  refine W.loopG (24 :: 25 :: 26 :: 27 :: 12 :: 30 :: 31 :: 32 :: 33 :: 34 :: 35 :: 36 :: 37 :: 13 :: 38 :: 39 :: 40 :: 41 :: 42 :: 45 :: 46 :: 47 :: 48 :: 49 :: 14 :: 50 :: 51 :: 52 :: 53 :: 54 :: 55 :: 56 :: 57 :: 58 :: 59 :: 60 :: 61 :: 62 :: 63 :: 64 :: 65 :: 66 :: 67 :: 68 :: 69 :: 70 :: 71 :: 72 :: 73 :: 74 :: 75 :: 76 :: 9 :: 77 :: 78 :: 43 :: 44 :: 79 :: 80 :: 81 :: 82 :: 83 :: 84 :: 28 :: 29 :: 11 :: []) (fun gg s' V => ∃ (q : Nat) (oa : Option Addr) (on oc : Nat), s' 11 = .int .i64 ((q : Nat) : Int) ∧ s' 9 = .slice oa on oc ∧ gg = l.length + 1 - q ∧ q ≤ l.length + 1 ∧ Ext w_b5 V ∧ OwnL V w_b5.heap.size 9 false 1 (.slice oa on oc) (((List.range q).flatMap (wrdS l rs k n)).map strV) ∧ ((List.range q).flatMap (wrdS l rs k n)).length ≤ q * 1001) (l.length + 1) ⟨0, none, 0, 0, rfl, rfl, rfl, Nat.zero_le _, .refl _, OwnL.nil _ _ _ _ _, Nat.zero_le _⟩ ?_
  rintro _ sd V ⟨q, oa, on, oc, h11, h9, rfl, hq, hEV, hOo, hol⟩
  refine W.fix h11 (W.fix (d := 9) h9 ?_)
  clear h11 h9
  have zE5 := hE5.size
  have zEV := hEV.size
  by_cases hql : q < l.length + 1
  rotate_left
  · have hz : q = l.length + 1 := by omega
    subst hz
    have := (hE5.trans hEV).toStep
    (refine jjB ?_; refine jjB ?_; refine jjC ?_; apply jI; exact eI rfl; apply jI; exact eS rfl; refine jh rfl ?_; refine jjc rfl rfl (by omega) ?_; refine jz ?_; refine jjK rfl ?_; refine jjE ?_; refine jjB ?_; refine jjC ?_; apply jI; exact eS rfl; apply jJ; exact eS rfl; refine jz ?_; refine jjF ?_; refine jB rfl rfl ⟨inferInstance, ?_⟩)
    exact hOo.mono zE5
  have hz : ∃ o, l.getD q ⟨#[]⟩ = o := ⟨_, rfl⟩
  obtain ⟨o, ho⟩ := hz
  have hz : ∃ prev, (List.range q).flatMap (wrdS l rs k n) = prev := ⟨_, rfl⟩
  obtain ⟨prev, hprev⟩ := hz
  rw [hprev] at hOo hol
  have hrV : RowI V (.slice ra rs.length rc) true 5 (rs.map encRd) := ⟨hrd.h.ext (hE5.trans hEV)⟩
  have hLV : RowI V (.slice cs[k].2.2.2[n].1 l.length cs[k].2.2.2[n].2.1) false 1 (l.map strV) := ⟨hLR.ext (hE5.trans hEV)⟩
  have hBV : At V b5 0 [.int .i64 id, .slice ra rs.length rc] := hB5.ext hEV
  (refine jjB ?_; refine jjB ?_; refine jjC ?_; apply jI; exact eI rfl; apply jI; exact eS rfl; refine jh rfl ?_; refine jjb rfl rfl (by omega) ?_; refine jz ?_; refine jjJ rfl ?_; refine jjG ?_; refine jjB ?_; refine jjD ?_; refine jjB ?_; refine jjC ?_; apply jJ; exact eT rfl; refine jz ?_; refine jjB ?_; refine jjB ?_; refine jjC ?_; apply jI; exact eI rfl; apply jI; exact eS rfl; refine jh rfl ?_; refine jX rfl rfl ?_; refine jz ?_)
  refine W.cutS (24 :: 25 :: 26 :: 27 :: 12 :: 30 :: 31 :: 32 :: 33 :: 34 :: 35 :: 36 :: 37 :: 13 :: 38 :: 39 :: 40 :: 41 :: 42 :: 45 :: 46 :: 47 :: 48 :: 49 :: 14 :: 50 :: 51 :: 52 :: 53 :: 54 :: 55 :: 56 :: 57 :: 58 :: 59 :: 60 :: 61 :: 62 :: 63 :: 64 :: 65 :: 66 :: 67 :: 68 :: 69 :: 70 :: 71 :: 72 :: 73 :: 74 :: 75 :: 76 :: 9 :: 77 :: 78 :: 43 :: 44 :: 79 :: 80 :: 81 :: 82 :: 83 :: 84 :: 28 :: 29 :: 11 :: []) (upds s0 [(2, .int .i64 (k : Int)), (3, .int .i64 (n : Int)), (5, .pointer (some ⟨b5, 0, none⟩)), (9, .slice none 0 0), (10, .slice cs[k].2.2.2[n].1 l.length cs[k].2.2.2[n].2.1), (11, .int .i64 ((0 : Nat) : Int))]) [(2, .int .i64 (k : Int)), (3, .int .i64 (n : Int)), (5, .pointer (some ⟨b5, 0, none⟩)), (9, .slice oa on oc), (10, .slice cs[k].2.2.2[n].1 l.length cs[k].2.2.2[n].2.1), (11, .int .i64 ((q : Nat) : Int)), (12, .string o)] (fun w' => w' = V) ?_ ?_
  · refine jjN rfl ?_ ?_
    · intro hc
      have hq' : q < l.length := by omega
      have e2 : o = l[q] := by rw [← ho, List.getD_eq_getElem?_getD, List.getElem?_eq_getElem hq']; rfl
      (refine jjC ?_; apply jI; exact eS rfl; apply jI; exact eI rfl; refine jF rfl rfl rfl (map_get (by omega)) ?_; intro _ _ _; refine jQ rfl rfl ?_; apply jJ; exact eT rfl; refine jz ?_)
      exact ⟨rfl, by ((refine Same.upd rfl ?_; refine Same.upd rfl ?_; refine Same.upd rfl ?_; refine Same.upd rfl ?_; refine Same.upd rfl ?_; refine Same.upd rfl ?_; refine Same.upd rfl ?_; refine Same.upd rfl ?_; refine Same.upd rfl ?_; refine Same.upd rfl ?_; refine Same.upd rfl ?_; refine Same.upd rfl ?_; refine Same.upd rfl ?_; refine Same.upd rfl ?_; refine Same.upd rfl ?_; refine Same.upd rfl ?_; exact Same.ovN)), ⟨eI rfl, eI rfl, eP rfl, eS rfl, eS rfl, eI rfl, (by rw [e2]; exact rfl), trivial⟩, rfl⟩
    · intro hc
      have e2 : o = ⟨#[]⟩ := by rw [← ho, List.getD_eq_getElem?_getD, List.getElem?_eq_none (by omega)]; rfl
      (refine jjG ?_)
      exact ⟨rfl, by ((refine Same.upd rfl ?_; refine Same.upd rfl ?_; refine Same.upd rfl ?_; refine Same.upd rfl ?_; refine Same.upd rfl ?_; refine Same.upd rfl ?_; refine Same.upd rfl ?_; refine Same.upd rfl ?_; refine Same.upd rfl ?_; refine Same.upd rfl ?_; refine Same.upd rfl ?_; exact Same.ovN)), ⟨eI rfl, eI rfl, eP rfl, eS rfl, eS rfl, eI rfl, (by rw [e2]; exact rfl), trivial⟩, rfl⟩
  rintro s1 _ hs1' rfl
  (refine jjB ?_; refine jjB ?_; refine jjC ?_; apply jJ; exact eI rfl; refine jz ?_; refine jjD ?_)
  refine W.keep [(2, .int .i64 (k : Int)), (3, .int .i64 (n : Int)), (5, .pointer (some ⟨b5, 0, none⟩)), (9, .slice oa on oc), (10, .slice cs[k].2.2.2[n].1 l.length cs[k].2.2.2[n].2.1), (11, .int .i64 ((q : Nat) : Int)), (12, .string o), (13, .int .i64 ((0 : Nat) : Int))] (D := (24 :: 25 :: 26 :: 27 :: 12 :: 30 :: 31 :: 32 :: 33 :: 34 :: 35 :: 36 :: 37 :: 13 :: 38 :: 39 :: 40 :: 41 :: 42 :: 45 :: 46 :: 47 :: 48 :: 49 :: 14 :: 50 :: 51 :: 52 :: 53 :: 54 :: 55 :: 56 :: 57 :: 58 :: 59 :: 60 :: 61 :: 62 :: 63 :: 64 :: 65 :: 66 :: 67 :: 68 :: 69 :: 70 :: 71 :: 72 :: 73 :: 74 :: 75 :: 76 :: 9 :: 77 :: 78 :: 43 :: 44 :: 79 :: 80 :: 81 :: 82 :: 83 :: 84 :: 28 :: 29 :: 11 :: [])) (sO := upds s0 _) (by ((refine Same.upd rfl ?_; assumption))) ⟨eI rfl, eI rfl, eP rfl, eS rfl, eS rfl, eI rfl, eT rfl, eI rfl, trivial⟩ fun s2 hs2' => ?_
  refine W.loopG (38 :: 39 :: 40 :: 41 :: 42 :: 45 :: 46 :: 47 :: 48 :: 49 :: 14 :: 50 :: 51 :: 52 :: 53 :: 54 :: 55 :: 56 :: 57 :: 58 :: 59 :: 60 :: 61 :: 62 :: 63 :: 64 :: 65 :: 66 :: 67 :: 68 :: 69 :: 70 :: 71 :: 72 :: 73 :: 74 :: 75 :: 76 :: 9 :: 77 :: 78 :: 12 :: 43 :: 44 :: 13 :: []) (fun gg s' V2 => ∃ (i : Nat) (oa : Option Addr) (on oc : Nat), s' 13 = .int .i64 ((i : Nat) : Int) ∧ s' 9 = .slice oa on oc ∧ s' 12 = .string (foldR o (hereR ((k : Int), (n : Int), (q : Int)) (rs.take i))).2 ∧ gg = rs.length - i ∧ i ≤ rs.length ∧ Ext w_b5 V2 ∧ OwnL V2 w_b5.heap.size 9 false 1 (.slice oa on oc) ((prev ++ (foldR o (hereR ((k : Int), (n : Int), (q : Int)) (rs.take i))).1).map strV)) rs.length ⟨0, oa, on, oc, rfl, rfl, rfl, rfl, Nat.zero_le _, hEV, by simpa [hereR, foldR] using hOo⟩ ?_
  rintro _ sd2 V2 ⟨i, oa, on, oc, h13, h9, h12, rfl, hi, hE2, hO2⟩
  refine W.fix h13 (W.fix (d := 9) h9 (W.fix (d := 12) h12 ?_))
  clear h13 h9 h12
  have zE2 := hE2.size
  have hrV2 : RowI V2 (.slice ra rs.length rc) true 5 (rs.map encRd) := ⟨hrd.h.ext (hE5.trans hE2)⟩
  have hBV2 : At V2 b5 0 [.int .i64 id, .slice ra rs.length rc] := hB5.ext hE2
  have hfl := foldR_len o (hereR ((k : Int), (n : Int), (q : Int)) (rs.take i))
  have hhl := here_len ((k : Int), (n : Int), (q : Int)) (rs.take i)
  have htl := List.length_take_le i rs
  by_cases hir : i < rs.length
  rotate_left
  · have hz : i = rs.length := by omega
    subst hz
    rw [List.take_length] at hO2 hfl hhl ⊢
    have hw : wrdS l rs k n q = (foldR o (hereR ((k : Int), (n : Int), (q : Int)) rs)).1 ++ if (foldR o (hereR ((k : Int), (n : Int), (q : Int)) rs)).2.size = 0 then [] else [(foldR o (hereR ((k : Int), (n : Int), (q : Int)) rs)).2] := by unfold wrdS; rw [ho]
    have hwl := wrdS_len l rs k n q
    have hrs : (List.range (q + 1)).flatMap (wrdS l rs k n) = prev ++ wrdS l rs k n q := by rw [range_snoc, hprev]
    have hz : ∃ z, foldR o (hereR ((k : Int), (n : Int), (q : Int)) rs) = z := ⟨_, rfl⟩
    obtain ⟨z, hzz⟩ := hz
    rw [hzz] at hO2 hfl hw ⊢
    (refine jjB ?_; refine jjB ?_; refine jjC ?_; apply jI; exact eI rfl; refine jm ?_; refine jn rfl ?_; refine jN rfl rfl rfl ?_; refine jh rfl ?_; refine jja rfl rfl (by omega) ?_; refine jz ?_; refine jjK rfl ?_; refine jjE ?_; refine jjB ?_; refine jjC ?_; apply jI; exact eT rfl)
    refine Ops.neqS rfl rfl ?_
    by_cases h0 : z.2.size = 0
    · have e0 := str_nil.2 h0
      rw [if_pos h0, List.append_nil] at hw
      rw [decide_eq_false (fun h => h e0)]
      (refine jz ?_; refine jjK rfl ?_; refine jjG ?_; refine jjC ?_; apply jI; exact eI rfl; refine jY rfl rfl (by omega) ?_; apply jJ; exact eI rfl; refine jz ?_)
      refine ⟨rfl, by ((refine Same.upd rfl ?_; refine Same.upd rfl ?_; refine Same.upd rfl ?_; refine Same.upd rfl ?_; refine Same.upd rfl ?_; refine Same.upd rfl ?_; refine Same.upd rfl ?_; refine Same.upd rfl ?_; refine Same.upd rfl ?_; refine Same.upd rfl ?_; refine Same.upd rfl ?_; refine Same.upd rfl ?_; refine Same.upd rfl ?_; refine Same.ovN' rfl ?_; assumption)), l.length + 1 - (q + 1), by omega, q + 1, oa, on, oc, congrArg (Value.int .i64) (by omega), rfl, rfl, by omega, hE2, ?_, ?_⟩
      · rw [hrs, hw]; exact hO2
      · rw [hrs, List.length_append]; omega
    · have e0 : ¬ z.2 = ⟨#[]⟩ := fun e => h0 (str_nil.1 e)
      rw [if_neg h0] at hw
      rw [decide_eq_true e0]
      (refine jz ?_; refine jjJ rfl ?_; refine jjC ?_; apply jI; exact eS rfl; apply jI; exact eT rfl)
      (refine jjP (v := .string _) rfl (by exact rfl) (by exact rfl) (by exact rfl) (by exact rfl) ?_; intro b83 w_b83 hb_b83 hs_b83 hS_b83 hk_b83; have hR_b83 := RowV.one (agg := false) (k := 1) rfl hk_b83)
      refine Ops.appendL (hO2.ext hS_b83.ext) (by have := hS_b83.size; omega) hR_b83 rfl rfl rfl rfl rfl ?_ ?_ ?_
      · rw [List.length_map, List.length_append]; simp only [List.length_cons, List.length_nil]; omega
      · rw [List.length_map, List.length_append]; simp only [List.length_cons, List.length_nil]; omega
      intro v2 V4 hA hO4 _ _
      have e1 : (prev ++ z.1).map strV ++ [.string z.2] = ((List.range (q + 1)).flatMap (wrdS l rs k n)).map strV := by
        rw [hrs, hw, ← List.append_assoc, List.map_append (l₂ := [z.2])]; rfl
      rw [e1] at hO4
      have hz := hO4.slice3
      obtain ⟨a4, n4, c4, rfl⟩ := hz
      (apply jJ; exact eS rfl; refine jz ?_; refine jjC ?_; apply jI; exact eI rfl; refine jY rfl rfl (by omega) ?_; apply jJ; exact eI rfl; refine jz ?_)
      refine ⟨rfl, by ((refine Same.upd rfl ?_; refine Same.upd rfl ?_; refine Same.upd rfl ?_; refine Same.upd rfl ?_; refine Same.upd rfl ?_; refine Same.upd rfl ?_; refine Same.upd rfl ?_; refine Same.upd rfl ?_; refine Same.upd rfl ?_; refine Same.upd rfl ?_; refine Same.upd rfl ?_; refine Same.upd rfl ?_; refine Same.upd rfl ?_; refine Same.upd rfl ?_; refine Same.upd rfl ?_; refine Same.upd rfl ?_; refine Same.upd rfl ?_; refine Same.upd rfl ?_; refine Same.ovN' rfl ?_; assumption)), l.length + 1 - (q + 1), by omega, q + 1, a4, n4, c4, congrArg (Value.int .i64) (by omega), rfl, rfl, by omega, hA.ext (hE2.trans hS_b83.ext) (Nat.le_refl _), hO4, ?_⟩
      rw [hrs, List.length_append]; omega
  have hgi := List.getElem?_eq_getElem hir
  have hfs := fold_snoc (o := o) hgi ((k : Int), (n : Int), (q : Int))
  (refine jjB ?_; refine jjB ?_; refine jjC ?_; apply jI; exact eI rfl; refine jm ?_; refine jn rfl ?_; refine jN rfl rfl rfl ?_; refine jh rfl ?_; refine jjZ rfl rfl (by omega) ?_; refine jz ?_; refine jjJ rfl ?_; refine jjG ?_; refine jjB ?_; refine jjD ?_; refine jjB ?_; refine jjC ?_; refine jm ?_; refine jn rfl ?_; refine jN rfl rfl rfl ?_; apply jI; exact eI rfl; refine jF rfl rfl rfl (map_get (by omega)) ?_; intro _ _ _; refine jQ rfl rfl ?_)
  (apply jjR rfl; (intro _; first|exact eI rfl|exact eB rfl|exact eP rfl|exact eS rfl|exact eT rfl|exact eA rfl|exact eU rfl|exact eF rfl|exact eM rfl|exact eN rfl|exact rfl); exact rfl; exact rfl; exact rfl; exact rfl; intro b14 w_b14 hb_b14 hs_b14 hS_b14 hk_b14; have hA_b14 := Bk.of hk_b14)
  by_cases hp : rs[i].1 = ((k : Int), (n : Int), (q : Int))
  rotate_left
  · rw [if_neg hp] at hfs
    have hO3 := hO2.ext hS_b14.ext
    have hE3 := hE2.trans hS_b14.ext
    by_cases c1 : rs[i].1.1 = (k : Int)
    · by_cases c2 : rs[i].1.2.1 = (n : Int)
      · have c3 : ¬ rs[i].1.2.2 = (q : Int) := fun e => hp (Prod.ext c1 (Prod.ext c2 e))
        (refine jz ?_; refine jjB ?_; refine jjB ?_; refine jjC ?_; refine jm ?_; refine jn rfl ?_; refine jm ?_; refine jn rfl ?_; refine jN rfl rfl rfl ?_; apply jI; exact eI rfl; refine jjk rfl rfl (by omega) ?_; apply jI; exact eB rfl; refine jT rfl rfl rfl ?_; refine jm ?_; refine jn rfl ?_; refine jT rfl rfl rfl ?_; refine jm ?_; refine jn rfl ?_; refine jT rfl rfl rfl ?_; refine jN rfl rfl rfl ?_; refine jT rfl rfl rfl ?_; apply jI; exact eI rfl; refine jT rfl rfl rfl ?_; refine jjk rfl rfl (by omega) ?_; apply jL rfl; exact eB rfl; apply jI; exact eB rfl; refine jT rfl rfl rfl ?_; refine jm ?_; refine jn rfl ?_; refine jT rfl rfl rfl ?_; refine jm ?_; refine jn rfl ?_; refine jT rfl rfl rfl ?_; refine jN rfl rfl rfl ?_; refine jT rfl rfl rfl ?_; apply jI; exact eI rfl; refine jT rfl rfl rfl ?_; refine jjj rfl rfl (by omega) ?_; apply jL rfl; exact eB rfl; refine jz ?_; refine jjJ rfl ?_; refine jjE ?_; refine jjC ?_; apply jI; exact eI rfl; refine jY rfl rfl (by omega) ?_; apply jJ; exact eI rfl; refine jz ?_)
        exact ⟨rfl, by ((refine Same.upd rfl ?_; refine Same.upd rfl ?_; refine Same.upd rfl ?_; refine Same.upd rfl ?_; refine Same.upd rfl ?_; refine Same.upd rfl ?_; refine Same.upd rfl ?_; refine Same.upd rfl ?_; refine Same.upd rfl ?_; refine Same.upd rfl ?_; refine Same.upd rfl ?_; refine Same.upd rfl ?_; refine Same.upd rfl ?_; refine Same.upd rfl ?_; refine Same.upd rfl ?_; refine Same.upd rfl ?_; refine Same.upd rfl ?_; refine Same.upd rfl ?_; refine Same.upd rfl ?_; refine Same.upd rfl ?_; refine Same.upd rfl ?_; refine Same.upd rfl ?_; refine Same.upd rfl ?_; refine Same.upd rfl ?_; refine Same.upd rfl ?_; refine Same.upd rfl ?_; refine Same.upd rfl ?_; refine Same.upd rfl ?_; refine Same.upd rfl ?_; refine Same.upd rfl ?_; refine Same.upd rfl ?_; refine Same.upd rfl ?_; refine Same.upd rfl ?_; refine Same.upd rfl ?_; refine Same.upd rfl ?_; refine Same.upd rfl ?_; exact Same.ovN)), rs.length - (i + 1), by omega, i + 1, oa, on, oc, congrArg (Value.int .i64) (by omega), rfl, by rw [hfs]; exact rfl, rfl, by omega, hE3, by rw [hfs]; exact hO3⟩
      · (refine jz ?_; refine jjB ?_; refine jjB ?_; refine jjC ?_; refine jm ?_; refine jn rfl ?_; refine jm ?_; refine jn rfl ?_; refine jN rfl rfl rfl ?_; apply jI; exact eI rfl; refine jjk rfl rfl (by omega) ?_; apply jI; exact eB rfl; refine jT rfl rfl rfl ?_; refine jm ?_; refine jn rfl ?_; refine jT rfl rfl rfl ?_; refine jm ?_; refine jn rfl ?_; refine jT rfl rfl rfl ?_; refine jN rfl rfl rfl ?_; refine jT rfl rfl rfl ?_; apply jI; exact eI rfl; refine jT rfl rfl rfl ?_; refine jjj rfl rfl (by omega) ?_; apply jL rfl; exact eB rfl; apply jI; exact eB rfl; refine jU rfl rfl rfl rfl ?_; refine jU rfl rfl rfl rfl ?_; refine jU rfl rfl rfl rfl ?_; refine jU rfl rfl rfl rfl ?_; refine jU rfl rfl rfl rfl ?_; apply jK rfl; exact eB rfl; refine jz ?_; refine jjJ rfl ?_; refine jjE ?_; refine jjC ?_; apply jI; exact eI rfl; refine jY rfl rfl (by omega) ?_; apply jJ; exact eI rfl; refine jz ?_)
        exact ⟨rfl, by ((refine Same.upd rfl ?_; refine Same.upd rfl ?_; refine Same.upd rfl ?_; refine Same.upd rfl ?_; refine Same.upd rfl ?_; refine Same.upd rfl ?_; refine Same.upd rfl ?_; refine Same.upd rfl ?_; refine Same.upd rfl ?_; refine Same.upd rfl ?_; refine Same.upd rfl ?_; refine Same.upd rfl ?_; refine Same.upd rfl ?_; refine Same.upd rfl ?_; refine Same.upd rfl ?_; refine Same.upd rfl ?_; refine Same.upd rfl ?_; refine Same.upd rfl ?_; refine Same.upd rfl ?_; refine Same.upd rfl ?_; refine Same.upd rfl ?_; refine Same.upd rfl ?_; refine Same.upd rfl ?_; refine Same.upd rfl ?_; refine Same.upd rfl ?_; refine Same.upd rfl ?_; refine Same.upd rfl ?_; refine Same.upd rfl ?_; refine Same.upd rfl ?_; refine Same.upd rfl ?_; refine Same.upd rfl ?_; refine Same.upd rfl ?_; refine Same.upd rfl ?_; refine Same.upd rfl ?_; refine Same.upd rfl ?_; refine Same.upd rfl ?_; exact Same.ovN)), rs.length - (i + 1), by omega, i + 1, oa, on, oc, congrArg (Value.int .i64) (by omega), rfl, by rw [hfs]; exact rfl, rfl, by omega, hE3, by rw [hfs]; exact hO3⟩
    · (refine jz ?_; refine jjB ?_; refine jjB ?_; refine jjC ?_; refine jm ?_; refine jn rfl ?_; refine jm ?_; refine jn rfl ?_; refine jN rfl rfl rfl ?_; apply jI; exact eI rfl; refine jjj rfl rfl (by omega) ?_; apply jI; exact eB rfl; refine jU rfl rfl rfl rfl ?_; refine jU rfl rfl rfl rfl ?_; refine jU rfl rfl rfl rfl ?_; refine jU rfl rfl rfl rfl ?_; refine jU rfl rfl rfl rfl ?_; apply jK rfl; exact eB rfl; apply jI; exact eB rfl; refine jU rfl rfl rfl rfl ?_; refine jU rfl rfl rfl rfl ?_; refine jU rfl rfl rfl rfl ?_; refine jU rfl rfl rfl rfl ?_; refine jU rfl rfl rfl rfl ?_; apply jK rfl; exact eB rfl; refine jz ?_; refine jjJ rfl ?_; refine jjE ?_; refine jjC ?_; apply jI; exact eI rfl; refine jY rfl rfl (by omega) ?_; apply jJ; exact eI rfl; refine jz ?_)
      exact ⟨rfl, by ((refine Same.upd rfl ?_; refine Same.upd rfl ?_; refine Same.upd rfl ?_; refine Same.upd rfl ?_; refine Same.upd rfl ?_; refine Same.upd rfl ?_; refine Same.upd rfl ?_; refine Same.upd rfl ?_; refine Same.upd rfl ?_; refine Same.upd rfl ?_; refine Same.upd rfl ?_; refine Same.upd rfl ?_; refine Same.upd rfl ?_; refine Same.upd rfl ?_; refine Same.upd rfl ?_; refine Same.upd rfl ?_; refine Same.upd rfl ?_; refine Same.upd rfl ?_; refine Same.upd rfl ?_; refine Same.upd rfl ?_; refine Same.upd rfl ?_; refine Same.upd rfl ?_; refine Same.upd rfl ?_; refine Same.upd rfl ?_; refine Same.upd rfl ?_; refine Same.upd rfl ?_; refine Same.upd rfl ?_; refine Same.upd rfl ?_; refine Same.upd rfl ?_; refine Same.upd rfl ?_; refine Same.upd rfl ?_; refine Same.upd rfl ?_; refine Same.upd rfl ?_; refine Same.upd rfl ?_; refine Same.upd rfl ?_; refine Same.upd rfl ?_; exact Same.ovN)), rs.length - (i + 1), by omega, i + 1, oa, on, oc, congrArg (Value.int .i64) (by omega), rfl, by rw [hfs]; exact rfl, rfl, by omega, hE3, by rw [hfs]; exact hO3⟩
  have c1 : rs[i].1.1 = (k : Int) := by rw [hp]
  have c2 : rs[i].1.2.1 = (n : Int) := by rw [hp]
  have c3 : rs[i].1.2.2 = (q : Int) := by rw [hp]
  rw [if_pos hp] at hfs
  by_cases hk2 : rs[i].2.1 = 2
  · rw [stepR, if_pos hk2] at hfs
    (refine jz ?_; refine jjB ?_; refine jjB ?_; refine jjC ?_; refine jm ?_; refine jn rfl ?_; refine jm ?_; refine jn rfl ?_; refine jN rfl rfl rfl ?_; apply jI; exact eI rfl; refine jjk rfl rfl (by omega) ?_; apply jI; exact eB rfl; refine jT rfl rfl rfl ?_; refine jm ?_; refine jn rfl ?_; refine jT rfl rfl rfl ?_; refine jm ?_; refine jn rfl ?_; refine jT rfl rfl rfl ?_; refine jN rfl rfl rfl ?_; refine jT rfl rfl rfl ?_; apply jI; exact eI rfl; refine jT rfl rfl rfl ?_; refine jjk rfl rfl (by omega) ?_; apply jL rfl; exact eB rfl; apply jI; exact eB rfl; refine jT rfl rfl rfl ?_; refine jm ?_; refine jn rfl ?_; refine jT rfl rfl rfl ?_; refine jm ?_; refine jn rfl ?_; refine jT rfl rfl rfl ?_; refine jN rfl rfl rfl ?_; refine jT rfl rfl rfl ?_; apply jI; exact eI rfl; refine jT rfl rfl rfl ?_; refine jjk rfl rfl (by omega) ?_; apply jL rfl; exact eB rfl; refine jz ?_; refine jjK rfl ?_; refine jjG ?_; refine jjB ?_; refine jjC ?_; refine jm ?_; refine jn rfl ?_; refine jN rfl rfl rfl ?_; refine jjh rfl rfl (by omega) ?_; refine jz ?_; refine jjJ rfl ?_; refine jjC ?_; apply jI; exact eS rfl; refine jm ?_; refine jn rfl ?_; refine jN rfl rfl rfl ?_)
    (refine jjP (v := .string _) rfl (by exact rfl) (by exact rfl) (by exact rfl) (by exact rfl) ?_; intro b75 w_b75 hb_b75 hs_b75 hS_b75 hk_b75; have hR_b75 := RowV.one (agg := false) (k := 1) rfl hk_b75)
    have x75 := hS_b14.ext.trans hS_b75.ext
    refine Ops.appendL (hO2.ext x75) (by have := x75.size; omega) hR_b75 rfl rfl rfl rfl rfl ?_ ?_ ?_
    · rw [List.length_map, List.length_append]; simp only [List.length_cons, List.length_nil]; omega
    · rw [List.length_map, List.length_append]; simp only [List.length_cons, List.length_nil]; omega
    intro v2 V4 hA hO4 _ _
    have e1 : (prev ++ (foldR o (hereR ((k : Int), (n : Int), (q : Int)) (rs.take i))).1).map strV ++ [.string rs[i].2.2] = (prev ++ (foldR o (hereR ((k : Int), (n : Int), (q : Int)) (rs.take (i + 1)))).1).map strV := by
      rw [hfs, ← List.append_assoc, List.map_append (l₂ := [rs[i].2.2])]; rfl
    rw [e1] at hO4
    have hz := hO4.slice3
    obtain ⟨a4, n4, c4, rfl⟩ := hz
    (apply jJ; exact eS rfl; refine jz ?_; refine jjC ?_; apply jI; exact eI rfl; refine jY rfl rfl (by omega) ?_; apply jJ; exact eI rfl; refine jz ?_)
    exact ⟨rfl, by ((refine Same.upd rfl ?_; refine Same.upd rfl ?_; refine Same.upd rfl ?_; refine Same.upd rfl ?_; refine Same.upd rfl ?_; refine Same.upd rfl ?_; refine Same.upd rfl ?_; refine Same.upd rfl ?_; refine Same.upd rfl ?_; refine Same.upd rfl ?_; refine Same.upd rfl ?_; refine Same.upd rfl ?_; refine Same.upd rfl ?_; refine Same.upd rfl ?_; refine Same.upd rfl ?_; refine Same.upd rfl ?_; refine Same.upd rfl ?_; refine Same.upd rfl ?_; refine Same.upd rfl ?_; refine Same.upd rfl ?_; refine Same.upd rfl ?_; refine Same.upd rfl ?_; refine Same.upd rfl ?_; refine Same.upd rfl ?_; refine Same.upd rfl ?_; refine Same.upd rfl ?_; refine Same.upd rfl ?_; refine Same.upd rfl ?_; refine Same.upd rfl ?_; refine Same.upd rfl ?_; refine Same.upd rfl ?_; refine Same.upd rfl ?_; refine Same.upd rfl ?_; refine Same.upd rfl ?_; refine Same.upd rfl ?_; refine Same.upd rfl ?_; refine Same.upd rfl ?_; refine Same.upd rfl ?_; refine Same.upd rfl ?_; refine Same.upd rfl ?_; refine Same.upd rfl ?_; refine Same.upd rfl ?_; refine Same.upd rfl ?_; refine Same.upd rfl ?_; refine Same.upd rfl ?_; exact Same.ovN)), rs.length - (i + 1), by omega, i + 1, a4, n4, c4, congrArg (Value.int .i64) (by omega), rfl, by rw [hfs]; exact rfl, rfl, by omega, hA.ext (hE2.trans x75) (Nat.le_refl _), hO4⟩
  · rw [stepR, if_neg hk2] at hfs
    have hO3 := hO2.ext hS_b14.ext
    have hE3 := hE2.trans hS_b14.ext
    (refine jz ?_; refine jjB ?_; refine jjB ?_; refine jjC ?_; refine jm ?_; refine jn rfl ?_; refine jm ?_; refine jn rfl ?_; refine jN rfl rfl rfl ?_; apply jI; exact eI rfl; refine jjk rfl rfl (by omega) ?_; apply jI; exact eB rfl; refine jT rfl rfl rfl ?_; refine jm ?_; refine jn rfl ?_; refine jT rfl rfl rfl ?_; refine jm ?_; refine jn rfl ?_; refine jT rfl rfl rfl ?_; refine jN rfl rfl rfl ?_; refine jT rfl rfl rfl ?_; apply jI; exact eI rfl; refine jT rfl rfl rfl ?_; refine jjk rfl rfl (by omega) ?_; apply jL rfl; exact eB rfl; apply jI; exact eB rfl; refine jT rfl rfl rfl ?_; refine jm ?_; refine jn rfl ?_; refine jT rfl rfl rfl ?_; refine jm ?_; refine jn rfl ?_; refine jT rfl rfl rfl ?_; refine jN rfl rfl rfl ?_; refine jT rfl rfl rfl ?_; apply jI; exact eI rfl; refine jT rfl rfl rfl ?_; refine jjk rfl rfl (by omega) ?_; apply jL rfl; exact eB rfl; refine jz ?_; refine jjK rfl ?_; refine jjG ?_; refine jjB ?_; refine jjC ?_; refine jm ?_; refine jn rfl ?_; refine jN rfl rfl rfl ?_; refine jji rfl rfl (by omega) ?_; refine jz ?_; refine jjK rfl ?_; refine jjC ?_; refine jm ?_; refine jn rfl ?_; refine jN rfl rfl rfl ?_; apply jJ; exact eT rfl; refine jz ?_; refine jjC ?_; apply jI; exact eI rfl; refine jY rfl rfl (by omega) ?_; apply jJ; exact eI rfl; refine jz ?_)
    exact ⟨rfl, by ((refine Same.upd rfl ?_; refine Same.upd rfl ?_; refine Same.upd rfl ?_; refine Same.upd rfl ?_; refine Same.upd rfl ?_; refine Same.upd rfl ?_; refine Same.upd rfl ?_; refine Same.upd rfl ?_; refine Same.upd rfl ?_; refine Same.upd rfl ?_; refine Same.upd rfl ?_; refine Same.upd rfl ?_; refine Same.upd rfl ?_; refine Same.upd rfl ?_; refine Same.upd rfl ?_; refine Same.upd rfl ?_; refine Same.upd rfl ?_; refine Same.upd rfl ?_; refine Same.upd rfl ?_; refine Same.upd rfl ?_; refine Same.upd rfl ?_; refine Same.upd rfl ?_; refine Same.upd rfl ?_; refine Same.upd rfl ?_; refine Same.upd rfl ?_; refine Same.upd rfl ?_; refine Same.upd rfl ?_; refine Same.upd rfl ?_; refine Same.upd rfl ?_; refine Same.upd rfl ?_; refine Same.upd rfl ?_; refine Same.upd rfl ?_; refine Same.upd rfl ?_; refine Same.upd rfl ?_; refine Same.upd rfl ?_; refine Same.upd rfl ?_; refine Same.upd rfl ?_; refine Same.upd rfl ?_; refine Same.upd rfl ?_; refine Same.upd rfl ?_; refine Same.upd rfl ?_; refine Same.upd rfl ?_; exact Same.ovN)), rs.length - (i + 1), by omega, i + 1, oa, on, oc, congrArg (Value.int .i64) (by omega), rfl, by rw [hfs]; exact rfl, rfl, by omega, hE3, by rw [hfs]; exact hO3⟩
end Go.Proofs.YtgmgiepdehlinaaDoor

/- The reference: copies that are valid. -/
namespace Go.Proofs.YtgmgiepdehlinaaDoor
open Go.RowKit

theorem readT_get {cs : List Ch} {rs : List Rd} {k : Nat} (hk : k < cs.length) : (readT (txF cs) rs)[k]? = some (readC rs k (txC cs[k])) := by
  rw [readT, List.getElem?_mapIdx]
  simp [txF, hk]
theorem lens_no {cs : List Ch} {rs : List Rd} {k n : Nat} (hk : k < cs.length) (hn : n < cs[k].2.2.2.length) (h : inB 1 10 ((lineS cs[k].2.2.2[n].2.2 rs k n).length : Int) = false) : lensB (readT (txF cs) rs) = false := by
  have hg := readT_get (rs := rs) hk
  have hz := List.getElem?_eq_some_iff.1 hg
  obtain ⟨hl, e⟩ := hz
  refine all_no hl ?_
  rw [e]
  refine all_no (k := n) (by rw [readC, List.length_mapIdx, List.length_map]; exact hn) ?_
  simp only [readC, List.getElem_mapIdx, List.getElem_map]
  exact h
theorem lens_yes {cs : List Ch} {rs : List Rd} (h : ∀ (k : Nat) (hk : k < cs.length) (n : Nat) (hn : n < cs[k].2.2.2.length), inB 1 10 ((lineS cs[k].2.2.2[n].2.2 rs k n).length : Int) = true) : lensB (readT (txF cs) rs) = true := by
  refine all_yes fun k hk => ?_
  have hk' : k < cs.length := by rw [readT, List.length_mapIdx, txF_len] at hk; exact hk
  have hg := readT_get (rs := rs) hk'
  rw [List.getElem?_eq_getElem hk] at hg
  rw [Option.some.inj hg]
  refine all_yes fun n hn => ?_
  have hn' : n < cs[k].2.2.2.length := by rw [readC, List.length_mapIdx, List.length_map] at hn; exact hn
  simp only [readC, List.getElem_mapIdx, List.getElem_map]
  exact h k hk' n hn'
theorem lineS_len {l : List ByteArray} {rs : List Rd} {k n : Int} (hl : l.length ≤ 1000) (hr : rs.length ≤ 1000) : (lineS l rs k n).length ≤ 1002001 := by
  have h : ∀ q, ((List.range q).flatMap (wrdS l rs k n)).length ≤ q * 1001 := fun q => by
    induction q with
    | zero => simp
    | succ q ih =>
      rw [range_snoc, List.length_append]
      have := wrdS_len l rs k n q
      omega
  have h2 := h (l.length + 1)
  rw [lineS]
  omega

set_option maxHeartbeats 16000000 in
theorem Copy_ref1 (a : Option Addr) (c : Nat) (cs : List Ch) (w : World) [hrow : RowI w (.slice a cs.length c) true 2 (cs.map encCh)] [hT : TextI w cs] (id : Int) (ra : Option Addr) (rc : Nat) (rs : List Rd) (hs : SmallT cs) (hrs : SmallR rs) [hrd : RowI w (.slice ra rs.length rc) true 5 (rs.map encRd)] :
    Ct Tryd.prog 71 [.agg #[.slice a cs.length c], .agg #[.int .i64 id, .slice ra rs.length rc]] w fun v _ => v = .bool (copyB (txF cs) id rs) := by
  have hs1 := hs.1
  have hrl := hrs.len
  refine Ct.ofW (by simp) ?_
  (refine jjB ?_; refine jjC ?_)
  (refine jy rfl ?_; intro b2 w_b2 hb_b2 hs_b2 hS_b2 hk_b2; have hA_b2 := At.ofBlock hk_b2)
  skip
  (refine jy rfl ?_; intro b3 w_b3 hb_b3 hs_b3 hS_b3 hk_b3; have hA_b3 := At.ofBlock hk_b3)
  (apply jJ; exact eB rfl; refine jz ?_; refine jjB ?_; refine jjB ?_; refine jjC ?_; refine jm ?_; refine jn rfl ?_; refine jN rfl rfl rfl ?_)
  obtain ⟨B1, h1⟩ : ∃ B, inB 0 9999 id = B := ⟨_, rfl⟩
  refine jjQ ((within_postilref01 id 0 9999 _).mono fun v _ _ h => h.trans (by rw [h1])) rfl rfl ?_
  rintro _ w2 hS2 rfl
  cases B1
  · (refine jq rfl ?_; apply jI; exact eB rfl; refine jU rfl rfl rfl rfl ?_; refine jU rfl rfl rfl rfl ?_; refine jU rfl rfl rfl rfl ?_; refine jU rfl rfl rfl rfl ?_; apply jK rfl; exact eB rfl; refine jz ?_; refine jjJ rfl ?_; refine jjB ?_; refine jjC ?_; apply jJ; exact eB rfl; refine jz ?_; refine jjF ?_; refine jB rfl rfl ⟨inferInstance, ?_⟩)
    rw [copyB_id h1]; exact rfl
  by_cases h20 : rs.length ≤ 20
  rotate_left
  · (refine jp rfl ?_; apply jI; exact eB rfl; refine jT rfl rfl rfl ?_; refine jm ?_; refine jn rfl ?_; refine jT rfl rfl rfl ?_; refine jN rfl rfl rfl ?_; refine jT rfl rfl rfl ?_; refine jh rfl ?_; refine jT rfl rfl rfl ?_; refine jjd rfl rfl (by omega) ?_; apply jL rfl; exact eB rfl; refine jz ?_; refine jjJ rfl ?_; refine jjB ?_; refine jjC ?_; apply jJ; exact eB rfl; refine jz ?_; refine jjF ?_; refine jB rfl rfl ⟨inferInstance, ?_⟩)
    rw [copyB_len h20]; exact rfl
  (refine jp rfl ?_; apply jI; exact eB rfl; refine jT rfl rfl rfl ?_; refine jm ?_; refine jn rfl ?_; refine jT rfl rfl rfl ?_; refine jN rfl rfl rfl ?_; refine jT rfl rfl rfl ?_; refine jh rfl ?_; refine jT rfl rfl rfl ?_; refine jje rfl rfl (by omega) ?_; apply jL rfl; exact eB rfl; refine jz ?_; refine jjK rfl ?_; refine jjG ?_; refine jjB ?_; refine jjB ?_; refine jjC ?_; apply jJ; exact eI rfl; refine jz ?_; refine jjD ?_)
  have hE2 : Ext w w2 := inferInstance
  refine W.keep0 [(2, .pointer (some ⟨b2, 0, none⟩)), (3, .pointer (some ⟨b3, 0, none⟩)), (5, .int .i64 ((0 : Nat) : Int))] ⟨eP rfl, eP rfl, eI rfl, trivial⟩ fun s0 => ?_
  have hb22 : At w2 b2 0 [.slice a cs.length c] := inferInstance
  have hb32 : At w2 b3 0 [.int .i64 id, .slice ra rs.length rc] := inferInstance
  refine W.loop (19 :: 20 :: 21 :: 22 :: 23 :: 26 :: 27 :: 28 :: 29 :: 30 :: 6 :: 31 :: 32 :: 33 :: 34 :: 4 :: 35 :: 36 :: 37 :: 38 :: 39 :: 40 :: 41 :: 42 :: 43 :: 44 :: 45 :: 46 :: 47 :: 48 :: 49 :: 50 :: 51 :: 52 :: 53 :: 54 :: 55 :: 56 :: 57 :: 58 :: 59 :: 60 :: 61 :: 62 :: 63 :: 64 :: 65 :: 66 :: 67 :: 68 :: 69 :: 70 :: 24 :: 25 :: 5 :: []) (fun gg s' V => ∃ (i : Nat), s' 5 = .int .i64 ((i : Nat) : Int) ∧ gg = rs.length - i ∧ i ≤ rs.length ∧ (∀ (q : Nat) (hq : q < rs.length), q < i → readB (txF cs) rs[q] = true) ∧ ∀ (q : Nat) (hq : q + 1 < rs.length), q + 1 < i → nextB rs[q] rs[q + 1] = true) rs.length ⟨0, rfl, rfl, Nat.zero_le _, by intros; omega, by intros; omega⟩ ?_
  rintro _ sd V hSV ⟨i, h5, rfl, hi, hpre, hnx⟩
  refine W.fix h5 ?_
  clear h5
  have hEV : Ext w V := hE2.trans hSV.ext
  by_cases hir : i < rs.length
  rotate_left
  · have hyes := copyB_yes h1 h20 (fun q hq => hpre q hq (by omega)) (fun q hq => hnx q hq (by omega)) (t := txF cs)
    (refine jjB ?_; refine jjB ?_; refine jjC ?_; apply jI; exact eI rfl; refine jm ?_; refine jn rfl ?_; refine jN rfl rfl rfl ?_; refine jh rfl ?_; refine jja rfl rfl (by omega) ?_; refine jz ?_; refine jjK rfl ?_; refine jjE ?_; refine jjB ?_; refine jjB ?_; refine jjC ?_; apply jJ; exact eI rfl; refine jz ?_; refine jjD ?_)
    refine W.keep0 [(2, .pointer (some ⟨b2, 0, none⟩)), (3, .pointer (some ⟨b3, 0, none⟩)), (7, .int .i64 ((0 : Nat) : Int))] ⟨eP rfl, eP rfl, eI rfl, trivial⟩ fun s1 => ?_
    refine W.loop (71 :: 72 :: 73 :: 74 :: 75 :: 8 :: 78 :: 79 :: 80 :: 81 :: 82 :: 83 :: 84 :: 85 :: 86 :: 89 :: 90 :: 91 :: 92 :: 93 :: 94 :: 95 :: 96 :: 4 :: 87 :: 88 :: 76 :: 77 :: 7 :: []) (fun gg s' V => ∃ (k : Nat), s' 7 = .int .i64 ((k : Nat) : Int) ∧ gg = cs.length - k ∧ k ≤ cs.length ∧ (∀ (k' : Nat) (hk : k' < cs.length), k' < k → ∀ (n : Nat) (hn : n < cs[k'].2.2.2.length), inB 1 10 ((lineS cs[k'].2.2.2[n].2.2 rs k' n).length : Int) = true)) cs.length ⟨0, rfl, rfl, Nat.zero_le _, by intros; omega⟩ ?_
    rintro _ sd2 V2 hSV2 ⟨k, h7, rfl, hk, hpk⟩
    refine W.fix h7 ?_
    clear h7
    by_cases hkc : k < cs.length
    rotate_left
    · have hl := lens_yes (rs := rs) (cs := cs) fun q hq => hpk q hq (by omega)
      (refine jjB ?_; refine jjB ?_; refine jjC ?_; apply jI; exact eI rfl; refine jm ?_; refine jn rfl ?_; refine jN rfl rfl rfl ?_; refine jh rfl ?_; refine jja rfl rfl (by omega) ?_; refine jz ?_; refine jjK rfl ?_; refine jjE ?_; refine jjB ?_; refine jjC ?_; apply jJ; exact eB rfl; refine jz ?_; refine jjF ?_; refine jB rfl rfl ⟨inferInstance, ?_⟩)
      rw [hyes, hl]; exact rfl
    have hsk := hs.2 _ (List.getElem_mem hkc)
    (refine jjB ?_; refine jjB ?_; refine jjC ?_; apply jI; exact eI rfl; refine jm ?_; refine jn rfl ?_; refine jN rfl rfl rfl ?_; refine jh rfl ?_; refine jjZ rfl rfl (by omega) ?_; refine jz ?_; refine jjJ rfl ?_; refine jjG ?_; refine jjB ?_; refine jjD ?_; refine jjB ?_; refine jjC ?_; apply jJ; exact eI rfl; refine jz ?_; refine jjD ?_)
    refine W.keep [(2, .pointer (some ⟨b2, 0, none⟩)), (3, .pointer (some ⟨b3, 0, none⟩)), (7, .int .i64 ((k : Nat) : Int)), (8, .int .i64 ((0 : Nat) : Int))] (D := (71 :: 72 :: 73 :: 74 :: 75 :: 8 :: 78 :: 79 :: 80 :: 81 :: 82 :: 83 :: 84 :: 85 :: 86 :: 89 :: 90 :: 91 :: 92 :: 93 :: 94 :: 95 :: 96 :: 4 :: 87 :: 88 :: 76 :: 77 :: 7 :: [])) (sO := upds s1 _) (by ((refine Same.upd rfl ?_; refine Same.upd rfl ?_; refine Same.upd rfl ?_; refine Same.upd rfl ?_; refine Same.upd rfl ?_; refine Same.upd rfl ?_; refine Same.upd rfl ?_; exact Same.ovN))) ⟨eP rfl, eP rfl, eI rfl, eI rfl, trivial⟩ fun s2 hs2' => ?_
    refine W.loop (78 :: 79 :: 80 :: 81 :: 82 :: 83 :: 84 :: 85 :: 86 :: 89 :: 90 :: 91 :: 92 :: 93 :: 94 :: 95 :: 96 :: 4 :: 87 :: 88 :: 8 :: []) (fun gg s' V => ∃ (n : Nat), s' 8 = .int .i64 ((n : Nat) : Int) ∧ gg = cs[k].2.2.2.length - n ∧ n ≤ cs[k].2.2.2.length ∧ (∀ (n' : Nat) (hn : n' < cs[k].2.2.2.length), n' < n → inB 1 10 ((lineS cs[k].2.2.2[n'].2.2 rs k n').length : Int) = true)) cs[k].2.2.2.length ⟨0, rfl, rfl, Nat.zero_le _, by intros; omega⟩ ?_
    rintro _ sd3 V3 hSV3 ⟨n, h8, rfl, hn, hpn⟩
    refine W.fix h8 ?_
    clear h8
    by_cases hnl : n < cs[k].2.2.2.length
    rotate_left
    · (refine jjB ?_; refine jjB ?_; refine jjC ?_; apply jI; exact eI rfl; refine jm ?_; refine jn rfl ?_; refine jN rfl rfl rfl ?_; apply jI; exact eI rfl; refine jF rfl rfl rfl (map_get (by omega)) ?_; intro _ _ _; refine jm ?_; refine jn rfl ?_; refine jP rfl rfl rfl ?_; refine jh rfl ?_; refine jja rfl rfl (by omega) ?_; refine jz ?_; refine jjK rfl ?_; refine jjE ?_; refine jjC ?_; apply jI; exact eI rfl; refine jY rfl rfl (by omega) ?_; apply jJ; exact eI rfl; refine jz ?_)
      refine ⟨rfl, by ((refine Same.upd rfl ?_; refine Same.upd rfl ?_; refine Same.upd rfl ?_; refine Same.upd rfl ?_; refine Same.upd rfl ?_; refine Same.upd rfl ?_; refine Same.upd rfl ?_; refine Same.upd rfl ?_; refine Same.upd rfl ?_; refine Same.upd rfl ?_; refine Same.upd rfl ?_; refine Same.upd rfl ?_; refine Same.upd rfl ?_; refine Same.ovN' rfl ?_; assumption)), cs.length - (k + 1), by omega, inferInstance, k + 1, congrArg (Value.int .i64) (by omega), rfl, by omega, fun k' hk' hkk n' hn' => ?_⟩
      by_cases e : k' = k
      · subst e; exact hpn n' hn' (by omega)
      · exact hpk k' hk' (by omega) n' hn'
    have hsn := (hsk.2 _ (List.getElem_mem hnl)).1
    have hll := lineS_len (k := (k : Int)) (n := (n : Int)) hsn hrl
    have hz : ∃ B, inB 1 10 ((lineS cs[k].2.2.2[n].2.2 rs k n).length : Int) = B := ⟨_, rfl⟩
    obtain ⟨B, hB⟩ := hz
    (refine jjB ?_; refine jjB ?_; refine jjC ?_; apply jI; exact eI rfl; refine jm ?_; refine jn rfl ?_; refine jN rfl rfl rfl ?_; apply jI; exact eI rfl; refine jF rfl rfl rfl (map_get (by omega)) ?_; intro _ _ _; refine jm ?_; refine jn rfl ?_; refine jP rfl rfl rfl ?_; refine jh rfl ?_; refine jjZ rfl rfl (by omega) ?_; refine jz ?_; refine jjJ rfl ?_; refine jjG ?_; refine jjB ?_; refine jjD ?_; refine jjB ?_; refine jjC ?_; refine jO rfl rfl rfl rfl ?_; refine jO rfl rfl rfl rfl ?_; apply jI; exact eI rfl; apply jI; exact eI rfl)
    refine jjQ (read_ref1 a c cs _ id ra rc rs hs hrl k n hkc hnl) rfl rfl ?_
    intro lv w4 hS4 hOl
    have hz := hOl.slice
    obtain ⟨a4, c4, hlv⟩ := hz
    rw [List.length_map] at hlv
    subst hlv
    (refine jh rfl ?_)
    refine jjQ ((within_postilref01 ((lineS cs[k].2.2.2[n].2.2 rs k n).length : Int) 1 10 _).mono fun v _ _ h => h.trans (by rw [hB])) rfl rfl ?_
    rintro _ w5 hS5 rfl
    cases B
    · have hl := lens_no hkc hnl hB
      (refine jq rfl ?_; refine jz ?_; refine jjJ rfl ?_; refine jjB ?_; refine jjC ?_; apply jJ; exact eB rfl; refine jz ?_; refine jjF ?_; refine jB rfl rfl ⟨inferInstance, ?_⟩)
      rw [hyes, hl]; exact rfl
    · (refine jp rfl ?_; refine jz ?_; refine jjK rfl ?_; refine jjG ?_; refine jjC ?_; apply jI; exact eI rfl; refine jY rfl rfl (by omega) ?_; apply jJ; exact eI rfl; refine jz ?_)
      refine ⟨rfl, by ((refine Same.upd rfl ?_; refine Same.upd rfl ?_; refine Same.upd rfl ?_; refine Same.upd rfl ?_; refine Same.upd rfl ?_; refine Same.upd rfl ?_; refine Same.upd rfl ?_; refine Same.upd rfl ?_; refine Same.upd rfl ?_; refine Same.upd rfl ?_; refine Same.upd rfl ?_; refine Same.upd rfl ?_; refine Same.upd rfl ?_; refine Same.upd rfl ?_; refine Same.upd rfl ?_; refine Same.upd rfl ?_; refine Same.upd rfl ?_; refine Same.upd rfl ?_; refine Same.upd rfl ?_; refine Same.upd rfl ?_; refine Same.upd rfl ?_; exact Same.ovN)), cs[k].2.2.2.length - (n + 1), by omega, inferInstance, n + 1, congrArg (Value.int .i64) (by omega), rfl, by omega, fun n' hn' hnn => ?_⟩
      by_cases e : n' = n
      · subst e; exact hB
      · exact hpn n' hn' (by omega)
  have hrm := List.getElem_mem hir
  have hwd := hrs.word _ hrm
  have hby := hrs.byte _ hrm
  (refine jjB ?_; refine jjB ?_; refine jjC ?_; apply jI; exact eI rfl; refine jm ?_; refine jn rfl ?_; refine jN rfl rfl rfl ?_; refine jh rfl ?_; refine jjZ rfl rfl (by omega) ?_; refine jz ?_; refine jjJ rfl ?_; refine jjG ?_; refine jjB ?_; refine jjD ?_; refine jjB ?_; refine jjC ?_; refine jm ?_; refine jn rfl ?_; refine jN rfl rfl rfl ?_; apply jI; exact eI rfl; refine jF rfl rfl rfl (map_get (by omega)) ?_; intro _ _ _; refine jQ rfl rfl ?_)
  (apply jjR rfl; (intro _; first|exact eI rfl|exact eB rfl|exact eP rfl|exact eS rfl|exact eT rfl|exact eA rfl|exact eU rfl|exact eF rfl|exact eM rfl|exact eN rfl|exact rfl); exact rfl; exact rfl; exact rfl; exact rfl; intro b6 w_b6 hb_b6 hs_b6 hS_b6 hk_b6; have hA_b6 := Bk.of hk_b6)
  have hz : ∃ B, readB (txF cs) rs[i] = B := ⟨_, rfl⟩
  obtain ⟨B, hB⟩ := hz
  (refine jz ?_; refine jjB ?_; refine jjB ?_; refine jjC ?_; refine jO rfl rfl rfl rfl ?_; refine jO rfl rfl rfl rfl ?_)
  refine jjQ ((reading_ref1 a c cs _ rs[i] hs hwd).mono fun v _ _ h => h.trans (by rw [hB])) rfl rfl ?_
  rintro _ w4 hS4 rfl
  cases B
  · (refine jq rfl ?_; refine jz ?_; refine jjJ rfl ?_; refine jjB ?_; refine jjC ?_; apply jJ; exact eB rfl; refine jz ?_; refine jjF ?_; refine jB rfl rfl ⟨inferInstance, ?_⟩)
    rw [copyB_read hir hB]; exact rfl
  have hpre' : ∀ (q : Nat) (hq : q < rs.length), q < i + 1 → readB (txF cs) rs[q] = true := fun q hq hqi => by
    by_cases e : q = i
    · subst e; exact hB
    · exact hpre q hq (by omega)
  have hE4 : Ext w w4 := inferInstance
  have hb34 : At w4 b3 0 [.int .i64 id, .slice ra rs.length rc] := inferInstance
  have hb64 : At w4 b6 0 [.int .i64 rs[i].1.1, .int .i64 rs[i].1.2.1, .int .i64 rs[i].1.2.2, .int .u8 rs[i].2.1, .string rs[i].2.2] := (Bk.toAt (h := hA_b6)).ext hS4.ext
  by_cases hi0 : i = 0
  · (refine jp rfl ?_; refine jz ?_; refine jjK rfl ?_; refine jjG ?_; refine jjB ?_)
    refine W.draw (fun w' => Ext w4 w') ?_
    intro w1 hS1
    have x1 := hS1.ext
    (refine jjV [0] ?_ ?_ ?_; (decide +kernel); (exact x1); (((apply jjT; exact rfl; rintro w' hq; have := hq.toStep; apply jI; exact eI rfl; refine jz ?_; exact ⟨rfl, rfl⟩; refine jjU ?_))))
    refine jjV [1] (by decide +kernel) x1 (jjT (v := .bool false) rfl (fun w' q1 => ?_) (jjU ?_)); (refine jje rfl rfl (by omega) ?_; refine jz ?_; exact ⟨rfl, rfl⟩)
    (refine jjV [2, 3, 4, 5, 6, 7, 8, 9, 10, 11, 12, 13, 14, 15, 16, 17, 18, 19, 20, 21, 22, 23, 24, 25, 26, 27, 28, 29, 30, 31, 32, 33, 34, 35] ?_ ?_ ?_; (decide +kernel); (exact x1); (((apply jjT; exact rfl; rintro w' hq; have := hq.toStep; apply jI; exact eB rfl; refine jz ?_; exact ⟨rfl, rfl⟩; apply jjT; exact rfl; rintro w' hq; have := hq.toStep; refine jU rfl rfl rfl rfl ?_; refine jz ?_; exact ⟨rfl, rfl⟩; apply jjT; exact rfl; rintro w' hq; have := hq.toStep; refine jU rfl rfl rfl rfl ?_; refine jz ?_; exact ⟨rfl, rfl⟩; apply jjT; exact rfl; rintro w' hq; have := hq.toStep; refine jU rfl rfl rfl rfl ?_; refine jz ?_; exact ⟨rfl, rfl⟩; apply jjT; exact rfl; rintro w' hq; have := hq.toStep; refine jU rfl rfl rfl rfl ?_; refine jz ?_; exact ⟨rfl, rfl⟩; apply jjT; exact rfl; rintro w' hq; have := hq.toStep; refine jU rfl rfl rfl rfl ?_; refine jz ?_; exact ⟨rfl, rfl⟩; apply jjT; exact rfl; rintro w' hq; have := hq.toStep; refine jU rfl rfl rfl rfl ?_; refine jz ?_; exact ⟨rfl, rfl⟩; apply jjT; exact rfl; rintro w' hq; have := hq.toStep; refine jU rfl rfl rfl rfl ?_; refine jz ?_; exact ⟨rfl, rfl⟩; apply jjT; exact rfl; rintro w' hq; have := hq.toStep; refine jU rfl rfl rfl rfl ?_; refine jz ?_; exact ⟨rfl, rfl⟩; apply jjT; exact rfl; rintro w' hq; have := hq.toStep; refine jU rfl rfl rfl rfl ?_; refine jz ?_; exact ⟨rfl, rfl⟩; apply jjT; exact rfl; rintro w' hq; have := hq.toStep; refine jU rfl rfl rfl rfl ?_; refine jz ?_; exact ⟨rfl, rfl⟩; apply jjT; exact rfl; rintro w' hq; have := hq.toStep; refine jU rfl rfl rfl rfl ?_; refine jz ?_; exact ⟨rfl, rfl⟩; apply jjT; exact rfl; rintro w' hq; have := hq.toStep; refine jV rfl rfl ?_; refine jz ?_; exact ⟨rfl, rfl⟩; apply jjT; exact rfl; rintro w' hq; have := hq.toStep; refine jV rfl rfl ?_; refine jz ?_; exact ⟨rfl, rfl⟩; apply jjT; exact rfl; rintro w' hq; have := hq.toStep; refine jV rfl rfl ?_; refine jz ?_; exact ⟨rfl, rfl⟩; apply jjT; exact rfl; rintro w' hq; have := hq.toStep; refine jV rfl rfl ?_; refine jz ?_; exact ⟨rfl, rfl⟩; apply jjT; exact rfl; rintro w' hq; have := hq.toStep; refine jV rfl rfl ?_; refine jz ?_; exact ⟨rfl, rfl⟩; apply jjT; exact rfl; rintro w' hq; have := hq.toStep; refine jV rfl rfl ?_; refine jz ?_; exact ⟨rfl, rfl⟩; apply jjT; exact rfl; rintro w' hq; have := hq.toStep; refine jV rfl rfl ?_; refine jz ?_; exact ⟨rfl, rfl⟩; apply jjT; exact rfl; rintro w' hq; have := hq.toStep; refine jV rfl rfl ?_; refine jz ?_; exact ⟨rfl, rfl⟩; apply jjT; exact rfl; rintro w' hq; have := hq.toStep; refine jV rfl rfl ?_; refine jz ?_; exact ⟨rfl, rfl⟩; apply jjT; exact rfl; rintro w' hq; have := hq.toStep; refine jV rfl rfl ?_; refine jz ?_; exact ⟨rfl, rfl⟩; apply jjT; exact rfl; rintro w' hq; have := hq.toStep; refine jV rfl rfl ?_; refine jz ?_; exact ⟨rfl, rfl⟩; apply jjT; exact rfl; rintro w' hq; have := hq.toStep; refine jV rfl rfl ?_; refine jz ?_; exact ⟨rfl, rfl⟩; apply jjT; exact rfl; rintro w' hq; have := hq.toStep; refine jV rfl rfl ?_; refine jz ?_; exact ⟨rfl, rfl⟩; apply jjT; exact rfl; rintro w' hq; have := hq.toStep; refine jV rfl rfl ?_; refine jz ?_; exact ⟨rfl, rfl⟩; apply jjT; exact rfl; rintro w' hq; have := hq.toStep; refine jV rfl rfl ?_; refine jz ?_; exact ⟨rfl, rfl⟩; apply jjT; exact rfl; rintro w' hq; have := hq.toStep; refine jV rfl rfl ?_; refine jz ?_; exact ⟨rfl, rfl⟩; apply jjT; exact rfl; rintro w' hq; have := hq.toStep; refine jV rfl rfl ?_; refine jz ?_; exact ⟨rfl, rfl⟩; apply jjT; exact rfl; rintro w' hq; have := hq.toStep; refine jV rfl rfl ?_; refine jz ?_; exact ⟨rfl, rfl⟩; apply jjT; exact rfl; rintro w' hq; have := hq.toStep; refine jV rfl rfl ?_; refine jz ?_; exact ⟨rfl, rfl⟩; apply jjT; exact rfl; rintro w' hq; have := hq.toStep; refine jV rfl rfl ?_; refine jz ?_; exact ⟨rfl, rfl⟩; apply jjT; exact rfl; rintro w' hq; have := hq.toStep; refine jU rfl rfl rfl rfl ?_; refine jz ?_; exact ⟨rfl, rfl⟩; apply jjT; exact rfl; rintro w' hq; have := hq.toStep; apply jL rfl; exact eB rfl; refine jz ?_; exact ⟨rfl, rfl⟩; refine jjU ?_))))
    refine jjX (by decide +kernel) x1 ?_
    have := x1.toStep
    (refine jjK rfl ?_; refine jjG ?_; refine jjC ?_; apply jI; exact eI rfl; refine jY rfl rfl (by omega) ?_; apply jJ; exact eI rfl; refine jz ?_)
    exact ⟨rfl, by ((refine Same.upd rfl ?_; refine Same.upd rfl ?_; refine Same.upd rfl ?_; refine Same.upd rfl ?_; refine Same.upd rfl ?_; refine Same.upd rfl ?_; refine Same.upd rfl ?_; refine Same.upd rfl ?_; refine Same.upd rfl ?_; refine Same.upd rfl ?_; refine Same.upd rfl ?_; refine Same.upd rfl ?_; refine Same.upd rfl ?_; refine Same.upd rfl ?_; refine Same.upd rfl ?_; refine Same.upd rfl ?_; refine Same.upd rfl ?_; refine Same.upd rfl ?_; refine Same.upd rfl ?_; refine Same.upd rfl ?_; refine Same.upd rfl ?_; refine Same.upd rfl ?_; refine Same.upd rfl ?_; refine Same.upd rfl ?_; refine Same.upd rfl ?_; refine Same.upd rfl ?_; refine Same.upd rfl ?_; refine Same.upd rfl ?_; refine Same.upd rfl ?_; refine Same.upd rfl ?_; refine Same.upd rfl ?_; refine Same.upd rfl ?_; refine Same.upd rfl ?_; refine Same.upd rfl ?_; refine Same.upd rfl ?_; refine Same.upd rfl ?_; refine Same.upd rfl ?_; refine Same.upd rfl ?_; refine Same.upd rfl ?_; refine Same.upd rfl ?_; refine Same.upd rfl ?_; refine Same.upd rfl ?_; refine Same.upd rfl ?_; refine Same.upd rfl ?_; refine Same.upd rfl ?_; refine Same.upd rfl ?_; refine Same.upd rfl ?_; refine Same.upd rfl ?_; refine Same.upd rfl ?_; refine Same.upd rfl ?_; refine Same.upd rfl ?_; refine Same.upd rfl ?_; refine Same.upd rfl ?_; refine Same.upd rfl ?_; refine Same.upd rfl ?_; exact Same.ovN)), rs.length - (i + 1), by omega, inferInstance, i + 1, congrArg (Value.int .i64) (by omega), rfl, by omega, hpre', fun q hq hqi => by omega⟩
  have hi1 : ((i : Nat) : Int) - 1 = ((i - 1 : Nat) : Int) := by omega
  have hii : i - 1 < rs.length := by omega
  have hii2 : i - 1 + 1 < rs.length := by omega
  have hnx0 : ∀ b, nextB rs[i - 1] rs[i] = b → nextB rs[i - 1] rs[i - 1 + 1] = b := fun b h => by
    have e : i - 1 + 1 = i := by omega
    simpa only [e] using h
  have hnx' : nextB rs[i - 1] rs[i] = true → ∀ (q : Nat) (hq : q + 1 < rs.length), q + 1 < i + 1 → nextB rs[q] rs[q + 1] = true := fun h q hq hqi => by
    by_cases e : q = i - 1
    · subst e; exact hnx0 _ h
    · exact hnx q hq (by omega)
  have hz := (hrd.h.ext hE4).place' (map_get hii)
  obtain ⟨ba, oa, rfl, hA⟩ := hz
  have hA5 : At w4 ba (oa + (i - 1) * 5) [.int .i64 rs[i - 1].1.1, .int .i64 rs[i - 1].1.2.1, .int .i64 rs[i - 1].1.2.2, .int .u8 rs[i - 1].2.1, .string rs[i - 1].2.2] := hA
  have hA3 : At w4 ba (oa + (i - 1) * 5 + 0) [.int .i64 rs[i - 1].1.1, .int .i64 rs[i - 1].1.2.1, .int .i64 rs[i - 1].1.2.2] := At.pre (ds := [.int .u8 rs[i - 1].2.1, .string rs[i - 1].2.2]) hA5
  clear hA
  have hz : ∃ B, befP rs[i].1 rs[i - 1].1 = B := ⟨_, rfl⟩
  obtain ⟨B2, hB2⟩ := hz
  (refine jp rfl ?_; refine jz ?_; refine jjK rfl ?_; refine jjG ?_; refine jjB ?_)
  refine W.draw (fun w' => Ext w4 w') ?_
  intro w1 hS1
  have x1 := hS1.ext
  (refine jjV [0] ?_ ?_ ?_; (decide +kernel); (exact x1); (((apply jjT; exact rfl; rintro w' hq; have := hq.toStep; apply jI; exact eI rfl; refine jz ?_; exact ⟨rfl, rfl⟩; refine jjU ?_))))
  refine jjV [1] (by decide +kernel) x1 (jjT (v := .bool true) rfl (fun w' q1 => ?_) (jjU ?_)); (refine jjd rfl rfl (by omega) ?_; refine jz ?_; exact ⟨rfl, rfl⟩)
  (refine jjV [2, 3, 4, 5, 6, 7, 8] ?_ ?_ ?_; (decide +kernel); (exact x1); (((apply jjT; exact rfl; rintro w' hq; have := hq.toStep; apply jI; exact eB rfl; refine jz ?_; exact ⟨rfl, rfl⟩; apply jjT; exact rfl; rintro w' hq; have := hq.toStep; refine jT rfl rfl rfl ?_; refine jm ?_; refine jn rfl ?_; refine jz ?_; exact ⟨rfl, rfl⟩; apply jjT; exact rfl; rintro w' hq; have := hq.toStep; refine jT rfl rfl rfl ?_; refine jO rfl rfl rfl rfl ?_; refine jz ?_; exact ⟨rfl, rfl⟩; apply jjT; exact rfl; rintro w' hq; have := hq.toStep; refine jT rfl rfl rfl ?_; refine jm ?_; refine jn rfl ?_; refine jz ?_; exact ⟨rfl, rfl⟩; apply jjT; exact rfl; rintro w' hq; have := hq.toStep; refine jT rfl rfl rfl ?_; refine jN rfl rfl rfl ?_; refine jz ?_; exact ⟨rfl, rfl⟩; apply jjT; exact rfl; rintro w' hq; have := hq.toStep; refine jT rfl rfl rfl ?_; apply jI; exact eI rfl; refine jz ?_; exact ⟨rfl, rfl⟩; apply jjT; exact rfl; rintro w' hq; have := hq.toStep; refine jT rfl rfl rfl ?_; refine jZ rfl rfl (by omega) ?_; refine jz ?_; exact ⟨rfl, rfl⟩; refine jjU ?_))))
  refine jjV [9] (by decide +kernel) x1 (jjT (v := .pointer (some ⟨ba, oa + (i - 1) * 5, none⟩)) rfl (fun w' q1 => ?_) (jjU ?_)); (refine jT rfl rfl rfl ?_; refine jH (i - 1) rfl rfl hi1 (by omega) ?_; refine jz ?_; exact ⟨rfl, rfl⟩)
  (refine jjV [10] ?_ ?_ ?_; (decide +kernel); (exact x1); (((apply jjT; exact rfl; rintro w' hq; have := hq.toStep; refine jT rfl rfl rfl ?_; refine jm ?_; refine jn rfl ?_; refine jz ?_; exact ⟨rfl, rfl⟩; refine jjU ?_))))
  refine jjV [11] (by decide +kernel) x1 (jjT (v := encPl rs[i - 1].1) rfl (fun w' q1 => ?_) (jjU ?_)); (refine jT rfl rfl rfl ?_; refine Ops.loadA (hA3.ext q1) rfl rfl rfl ?_; refine jz ?_; exact ⟨rfl, rfl⟩)
  (apply jjW 12; (decide +kernel); exact rfl; (exact x1))
  (refine jT rfl rfl rfl ?_)
  refine jjQ ((Before_ref1 rs[i].1 rs[i - 1].1 _).mono fun v _ _ h => h.trans (by rw [hB2])) rfl rfl ?_
  rintro _ w5 hS5 rfl
  refine jz ?_
  have x2 := x1.trans hS5.ext
  cases B2
  rotate_left
  · have hno : nextB rs[i - 1] rs[i] = false := by rw [nextB, hB2]; rfl
    (refine jjV [13, 14, 15, 16, 17, 18, 19, 20, 21, 22, 23, 24, 25, 26, 27, 28, 29, 30, 31, 32, 33, 34, 35] ?_ ?_ ?_; (decide +kernel); (exact x2); (((apply jjT; exact rfl; rintro w' hq; have := hq.toStep; refine jT rfl rfl rfl ?_; apply jI; exact eB rfl; refine jz ?_; exact ⟨rfl, rfl⟩; apply jjT; exact rfl; rintro w' hq; have := hq.toStep; refine jU rfl rfl rfl rfl ?_; refine jz ?_; exact ⟨rfl, rfl⟩; apply jjT; exact rfl; rintro w' hq; have := hq.toStep; refine jU rfl rfl rfl rfl ?_; refine jz ?_; exact ⟨rfl, rfl⟩; apply jjT; exact rfl; rintro w' hq; have := hq.toStep; refine jU rfl rfl rfl rfl ?_; refine jz ?_; exact ⟨rfl, rfl⟩; apply jjT; exact rfl; rintro w' hq; have := hq.toStep; refine jU rfl rfl rfl rfl ?_; refine jz ?_; exact ⟨rfl, rfl⟩; apply jjT; exact rfl; rintro w' hq; have := hq.toStep; refine jU rfl rfl rfl rfl ?_; refine jz ?_; exact ⟨rfl, rfl⟩; apply jjT; exact rfl; rintro w' hq; have := hq.toStep; refine jU rfl rfl rfl rfl ?_; refine jz ?_; exact ⟨rfl, rfl⟩; apply jjT; exact rfl; rintro w' hq; have := hq.toStep; refine jU rfl rfl rfl rfl ?_; refine jz ?_; exact ⟨rfl, rfl⟩; apply jjT; exact rfl; rintro w' hq; have := hq.toStep; refine jU rfl rfl rfl rfl ?_; refine jz ?_; exact ⟨rfl, rfl⟩; apply jjT; exact rfl; rintro w' hq; have := hq.toStep; refine jU rfl rfl rfl rfl ?_; refine jz ?_; exact ⟨rfl, rfl⟩; apply jjT; exact rfl; rintro w' hq; have := hq.toStep; refine jU rfl rfl rfl rfl ?_; refine jz ?_; exact ⟨rfl, rfl⟩; apply jjT; exact rfl; rintro w' hq; have := hq.toStep; refine jU rfl rfl rfl rfl ?_; refine jz ?_; exact ⟨rfl, rfl⟩; apply jjT; exact rfl; rintro w' hq; have := hq.toStep; refine jV rfl rfl ?_; refine jz ?_; exact ⟨rfl, rfl⟩; apply jjT; exact rfl; rintro w' hq; have := hq.toStep; refine jV rfl rfl ?_; refine jz ?_; exact ⟨rfl, rfl⟩; apply jjT; exact rfl; rintro w' hq; have := hq.toStep; refine jV rfl rfl ?_; refine jz ?_; exact ⟨rfl, rfl⟩; apply jjT; exact rfl; rintro w' hq; have := hq.toStep; refine jV rfl rfl ?_; refine jz ?_; exact ⟨rfl, rfl⟩; apply jjT; exact rfl; rintro w' hq; have := hq.toStep; refine jV rfl rfl ?_; refine jz ?_; exact ⟨rfl, rfl⟩; apply jjT; exact rfl; rintro w' hq; have := hq.toStep; refine jV rfl rfl ?_; refine jz ?_; exact ⟨rfl, rfl⟩; apply jjT; exact rfl; rintro w' hq; have := hq.toStep; refine jV rfl rfl ?_; refine jz ?_; exact ⟨rfl, rfl⟩; apply jjT; exact rfl; rintro w' hq; have := hq.toStep; refine jV rfl rfl ?_; refine jz ?_; exact ⟨rfl, rfl⟩; apply jjT; exact rfl; rintro w' hq; have := hq.toStep; refine jU rfl rfl rfl rfl ?_; refine jz ?_; exact ⟨rfl, rfl⟩; apply jjT; exact rfl; rintro w' hq; have := hq.toStep; refine jT rfl rfl rfl ?_; apply jK rfl; exact eB rfl; refine jz ?_; exact ⟨rfl, rfl⟩; apply jjT; exact rfl; rintro w' hq; have := hq.toStep; apply jK rfl; exact eB rfl; refine jz ?_; exact ⟨rfl, rfl⟩; refine jjU ?_))))
    refine jjX (by decide +kernel) x2 ?_
    have := x2.toStep
    (refine jjJ rfl ?_; refine jjB ?_; refine jjC ?_; apply jJ; exact eB rfl; refine jz ?_; refine jjF ?_; refine jB rfl rfl ⟨inferInstance, ?_⟩)
    rw [copyB_next hii2 (hnx0 _ hno)]; exact rfl
  (refine jjV [13, 14, 15, 16, 17, 18, 19] ?_ ?_ ?_; (decide +kernel); (exact x2); (((apply jjT; exact rfl; rintro w' hq; have := hq.toStep; refine jT rfl rfl rfl ?_; apply jI; exact eB rfl; refine jz ?_; exact ⟨rfl, rfl⟩; apply jjT; exact rfl; rintro w' hq; have := hq.toStep; refine jT rfl rfl rfl ?_; refine jm ?_; refine jn rfl ?_; refine jz ?_; exact ⟨rfl, rfl⟩; apply jjT; exact rfl; rintro w' hq; have := hq.toStep; refine jT rfl rfl rfl ?_; refine jO rfl rfl rfl rfl ?_; refine jz ?_; exact ⟨rfl, rfl⟩; apply jjT; exact rfl; rintro w' hq; have := hq.toStep; refine jT rfl rfl rfl ?_; refine jm ?_; refine jn rfl ?_; refine jz ?_; exact ⟨rfl, rfl⟩; apply jjT; exact rfl; rintro w' hq; have := hq.toStep; refine jT rfl rfl rfl ?_; refine jN rfl rfl rfl ?_; refine jz ?_; exact ⟨rfl, rfl⟩; apply jjT; exact rfl; rintro w' hq; have := hq.toStep; refine jT rfl rfl rfl ?_; apply jI; exact eI rfl; refine jz ?_; exact ⟨rfl, rfl⟩; apply jjT; exact rfl; rintro w' hq; have := hq.toStep; refine jT rfl rfl rfl ?_; refine jZ rfl rfl (by omega) ?_; refine jz ?_; exact ⟨rfl, rfl⟩; refine jjU ?_))))
  refine jjV [20] (by decide +kernel) x2 (jjT (v := .pointer (some ⟨ba, oa + (i - 1) * 5, none⟩)) rfl (fun w' q1 => ?_) (jjU ?_)); (refine jT rfl rfl rfl ?_; refine jH (i - 1) rfl rfl hi1 (by omega) ?_; refine jz ?_; exact ⟨rfl, rfl⟩)
  (refine jjV [21] ?_ ?_ ?_; (decide +kernel); (exact x2); (((apply jjT; exact rfl; rintro w' hq; have := hq.toStep; refine jT rfl rfl rfl ?_; refine jm ?_; refine jn rfl ?_; refine jz ?_; exact ⟨rfl, rfl⟩; refine jjU ?_))))
  refine jjV [22] (by decide +kernel) x2 (jjT (v := encPl rs[i - 1].1) rfl (fun w' q1 => ?_) (jjU ?_)); (refine jT rfl rfl rfl ?_; refine Ops.loadA (hA3.ext q1) rfl rfl rfl ?_; refine jz ?_; exact ⟨rfl, rfl⟩)
  by_cases he : rs[i].1 = rs[i - 1].1
  rotate_left
  · have hyes : nextB rs[i - 1] rs[i] = true := by rw [nextB, hB2, decide_eq_false he]; rfl
    refine jjV [23] (by decide +kernel) x2 (jjT (v := .bool false) rfl (fun w' q1 => ?_) (jjU ?_)); (refine jT rfl rfl rfl ?_; refine Ops.eqlT (enc := encPl) rs[i].1 rs[i - 1].1 rfl rfl ?_; rw [decide_eq_false he]; refine jz ?_; exact ⟨rfl, rfl⟩)
    (refine jjV [24, 25, 26, 27, 28, 29, 30, 31, 32, 33, 34, 35] ?_ ?_ ?_; (decide +kernel); (exact x2); (((apply jjT; exact rfl; rintro w' hq; have := hq.toStep; refine jT rfl rfl rfl ?_; apply jI; exact eB rfl; refine jz ?_; exact ⟨rfl, rfl⟩; apply jjT; exact rfl; rintro w' hq; have := hq.toStep; refine jU rfl rfl rfl rfl ?_; refine jz ?_; exact ⟨rfl, rfl⟩; apply jjT; exact rfl; rintro w' hq; have := hq.toStep; refine jU rfl rfl rfl rfl ?_; refine jz ?_; exact ⟨rfl, rfl⟩; apply jjT; exact rfl; rintro w' hq; have := hq.toStep; refine jU rfl rfl rfl rfl ?_; refine jz ?_; exact ⟨rfl, rfl⟩; apply jjT; exact rfl; rintro w' hq; have := hq.toStep; refine jU rfl rfl rfl rfl ?_; refine jz ?_; exact ⟨rfl, rfl⟩; apply jjT; exact rfl; rintro w' hq; have := hq.toStep; refine jU rfl rfl rfl rfl ?_; refine jz ?_; exact ⟨rfl, rfl⟩; apply jjT; exact rfl; rintro w' hq; have := hq.toStep; refine jU rfl rfl rfl rfl ?_; refine jz ?_; exact ⟨rfl, rfl⟩; apply jjT; exact rfl; rintro w' hq; have := hq.toStep; refine jU rfl rfl rfl rfl ?_; refine jz ?_; exact ⟨rfl, rfl⟩; apply jjT; exact rfl; rintro w' hq; have := hq.toStep; refine jU rfl rfl rfl rfl ?_; refine jz ?_; exact ⟨rfl, rfl⟩; apply jjT; exact rfl; rintro w' hq; have := hq.toStep; refine jT rfl rfl rfl ?_; apply jL rfl; exact eB rfl; refine jz ?_; exact ⟨rfl, rfl⟩; apply jjT; exact rfl; rintro w' hq; have := hq.toStep; refine jT rfl rfl rfl ?_; apply jL rfl; exact eB rfl; refine jz ?_; exact ⟨rfl, rfl⟩; apply jjT; exact rfl; rintro w' hq; have := hq.toStep; apply jK rfl; exact eB rfl; refine jz ?_; exact ⟨rfl, rfl⟩; refine jjU ?_))))
    refine jjX (by decide +kernel) x2 ?_
    have := x2.toStep
    (refine jjK rfl ?_; refine jjG ?_; refine jjC ?_; apply jI; exact eI rfl; refine jY rfl rfl (by omega) ?_; apply jJ; exact eI rfl; refine jz ?_)
    exact ⟨rfl, by ((refine Same.upd rfl ?_; refine Same.upd rfl ?_; refine Same.upd rfl ?_; refine Same.upd rfl ?_; refine Same.upd rfl ?_; refine Same.upd rfl ?_; refine Same.upd rfl ?_; refine Same.upd rfl ?_; refine Same.upd rfl ?_; refine Same.upd rfl ?_; refine Same.upd rfl ?_; refine Same.upd rfl ?_; refine Same.upd rfl ?_; refine Same.upd rfl ?_; refine Same.upd rfl ?_; refine Same.upd rfl ?_; refine Same.upd rfl ?_; refine Same.upd rfl ?_; refine Same.upd rfl ?_; refine Same.upd rfl ?_; refine Same.upd rfl ?_; refine Same.upd rfl ?_; refine Same.upd rfl ?_; refine Same.upd rfl ?_; refine Same.upd rfl ?_; refine Same.upd rfl ?_; refine Same.upd rfl ?_; refine Same.upd rfl ?_; refine Same.upd rfl ?_; refine Same.upd rfl ?_; refine Same.upd rfl ?_; refine Same.upd rfl ?_; refine Same.upd rfl ?_; refine Same.upd rfl ?_; refine Same.upd rfl ?_; refine Same.upd rfl ?_; refine Same.upd rfl ?_; refine Same.upd rfl ?_; refine Same.upd rfl ?_; refine Same.upd rfl ?_; refine Same.upd rfl ?_; refine Same.upd rfl ?_; refine Same.upd rfl ?_; refine Same.upd rfl ?_; refine Same.upd rfl ?_; refine Same.upd rfl ?_; refine Same.upd rfl ?_; refine Same.upd rfl ?_; refine Same.upd rfl ?_; refine Same.upd rfl ?_; refine Same.upd rfl ?_; refine Same.upd rfl ?_; refine Same.upd rfl ?_; refine Same.upd rfl ?_; refine Same.upd rfl ?_; exact Same.ovN)), rs.length - (i + 1), by omega, inferInstance, i + 1, congrArg (Value.int .i64) (by omega), rfl, by omega, hpre', hnx' hyes⟩
  refine jjV [23] (by decide +kernel) x2 (jjT (v := .bool true) rfl (fun w' q1 => ?_) (jjU ?_)); (refine jT rfl rfl rfl ?_; refine Ops.eqlT (enc := encPl) rs[i].1 rs[i - 1].1 rfl rfl ?_; rw [decide_eq_true he]; refine jz ?_; exact ⟨rfl, rfl⟩)
  (refine jjV [24, 25, 26, 27, 28] ?_ ?_ ?_; (decide +kernel); (exact x2); (((apply jjT; exact rfl; rintro w' hq; have := hq.toStep; refine jT rfl rfl rfl ?_; apply jI; exact eB rfl; refine jz ?_; exact ⟨rfl, rfl⟩; apply jjT; exact rfl; rintro w' hq; have := hq.toStep; refine jT rfl rfl rfl ?_; refine jm ?_; refine jn rfl ?_; refine jz ?_; exact ⟨rfl, rfl⟩; apply jjT; exact rfl; rintro w' hq; have := hq.toStep; refine jT rfl rfl rfl ?_; refine jN rfl rfl rfl ?_; refine jz ?_; exact ⟨rfl, rfl⟩; apply jjT; exact rfl; rintro w' hq; have := hq.toStep; refine jT rfl rfl rfl ?_; apply jI; exact eI rfl; refine jz ?_; exact ⟨rfl, rfl⟩; apply jjT; exact rfl; rintro w' hq; have := hq.toStep; refine jT rfl rfl rfl ?_; refine jZ rfl rfl (by omega) ?_; refine jz ?_; exact ⟨rfl, rfl⟩; refine jjU ?_))))
  refine jjV [29] (by decide +kernel) x2 (jjT (v := .pointer (some ⟨ba, oa + (i - 1) * 5, none⟩)) rfl (fun w' q1 => ?_) (jjU ?_)); (refine jT rfl rfl rfl ?_; refine jH (i - 1) rfl rfl hi1 (by omega) ?_; refine jz ?_; exact ⟨rfl, rfl⟩)
  (refine jjV [30] ?_ ?_ ?_; (decide +kernel); (exact x2); (((apply jjT; exact rfl; rintro w' hq; have := hq.toStep; refine jT rfl rfl rfl ?_; refine jm ?_; refine jn rfl ?_; refine jz ?_; exact ⟨rfl, rfl⟩; refine jjU ?_))))
  refine jjV [31] (by decide +kernel) x2 (jjT (v := .int .u8 rs[i - 1].2.1) rfl (fun w' q1 => ?_) (jjU ?_)); (refine jT rfl rfl rfl ?_; refine jR ((hA5.ext q1).get (i := 3) rfl) rfl rfl ?_; refine jz ?_; exact ⟨rfl, rfl⟩)
  by_cases hk2 : rs[i - 1].2.1 = 2
  · have hyes : nextB rs[i - 1] rs[i] = true := by rw [nextB, hB2, decide_eq_false (p := rs[i - 1].2.1 ≠ 2) (by simp [hk2]), Bool.and_false]; rfl
    refine jjV [32] (by decide +kernel) x2 (jjT (v := .bool false) rfl (fun w' q1 => ?_) (jjU ?_)); (refine jT rfl rfl rfl ?_; refine jjk rfl rfl (by omega) ?_; refine jz ?_; exact ⟨rfl, rfl⟩)
    (refine jjV [33, 34, 35] ?_ ?_ ?_; (decide +kernel); (exact x2); (((apply jjT; exact rfl; rintro w' hq; have := hq.toStep; refine jT rfl rfl rfl ?_; apply jK rfl; exact eB rfl; refine jz ?_; exact ⟨rfl, rfl⟩; apply jjT; exact rfl; rintro w' hq; have := hq.toStep; refine jT rfl rfl rfl ?_; apply jL rfl; exact eB rfl; refine jz ?_; exact ⟨rfl, rfl⟩; apply jjT; exact rfl; rintro w' hq; have := hq.toStep; apply jK rfl; exact eB rfl; refine jz ?_; exact ⟨rfl, rfl⟩; refine jjU ?_))))
    refine jjX (by decide +kernel) x2 ?_
    have := x2.toStep
    (refine jjK rfl ?_; refine jjG ?_; refine jjC ?_; apply jI; exact eI rfl; refine jY rfl rfl (by omega) ?_; apply jJ; exact eI rfl; refine jz ?_)
    exact ⟨rfl, by ((refine Same.upd rfl ?_; refine Same.upd rfl ?_; refine Same.upd rfl ?_; refine Same.upd rfl ?_; refine Same.upd rfl ?_; refine Same.upd rfl ?_; refine Same.upd rfl ?_; refine Same.upd rfl ?_; refine Same.upd rfl ?_; refine Same.upd rfl ?_; refine Same.upd rfl ?_; refine Same.upd rfl ?_; refine Same.upd rfl ?_; refine Same.upd rfl ?_; refine Same.upd rfl ?_; refine Same.upd rfl ?_; refine Same.upd rfl ?_; refine Same.upd rfl ?_; refine Same.upd rfl ?_; refine Same.upd rfl ?_; refine Same.upd rfl ?_; refine Same.upd rfl ?_; refine Same.upd rfl ?_; refine Same.upd rfl ?_; refine Same.upd rfl ?_; refine Same.upd rfl ?_; refine Same.upd rfl ?_; refine Same.upd rfl ?_; refine Same.upd rfl ?_; refine Same.upd rfl ?_; refine Same.upd rfl ?_; refine Same.upd rfl ?_; refine Same.upd rfl ?_; refine Same.upd rfl ?_; refine Same.upd rfl ?_; refine Same.upd rfl ?_; refine Same.upd rfl ?_; refine Same.upd rfl ?_; refine Same.upd rfl ?_; refine Same.upd rfl ?_; refine Same.upd rfl ?_; refine Same.upd rfl ?_; refine Same.upd rfl ?_; refine Same.upd rfl ?_; refine Same.upd rfl ?_; refine Same.upd rfl ?_; refine Same.upd rfl ?_; refine Same.upd rfl ?_; refine Same.upd rfl ?_; refine Same.upd rfl ?_; refine Same.upd rfl ?_; refine Same.upd rfl ?_; refine Same.upd rfl ?_; refine Same.upd rfl ?_; refine Same.upd rfl ?_; exact Same.ovN)), rs.length - (i + 1), by omega, inferInstance, i + 1, congrArg (Value.int .i64) (by omega), rfl, by omega, hpre', hnx' hyes⟩
  · have hno : nextB rs[i - 1] rs[i] = false := by rw [nextB, hB2, decide_eq_true he, decide_eq_true (p := rs[i - 1].2.1 ≠ 2) hk2]; rfl
    refine jjV [32] (by decide +kernel) x2 (jjT (v := .bool true) rfl (fun w' q1 => ?_) (jjU ?_)); (refine jT rfl rfl rfl ?_; refine jjj rfl rfl (by omega) ?_; refine jz ?_; exact ⟨rfl, rfl⟩)
    (refine jjV [33, 34, 35] ?_ ?_ ?_; (decide +kernel); (exact x2); (((apply jjT; exact rfl; rintro w' hq; have := hq.toStep; refine jT rfl rfl rfl ?_; apply jK rfl; exact eB rfl; refine jz ?_; exact ⟨rfl, rfl⟩; apply jjT; exact rfl; rintro w' hq; have := hq.toStep; refine jT rfl rfl rfl ?_; apply jL rfl; exact eB rfl; refine jz ?_; exact ⟨rfl, rfl⟩; apply jjT; exact rfl; rintro w' hq; have := hq.toStep; apply jK rfl; exact eB rfl; refine jz ?_; exact ⟨rfl, rfl⟩; refine jjU ?_))))
    refine jjX (by decide +kernel) x2 ?_
    have := x2.toStep
    (refine jjJ rfl ?_; refine jjB ?_; refine jjC ?_; apply jJ; exact eB rfl; refine jz ?_; refine jjF ?_; refine jB rfl rfl ⟨inferInstance, ?_⟩)
    rw [copyB_next hii2 (hnx0 _ hno)]; exact rfl
set_option maxHeartbeats 2000000 in
theorem CheckCopy_ref1 (a : Option Addr) (c : Nat) (cs : List Ch) (w : World) [hrow : RowI w (.slice a cs.length c) true 2 (cs.map encCh)] [hT : TextI w cs] (id : Int) (ra : Option Addr) (rc : Nat) (rs : List Rd) (hs : SmallT cs) (hrs : SmallR rs) [hrd : RowI w (.slice ra rs.length rc) true 5 (rs.map encRd)] :
    Ct Tryd.prog 44 [.agg #[.slice a cs.length c], .agg #[.int .i64 id, .slice ra rs.length rc]] w fun v _ => v = .int .i64 (cpE (txF cs) id rs) := by
  refine Ct.ofW (by simp) ?_
  (refine jjB ?_; refine jjC ?_)
  (refine jy rfl ?_; intro b2 w_b2 hb_b2 hs_b2 hS_b2 hk_b2; have hA_b2 := At.ofBlock hk_b2)
  skip
  (refine jy rfl ?_; intro b3 w_b3 hb_b3 hs_b3 hS_b3 hk_b3; have hA_b3 := At.ofBlock hk_b3)
  (apply jJ; exact eI rfl; refine jz ?_; refine jjB ?_; refine jjB ?_; refine jjC ?_; refine jO rfl rfl rfl rfl ?_)
  obtain ⟨B, hB⟩ : ∃ B, textB (txF cs) = B := ⟨_, rfl⟩
  refine jjQ ((Text_ref1 a c cs _ hs).mono fun v _ _ h => h.trans (by rw [hB])) rfl rfl ?_
  rintro _ w2 hS2 rfl
  cases B
  · (refine jq rfl ?_; refine jz ?_; refine jjJ rfl ?_; refine jjB ?_; refine jjC ?_; apply jJ; exact eI rfl; refine jz ?_; refine jjF ?_; refine jB rfl rfl ⟨inferInstance, ?_⟩)
    rw [cpE_text hB]; exact rfl
  obtain ⟨B2, hB2⟩ : ∃ B, copyB (txF cs) id rs = B := ⟨_, rfl⟩
  (refine jp rfl ?_; refine jz ?_; refine jjK rfl ?_; refine jjG ?_; refine jjB ?_; refine jjB ?_; refine jjC ?_; refine jO rfl rfl rfl rfl ?_; refine jO rfl rfl rfl rfl ?_)
  refine jjQ ((Copy_ref1 a c cs _ id ra rc rs hs hrs).mono fun v _ _ h => h.trans (by rw [hB2])) rfl rfl ?_
  rintro _ w3 hS3 rfl
  cases B2
  · (refine jq rfl ?_; refine jz ?_; refine jjJ rfl ?_; refine jjB ?_; refine jjC ?_; apply jJ; exact eI rfl; refine jz ?_; refine jjF ?_; refine jB rfl rfl ⟨inferInstance, ?_⟩)
    rw [cpE_copy hB hB2]; exact rfl
  · (refine jp rfl ?_; refine jz ?_; refine jjK rfl ?_; refine jjG ?_; refine jjB ?_; refine jjC ?_; apply jJ; exact eI rfl; refine jz ?_; refine jjF ?_; refine jB rfl rfl ⟨inferInstance, ?_⟩)
    rw [cpE_yes hB hB2]; exact rfl
end Go.Proofs.YtgmgiepdehlinaaDoor

/- The reference: Moved. -/
namespace Go.Proofs.YtgmgiepdehlinaaDoor
open Go.RowKit

set_option maxHeartbeats 8000000 in
theorem Moved_ref3 (a : Option Addr) (c : Nat) (cs : List Ch) (w : World) [hrow : RowI w (.slice a cs.length c) true 2 (cs.map encCh)] [hT : TextI w cs] (id : Int) (ra : Option Addr) (rc : Nat) (rs : List Rd) (p : Pl) (hs : SmallT cs) (hrs : SmallR rs)
    [hrd : RowI w (.slice ra rs.length rc) true 5 (rs.map encRd)] :
    Ct Tryd.prog 23 [.agg #[.slice a cs.length c], .agg #[.int .i64 id, .slice ra rs.length rc], encPl p] w fun v _ => v = .tuple #[encPl (movedS (txF cs) id rs p).1, .int .i64 (movedS (txF cs) id rs p).2] := by
  have hrl := hrs.len
  refine Ct.ofW (by simp) ?_
  (refine jjB ?_; refine jjC ?_)
  (refine jy rfl ?_; intro b3 w_b3 hb_b3 hs_b3 hS_b3 hk_b3; have hA_b3 := At.ofBlock hk_b3)
  skip
  (refine jy rfl ?_; intro b4 w_b4 hb_b4 hs_b4 hS_b4 hk_b4; have hA_b4 := At.ofBlock hk_b4)
  skip
  (refine jy rfl ?_; intro b5 w_b5 hb_b5 hs_b5 hS_b5 hk_b5; have hA_b5 := At.ofBlock hk_b5)
  ((skip); refine jjY ?_; intro b6 w_b6 hb_b6 hs_b6 hS_b6 hk_b6; have hA_b6 := Bk.of hk_b6)
  (apply jJ; exact eI rfl; refine jz ?_; refine jjB ?_; refine jjB ?_; refine jjC ?_; refine jO rfl rfl rfl rfl ?_; refine jO rfl rfl rfl rfl ?_)
  obtain ⟨e, he⟩ : ∃ e, cpE (txF cs) id rs = e := ⟨_, rfl⟩
  have hin := cpE_in (txF cs) id rs
  rw [he] at hin
  have hE6 : Ext w w_b6 := inferInstance
  have hB6 : Bk w_b6 b6 [.int .i64 0, .int .i64 0, .int .i64 0] 28 := hA_b6
  have hA5 : At w_b6 b5 0 [.int .i64 p.1, .int .i64 p.2.1, .int .i64 p.2.2] := inferInstance
  have hA4 : At w_b6 b4 0 [.int .i64 id, .slice ra rs.length rc] := inferInstance
  refine jjQ ((CheckCopy_ref1 a c cs _ id ra rc rs hs hrs).mono fun v _ _ h => h.trans (by rw [he])) rfl rfl ?_
  rintro _ w1 hS1 rfl
  have hB1 := hB6.ext hS1.ext
  by_cases h0 : e = 0
  rotate_left
  · (apply jJ; exact eI rfl; refine jz ?_; refine jjB ?_; refine jjC ?_; apply jI; exact eI rfl; refine jjj rfl rfl (by omega) ?_; refine jz ?_; refine jjJ rfl ?_; refine jjB ?_; refine jjC ?_)
    (refine jjS (cells := [.int .i64 0, .int .i64 0, .int .i64 0]) ?_ ?_; exact rfl)
    (apply jI; exact eI rfl)
    refine Ops.store rfl rfl rfl rfl rfl ?_
    intro V2 hp2
    have := Bk.toAt (h := Bk.of hp2.new)
    (apply jJ; exact eI rfl; refine jz ?_; refine jjF ?_)
    refine fin2C rfl rfl rfl rfl rfl rfl ⟨hp2.ext (hE6.trans hS1.ext) (by omega), ?_⟩
    rw [movedS_err (by rw [he]; exact h0), he]; exact rfl
  subst h0
  obtain ⟨B, hB⟩ : ∃ B, placeB (txF cs) p = B := ⟨_, rfl⟩
  (apply jJ; exact eI rfl; refine jz ?_; refine jjB ?_; refine jjC ?_; apply jI; exact eI rfl; refine jjk rfl rfl (by omega) ?_; refine jz ?_; refine jjK rfl ?_; refine jjG ?_; refine jjB ?_; refine jjB ?_; refine jjC ?_; refine jO rfl rfl rfl rfl ?_; refine jO rfl rfl rfl rfl ?_)
  refine jjQ ((Place_ref1 a c cs _ p hs).mono fun v _ _ h => h.trans (by rw [placeC_B, hB])) rfl rfl ?_
  rintro _ w2 hS2 rfl
  have x12 := hS1.ext.trans hS2.ext
  cases B
  · have hB2 := hB6.ext x12
    (refine jq rfl ?_; refine jz ?_; refine jjJ rfl ?_; refine jjB ?_; refine jjC ?_)
    (refine jjS (cells := [.int .i64 0, .int .i64 0, .int .i64 0]) ?_ ?_; exact rfl)
    skip
    refine Ops.store rfl rfl rfl rfl rfl ?_
    intro V2 hp2
    have := Bk.toAt (h := Bk.of hp2.new)
    (apply jJ; exact eI rfl; refine jz ?_; refine jjF ?_)
    refine fin2C rfl rfl rfl rfl rfl rfl ⟨hp2.ext (hE6.trans x12) (by omega), ?_⟩
    rw [movedS_place he hB]; exact rfl
  have hps := place_small hs hB
  (refine jp rfl ?_; refine jz ?_; refine jjK rfl ?_; refine jjG ?_; refine jjB ?_; refine jjC ?_; refine jO rfl rfl rfl rfl ?_)
  (apply jjR rfl; (intro _; first|exact eI rfl|exact eB rfl|exact eP rfl|exact eS rfl|exact eT rfl|exact eA rfl|exact eU rfl|exact eF rfl|exact eM rfl|exact eN rfl|exact rfl); exact rfl; exact rfl; exact rfl; exact rfl; intro b9 w_b9 hb_b9 hs_b9 hS_b9 hk_b9; have hA_b9 := Bk.of hk_b9)
  (refine jz ?_; refine jjB ?_; refine jjB ?_; refine jjC ?_; apply jJ; exact eI rfl; refine jz ?_; refine jjD ?_)
  have hE10 : Ext w_b6 w_b9 := x12.trans hS_b9.ext
  have hw10 : Ext w w_b9 := hE6.trans hE10
  have zE10 := hE10.size
  have z2 := x12.size
  have hB610 := hB6.ext hE10
  have hA510 := hA5.ext hE10
  have hA410 := hA4.ext hE10
  have lt4 := hA4.lt
  have lt5 := hA5.lt
  have lt6 := hB6.lt
  refine W.keep0 [(4, .pointer (some ⟨b4, 0, none⟩)), (5, .pointer (some ⟨b5, 0, none⟩)), (6, .pointer (some ⟨b6, 0, none⟩)), (9, .pointer (some ⟨b9, 0, none⟩)), (10, .int .i64 ((0 : Nat) : Int))] ⟨eP rfl, eP rfl, eP rfl, eP rfl, eI rfl, trivial⟩ fun s0 => ?_
  refine W.loopG (25 :: 26 :: 27 :: 28 :: 29 :: 32 :: 33 :: 34 :: 35 :: 36 :: 11 :: 37 :: 38 :: 39 :: 40 :: 41 :: 42 :: 43 :: 44 :: 45 :: 46 :: 47 :: 48 :: 49 :: 50 :: 51 :: 52 :: 53 :: 54 :: 55 :: 56 :: 57 :: 58 :: 60 :: 61 :: 62 :: 59 :: 63 :: 64 :: 65 :: 66 :: 68 :: 69 :: 70 :: 71 :: 72 :: 73 :: 74 :: 75 :: 76 :: 77 :: 78 :: 67 :: 79 :: 7 :: 81 :: 82 :: 83 :: 80 :: 84 :: 85 :: 86 :: 87 :: 30 :: 31 :: 10 :: []) (fun gg s' V => ∃ (i : Nat) (q : Int), s' 10 = .int .i64 ((i : Nat) : Int) ∧ gg = rs.length - i ∧ i ≤ rs.length ∧ Only b9 w_b9 V ∧ Bk V b9 [.int .i64 p.1, .int .i64 p.2.1, .int .i64 q] 28 ∧ moveR p (rs.drop i) q = moveR p rs p.2.2 ∧ p.2.2 - i ≤ q ∧ q ≤ p.2.2 + i) rs.length ⟨0, p.2.2, rfl, rfl, Nat.zero_le _, .ofExt (.refl _), hA_b9, rfl, by omega, by omega⟩ ?_
  rintro _ sd V ⟨i, q, h10, rfl, hi, hOn, hVq, hmv, hq1, hq2⟩
  refine W.fix h10 ?_
  clear h10
  have zOn := hOn.size
  have hEV : Ext w V := hOn.ext hw10 (by have := hE6.size; omega)
  have hrV : RowI V (.slice ra rs.length rc) true 5 (rs.map encRd) := ⟨hrd.h.ext hEV⟩
  have hB6V : Bk V b6 [.int .i64 0, .int .i64 0, .int .i64 0] 28 := hOn.bk hB610 (by omega)
  have hA5V : At V b5 0 [.int .i64 p.1, .int .i64 p.2.1, .int .i64 p.2.2] := hOn.at_ hA510 (by omega)
  have hA4V : At V b4 0 [.int .i64 id, .slice ra rs.length rc] := hOn.at_ hA410 (by omega)
  have hAqV : At V b9 0 [.int .i64 p.1, .int .i64 p.2.1, .int .i64 q] := Bk.toAt (h := hVq)
  by_cases hir : i < rs.length
  rotate_left
  · have hz : i = rs.length := by omega
    subst hz
    rw [List.drop_length, moveR] at hmv
    (refine jjB ?_; refine jjB ?_; refine jjC ?_; apply jI; exact eI rfl; refine jm ?_; refine jn rfl ?_; refine jN rfl rfl rfl ?_; refine jh rfl ?_; refine jja rfl rfl (by omega) ?_; refine jz ?_; refine jjK rfl ?_; refine jjE ?_; refine jjB ?_; refine jjC ?_; refine jO rfl rfl rfl rfl ?_)
    refine Ops.store rfl rfl rfl rfl rfl ?_
    intro V2 hp2
    have := Bk.toAt (h := Bk.of hp2.new)
    (apply jJ; exact eI rfl; refine jz ?_; refine jjF ?_)
    refine fin2C rfl rfl rfl rfl rfl rfl ⟨hp2.ext hEV (by have := hE6.size; omega), ?_⟩
    rw [movedS_some he hB hmv.symm]; exact rfl
  (refine jjB ?_; refine jjB ?_; refine jjC ?_; apply jI; exact eI rfl; refine jm ?_; refine jn rfl ?_; refine jN rfl rfl rfl ?_; refine jh rfl ?_; refine jjZ rfl rfl (by omega) ?_; refine jz ?_; refine jjJ rfl ?_; refine jjG ?_; refine jjB ?_; refine jjD ?_; refine jjB ?_; refine jjC ?_; refine jm ?_; refine jn rfl ?_; refine jN rfl rfl rfl ?_; apply jI; exact eI rfl; refine jF rfl rfl rfl (map_get (by omega)) ?_; intro _ _ _; refine jQ rfl rfl ?_)
  (apply jjR rfl; (intro _; first|exact eI rfl|exact eB rfl|exact eP rfl|exact eS rfl|exact eT rfl|exact eA rfl|exact eU rfl|exact eF rfl|exact eM rfl|exact eN rfl|exact rfl); exact rfl; exact rfl; exact rfl; exact rfl; intro b11 w_b11 hb_b11 hs_b11 hS_b11 hk_b11; have hA_b11 := Bk.of hk_b11)
  have e12 := hS_b11.ext
  have hOn12 : Only b9 w_b9 w_b11 := hOn.trans (.ofExt e12)
  have hq12 := hVq.ext e12
  by_cases hsk : rs[i].1.1 ≠ p.1 ∨ rs[i].1.2.1 ≠ p.2.1 ∨ p.2.2 < rs[i].1.2.2
  · have hm := moveR_skip (q := q) hir hsk
    by_cases c1 : rs[i].1.1 = p.1
    · by_cases c2 : rs[i].1.2.1 = p.2.1
      · have c3 : p.2.2 < rs[i].1.2.2 := by omega
        (refine jz ?_; refine jjB ?_; refine jjB ?_; refine jjC ?_; refine jm ?_; refine jn rfl ?_; refine jm ?_; refine jn rfl ?_; refine jN rfl rfl rfl ?_; refine jm ?_; refine jn rfl ?_; refine jN rfl rfl rfl ?_; refine jjk rfl rfl (by omega) ?_; apply jI; exact eB rfl; refine jT rfl rfl rfl ?_; refine jm ?_; refine jn rfl ?_; refine jT rfl rfl rfl ?_; refine jm ?_; refine jn rfl ?_; refine jT rfl rfl rfl ?_; refine jN rfl rfl rfl ?_; refine jT rfl rfl rfl ?_; refine jm ?_; refine jn rfl ?_; refine jT rfl rfl rfl ?_; refine jN rfl rfl rfl ?_; refine jT rfl rfl rfl ?_; refine jjk rfl rfl (by omega) ?_; apply jL rfl; exact eB rfl; apply jI; exact eB rfl; refine jT rfl rfl rfl ?_; refine jm ?_; refine jn rfl ?_; refine jT rfl rfl rfl ?_; refine jm ?_; refine jn rfl ?_; refine jT rfl rfl rfl ?_; refine jN rfl rfl rfl ?_; refine jT rfl rfl rfl ?_; refine jm ?_; refine jn rfl ?_; refine jT rfl rfl rfl ?_; refine jN rfl rfl rfl ?_; refine jT rfl rfl rfl ?_; refine jjd rfl rfl (by omega) ?_; apply jL rfl; exact eB rfl; refine jz ?_; refine jjJ rfl ?_; refine jjE ?_; refine jjC ?_; apply jI; exact eI rfl; refine jY rfl rfl (by omega) ?_; apply jJ; exact eI rfl; refine jz ?_)
        exact ⟨rfl, by ((refine Same.upd rfl ?_; refine Same.upd rfl ?_; refine Same.upd rfl ?_; refine Same.upd rfl ?_; refine Same.upd rfl ?_; refine Same.upd rfl ?_; refine Same.upd rfl ?_; refine Same.upd rfl ?_; refine Same.upd rfl ?_; refine Same.upd rfl ?_; refine Same.upd rfl ?_; refine Same.upd rfl ?_; refine Same.upd rfl ?_; refine Same.upd rfl ?_; refine Same.upd rfl ?_; refine Same.upd rfl ?_; refine Same.upd rfl ?_; refine Same.upd rfl ?_; refine Same.upd rfl ?_; refine Same.upd rfl ?_; refine Same.upd rfl ?_; refine Same.upd rfl ?_; refine Same.upd rfl ?_; refine Same.upd rfl ?_; refine Same.upd rfl ?_; refine Same.upd rfl ?_; refine Same.upd rfl ?_; refine Same.upd rfl ?_; refine Same.upd rfl ?_; refine Same.upd rfl ?_; refine Same.upd rfl ?_; refine Same.upd rfl ?_; refine Same.upd rfl ?_; refine Same.upd rfl ?_; refine Same.upd rfl ?_; refine Same.upd rfl ?_; refine Same.upd rfl ?_; exact Same.ovN)), rs.length - (i + 1), by omega, i + 1, q, congrArg (Value.int .i64) (by omega), rfl, by omega, hOn12, hq12, hm.symm.trans hmv, by omega, by omega⟩
      · (refine jz ?_; refine jjB ?_; refine jjB ?_; refine jjC ?_; refine jm ?_; refine jn rfl ?_; refine jm ?_; refine jn rfl ?_; refine jN rfl rfl rfl ?_; refine jm ?_; refine jn rfl ?_; refine jN rfl rfl rfl ?_; refine jjk rfl rfl (by omega) ?_; apply jI; exact eB rfl; refine jT rfl rfl rfl ?_; refine jm ?_; refine jn rfl ?_; refine jT rfl rfl rfl ?_; refine jm ?_; refine jn rfl ?_; refine jT rfl rfl rfl ?_; refine jN rfl rfl rfl ?_; refine jT rfl rfl rfl ?_; refine jm ?_; refine jn rfl ?_; refine jT rfl rfl rfl ?_; refine jN rfl rfl rfl ?_; refine jT rfl rfl rfl ?_; refine jjj rfl rfl (by omega) ?_; apply jL rfl; exact eB rfl; apply jI; exact eB rfl; refine jU rfl rfl rfl rfl ?_; refine jU rfl rfl rfl rfl ?_; refine jU rfl rfl rfl rfl ?_; refine jU rfl rfl rfl rfl ?_; refine jU rfl rfl rfl rfl ?_; refine jU rfl rfl rfl rfl ?_; apply jK rfl; exact eB rfl; refine jz ?_; refine jjJ rfl ?_; refine jjE ?_; refine jjC ?_; apply jI; exact eI rfl; refine jY rfl rfl (by omega) ?_; apply jJ; exact eI rfl; refine jz ?_)
        exact ⟨rfl, by ((refine Same.upd rfl ?_; refine Same.upd rfl ?_; refine Same.upd rfl ?_; refine Same.upd rfl ?_; refine Same.upd rfl ?_; refine Same.upd rfl ?_; refine Same.upd rfl ?_; refine Same.upd rfl ?_; refine Same.upd rfl ?_; refine Same.upd rfl ?_; refine Same.upd rfl ?_; refine Same.upd rfl ?_; refine Same.upd rfl ?_; refine Same.upd rfl ?_; refine Same.upd rfl ?_; refine Same.upd rfl ?_; refine Same.upd rfl ?_; refine Same.upd rfl ?_; refine Same.upd rfl ?_; refine Same.upd rfl ?_; refine Same.upd rfl ?_; refine Same.upd rfl ?_; refine Same.upd rfl ?_; refine Same.upd rfl ?_; refine Same.upd rfl ?_; refine Same.upd rfl ?_; refine Same.upd rfl ?_; refine Same.upd rfl ?_; refine Same.upd rfl ?_; refine Same.upd rfl ?_; refine Same.upd rfl ?_; refine Same.upd rfl ?_; refine Same.upd rfl ?_; refine Same.upd rfl ?_; refine Same.upd rfl ?_; refine Same.upd rfl ?_; refine Same.upd rfl ?_; exact Same.ovN)), rs.length - (i + 1), by omega, i + 1, q, congrArg (Value.int .i64) (by omega), rfl, by omega, hOn12, hq12, hm.symm.trans hmv, by omega, by omega⟩
    · (refine jz ?_; refine jjB ?_; refine jjB ?_; refine jjC ?_; refine jm ?_; refine jn rfl ?_; refine jm ?_; refine jn rfl ?_; refine jN rfl rfl rfl ?_; refine jm ?_; refine jn rfl ?_; refine jN rfl rfl rfl ?_; refine jjj rfl rfl (by omega) ?_; apply jI; exact eB rfl; refine jU rfl rfl rfl rfl ?_; refine jU rfl rfl rfl rfl ?_; refine jU rfl rfl rfl rfl ?_; refine jU rfl rfl rfl rfl ?_; refine jU rfl rfl rfl rfl ?_; refine jU rfl rfl rfl rfl ?_; apply jK rfl; exact eB rfl; apply jI; exact eB rfl; refine jU rfl rfl rfl rfl ?_; refine jU rfl rfl rfl rfl ?_; refine jU rfl rfl rfl rfl ?_; refine jU rfl rfl rfl rfl ?_; refine jU rfl rfl rfl rfl ?_; refine jU rfl rfl rfl rfl ?_; apply jK rfl; exact eB rfl; refine jz ?_; refine jjJ rfl ?_; refine jjE ?_; refine jjC ?_; apply jI; exact eI rfl; refine jY rfl rfl (by omega) ?_; apply jJ; exact eI rfl; refine jz ?_)
      exact ⟨rfl, by ((refine Same.upd rfl ?_; refine Same.upd rfl ?_; refine Same.upd rfl ?_; refine Same.upd rfl ?_; refine Same.upd rfl ?_; refine Same.upd rfl ?_; refine Same.upd rfl ?_; refine Same.upd rfl ?_; refine Same.upd rfl ?_; refine Same.upd rfl ?_; refine Same.upd rfl ?_; refine Same.upd rfl ?_; refine Same.upd rfl ?_; refine Same.upd rfl ?_; refine Same.upd rfl ?_; refine Same.upd rfl ?_; refine Same.upd rfl ?_; refine Same.upd rfl ?_; refine Same.upd rfl ?_; refine Same.upd rfl ?_; refine Same.upd rfl ?_; refine Same.upd rfl ?_; refine Same.upd rfl ?_; refine Same.upd rfl ?_; refine Same.upd rfl ?_; refine Same.upd rfl ?_; refine Same.upd rfl ?_; refine Same.upd rfl ?_; refine Same.upd rfl ?_; refine Same.upd rfl ?_; refine Same.upd rfl ?_; refine Same.upd rfl ?_; refine Same.upd rfl ?_; refine Same.upd rfl ?_; refine Same.upd rfl ?_; refine Same.upd rfl ?_; refine Same.upd rfl ?_; exact Same.ovN)), rs.length - (i + 1), by omega, i + 1, q, congrArg (Value.int .i64) (by omega), rfl, by omega, hOn12, hq12, hm.symm.trans hmv, by omega, by omega⟩
  have c1 : rs[i].1.1 = p.1 := by omega
  have c2 : rs[i].1.2.1 = p.2.1 := by omega
  have c3 : ¬ p.2.2 < rs[i].1.2.2 := by omega
  by_cases hk2 : rs[i].2.1 = 2
  · have hm := moveR_put (q := q) hir hsk hk2
    (refine jz ?_; refine jjB ?_; refine jjB ?_; refine jjC ?_; refine jm ?_; refine jn rfl ?_; refine jm ?_; refine jn rfl ?_; refine jN rfl rfl rfl ?_; refine jm ?_; refine jn rfl ?_; refine jN rfl rfl rfl ?_; refine jjk rfl rfl (by omega) ?_; apply jI; exact eB rfl; refine jT rfl rfl rfl ?_; refine jm ?_; refine jn rfl ?_; refine jT rfl rfl rfl ?_; refine jm ?_; refine jn rfl ?_; refine jT rfl rfl rfl ?_; refine jN rfl rfl rfl ?_; refine jT rfl rfl rfl ?_; refine jm ?_; refine jn rfl ?_; refine jT rfl rfl rfl ?_; refine jN rfl rfl rfl ?_; refine jT rfl rfl rfl ?_; refine jjk rfl rfl (by omega) ?_; apply jL rfl; exact eB rfl; apply jI; exact eB rfl; refine jT rfl rfl rfl ?_; refine jm ?_; refine jn rfl ?_; refine jT rfl rfl rfl ?_; refine jm ?_; refine jn rfl ?_; refine jT rfl rfl rfl ?_; refine jN rfl rfl rfl ?_; refine jT rfl rfl rfl ?_; refine jm ?_; refine jn rfl ?_; refine jT rfl rfl rfl ?_; refine jN rfl rfl rfl ?_; refine jT rfl rfl rfl ?_; refine jje rfl rfl (by omega) ?_; apply jL rfl; exact eB rfl; refine jz ?_; refine jjK rfl ?_; refine jjG ?_; refine jjD ?_; refine jjB ?_; refine jjC ?_; refine jm ?_; refine jn rfl ?_; refine jN rfl rfl rfl ?_; refine jjh rfl rfl (by omega) ?_; apply jJ; exact eB rfl; refine jz ?_; refine jjJ rfl ?_; refine jjC ?_; refine jm ?_; refine jn rfl ?_; refine jN rfl rfl rfl ?_; refine jY rfl rfl (by omega) ?_; refine jm ?_; refine jn rfl ?_)
    refine Ops.storeC (cs := [.int .i64 p.1, .int .i64 p.2.1, .int .i64 q]) (j := 2) (v := .int .i64 (q + 1)) rfl rfl rfl rfl (show 2 < 3 by omega) ?_
    intro V3 hp3
    (refine jz ?_; refine jjC ?_; apply jI; exact eI rfl; refine jY rfl rfl (by omega) ?_; apply jJ; exact eI rfl; refine jz ?_)
    exact ⟨rfl, by ((refine Same.upd rfl ?_; refine Same.upd rfl ?_; refine Same.upd rfl ?_; refine Same.upd rfl ?_; refine Same.upd rfl ?_; refine Same.upd rfl ?_; refine Same.upd rfl ?_; refine Same.upd rfl ?_; refine Same.upd rfl ?_; refine Same.upd rfl ?_; refine Same.upd rfl ?_; refine Same.upd rfl ?_; refine Same.upd rfl ?_; refine Same.upd rfl ?_; refine Same.upd rfl ?_; refine Same.upd rfl ?_; refine Same.upd rfl ?_; refine Same.upd rfl ?_; refine Same.upd rfl ?_; refine Same.upd rfl ?_; refine Same.upd rfl ?_; refine Same.upd rfl ?_; refine Same.upd rfl ?_; refine Same.upd rfl ?_; refine Same.upd rfl ?_; refine Same.upd rfl ?_; refine Same.upd rfl ?_; refine Same.upd rfl ?_; refine Same.upd rfl ?_; refine Same.upd rfl ?_; refine Same.upd rfl ?_; refine Same.upd rfl ?_; refine Same.upd rfl ?_; refine Same.upd rfl ?_; refine Same.upd rfl ?_; refine Same.upd rfl ?_; refine Same.upd rfl ?_; refine Same.upd rfl ?_; refine Same.upd rfl ?_; refine Same.upd rfl ?_; refine Same.upd rfl ?_; refine Same.upd rfl ?_; refine Same.upd rfl ?_; refine Same.upd rfl ?_; refine Same.upd rfl ?_; exact Same.ovN)), rs.length - (i + 1), by omega, i + 1, q + 1, congrArg (Value.int .i64) (by omega), rfl, by omega, hOn12.trans (.ofPut hp3), ⟨hp3.new⟩, hm.symm.trans hmv, by omega, by omega⟩
  by_cases hk1 : rs[i].2.1 = 1
  rotate_left
  · have hm := moveR_other (q := q) hir hsk hk1 hk2
    (refine jz ?_; refine jjB ?_; refine jjB ?_; refine jjC ?_; refine jm ?_; refine jn rfl ?_; refine jm ?_; refine jn rfl ?_; refine jN rfl rfl rfl ?_; refine jm ?_; refine jn rfl ?_; refine jN rfl rfl rfl ?_; refine jjk rfl rfl (by omega) ?_; apply jI; exact eB rfl; refine jT rfl rfl rfl ?_; refine jm ?_; refine jn rfl ?_; refine jT rfl rfl rfl ?_; refine jm ?_; refine jn rfl ?_; refine jT rfl rfl rfl ?_; refine jN rfl rfl rfl ?_; refine jT rfl rfl rfl ?_; refine jm ?_; refine jn rfl ?_; refine jT rfl rfl rfl ?_; refine jN rfl rfl rfl ?_; refine jT rfl rfl rfl ?_; refine jjk rfl rfl (by omega) ?_; apply jL rfl; exact eB rfl; apply jI; exact eB rfl; refine jT rfl rfl rfl ?_; refine jm ?_; refine jn rfl ?_; refine jT rfl rfl rfl ?_; refine jm ?_; refine jn rfl ?_; refine jT rfl rfl rfl ?_; refine jN rfl rfl rfl ?_; refine jT rfl rfl rfl ?_; refine jm ?_; refine jn rfl ?_; refine jT rfl rfl rfl ?_; refine jN rfl rfl rfl ?_; refine jT rfl rfl rfl ?_; refine jje rfl rfl (by omega) ?_; apply jL rfl; exact eB rfl; refine jz ?_; refine jjK rfl ?_; refine jjG ?_; refine jjD ?_; refine jjB ?_; refine jjC ?_; refine jm ?_; refine jn rfl ?_; refine jN rfl rfl rfl ?_; refine jji rfl rfl (by omega) ?_; apply jJ; exact eB rfl; refine jz ?_; refine jjK rfl ?_; refine jjB ?_; refine jjC ?_; refine jm ?_; refine jn rfl ?_; refine jN rfl rfl rfl ?_; refine jji rfl rfl (by omega) ?_; apply jI; exact eB rfl; refine jU rfl rfl rfl rfl ?_; refine jU rfl rfl rfl rfl ?_; refine jU rfl rfl rfl rfl ?_; refine jU rfl rfl rfl rfl ?_; refine jU rfl rfl rfl rfl ?_; refine jU rfl rfl rfl rfl ?_; apply jL rfl; exact eB rfl; apply jJ; exact eB rfl; refine jz ?_; refine jjK rfl ?_; refine jjB ?_; refine jjC ?_; refine jm ?_; refine jn rfl ?_; refine jN rfl rfl rfl ?_; refine jji rfl rfl (by omega) ?_; apply jJ; exact eB rfl; refine jz ?_; refine jjK rfl ?_; refine jjG ?_; refine jjC ?_; apply jI; exact eI rfl; refine jY rfl rfl (by omega) ?_; apply jJ; exact eI rfl; refine jz ?_)
    exact ⟨rfl, by ((refine Same.upd rfl ?_; refine Same.upd rfl ?_; refine Same.upd rfl ?_; refine Same.upd rfl ?_; refine Same.upd rfl ?_; refine Same.upd rfl ?_; refine Same.upd rfl ?_; refine Same.upd rfl ?_; refine Same.upd rfl ?_; refine Same.upd rfl ?_; refine Same.upd rfl ?_; refine Same.upd rfl ?_; refine Same.upd rfl ?_; refine Same.upd rfl ?_; refine Same.upd rfl ?_; refine Same.upd rfl ?_; refine Same.upd rfl ?_; refine Same.upd rfl ?_; refine Same.upd rfl ?_; refine Same.upd rfl ?_; refine Same.upd rfl ?_; refine Same.upd rfl ?_; refine Same.upd rfl ?_; refine Same.upd rfl ?_; refine Same.upd rfl ?_; refine Same.upd rfl ?_; refine Same.upd rfl ?_; refine Same.upd rfl ?_; refine Same.upd rfl ?_; refine Same.upd rfl ?_; refine Same.upd rfl ?_; refine Same.upd rfl ?_; refine Same.upd rfl ?_; refine Same.upd rfl ?_; refine Same.upd rfl ?_; refine Same.upd rfl ?_; refine Same.upd rfl ?_; refine Same.upd rfl ?_; refine Same.upd rfl ?_; refine Same.upd rfl ?_; refine Same.upd rfl ?_; refine Same.upd rfl ?_; refine Same.upd rfl ?_; refine Same.upd rfl ?_; refine Same.upd rfl ?_; refine Same.upd rfl ?_; refine Same.upd rfl ?_; refine Same.upd rfl ?_; refine Same.upd rfl ?_; refine Same.upd rfl ?_; refine Same.upd rfl ?_; refine Same.upd rfl ?_; refine Same.upd rfl ?_; refine Same.upd rfl ?_; refine Same.upd rfl ?_; refine Same.upd rfl ?_; refine Same.upd rfl ?_; exact Same.ovN)), rs.length - (i + 1), by omega, i + 1, q, congrArg (Value.int .i64) (by omega), rfl, by omega, hOn12, hq12, hm.symm.trans hmv, by omega, by omega⟩
  by_cases hw : rs[i].1.2.2 = p.2.2
  · have hm := moveR_gone (q := q) hir hsk hk1 hw
    have hpe : rs[i].1 = p := Prod.ext c1 (Prod.ext c2 hw)
    (refine jz ?_; refine jjB ?_; refine jjB ?_; refine jjC ?_; refine jm ?_; refine jn rfl ?_; refine jm ?_; refine jn rfl ?_; refine jN rfl rfl rfl ?_; refine jm ?_; refine jn rfl ?_; refine jN rfl rfl rfl ?_; refine jjk rfl rfl (by omega) ?_; apply jI; exact eB rfl; refine jT rfl rfl rfl ?_; refine jm ?_; refine jn rfl ?_; refine jT rfl rfl rfl ?_; refine jm ?_; refine jn rfl ?_; refine jT rfl rfl rfl ?_; refine jN rfl rfl rfl ?_; refine jT rfl rfl rfl ?_; refine jm ?_; refine jn rfl ?_; refine jT rfl rfl rfl ?_; refine jN rfl rfl rfl ?_; refine jT rfl rfl rfl ?_; refine jjk rfl rfl (by omega) ?_; apply jL rfl; exact eB rfl; apply jI; exact eB rfl; refine jT rfl rfl rfl ?_; refine jm ?_; refine jn rfl ?_; refine jT rfl rfl rfl ?_; refine jm ?_; refine jn rfl ?_; refine jT rfl rfl rfl ?_; refine jN rfl rfl rfl ?_; refine jT rfl rfl rfl ?_; refine jm ?_; refine jn rfl ?_; refine jT rfl rfl rfl ?_; refine jN rfl rfl rfl ?_; refine jT rfl rfl rfl ?_; refine jje rfl rfl (by omega) ?_; apply jL rfl; exact eB rfl; refine jz ?_; refine jjK rfl ?_; refine jjG ?_; refine jjD ?_; refine jjB ?_; refine jjC ?_; refine jm ?_; refine jn rfl ?_; refine jN rfl rfl rfl ?_; refine jji rfl rfl (by omega) ?_; apply jJ; exact eB rfl; refine jz ?_; refine jjK rfl ?_; refine jjB ?_; refine jjC ?_; refine jm ?_; refine jn rfl ?_; refine jN rfl rfl rfl ?_; refine jjh rfl rfl (by omega) ?_; apply jI; exact eB rfl; refine jT rfl rfl rfl ?_; refine jm ?_; refine jn rfl ?_; refine jT rfl rfl rfl ?_; refine jm ?_; refine jn rfl ?_; refine jT rfl rfl rfl ?_; refine jN rfl rfl rfl ?_; refine jT rfl rfl rfl ?_; refine jm ?_; refine jn rfl ?_; refine jT rfl rfl rfl ?_; refine jN rfl rfl rfl ?_; refine jT rfl rfl rfl ?_; refine jjh rfl rfl (by omega) ?_; apply jK rfl; exact eB rfl; apply jJ; exact eB rfl; refine jz ?_; refine jjJ rfl ?_; refine jjB ?_; refine jjC ?_)
    (refine jjS (cells := [.int .i64 0, .int .i64 0, .int .i64 0]) ?_ ?_; exact rfl)
    skip
    refine Ops.store rfl rfl rfl rfl rfl ?_
    intro V2 hp2
    have := Bk.toAt (h := Bk.of hp2.new)
    (apply jJ; exact eI rfl; refine jz ?_; refine jjF ?_)
    refine fin2C rfl rfl rfl rfl rfl rfl ⟨hp2.ext (hEV.trans e12) (by have := hE6.size; omega), ?_⟩
    rw [movedS_none he hB (hmv.symm.trans hm)]; exact rfl
  · have hm := moveR_omit (q := q) hir hsk hk1 hw
    have hpe : ¬ rs[i].1 = p := fun e => hw (by rw [e])
    (refine jz ?_; refine jjB ?_; refine jjB ?_; refine jjC ?_; refine jm ?_; refine jn rfl ?_; refine jm ?_; refine jn rfl ?_; refine jN rfl rfl rfl ?_; refine jm ?_; refine jn rfl ?_; refine jN rfl rfl rfl ?_; refine jjk rfl rfl (by omega) ?_; apply jI; exact eB rfl; refine jT rfl rfl rfl ?_; refine jm ?_; refine jn rfl ?_; refine jT rfl rfl rfl ?_; refine jm ?_; refine jn rfl ?_; refine jT rfl rfl rfl ?_; refine jN rfl rfl rfl ?_; refine jT rfl rfl rfl ?_; refine jm ?_; refine jn rfl ?_; refine jT rfl rfl rfl ?_; refine jN rfl rfl rfl ?_; refine jT rfl rfl rfl ?_; refine jjk rfl rfl (by omega) ?_; apply jL rfl; exact eB rfl; apply jI; exact eB rfl; refine jT rfl rfl rfl ?_; refine jm ?_; refine jn rfl ?_; refine jT rfl rfl rfl ?_; refine jm ?_; refine jn rfl ?_; refine jT rfl rfl rfl ?_; refine jN rfl rfl rfl ?_; refine jT rfl rfl rfl ?_; refine jm ?_; refine jn rfl ?_; refine jT rfl rfl rfl ?_; refine jN rfl rfl rfl ?_; refine jT rfl rfl rfl ?_; refine jje rfl rfl (by omega) ?_; apply jL rfl; exact eB rfl; refine jz ?_; refine jjK rfl ?_; refine jjG ?_; refine jjD ?_; refine jjB ?_; refine jjC ?_; refine jm ?_; refine jn rfl ?_; refine jN rfl rfl rfl ?_; refine jji rfl rfl (by omega) ?_; apply jJ; exact eB rfl; refine jz ?_; refine jjK rfl ?_; refine jjB ?_; refine jjC ?_; refine jm ?_; refine jn rfl ?_; refine jN rfl rfl rfl ?_; refine jjh rfl rfl (by omega) ?_; apply jI; exact eB rfl; refine jT rfl rfl rfl ?_; refine jm ?_; refine jn rfl ?_; refine jT rfl rfl rfl ?_; refine jm ?_; refine jn rfl ?_; refine jT rfl rfl rfl ?_; refine jN rfl rfl rfl ?_; refine jT rfl rfl rfl ?_; refine jm ?_; refine jn rfl ?_; refine jT rfl rfl rfl ?_; refine jN rfl rfl rfl ?_; refine jT rfl rfl rfl ?_; refine jji rfl rfl (by omega) ?_; apply jK rfl; exact eB rfl; apply jJ; exact eB rfl; refine jz ?_; refine jjK rfl ?_; refine jjB ?_; refine jjC ?_; refine jm ?_; refine jn rfl ?_; refine jN rfl rfl rfl ?_; refine jjh rfl rfl (by omega) ?_; apply jJ; exact eB rfl; refine jz ?_; refine jjJ rfl ?_; refine jjC ?_; refine jm ?_; refine jn rfl ?_; refine jN rfl rfl rfl ?_; refine jZ rfl rfl (by omega) ?_; refine jm ?_; refine jn rfl ?_)
    refine Ops.storeC (cs := [.int .i64 p.1, .int .i64 p.2.1, .int .i64 q]) (j := 2) (v := .int .i64 (q - 1)) rfl rfl rfl rfl (show 2 < 3 by omega) ?_
    intro V3 hp3
    (refine jz ?_; refine jjC ?_; apply jI; exact eI rfl; refine jY rfl rfl (by omega) ?_; apply jJ; exact eI rfl; refine jz ?_)
    exact ⟨rfl, by ((refine Same.upd rfl ?_; refine Same.upd rfl ?_; refine Same.upd rfl ?_; refine Same.upd rfl ?_; refine Same.upd rfl ?_; refine Same.upd rfl ?_; refine Same.upd rfl ?_; refine Same.upd rfl ?_; refine Same.upd rfl ?_; refine Same.upd rfl ?_; refine Same.upd rfl ?_; refine Same.upd rfl ?_; refine Same.upd rfl ?_; refine Same.upd rfl ?_; refine Same.upd rfl ?_; refine Same.upd rfl ?_; refine Same.upd rfl ?_; refine Same.upd rfl ?_; refine Same.upd rfl ?_; refine Same.upd rfl ?_; refine Same.upd rfl ?_; refine Same.upd rfl ?_; refine Same.upd rfl ?_; refine Same.upd rfl ?_; refine Same.upd rfl ?_; refine Same.upd rfl ?_; refine Same.upd rfl ?_; refine Same.upd rfl ?_; refine Same.upd rfl ?_; refine Same.upd rfl ?_; refine Same.upd rfl ?_; refine Same.upd rfl ?_; refine Same.upd rfl ?_; refine Same.upd rfl ?_; refine Same.upd rfl ?_; refine Same.upd rfl ?_; refine Same.upd rfl ?_; refine Same.upd rfl ?_; refine Same.upd rfl ?_; refine Same.upd rfl ?_; refine Same.upd rfl ?_; refine Same.upd rfl ?_; refine Same.upd rfl ?_; refine Same.upd rfl ?_; refine Same.upd rfl ?_; refine Same.upd rfl ?_; refine Same.upd rfl ?_; refine Same.upd rfl ?_; refine Same.upd rfl ?_; refine Same.upd rfl ?_; refine Same.upd rfl ?_; refine Same.upd rfl ?_; refine Same.upd rfl ?_; refine Same.upd rfl ?_; refine Same.upd rfl ?_; refine Same.upd rfl ?_; refine Same.upd rfl ?_; refine Same.upd rfl ?_; refine Same.upd rfl ?_; refine Same.upd rfl ?_; refine Same.upd rfl ?_; exact Same.ovN)), rs.length - (i + 1), by omega, i + 1, q - 1, congrArg (Value.int .i64) (by omega), rfl, by omega, hOn12.trans (.ofPut hp3), ⟨hp3.new⟩, hm.symm.trans hmv, by omega, by omega⟩
end Go.Proofs.YtgmgiepdehlinaaDoor

/- The reference: parts of a text, slips that are valid. -/
namespace Go.Proofs.YtgmgiepdehlinaaDoor
open Go.RowKit

/-- The words of the first letters of a text. -/
def splT (s : ByteArray) (i : Nat) : List ByteArray := (spl (s.data.toList.take i)).map bytesL
theorem splT_0 (s : ByteArray) : splT s 0 = [⟨#[]⟩] := rfl
theorem splT_all (s : ByteArray) : splT s s.size = splB s := by
  rw [splT, List.take_of_length_le (by rw [Array.length_toList]; exact Nat.le_refl _)]; rfl
theorem splT_len (s : ByteArray) (i : Nat) : 0 < (splT s i).length ∧ (splT s i).length ≤ i + 1 := by
  rw [splT, List.length_map]
  refine ⟨spl_len _, Nat.le_trans (spl_bound _).1 ?_⟩
  have := List.length_take_le i s.data.toList
  omega
theorem splT_size (s : ByteArray) (i : Nat) : ∀ x ∈ splT s i, x.size ≤ i := fun x hx => by
  obtain ⟨y, hy, rfl⟩ := List.mem_map.1 hx
  have h := (spl_bound _).2 y hy
  have h2 := List.length_take_le i s.data.toList
  have e2 : (bytesL y).size = y.length := List.size_toArray
  omega
theorem take_byte {s : ByteArray} {i : Nat} (hi : i < s.size) : s.data.toList.take (i + 1) = s.data.toList.take i ++ [s[i]] := by
  have h : s.data.toList[i]? = some s[i] := by
    have hi' : i < s.data.size := hi
    rw [Array.getElem?_toList, Array.getElem?_eq_getElem hi']; rfl
  exact take_snoc_get h
theorem splT_sp {s : ByteArray} {i : Nat} (hi : i < s.size) (h : s[i] = 32) : splT s (i + 1) = splT s i ++ [⟨#[]⟩] := by
  rw [splT, take_byte hi, spl_snoc, if_pos h, List.map_append]; rfl
theorem last_set {α : Type} {l : List α} {x y : α} (h : l[l.length - 1]? = some x) : l.dropLast ++ [y] = l.set (l.length - 1) y ∧ l.getLastD y = x := by
  rcases List.eq_nil_or_concat l with rfl | ⟨i, z, rfl⟩
  · simp at h
  · rw [List.concat_eq_append] at *
    have e : (i ++ [z]).length - 1 = i.length := by simp
    rw [e] at h ⊢
    constructor
    · simp
    · simpa using h
theorem splT_ch {s : ByteArray} {i : Nat} (hi : i < s.size) (h : s[i] ≠ 32) {x : ByteArray} (hx : (splT s i)[(splT s i).length - 1]? = some x) : splT s (i + 1) = (splT s i).set ((splT s i).length - 1) (x ++ s.extract i (i + 1)) := by
  have hl : (splT s i).length = (spl (s.data.toList.take i)).length := by rw [splT, List.length_map]
  rw [hl] at hx ⊢
  rw [splT, take_byte hi, spl_snoc, if_neg h]
  rw [splT, List.getElem?_map] at hx
  obtain ⟨y, hy, rfl⟩ := Option.map_eq_some_iff.1 hx
  obtain ⟨h1, h2⟩ := last_set (y := []) hy
  rw [h2]
  obtain ⟨h3, _⟩ := last_set (y := y ++ [s[i]]) hy
  rw [h3, List.map_set, splT]
  congr 1
  apply ByteArray.ext
  have hi' : i < s.data.size := hi
  rw [ByteArray.data_append, ByteArray.data_extract]
  apply Array.ext'
  simp only [Array.toList_append, Array.toList_extract, List.extract_eq_take_drop, List.append_cancel_left_eq]
  rw [show i + 1 - i = 1 by omega, List.take_one, List.head?_drop, Array.getElem?_toList, Array.getElem?_eq_getElem hi']; rfl
theorem splT_last (s : ByteArray) (i : Nat) : ∃ x, (splT s i)[(splT s i).length - 1]? = some x := ⟨_, List.getElem?_eq_getElem (by have := (splT_len s i).1; omega)⟩
theorem wordsB_yes {s : ByteArray} (h0 : s.size ≠ 0) (h80 : s.size ≤ 80) (h : ∀ (j : Nat) (hj : j < (splB s).length), wordB (splB s)[j] = true) : wordsB s = true := by
  have : (splB s).all wordB = true := all_yes h
  simp [wordsB, h0, h80, this]
theorem wordsB_no {s : ByteArray} (h0 : s.size ≠ 0) {j : Nat} (hj : j < (splB s).length) (h : wordB (splB s)[j] = false) : wordsB s = false := by
  have : (splB s).all wordB = false := all_no hj h
  simp [wordsB, h0, this]

set_option maxHeartbeats 2000000 in
theorem parts_ref3 (s : ByteArray) (w : World) (hs : s.size ≤ 1000) : Ct Tryd.prog 65 [.string s] w fun v w' => ∃ sv, v = .tuple #[sv, .bool (wordsB s)] ∧ (wordsB s = true → OwnL w' w.heap.size 9 false 1 sv ((wordsL s).map strV)) := by
  refine Ct.ofW (by simp) ?_
  (refine jjB ?_; refine jjC ?_; apply jJ; exact eS rfl; apply jJ; exact eB rfl; refine jz ?_; refine jjB ?_; refine jjB ?_; refine jjC ?_; apply jI; exact eT rfl)
  refine Ops.eqlS rfl rfl ?_
  by_cases h0 : s.size = 0
  · have e0 := str_nil.2 h0
    subst e0
    rw [decide_eq_true rfl]
    (refine jz ?_; refine jjJ rfl ?_; refine jjB ?_; refine jjC ?_; apply jJ; exact eS rfl; apply jJ; exact eB rfl; refine jz ?_; refine jjF ?_; refine jC rfl rfl rfl ⟨inferInstance, ?_⟩)
    exact ⟨_, rfl, fun _ => OwnL.nil _ _ _ _ _⟩
  have hne : ¬ s = ⟨#[]⟩ := fun e => h0 (str_nil.1 e)
  rw [decide_eq_false hne]
  have hL : wordsL s = splB s := by rw [wordsL, if_neg h0]
  by_cases h80 : s.size ≤ 80
  rotate_left
  · have hwb : wordsB s = false := by simp [wordsB, h0, h80]
    (refine jz ?_; refine jjK rfl ?_; refine jjG ?_; refine jjB ?_; refine jjB ?_; refine jjC ?_; apply jI; exact eT rfl; refine ji rfl ?_; refine jjd rfl rfl (by omega) ?_; refine jz ?_; refine jjJ rfl ?_; refine jjB ?_; refine jjC ?_; apply jJ; exact eS rfl; apply jJ; exact eB rfl; refine jz ?_; refine jjF ?_; refine jC rfl rfl rfl ⟨inferInstance, ?_⟩)
    exact ⟨_, congrArg (fun b => Value.tuple #[.slice none 0 0, .bool b]) hwb.symm, fun e => by rw [hwb] at e; cases e⟩
  (refine jz ?_; refine jjK rfl ?_; refine jjG ?_; refine jjB ?_; refine jjB ?_; refine jjC ?_; apply jI; exact eT rfl; refine ji rfl ?_; refine jje rfl rfl (by omega) ?_; refine jz ?_; refine jjK rfl ?_; refine jjG ?_; refine jjB ?_; refine jjC ?_)
  (refine jjP (v := .string _) rfl (by exact rfl) (by exact rfl) (by exact rfl) (by exact rfl) ?_; intro b4 w_b4 hb_b4 hs_b4 hS_b4 hk_b4; have hR_b4 := RowV.one (agg := false) (k := 1) rfl hk_b4)
  have hE4 : Ext w w_b4 := inferInstance
  have hO4 : OwnL w_b4 w.heap.size 9 false 1 (.slice (some ⟨b4, 0, none⟩) 1 1) ((splT s 0).map strV) := OwnL.one rfl (by have := hE4.size; omega) hk_b4
  (apply jJ; exact eS rfl; refine jz ?_; refine jjB ?_; refine jjB ?_; refine jjC ?_; apply jJ; exact eI rfl; refine jz ?_; refine jjD ?_)
  refine W.keep0 [(0, .string s), (5, .int .i64 ((0 : Nat) : Int)), (4, .slice (some ⟨b4, 0, none⟩) 1 1)] ⟨eT rfl, eI rfl, eS rfl, trivial⟩ fun s0 => ?_
  refine W.loopG (13 :: 14 :: 15 :: 16 :: 19 :: 20 :: 21 :: 22 :: 23 :: 24 :: 25 :: 4 :: 26 :: 27 :: 28 :: 29 :: 30 :: 31 :: 32 :: 33 :: 34 :: 35 :: 36 :: 37 :: 38 :: 17 :: 18 :: 5 :: []) (fun g s' V => ∃ (k n c b : Nat), s' 5 = .int .i64 ((k : Nat) : Int) ∧ s' 4 = .slice (some ⟨b, 0, none⟩) n c ∧ g = s.size - k ∧ k ≤ s.size ∧ n = (splT s k).length ∧ Ext w V ∧ OwnL V w.heap.size 9 false 1 (.slice (some ⟨b, 0, none⟩) n c) ((splT s k).map strV)) s.size ⟨0, 1, 1, b4, rfl, rfl, rfl, Nat.zero_le _, rfl, hE4, hO4⟩ ?_
  rintro _ sd V ⟨k, n, c, b, h5, h4, rfl, hk, hn, hE, hO⟩
  refine W.fix h5 (W.fix (d := 4) h4 ?_)
  clear h5 h4
  have hlen := splT_len s k
  by_cases hkc : k < s.size
  rotate_left
  · obtain rfl : k = s.size := by omega
    rw [splT_all] at hO hn
    subst hn
    have i1 : RowI V (.slice (some ⟨b, 0, none⟩) (splB s).length c) false 1 ((splB s).map strV) := ⟨hO.row⟩
    have hbd := splB_bound s
    (refine jjB ?_; refine jjB ?_; refine jjC ?_; apply jI; exact eI rfl; apply jI; exact eT rfl; refine ji rfl ?_; refine jja rfl rfl (by omega) ?_; refine jz ?_; refine jjK rfl ?_; refine jjE ?_; refine jjB ?_; refine jjB ?_; refine jjC ?_; apply jJ; exact eI rfl; refine jz ?_; refine jjD ?_)
    refine W.keep0 [(0, .string s), (6, .int .i64 ((0 : Nat) : Int)), (4, .slice (some ⟨b, 0, none⟩) (splB s).length c)] ⟨eT rfl, eI rfl, eS rfl, trivial⟩ fun s1 => ?_
    refine W.loop (39 :: 40 :: 41 :: 42 :: 45 :: 46 :: 47 :: 48 :: 49 :: 50 :: 2 :: 3 :: 43 :: 44 :: 6 :: []) (fun g s' V2 => ∃ k : Nat, s' 6 = .int .i64 ((k : Nat) : Int) ∧ g = (splB s).length - k ∧ k ≤ (splB s).length ∧ ∀ (j : Nat) (hj : j < (splB s).length), j < k → wordB (splB s)[j] = true) (splB s).length ⟨0, rfl, rfl, Nat.zero_le _, by intros; omega⟩ ?_
    rintro _ sd2 V2 hS2 ⟨q, h6, rfl, hq, hpre⟩
    refine W.fix h6 ?_
    clear h6
    by_cases hql : q < (splB s).length
    rotate_left
    · have hwb := wordsB_yes h0 h80 fun j hj => hpre j hj (by omega)
      (refine jjB ?_; refine jjB ?_; refine jjC ?_; apply jI; exact eI rfl; apply jI; exact eS rfl; refine jh rfl ?_; refine jja rfl rfl (by omega) ?_; refine jz ?_; refine jjK rfl ?_; refine jjE ?_; refine jjB ?_; refine jjC ?_; apply jI; exact eS rfl; apply jJ; exact eS rfl; apply jJ; exact eB rfl; refine jz ?_; refine jjF ?_; refine jC rfl rfl rfl ⟨inferInstance, ?_⟩)
      have := hE.toStep
      skip
      rw [hwb, hL]
      exact ⟨_, rfl, fun _ => hO.ext hS2.ext⟩
    have hsz := hbd.2 _ (List.getElem_mem hql)
    have := hE.toStep
    obtain ⟨B, hB⟩ : ∃ B, wordB (splB s)[q] = B := ⟨_, rfl⟩
    (refine jjB ?_; refine jjB ?_; refine jjC ?_; apply jI; exact eI rfl; apply jI; exact eS rfl; refine jh rfl ?_; refine jjZ rfl rfl (by omega) ?_; refine jz ?_; refine jjJ rfl ?_; refine jjG ?_; refine jjB ?_; refine jjD ?_; refine jjB ?_; refine jjC ?_; apply jI; exact eS rfl; apply jI; exact eI rfl; refine jF rfl rfl rfl (map_get (by omega)) ?_; intro _ _ _; refine jQ rfl rfl ?_)
    refine jjQ ((Word_ref (splB s)[q] _ (by omega)).mono fun v _ _ e => e.trans (by rw [hB])) rfl rfl ?_
    rintro _ w4 hS4 rfl
    cases B
    · have hwb := wordsB_no h0 hql hB
      (refine jq rfl ?_; refine jz ?_; refine jjJ rfl ?_; refine jjB ?_; refine jjC ?_; apply jJ; exact eS rfl; apply jJ; exact eB rfl; refine jz ?_; refine jjF ?_; refine jC rfl rfl rfl ⟨inferInstance, ?_⟩)
      exact ⟨_, congrArg (fun b => Value.tuple #[.slice none 0 0, .bool b]) hwb.symm, fun e => by rw [hwb] at e; cases e⟩
    · (refine jp rfl ?_; refine jz ?_; refine jjK rfl ?_; refine jjG ?_; refine jjC ?_; apply jI; exact eI rfl; refine jY rfl rfl (by omega) ?_; apply jJ; exact eI rfl; refine jz ?_)
      refine ⟨rfl, by ((refine Same.upd rfl ?_; refine Same.upd rfl ?_; refine Same.upd rfl ?_; refine Same.upd rfl ?_; refine Same.upd rfl ?_; refine Same.upd rfl ?_; refine Same.upd rfl ?_; refine Same.upd rfl ?_; refine Same.upd rfl ?_; refine Same.upd rfl ?_; refine Same.upd rfl ?_; refine Same.upd rfl ?_; refine Same.upd rfl ?_; refine Same.upd rfl ?_; exact Same.ovN)), (splB s).length - (q + 1), by omega, inferInstance, q + 1, congrArg (Value.int .i64) (by omega), rfl, by omega, fun j hj hjk => ?_⟩
      by_cases e : j = q
      · subst e; exact hB
      · exact hpre j hj (by omega)
  subst hn
  by_cases hsp : s[k] = 32
  · have hi : ((s[k].toNat : Nat) : Int) = 32 := by rw [hsp]; rfl
    (refine jjB ?_; refine jjB ?_; refine jjC ?_; apply jI; exact eI rfl; apply jI; exact eT rfl; refine ji rfl ?_; refine jjZ rfl rfl (by omega) ?_; refine jz ?_; refine jjJ rfl ?_; refine jjG ?_; refine jjB ?_; refine jjD ?_; refine jjB ?_; refine jjC ?_; apply jI; exact eT rfl; apply jI; exact eI rfl; refine jt rfl rfl rfl (by omega) ?_; refine jjh rfl rfl (by omega) ?_; refine jz ?_; refine jjJ rfl ?_; refine jjC ?_; apply jI; exact eS rfl)
    (refine jjP (v := .string _) rfl (by exact rfl) (by exact rfl) (by exact rfl) (by exact rfl) ?_; intro b5 w_b5 hb_b5 hs_b5 hS_b5 hk_b5; have hR_b5 := RowV.one (agg := false) (k := 1) rfl hk_b5)
    have hz := hE.size
    refine Ops.appendL (hO.ext hS_b5.ext) (by have := hS_b5.size; omega) hR_b5 rfl rfl rfl rfl rfl ?_ ?_ ?_
    · rw [List.length_map]; simp only [List.length_cons, List.length_nil]; omega
    · rw [List.length_map]; simp only [List.length_cons, List.length_nil]; omega
    intro v2 V4 hA hO4 _ _
    have e1 : (splT s k).map strV ++ [.string ⟨#[]⟩] = (splT s (k + 1)).map strV := by rw [splT_sp hkc hsp, List.map_append]; rfl
    rw [e1] at hO4
    obtain ⟨a4, c4, rfl⟩ := hO4.slice
    obtain ⟨g4, rfl, hg4, _⟩ := hO4.self (by rw [List.length_map]; exact (splT_len s (k + 1)).1)
    rw [List.length_map] at hO4 ⊢
    (apply jJ; exact eS rfl; refine jz ?_; refine jjC ?_; apply jI; exact eI rfl; refine jY rfl rfl (by omega) ?_; apply jJ; exact eI rfl; refine jz ?_)
    exact ⟨rfl, by ((refine Same.upd rfl ?_; refine Same.upd rfl ?_; refine Same.upd rfl ?_; refine Same.upd rfl ?_; refine Same.upd rfl ?_; refine Same.upd rfl ?_; refine Same.upd rfl ?_; refine Same.upd rfl ?_; refine Same.upd rfl ?_; refine Same.upd rfl ?_; refine Same.upd rfl ?_; refine Same.upd rfl ?_; refine Same.upd rfl ?_; refine Same.upd rfl ?_; refine Same.upd rfl ?_; refine Same.upd rfl ?_; refine Same.upd rfl ?_; exact Same.ovN)), s.size - (k + 1), by omega, k + 1, _, c4, g4, congrArg (Value.int .i64) (by omega), rfl, rfl, by omega, rfl, hA.ext (hE.trans hS_b5.ext) (Nat.le_refl _), hO4⟩
  · have hi : ¬ ((s[k].toNat : Nat) : Int) = 32 := fun e => hsp (by
      have : s[k].toNat = 32 := by omega
      exact UInt8.toNat_inj.1 this)
    obtain ⟨x, hx⟩ := splT_last s k
    have hxs : x.size ≤ k := splT_size s k x (List.mem_of_getElem? hx)
    have hj : ((((splT s k).length : Nat) : Int) - 1) = (((splT s k).length - 1 : Nat) : Int) := by omega
    obtain ⟨cs, hB, hcl, hnc, hcm, hll, htk, hBg⟩ := hO.cells
    have hcell : ∀ w', Ext V w' → w'.cell? ⟨b, 0 + ((splT s k).length - 1), none⟩ = some (.string x) := fun w' e => by
      have h1 : cs[(splT s k).length - 1]? = some (.string x) := by
        have h2 : (cs.take (splT s k).length)[(splT s k).length - 1]? = some (.string x) := by rw [htk, List.getElem?_map, hx]; rfl
        rwa [List.getElem?_take, if_pos (by omega)] at h2
      have h3 := (hB.ext e).cellO h1
      rwa [Nat.zero_add]
    (refine jjB ?_; refine jjB ?_; refine jjC ?_; apply jI; exact eI rfl; apply jI; exact eT rfl; refine ji rfl ?_; refine jjZ rfl rfl (by omega) ?_; refine jz ?_; refine jjJ rfl ?_; refine jjG ?_; refine jjB ?_; refine jjD ?_; refine jjB ?_; refine jjC ?_; apply jI; exact eT rfl; apply jI; exact eI rfl; refine jt rfl rfl rfl (by omega) ?_; refine jji rfl rfl (by omega) ?_; refine jz ?_; refine jjK rfl ?_)
    refine W.drawX 13 (fun w' => Ext V w') ?_
    intro w1 hS1
    (refine AnyX.take [0, 1, 2, 3, 4] ?_ ?_ ?_; (decide +kernel); (exact hS1.ext); (((apply jjT; exact rfl; rintro w' hq; apply jI; exact eS rfl; refine jz ?_; exact ⟨rfl, rfl⟩; apply jjT; exact rfl; rintro w' hq; apply jI; exact eS rfl; refine jz ?_; exact ⟨rfl, rfl⟩; apply jjT; exact rfl; rintro w' hq; refine jh rfl ?_; refine jz ?_; exact ⟨rfl, rfl⟩; apply jjT; exact rfl; rintro w' hq; refine jZ rfl rfl (by omega) ?_; refine jz ?_; exact ⟨rfl, rfl⟩; apply jjT; exact rfl; rintro w' hq; refine jG rfl rfl (by assumption) (by omega) ?_; refine jz ?_; exact ⟨rfl, rfl⟩; refine jjU ?_))))
    refine AnyX.take [5] (by decide +kernel) hS1.ext (jjT (v := .string x) rfl (fun w' q1 => ?_) (jjU ?_)); (refine jR (hcell _ q1) rfl rfl ?_; refine jz ?_; exact ⟨rfl, rfl⟩)
    (refine AnyX.take [6, 7, 8, 9] ?_ ?_ ?_; (decide +kernel); (exact hS1.ext); (((apply jjT; exact rfl; rintro w' hq; apply jI; exact eT rfl; refine jz ?_; exact ⟨rfl, rfl⟩; apply jjT; exact rfl; rintro w' hq; apply jI; exact eI rfl; refine jz ?_; exact ⟨rfl, rfl⟩; apply jjT; exact rfl; rintro w' hq; apply jI; exact eI rfl; refine jz ?_; exact ⟨rfl, rfl⟩; apply jjT; exact rfl; rintro w' hq; refine jY rfl rfl (by omega) ?_; refine jz ?_; exact ⟨rfl, rfl⟩; refine jjU ?_))))
    refine AnyX.take [10] (by decide +kernel) hS1.ext (jjT (v := .string (s.extract k (k + 1))) rfl (fun w' q1 => ?_) (jjU ?_)); (refine Ops.sliceStr (lo := k) (hi := k + 1) rfl rfl rfl rfl rfl (by omega) (by omega) ?_; refine jz ?_; exact ⟨rfl, rfl⟩)
    refine AnyX.take [11] (by decide +kernel) hS1.ext (jjT (v := .string (x ++ s.extract k (k + 1))) rfl (fun w' q1 => ?_) (jjU ?_)); (refine Ops.cat rfl rfl (by rw [ByteArray.size_extract]; omega) ?_; refine jz ?_; exact ⟨rfl, rfl⟩)
    (refine AnyX.take [12] ?_ ?_ ?_; (decide +kernel); (exact hS1.ext); (((apply jjT; exact rfl; rintro w' hq; refine jG rfl rfl (by assumption) (by omega) ?_; refine jz ?_; exact ⟨rfl, rfl⟩; refine jjU ?_))))
    (apply AnyX.one 13; (decide +kernel); exact rfl; (exact hS1.ext))
    refine Ops.storeL (j := (splT s k).length - 1) (i := 0) (X := .string x) (X' := .string (x ++ s.extract k (k + 1))) (u := .string (x ++ s.extract k (k + 1))) (hO.ext hS1.ext) rfl (by rw [List.getElem?_map, hx]; rfl) rfl rfl rfl (by exact congrArg (fun o => Value.pointer (some ⟨b, o, none⟩)) (by omega)) rfl rfl rfl ?_
    intro w2 o2 hp2 hO2
    refine jz ?_
    refine AnyX.done (by decide +kernel) ?_
    have e1 : ((splT s k).map strV).set ((splT s k).length - 1) (.string (x ++ s.extract k (k + 1))) = (splT s (k + 1)).map strV := by rw [splT_ch hkc hsp hx, List.map_set]
    rw [e1] at hO2
    have e2 : (splT s (k + 1)).length = (splT s k).length := by rw [splT_ch hkc hsp hx, List.length_set]
    (refine jjC ?_; apply jI; exact eI rfl; refine jY rfl rfl (by omega) ?_; apply jJ; exact eI rfl; refine jz ?_)
    exact ⟨rfl, by ((refine Same.upd rfl ?_; refine Same.upd rfl ?_; refine Same.upd rfl ?_; refine Same.upd rfl ?_; refine Same.upd rfl ?_; refine Same.upd rfl ?_; refine Same.upd rfl ?_; refine Same.upd rfl ?_; refine Same.upd rfl ?_; refine Same.upd rfl ?_; refine Same.upd rfl ?_; refine Same.upd rfl ?_; refine Same.upd rfl ?_; refine Same.upd rfl ?_; refine Same.upd rfl ?_; refine Same.upd rfl ?_; refine Same.upd rfl ?_; refine Same.upd rfl ?_; refine Same.upd rfl ?_; refine Same.upd rfl ?_; refine Same.upd rfl ?_; refine Same.upd rfl ?_; refine Same.upd rfl ?_; refine Same.upd rfl ?_; refine Same.upd rfl ?_; refine Same.upd rfl ?_; exact Same.ovN)), s.size - (k + 1), by omega, k + 1, _, c, b, congrArg (Value.int .i64) (by omega), rfl, rfl, by omega, e2.symm, hp2.ext (hE.trans hS1.ext) (by omega), hO2⟩
end Go.Proofs.YtgmgiepdehlinaaDoor

/- Plain law: places of a chapter, lengths of parts of it, its slips. -/
namespace Go.Proofs.YtgmgiepdehlinaaDoor
open Go.RowKit

theorem runA_nodup (k : Nat) (x : List (List ByteArray)) : (runA k x).Nodup := by
  unfold runA runAn List.Nodup
  rw [List.pairwise_flatMap]
  refine ⟨fun i _ => ?_, ?_⟩
  · refine List.pairwise_map.2 (List.Pairwise.imp (R := (· < ·)) ?_ List.pairwise_lt_range)
    intro a b h e
    simp only [Prod.mk.injEq] at e
    omega
  · refine List.Pairwise.imp (R := (· < ·)) ?_ List.pairwise_lt_range
    intro a b h p hp q hq e
    simp only [lnP, List.mem_map] at hp hq
    obtain ⟨_, _, rfl⟩ := hp
    obtain ⟨_, _, rfl⟩ := hq
    simp only [Prod.mk.injEq] at e
    omega
theorem nodup_inj {α : Type} {l : List α} (h : l.Nodup) {i j : Nat} {x : α} (hi : l[i]? = some x) (hj : l[j]? = some x) : i = j := by
  obtain ⟨hi1, hi2⟩ := List.getElem?_eq_some_iff.1 hi
  obtain ⟨hj1, hj2⟩ := List.getElem?_eq_some_iff.1 hj
  rcases Nat.lt_trichotomy i j with hl | he | hl
  · exact absurd (hi2.trans hj2.symm) (List.pairwise_iff_getElem.1 h i j hi1 hj1 hl)
  · exact he
  · exact absurd (hj2.trans hi2.symm) (List.pairwise_iff_getElem.1 h j i hj1 hi1 hl)
theorem sum_one (l : List ByteArray) : (l.map fun s => s.size + 1).sum = l.length + (l.map (·.size)).sum := by
  induction l with
  | nil => rfl
  | cons x l ih => simp only [List.map_cons, List.sum_cons, List.length_cons, ih]; omega
theorem seg_len {ws : List ByteArray} {a b : Nat} (hab : a ≤ b) : ((((ws.take (b + 1)).drop a).length : Nat) : Int) - 1 + ((((ws.take (b + 1)).drop a).map (·.size)).sum : Nat) = lenX ws (a, b) := by
  have h1 : preW ws (b + 1) = preW ws a + (((ws.take (b + 1)).drop a).map fun s => s.size + 1).sum := by
    have e : ws.take (b + 1) = ws.take a ++ (ws.take (b + 1)).drop a := by
      have := List.take_append_drop a (ws.take (b + 1))
      rw [List.take_take, Nat.min_eq_left (by omega)] at this
      exact this.symm
    rw [preW, preW]
    conv => lhs; rw [e]
    rw [List.map_append, List.sum_append]
  rw [sum_one] at h1
  simp only [lenX]
  omega
/-- The slip of the word i of a run, at place p. -/
def slipX (ws : List ByteArray) (side W : Int) (i : Nat) (p : Pl) : Slp :=
  (p, ws.getD i ⟨#[]⟩, joinB ((ws.take i).drop (bestA ws side W i).1), joinB ((ws.take ((bestA ws side W i).2 + 1)).drop (i + 1)))
/-- The state of the reference's search. -/
def stA (ws : List ByteArray) (side W : Int) (i a : Nat) : Cx := (refN ws i W a).foldl (bestR (ordI ws side i)) (i, i)
def stB (ws : List ByteArray) (side W : Int) (i a m : Nat) : Cx := (ctxTo ws i W a m).foldl (bestR (ordI ws side i)) (stA ws side W i a)
theorem stA_zero (ws : List ByteArray) (side W : Int) (i : Nat) : stA ws side W i 0 = (i, i) := rfl
theorem stA_end (ws : List ByteArray) (side W : Int) (i : Nat) : stA ws side W i (i + 1) = bestA ws side W i := rfl
theorem stB_zero (ws : List ByteArray) (side W : Int) (i a : Nat) : stB ws side W i a 0 = stA ws side W i a := rfl
theorem stB_end (ws : List ByteArray) (side W : Int) (i a : Nat) : stB ws side W i a (ws.length - i) = stA ws side W i (a + 1) := by
  rw [stB, stA, stA, refN_succ, List.foldl_append]
theorem stB_succ (ws : List ByteArray) (side W : Int) (i a m : Nat) : stB ws side W i a (m + 1) = if lenX ws (a, i + m) ≤ W ∧ ordI ws side i (a, i + m) (stB ws side W i a m) < 0 then (a, i + m) else stB ws side W i a m := by
  rw [stB, ctxTo_succ, List.foldl_append]
  by_cases h : lenX ws (a, i + m) ≤ W
  · rw [if_pos (by simpa [okX] using h), List.foldl_cons, List.foldl_nil]
    simp only [bestR, h, true_and]; rfl
  · rw [if_neg (by simpa [okX] using h), List.foldl_nil, if_neg (fun h2 => h h2.1)]; rfl
theorem foldl_inv {α β : Type} (P : β → Prop) (f : β → α → β) : ∀ (l : List α) (b : β), P b → (∀ b x, x ∈ l → P b → P (f b x)) → P (l.foldl f b)
  | [], _, h, _ => h
  | x :: l, b, h, hf => foldl_inv P f l (f b x) (hf b x (by simp) h) fun b y hy => hf b y (by simp [hy])
theorem stB_in {ws : List ByteArray} {side W : Int} {i a m : Nat} (hi : i < ws.length) (ha : a ≤ i + 1) (hm : i + m ≤ ws.length) (ham : a ≤ i ∨ m = 0) : (stB ws side W i a m).1 ≤ i ∧ i ≤ (stB ws side W i a m).2 ∧ (stB ws side W i a m).2 < ws.length := by
  have h1 : ∀ (b x : Cx), (x.1 ≤ i ∧ i ≤ x.2 ∧ x.2 < ws.length) → (b.1 ≤ i ∧ i ≤ b.2 ∧ b.2 < ws.length) → ((bestR (ordI ws side i) b x).1 ≤ i ∧ i ≤ (bestR (ordI ws side i) b x).2 ∧ (bestR (ordI ws side i) b x).2 < ws.length) := fun b x hx hb => by
    unfold bestR; split
    · exact hx
    · exact hb
  refine foldl_inv (fun y : Cx => y.1 ≤ i ∧ i ≤ y.2 ∧ y.2 < ws.length) _ _ _ (foldl_inv (fun y : Cx => y.1 ≤ i ∧ i ≤ y.2 ∧ y.2 < ws.length) _ _ _ ⟨Nat.le_refl _, Nat.le_refl _, hi⟩ ?_) ?_
  · intro b x hx hb
    simp only [refN, List.mem_flatMap, List.mem_range, mem_ctxTo] at hx
    obtain ⟨j, hj, h2, h3, h4, _⟩ := hx
    exact h1 b x ⟨by omega, h3, by omega⟩ hb
  · intro b x hx hb
    rw [mem_ctxTo] at hx
    exact h1 b x ⟨by omega, hx.2.1, by omega⟩ hb
end Go.Proofs.YtgmgiepdehlinaaDoor

/- Plain law: the slips of a text. -/
namespace Go.Proofs.YtgmgiepdehlinaaDoor
open Go.RowKit

def wsT (t : Tx) (k : Nat) : List (List ByteArray) := (t.getD k (0, [])).2
theorem wsT_get {cs : List Ch} {k : Nat} (hk : k < cs.length) : wsT (txF cs) k = chW cs[k] := by
  simp [wsT, txF, hk, chW]
/-- Where a place is in a list. -/
noncomputable def idP (l : List Pl) (p : Pl) : Option Nat := open Classical in if h : ∃ i, l[i]? = some p then some (Classical.choose h) else none
theorem idP_some {l : List Pl} {p : Pl} {i : Nat} (hn : l.Nodup) (h : l[i]? = some p) : idP l p = some i := by
  have hx : ∃ i, l[i]? = some p := ⟨i, h⟩
  rw [idP, dif_pos hx, nodup_inj hn (Classical.choose_spec hx) h]
theorem idP_none {l : List Pl} {p : Pl} (h : p ∉ l) : idP l p = none := by
  rw [idP, dif_neg]
  rintro ⟨i, hi⟩
  exact h (List.mem_of_getElem? hi)
theorem idP_get {l : List Pl} {p : Pl} {i : Nat} (h : idP l p = some i) : l[i]? = some p := by
  unfold idP at h
  split at h
  · rename_i hx
    cases h
    exact Classical.choose_spec hx
  · cases h
theorem idP_not {l : List Pl} {p : Pl} (h : idP l p = none) : p ∉ l := by
  intro hm
  obtain ⟨i, hi, e⟩ := List.mem_iff_getElem.1 hm
  unfold idP at h
  rw [dif_pos ⟨i, by rw [List.getElem?_eq_getElem hi, e]⟩] at h
  cases h
theorem mem_runA {k : Nat} {x : List (List ByteArray)} {p : Pl} : p ∈ runA k x ↔ ∃ (n q : Nat) (hn : n < x.length), q < x[n].length ∧ p = ((k : Int), (n : Int), (q : Int)) := by
  simp only [runA, runAn, lnP, List.mem_flatMap, List.mem_range, List.mem_map]
  constructor
  · rintro ⟨n, hn, q, hq, rfl⟩
    refine ⟨n, q, hn, ?_, rfl⟩
    rwa [List.getD_eq_getElem?_getD, List.getElem?_eq_getElem hn, Option.getD_some] at hq
  · rintro ⟨n, q, hn, hq, rfl⟩
    refine ⟨n, hn, q, ?_, rfl⟩
    rwa [List.getD_eq_getElem?_getD, List.getElem?_eq_getElem hn, Option.getD_some]
theorem runA_fst {k : Nat} {x : List (List ByteArray)} {p : Pl} (h : p ∈ runA k x) : p.1 = (k : Int) := by
  obtain ⟨n, q, _, _, rfl⟩ := mem_runA.1 h
  rfl
/-- The slip of the word i of a chapter. -/
def slK (side W : Int) (k : Nat) (x : List (List ByteArray)) (i : Nat) : Slp := slipX x.flatten side W i ((runA k x).getD i (0, 0, 0))
theorem slK_eq {side W : Int} {k : Nat} {x : List (List ByteArray)} {i : Nat} {p : Pl} (h : (runA k x)[i]? = some p) : slK side W k x i = slipX x.flatten side W i p := by
  rw [slK, List.getD_eq_getElem?_getD, h, Option.getD_some]
/-- The slip of a place, if it is one of a text. -/
noncomputable def makeF (t : Tx) (side W : Int) (p : Pl) : Option Slp := if 0 ≤ p.1 ∧ p.1 < t.length then (idP (runA p.1.toNat (wsT t p.1.toNat)) p).map (slK side W p.1.toNat (wsT t p.1.toNat)) else none
theorem makeF_no {t : Tx} {side W : Int} {p : Pl} (h : ¬ (0 ≤ p.1 ∧ p.1 < t.length)) : makeF t side W p = none := by rw [makeF, if_neg h]
theorem makeF_in {t : Tx} {side W : Int} {p : Pl} {k : Nat} (hk : k < t.length) (hp : p.1 = (k : Int)) : makeF t side W p = (idP (runA k (wsT t k)) p).map (slK side W k (wsT t k)) := by
  rw [makeF, if_pos (by omega), hp, Int.toNat_natCast]
theorem makeF_yes {t : Tx} {side W : Int} {p : Pl} {k i : Nat} (hk : k < t.length) (h : (runA k (wsT t k))[i]? = some p) : makeF t side W p = some (slipX (wsT t k).flatten side W i p) := by
  rw [makeF_in hk (runA_fst (List.mem_of_getElem? h)), idP_some (runA_nodup _ _) h, Option.map_some, slK_eq h]
theorem makeF_some {t : Tx} {side W : Int} {p : Pl} {s : Slp} (h : makeF t side W p = some s) : ∃ k i, k < t.length ∧ (runA k (wsT t k))[i]? = some p ∧ s = slipX (wsT t k).flatten side W i p := by
  unfold makeF at h
  split at h
  · rename_i hc
    obtain ⟨i, hi, e⟩ := Option.map_eq_some_iff.1 h
    have hg := idP_get hi
    exact ⟨p.1.toNat, i, by omega, hg, by rw [← e, slK_eq hg]⟩
  · cases h
theorem makeF_at {t : Tx} {side W : Int} {p : Pl} {s : Slp} (h : makeF t side W p = some s) : s.1 = p := by
  obtain ⟨_, _, _, _, rfl⟩ := makeF_some h; rfl
theorem placeC_iff {cs : List Ch} {p : Pl} (side W : Int) : placeC cs p = (makeF (txF cs) side W p).isSome := by
  cases h : makeF (txF cs) side W p with
  | some s =>
    obtain ⟨k, i, hk, hi, _⟩ := makeF_some h
    rw [txF_len] at hk
    rw [wsT_get hk] at hi
    obtain ⟨n, q, hn, hq, rfl⟩ := mem_runA.1 (List.mem_of_getElem? hi)
    have hn' : n < cs[k].2.2.2.length := by simpa [chW] using hn
    rw [placeC, lineC_yes hk hn']
    have : q < cs[k].2.2.2[n].2.2.length := by simpa [chW] using hq
    simp [inB]; omega
  | none =>
    rw [placeC]
    cases hl : lineC cs p with
    | none => rfl
    | some y =>
      show inB 0 _ p.2.2 = false
      cases hb : inB 0 ((y.2.2.length : Int) - 1) p.2.2 with
      | false => rfl
      | true =>
        exfalso
        unfold lineC at hl
        split at hl
        · rename_i hc
          obtain ⟨x, hx, hxy⟩ := Option.bind_eq_some_iff.1 hl
          obtain ⟨hk, rfl⟩ := List.getElem?_eq_some_iff.1 hx
          obtain ⟨hn, rfl⟩ := List.getElem?_eq_some_iff.1 hxy
          rw [makeF_in (k := p.1.toNat) (by rw [txF_len]; exact hk) (by omega), wsT_get hk, Option.map_eq_none_iff] at h
          refine idP_not h (mem_runA.2 ⟨p.2.1.toNat, p.2.2.toNat, by simpa [chW] using hn, ?_, ?_⟩)
          · simp [inB] at hb
            simp [chW]; omega
          · simp [inB] at hb
            obtain ⟨p1, p2, p3⟩ := p
            simp only at *
            simp only [Prod.mk.injEq]; omega
        · cases hl
/-- All places of a text, of its first n chapters. -/
def allP (t : Tx) (n : Nat) : List Pl := (List.range n).flatMap fun k => runA k (wsT t k)
theorem allP_succ (t : Tx) (n : Nat) : allP t (n + 1) = allP t n ++ runA n (wsT t n) := by simp [allP, List.range_succ, List.flatMap_append]
noncomputable def slP (t : Tx) (side W : Int) (p : Pl) : Slp := (makeF t side W p).getD (p, ⟨#[]⟩, ⟨#[]⟩, ⟨#[]⟩)
theorem slP_at (t : Tx) (side W : Int) (p : Pl) : (slP t side W p).1 = p := by
  rw [slP]
  cases h : makeF t side W p with
  | none => rfl
  | some s => exact makeF_at h
theorem slP_eq {t : Tx} {side W : Int} {p : Pl} {k i : Nat} (hk : k < t.length) (h : (runA k (wsT t k))[i]? = some p) : slP t side W p = slipX (wsT t k).flatten side W i p := by
  rw [slP, makeF_yes hk h, Option.getD_some]
/-- All slips of a text. -/
noncomputable def allS (t : Tx) (side W : Int) : List Slp := (allP t t.length).map (slP t side W)
noncomputable def slA (t : Tx) (side W : Int) (n : Nat) : List Slp := (allP t n).map (slP t side W)
noncomputable def slsN (t : Tx) (side W : Int) (k i : Nat) : List Slp := ((runA k (wsT t k)).take i).map (slP t side W)
theorem slA_succ (t : Tx) (side W : Int) (n : Nat) : slA t side W (n + 1) = slA t side W n ++ slsN t side W n (wsT t n).flatten.length := by
  rw [slA, allP_succ, List.map_append, ← slA, slsN, ← runA_len n, List.take_length]
theorem slA_get {t : Tx} {side W : Int} {k i n : Nat} {p : Pl} (hk : k < n) (h : (runA k (wsT t k))[i]? = some p) : (slA t side W n)[(slA t side W k).length + i]? = some (slP t side W p) := by
  have : ∀ d, (slA t side W (k + 1 + d))[(slA t side W k).length + i]? = some (slP t side W p) := by
    intro d
    induction d with
    | zero =>
      have hi := (List.getElem?_eq_some_iff.1 h).1
      rw [Nat.add_zero, slA_succ, List.getElem?_append_right (by omega), Nat.add_sub_cancel_left, slsN, ← runA_len k, List.take_length, List.getElem?_map, h, Option.map_some]
    | succ d ih =>
      rw [← Nat.add_assoc, slA_succ]
      have hl := (List.getElem?_eq_some_iff.1 ih).1
      rw [List.getElem?_append_left hl, ih]
  have := this (n - (k + 1))
  rwa [show k + 1 + (n - (k + 1)) = n by omega] at this
theorem slA_end (t : Tx) (side W : Int) : slA t side W t.length = allS t side W := rfl
theorem slsN_len {t : Tx} {side W : Int} {k i : Nat} (h : i ≤ (wsT t k).flatten.length) : (slsN t side W k i).length = i := by
  rw [slsN, List.length_map, List.length_take, runA_len]; omega
theorem mem_allP {t : Tx} {n : Nat} {p : Pl} : p ∈ allP t n ↔ ∃ k, k < n ∧ p ∈ runA k (wsT t k) := by
  simp [allP]
/-! Words of a valid text are short. -/
theorem word_short {t : Tx} {k : Nat} (h : textB t = true) {s : ByteArray} (hk : k < t.length) (hs : s ∈ (wsT t k).flatten) : s.size ≤ 12 := by
  simp only [textB, Bool.and_eq_true, List.all_eq_true] at h
  have hm : t.getD k (0, []) ∈ t := by rw [List.getD_eq_getElem?_getD, List.getElem?_eq_getElem hk, Option.getD_some]; exact List.getElem_mem hk
  have h1 := h.1.2 _ hm
  simp only [chapB, Bool.and_eq_true, List.all_eq_true] at h1
  obtain ⟨y, hy, hsy⟩ := List.mem_flatten.1 hs
  have h2 := h1.2 y hy
  simp only [lineB, Bool.and_eq_true, List.all_eq_true] at h2
  have h3 := h2.2 s hsy
  simp only [wordB, Bool.and_eq_true, decide_eq_true_eq] at h3
  omega
theorem cutB_width {W side : Int} (h : (inB 12 80 W && inB 1 3 side) = true) : 12 ≤ W ∧ W ≤ 80 ∧ 1 ≤ side ∧ side ≤ 3 := by
  simp only [inB, Bool.and_eq_true, decide_eq_true_eq] at h
  omega
theorem rnW_small {cs : List Ch} (hs : SmallT cs) {k : Nat} (hk : k < cs.length) : (rnW cs[k]).length ≤ 1000000 ∧ ∀ s ∈ rnW cs[k], s.size ≤ 1000 := by
  have h1 := hs.2 _ (List.getElem_mem hk)
  refine ⟨?_, fun s h => ?_⟩
  · have := flatW_len (x := chW cs[k]) (m := 1000) (chW_small fun y hy => (h1.2 y hy).1)
    have h2 : (chW cs[k]).length ≤ 1000 := by simp [chW]; exact h1.1
    have := Nat.mul_le_mul_right 1000 h2
    show (chW cs[k]).flatten.length ≤ _
    omega
  · obtain ⟨y, hy, hs'⟩ := List.mem_flatten.1 h
    obtain ⟨l, hl, rfl⟩ := List.mem_map.1 hy
    exact (h1.2 l hl).2 s hs'
end Go.Proofs.YtgmgiepdehlinaaDoor

/- slip: words of a text, slips that are right. -/
namespace Go.Proofs.YtgmgiepdehlinaaDoor
open Go.RowKit

theorem wordsB_len {s : ByteArray} (h0 : s.size ≠ 0) (h : ¬ s.size ≤ 80) : wordsB s = false := by simp [wordsB, h0, h]
theorem wordsB_all {s : ByteArray} (h0 : s.size ≠ 0) (h : s.size ≤ 80) : wordsB s = (splB s).all wordB := by simp [wordsB, h0, h]
theorem wordsB_nil {s : ByteArray} (h0 : s.size = 0) : wordsB s = true := by simp [wordsB, h0]
section
variable (w : World) [hm : MxI w]
set_option maxHeartbeats 1000000 in
theorem words_slip (s : ByteArray) (hs : s.size ≤ 1000) : Ct Tryd.prog 62 [.string s] w fun v w' => ∃ sv, v = .tuple #[sv, .bool (wordsB s)] ∧ OwnL w' w.heap.size 9 false 1 sv ((wordsL s).map strV) := by
  refine Ct.ofW (by simp) ?_
  (refine jjB ?_; refine jjC ?_; apply jJ; exact eS rfl; apply jJ; exact eB rfl; refine jz ?_; refine jjH ?_; refine jjB ?_; refine jjB ?_; refine jjC ?_; apply jI; exact eT rfl)
  refine Ops.eqlS rfl rfl ?_
  by_cases h0 : s.size = 0
  · have e0 := str_nil.2 h0
    subst e0
    rw [decide_eq_true rfl]
    (refine jz ?_; refine jjJ rfl ?_; refine jjB ?_; refine jjC ?_; apply jJ; exact eS rfl; apply jJ; exact eB rfl; refine jz ?_; refine jjF ?_; refine jC rfl rfl rfl ⟨inferInstance, ?_⟩)
    exact ⟨_, rfl, OwnL.nil _ _ _ _ _⟩
  have hne : ¬ s = ⟨#[]⟩ := fun e => h0 (str_nil.1 e)
  rw [decide_eq_false hne]
  have hb := splB_bound s
  (refine jz ?_; refine jjK rfl ?_; refine jjG ?_; refine jjB ?_; refine jjC ?_; apply jI; exact eT rfl)
  refine jjQ (Split_str s _ (by omega)) rfl rfl ?_
  rintro _ w2 hS2 ⟨sv, rfl, hO⟩
  obtain ⟨a, c, rfl⟩ := hO.slice
  rw [List.length_map] at hO ⊢
  have hE2 : Ext w w2 := inferInstance
  have hL : wordsL s = splB s := by rw [wordsL, if_neg h0]
  rw [hL]
  by_cases h80 : s.size ≤ 80
  · have hwb := wordsB_all h0 h80
    (apply jJ; exact eS rfl; refine jz ?_; refine jjB ?_; refine jjC ?_; apply jI; exact eT rfl; refine ji rfl ?_; refine jjb rfl rfl (by omega) ?_; apply jJ; exact eB rfl; refine jz ?_; refine jjB ?_; refine jjI ?_; refine jjB ?_; refine jjB ?_; refine jjC ?_; apply jI; exact eS rfl; refine jh rfl ?_; apply jI; exact eI rfl; refine jz ?_; refine jjD ?_)
    refine W.keep0 [(4, .slice a (splB s).length c), (5, .bool true), (15, .slice a (splB s).length c), (16, .int .i64 (((splB s).length : Nat) : Int)), (17, .int .i64 ((0 : Nat) : Int))] ⟨eS rfl, eB rfl, eS rfl, eI rfl, eI rfl, trivial⟩ fun s0 => ?_
    refine W.loop (18 :: 19 :: 20 :: 7 :: 21 :: 22 :: 23 :: 5 :: 24 :: 17 :: []) (fun g s' V => ∃ k : Nat, s' 17 = .int .i64 ((k : Nat) : Int) ∧ s' 5 = .bool true ∧ g = (splB s).length - k ∧ k ≤ (splB s).length ∧ ∀ (j : Nat) (hj : j < (splB s).length), j < k → wordB (splB s)[j] = true) (splB s).length ⟨0, rfl, rfl, rfl, Nat.zero_le _, by intros; omega⟩ ?_
    rintro _ sd w3 hS3 ⟨k, h17, h5, rfl, hk, hpre⟩
    refine W.fix h17 (W.fix (d := 5) h5 ?_)
    clear h17 h5
    by_cases hkl : k < (splB s).length
    rotate_left
    · have hall : (splB s).all wordB = true := all_yes fun j hj => hpre j hj (by omega)
      (refine jjB ?_; refine jjC ?_; refine jja rfl rfl (by omega) ?_; refine jz ?_; refine jjB ?_; refine jjK rfl ?_; refine jjE ?_; refine jjB ?_; refine jjC ?_; apply jI; exact eS rfl; apply jI; exact eB rfl; apply jJ; exact eS rfl; apply jJ; exact eB rfl; refine jz ?_; refine jjF ?_; refine jC rfl rfl rfl ⟨inferInstance, ?_⟩)
      rw [hwb, hall]
      exact ⟨_, rfl, (hO.ext hS3.ext)⟩
    have hsz := hb.2 _ (List.getElem_mem hkl)
    have i3 : RowI w3 (.slice a (splB s).length c) false 1 ((splB s).map strV) := ⟨(hO.ext hS3.ext).row⟩
    obtain ⟨B, hB⟩ : ∃ B, wordB (splB s)[k] = B := ⟨_, rfl⟩
    (refine jjB ?_; refine jjC ?_; refine jjZ rfl rfl (by omega) ?_; refine jz ?_; refine jjB ?_; refine jjJ rfl ?_; refine jjG ?_; refine jjB ?_; refine jjD ?_; refine jjB ?_; refine jjC ?_; refine jF rfl rfl rfl (map_get (by omega)) ?_; intro _ _ _; refine jQ rfl rfl ?_; apply jJ; exact eT rfl; refine jz ?_; refine jjB ?_; refine jjC ?_; apply jI; exact eT rfl)
    refine jjQ ((word_slip (splB s)[k] _ (by omega)).mono fun v _ _ e => e.trans (by rw [hB])) rfl rfl ?_
    rintro _ w4 hS4 rfl
    cases B
    · have hall : (splB s).all wordB = false := all_no hkl hB
      (refine jq rfl ?_; refine jz ?_; refine jjJ rfl ?_; refine jjB ?_; refine jjC ?_; apply jJ; exact eB rfl; refine jz ?_; refine jjE ?_; refine jjB ?_; refine jjC ?_; apply jI; exact eS rfl; apply jI; exact eB rfl; apply jJ; exact eS rfl; apply jJ; exact eB rfl; refine jz ?_; refine jjF ?_; refine jC rfl rfl rfl ⟨inferInstance, ?_⟩)
      rw [hwb, hall]
      exact ⟨_, rfl, hO.ext (hS3.ext.trans hS4.ext)⟩
    · (refine jp rfl ?_; refine jz ?_; refine jjK rfl ?_; refine jjG ?_; refine jjC ?_; refine jY rfl rfl (by omega) ?_; apply jI; exact eI rfl; refine jz ?_)
      refine ⟨rfl, by ((refine Same.upd rfl ?_; refine Same.upd rfl ?_; refine Same.upd rfl ?_; refine Same.upd rfl ?_; refine Same.upd rfl ?_; refine Same.upd rfl ?_; refine Same.upd rfl ?_; refine Same.upd rfl ?_; refine Same.upd rfl ?_; refine Same.upd rfl ?_; refine Same.upd rfl ?_; exact Same.ovN)), (splB s).length - (k + 1), by omega, inferInstance, k + 1, congrArg (Value.int .i64) (by omega), rfl, rfl, by omega, fun j hj hjk => ?_⟩
      by_cases e : j = k
      · subst e; exact hB
      · exact hpre j hj (by omega)
  · have hwb := wordsB_len h0 h80
    (apply jJ; exact eS rfl; refine jz ?_; refine jjB ?_; refine jjC ?_; apply jI; exact eT rfl; refine ji rfl ?_; refine jjc rfl rfl (by omega) ?_; apply jJ; exact eB rfl; refine jz ?_; refine jjB ?_; refine jjI ?_; refine jjB ?_; refine jjB ?_; refine jjC ?_; apply jI; exact eS rfl; refine jh rfl ?_; apply jI; exact eI rfl; refine jz ?_; refine jjD ?_)
    refine W.keep0 [(4, .slice a (splB s).length c), (5, .bool false), (15, .slice a (splB s).length c), (16, .int .i64 (((splB s).length : Nat) : Int)), (17, .int .i64 ((0 : Nat) : Int))] ⟨eS rfl, eB rfl, eS rfl, eI rfl, eI rfl, trivial⟩ fun s0 => ?_
    refine W.loop (18 :: 19 :: 20 :: 7 :: 21 :: 22 :: 23 :: 5 :: 24 :: 17 :: []) (fun g s' V => ∃ k : Nat, s' 17 = .int .i64 ((k : Nat) : Int) ∧ s' 5 = .bool false ∧ g = (splB s).length - k ∧ k ≤ (splB s).length) (splB s).length ⟨0, rfl, rfl, rfl, Nat.zero_le _⟩ ?_
    rintro _ sd w3 hS3 ⟨k, h17, h5, rfl, hk⟩
    refine W.fix h17 (W.fix (d := 5) h5 ?_)
    clear h17 h5
    by_cases hkl : k < (splB s).length
    rotate_left
    · (refine jjB ?_; refine jjC ?_; refine jja rfl rfl (by omega) ?_; refine jz ?_; refine jjB ?_; refine jjK rfl ?_; refine jjE ?_; refine jjB ?_; refine jjC ?_; apply jI; exact eS rfl; apply jI; exact eB rfl; apply jJ; exact eS rfl; apply jJ; exact eB rfl; refine jz ?_; refine jjF ?_; refine jC rfl rfl rfl ⟨inferInstance, ?_⟩)
      rw [hwb]
      exact ⟨_, rfl, (hO.ext hS3.ext)⟩
    have hsz := hb.2 _ (List.getElem_mem hkl)
    have i3 : RowI w3 (.slice a (splB s).length c) false 1 ((splB s).map strV) := ⟨(hO.ext hS3.ext).row⟩
    obtain ⟨B, hB⟩ : ∃ B, wordB (splB s)[k] = B := ⟨_, rfl⟩
    (refine jjB ?_; refine jjC ?_; refine jjZ rfl rfl (by omega) ?_; refine jz ?_; refine jjB ?_; refine jjJ rfl ?_; refine jjG ?_; refine jjB ?_; refine jjD ?_; refine jjB ?_; refine jjC ?_; refine jF rfl rfl rfl (map_get (by omega)) ?_; intro _ _ _; refine jQ rfl rfl ?_; apply jJ; exact eT rfl; refine jz ?_; refine jjB ?_; refine jjC ?_; apply jI; exact eT rfl)
    refine jjQ ((word_slip (splB s)[k] _ (by omega)).mono fun v _ _ e => e.trans (by rw [hB])) rfl rfl ?_
    rintro _ w4 hS4 rfl
    cases B
    · (refine jq rfl ?_; refine jz ?_; refine jjJ rfl ?_; refine jjB ?_; refine jjC ?_; apply jJ; exact eB rfl; refine jz ?_; refine jjE ?_; refine jjB ?_; refine jjC ?_; apply jI; exact eS rfl; apply jI; exact eB rfl; apply jJ; exact eS rfl; apply jJ; exact eB rfl; refine jz ?_; refine jjF ?_; refine jC rfl rfl rfl ⟨inferInstance, ?_⟩)
      rw [hwb]
      exact ⟨_, rfl, hO.ext (hS3.ext.trans hS4.ext)⟩
    · (refine jp rfl ?_; refine jz ?_; refine jjK rfl ?_; refine jjG ?_; refine jjC ?_; refine jY rfl rfl (by omega) ?_; apply jI; exact eI rfl; refine jz ?_)
      exact ⟨rfl, by ((refine Same.upd rfl ?_; refine Same.upd rfl ?_; refine Same.upd rfl ?_; refine Same.upd rfl ?_; refine Same.upd rfl ?_; refine Same.upd rfl ?_; refine Same.upd rfl ?_; refine Same.upd rfl ?_; refine Same.upd rfl ?_; refine Same.upd rfl ?_; refine Same.upd rfl ?_; exact Same.ovN)), (splB s).length - (k + 1), by omega, inferInstance, k + 1, congrArg (Value.int .i64) (by omega), rfl, rfl, by omega⟩
end
end Go.Proofs.YtgmgiepdehlinaaDoor

/- The order of texts and of slips: cmp.Compare of texts, slip.right, slip.Order. -/
namespace Go.Proofs.YtgmgiepdehlinaaDoor
open Go.RowKit

/-- The order of two texts. -/
def cmpS (x y : ByteArray) : Int := if Op.bytesLess x.toList y.toList then -1 else if x = y then 0 else 1
def slipB (x : Slp) : Bool := wordsB x.2.2.1 && (wordsB x.2.2.2 && wordB x.2.1)
def SmallS (x : Slp) : Prop := x.2.1.size ≤ 1000 ∧ x.2.2.1.size ≤ 1000 ∧ x.2.2.2.size ≤ 1000
/-- The order of two slips. -/
def ordS (a b : Slp) : Int := orF [cmpS a.2.1 b.2.1, cmpP a.1 b.1, cmpS a.2.2.2 b.2.2.2, cmpS a.2.2.1 b.2.2.1]
def ordR (a b : Slp) : Int × Int := if slipB a && slipB b then (ordS a b, 0) else (0, 31)

theorem isNaN_str (x : ByteArray) (w : World) : Ct Tryd.prog 64 [.string x] w fun v _ => v = .bool false := by
  refine Ct.ofW (by simp) ?_
  (refine jjB ?_; refine jjC ?_; apply jJ; exact eB rfl; refine jz ?_; refine jjB ?_; refine jjC ?_; apply jI; exact eT rfl; apply jI; exact eT rfl)
  refine Ops.neqS rfl rfl ?_
  (apply jJ; exact eB rfl; refine jz ?_; refine jjF ?_; refine jB rfl rfl ⟨inferInstance, ?_⟩)
  exact congrArg Value.bool (by simp)
theorem Compare_str (x y : ByteArray) (w : World) : Ct Tryd.prog 40 [.string x, .string y] w fun v _ => v = .int .i64 (cmpS x y) := by
  refine Ct.ofW (by simp) ?_
  (refine jjB ?_; refine jjC ?_; apply jJ; exact eI rfl; refine jz ?_; refine jjB ?_; refine jjC ?_; apply jI; exact eT rfl)
  refine jjQ (isNaN_str x _) rfl rfl ?_
  rintro _ w2 hS2 rfl
  (apply jJ; exact eB rfl; refine jz ?_; refine jjB ?_; refine jjC ?_; apply jI; exact eT rfl)
  refine jjQ (isNaN_str y _) rfl rfl ?_
  rintro _ w3 hS3 rfl
  (apply jJ; exact eB rfl; refine jz ?_; refine jjB ?_; refine jjB ?_; refine jjC ?_; apply jI; exact eB rfl; refine jz ?_; refine jjK rfl ?_; refine jjG ?_; refine jjB ?_; refine jjB ?_; refine jjC ?_; apply jI; exact eB rfl; refine jz ?_; refine jjK rfl ?_; refine jjG ?_; refine jjB ?_; refine jjB ?_; refine jjC ?_; apply jI; exact eT rfl; apply jI; exact eT rfl)
  refine Ops.lssS rfl rfl ?_
  obtain ⟨B, hB⟩ : ∃ B, Op.bytesLess x.toList y.toList = B := ⟨_, rfl⟩
  rw [cmpS, hB]
  cases B
  · (refine jz ?_; refine jjK rfl ?_; refine jjG ?_; refine jjB ?_; refine jjB ?_; refine jjC ?_; apply jI; exact eT rfl; apply jI; exact eT rfl)
    refine Ops.gtrS rfl rfl ?_
    rw [hB, beqS, Bool.false_or]
    by_cases e : x = y
    · rw [decide_eq_true e, if_pos e]
      (refine jz ?_; refine jjK rfl ?_; refine jjG ?_; refine jjB ?_; refine jjC ?_; apply jJ; exact eI rfl; refine jz ?_; refine jjF ?_; refine jB rfl rfl ⟨inferInstance, ?_⟩)
      exact rfl
    · rw [decide_eq_false e, if_neg e]
      (refine jz ?_; refine jjJ rfl ?_; refine jjB ?_; refine jjC ?_; apply jJ; exact eI rfl; refine jz ?_; refine jjF ?_; refine jB rfl rfl ⟨inferInstance, ?_⟩)
      exact rfl
  · (refine jz ?_; refine jjJ rfl ?_; refine jjB ?_; refine jjC ?_; apply jJ; exact eI rfl; refine jz ?_; refine jjF ?_; refine jB rfl rfl ⟨inferInstance, ?_⟩)
    exact rfl

section
variable (w : World) [hm : MxI w]
set_option maxHeartbeats 1000000 in
theorem right_slip (x : Slp) (hx : SmallS x) : Ct Tryd.prog 38 [encSl x] w fun v _ => v = .bool (slipB x) := by
  obtain ⟨h1, h2, h3⟩ := hx
  refine Ct.ofW (by simp) ?_
  (refine jjB ?_; refine jjC ?_)
  (refine jy rfl ?_; intro b1 w_b1 hb_b1 hs_b1 hS_b1 hk_b1; have hA_b1 := At.ofBlock hk_b1)
  (apply jJ; exact eB rfl; refine jz ?_; refine jjB ?_; refine jjC ?_; refine jm ?_; refine jn rfl ?_; refine jN rfl rfl rfl ?_)
  obtain ⟨B1, e1⟩ : ∃ B, wordsB x.2.2.1 = B := ⟨_, rfl⟩
  obtain ⟨B2, e2⟩ : ∃ B, wordsB x.2.2.2 = B := ⟨_, rfl⟩
  obtain ⟨B3, e3⟩ : ∃ B, wordB x.2.1 = B := ⟨_, rfl⟩
  refine jjQ ((words_slip _ x.2.2.1 h2).mono fun v _ _ h => by rw [e1] at h; exact h) rfl rfl ?_
  rintro _ w2 hS2 ⟨sv, rfl, -⟩
  (apply jI; exact eU rfl; refine ju rfl rfl ?_; refine ju rfl rfl ?_; apply jJ; exact rfl; apply jJ; exact eB rfl; refine jz ?_; refine jjB ?_; refine jjC ?_; refine jm ?_; refine jn rfl ?_; refine jN rfl rfl rfl ?_)
  refine jjQ ((words_slip _ x.2.2.2 h3).mono fun v _ _ h => by rw [e2] at h; exact h) rfl rfl ?_
  rintro _ w3 hS3 ⟨sv2, rfl, -⟩
  rw [slipB, e1, e2, e3]
  cases B1
  · (apply jI; exact eU rfl; refine ju rfl rfl ?_; refine ju rfl rfl ?_; apply jJ; exact rfl; apply jJ; exact eB rfl; refine jz ?_; refine jjB ?_; refine jjC ?_; apply jI; exact eB rfl; apply jI; exact eB rfl; refine jU rfl rfl rfl rfl ?_; apply jL rfl; exact eB rfl; apply jI; exact eB rfl; refine jU rfl rfl rfl rfl ?_; refine jU rfl rfl rfl rfl ?_; refine jU rfl rfl rfl rfl ?_; apply jL rfl; exact eB rfl; apply jJ; exact eB rfl; refine jz ?_; refine jjF ?_; refine jB rfl rfl ⟨inferInstance, ?_⟩)
    exact rfl
  cases B2
  · (apply jI; exact eU rfl; refine ju rfl rfl ?_; refine ju rfl rfl ?_; apply jJ; exact rfl; apply jJ; exact eB rfl; refine jz ?_; refine jjB ?_; refine jjC ?_; apply jI; exact eB rfl; apply jI; exact eB rfl; refine jT rfl rfl rfl ?_; apply jI; exact eB rfl; apply jK rfl; exact eB rfl; apply jI; exact eB rfl; refine jU rfl rfl rfl rfl ?_; refine jU rfl rfl rfl rfl ?_; refine jU rfl rfl rfl rfl ?_; apply jL rfl; exact eB rfl; apply jJ; exact eB rfl; refine jz ?_; refine jjF ?_; refine jB rfl rfl ⟨inferInstance, ?_⟩)
    exact rfl
  (apply jI; exact eU rfl; refine ju rfl rfl ?_; refine ju rfl rfl ?_; apply jJ; exact rfl; apply jJ; exact eB rfl; refine jz ?_; refine jjB ?_; refine jjC ?_; apply jI; exact eB rfl; apply jI; exact eB rfl; refine jT rfl rfl rfl ?_; apply jI; exact eB rfl; apply jK rfl; exact eB rfl; apply jI; exact eB rfl; refine jT rfl rfl rfl ?_; refine jm ?_; refine jn rfl ?_; refine jT rfl rfl rfl ?_; refine jN rfl rfl rfl ?_; refine jT rfl rfl rfl ?_)
  refine jjQ ((word_slip x.2.1 _ (by omega)).mono fun v _ _ h => h.trans (by rw [e3])) rfl rfl ?_
  rintro _ w4 hS4 rfl
  (apply jK rfl; exact eB rfl; apply jJ; exact eB rfl; refine jz ?_; refine jjF ?_; refine jB rfl rfl ⟨inferInstance, ?_⟩)
  exact rfl
set_option maxHeartbeats 2000000 in
theorem Order_slip (x y : Slp) (hx : SmallS x) (hy : SmallS y) : Ct Tryd.prog 20 [encSl x, encSl y] w fun v _ => v = .tuple #[.int .i64 (ordR x y).1, .int .i64 (ordR x y).2] := by
  refine Ct.ofW (by simp) ?_
  (refine jjB ?_; refine jjC ?_)
  (refine jy rfl ?_; intro b2 w_b2 hb_b2 hs_b2 hS_b2 hk_b2; have hA_b2 := At.ofBlock hk_b2)
  skip
  (refine jy rfl ?_; intro b3 w_b3 hb_b3 hs_b3 hS_b3 hk_b3; have hA_b3 := At.ofBlock hk_b3)
  obtain ⟨B1, e1⟩ : ∃ B, slipB x = B := ⟨_, rfl⟩
  obtain ⟨B2, e2⟩ : ∃ B, slipB y = B := ⟨_, rfl⟩
  (apply jJ; exact eI rfl; apply jJ; exact eI rfl; refine jz ?_; refine jjB ?_; refine jjB ?_; refine jjC ?_; refine jO rfl rfl rfl rfl ?_)
  refine jjQ ((right_slip _ x hx).mono fun v _ _ h => h.trans (by rw [e1])) rfl rfl ?_
  rintro _ w2 hS2 rfl
  rw [ordR, e1, e2]
  cases B1
  · (refine jq rfl ?_; apply jI; exact eB rfl; refine jU rfl rfl rfl rfl ?_; refine jU rfl rfl rfl rfl ?_; refine jU rfl rfl rfl rfl ?_; apply jK rfl; exact eB rfl; refine jz ?_; refine jjJ rfl ?_; refine jjB ?_; refine jjC ?_; apply jJ; exact eI rfl; apply jJ; exact eI rfl; refine jz ?_; refine jjF ?_; refine jC rfl rfl rfl ⟨inferInstance, ?_⟩)
    exact rfl
  (refine jp rfl ?_; apply jI; exact eB rfl; refine jT rfl rfl rfl ?_; refine jO rfl rfl rfl rfl ?_; refine jT rfl rfl rfl ?_)
  refine jjQ ((right_slip _ y hy).mono fun v _ _ h => h.trans (by rw [e2])) rfl rfl ?_
  rintro _ w3 hS3 rfl
  cases B2
  · (refine jT rfl rfl rfl ?_; refine jq rfl ?_; apply jL rfl; exact eB rfl; refine jz ?_; refine jjJ rfl ?_; refine jjB ?_; refine jjC ?_; apply jJ; exact eI rfl; apply jJ; exact eI rfl; refine jz ?_; refine jjF ?_; refine jC rfl rfl rfl ⟨inferInstance, ?_⟩)
    exact rfl
  (refine jT rfl rfl rfl ?_; refine jp rfl ?_; apply jL rfl; exact eB rfl; refine jz ?_; refine jjK rfl ?_; refine jjG ?_; refine jjB ?_)
  refine W.draw (fun w' => Ext w3 w') ?_
  intro w1 hS1
  have x1 := hS1.ext
  (refine jjV [0, 1, 2, 3, 5, 6, 7, 8, 10, 11, 12, 13, 15, 16, 17, 18] ?_ ?_ ?_; (decide +kernel); (exact x1); (((apply jjT; exact rfl; rintro w' hq; have := hq.toStep; refine jm ?_; refine jn rfl ?_; refine jz ?_; exact ⟨rfl, rfl⟩; apply jjT; exact rfl; rintro w' hq; have := hq.toStep; refine jN rfl rfl rfl ?_; refine jz ?_; exact ⟨rfl, rfl⟩; apply jjT; exact rfl; rintro w' hq; have := hq.toStep; refine jm ?_; refine jn rfl ?_; refine jz ?_; exact ⟨rfl, rfl⟩; apply jjT; exact rfl; rintro w' hq; have := hq.toStep; refine jN rfl rfl rfl ?_; refine jz ?_; exact ⟨rfl, rfl⟩; apply jjT; exact rfl; rintro w' hq; have := hq.toStep; refine jm ?_; refine jn rfl ?_; refine jz ?_; exact ⟨rfl, rfl⟩; apply jjT; exact rfl; rintro w' hq; have := hq.toStep; refine jO rfl rfl rfl rfl ?_; refine jz ?_; exact ⟨rfl, rfl⟩; apply jjT; exact rfl; rintro w' hq; have := hq.toStep; refine jm ?_; refine jn rfl ?_; refine jz ?_; exact ⟨rfl, rfl⟩; apply jjT; exact rfl; rintro w' hq; have := hq.toStep; refine jO rfl rfl rfl rfl ?_; refine jz ?_; exact ⟨rfl, rfl⟩; apply jjT; exact rfl; rintro w' hq; have := hq.toStep; refine jm ?_; refine jn rfl ?_; refine jz ?_; exact ⟨rfl, rfl⟩; apply jjT; exact rfl; rintro w' hq; have := hq.toStep; refine jN rfl rfl rfl ?_; refine jz ?_; exact ⟨rfl, rfl⟩; apply jjT; exact rfl; rintro w' hq; have := hq.toStep; refine jm ?_; refine jn rfl ?_; refine jz ?_; exact ⟨rfl, rfl⟩; apply jjT; exact rfl; rintro w' hq; have := hq.toStep; refine jN rfl rfl rfl ?_; refine jz ?_; exact ⟨rfl, rfl⟩; apply jjT; exact rfl; rintro w' hq; have := hq.toStep; refine jm ?_; refine jn rfl ?_; refine jz ?_; exact ⟨rfl, rfl⟩; apply jjT; exact rfl; rintro w' hq; have := hq.toStep; refine jN rfl rfl rfl ?_; refine jz ?_; exact ⟨rfl, rfl⟩; apply jjT; exact rfl; rintro w' hq; have := hq.toStep; refine jm ?_; refine jn rfl ?_; refine jz ?_; exact ⟨rfl, rfl⟩; apply jjT; exact rfl; rintro w' hq; have := hq.toStep; refine jN rfl rfl rfl ?_; refine jz ?_; exact ⟨rfl, rfl⟩; refine jjU ?_))))
  (apply jjW 4; (decide +kernel); exact rfl; (exact x1))
  refine jjQ (Compare_str _ _ _) rfl rfl ?_
  rintro _ w4 hS4 rfl
  refine jz ?_
  have x2 := x1.trans hS4.ext
  (apply jjW 9; (decide +kernel); exact rfl; (exact x2))
  refine jjQ (places_slip x.1 y.1 _) rfl rfl ?_
  rintro _ w5 hS5 rfl
  refine jz ?_
  have x3 := x2.trans hS5.ext
  (apply jjW 14; (decide +kernel); exact rfl; (exact x3))
  refine jjQ (Compare_str _ _ _) rfl rfl ?_
  rintro _ w6 hS6 rfl
  refine jz ?_
  have x4 := x3.trans hS6.ext
  (apply jjW 19; (decide +kernel); exact rfl; (exact x4))
  refine jjQ (Compare_str _ _ _) rfl rfl ?_
  rintro _ w7 hS7 rfl
  refine jz ?_
  have x5 := x4.trans hS7.ext
  (apply jjW 20; (decide +kernel); exact rfl; (exact x5))
  refine Ops.buildSlice4 (v1 := .int .i64 (cmpS x.2.1 y.2.1)) (v2 := .int .i64 (cmpP x.1 y.1)) (v3 := .int .i64 (cmpS x.2.2.2 y.2.2.2)) (v4 := .int .i64 (cmpS x.2.2.1 y.2.2.1)) rfl rfl rfl rfl rfl rfl rfl rfl rfl ?_
  intro b8 w8 hb8 hs8 hS8 hk8
  refine jz ?_
  have x6 := x5.trans hS8.ext
  (apply jjW 21; (decide +kernel); exact rfl; (exact x6))
  have hr8 : RowV w8 false 1 (.slice (some ⟨b8, 0, none⟩) 4 4) ([cmpS x.2.1 y.2.1, cmpP x.1 y.1, cmpS x.2.2.2 y.2.2.2, cmpS x.2.2.1 y.2.2.1].map intV) := hk8.row (fun x hx => by simp at hx; rcases hx with rfl | rfl | rfl | rfl <;> rfl) (by simp)
  refine jjQ (Or_int _ _ _ [cmpS x.2.1 y.2.1, cmpP x.1 y.1, cmpS x.2.2.2 y.2.2.2, cmpS x.2.2.1 y.2.2.1] _ rfl hr8) rfl rfl ?_
  rintro _ w9 hS9 rfl
  refine jz ?_
  have x7 := x6.trans hS9.ext
  (refine jjV [22, 23] ?_ ?_ ?_; (decide +kernel); (exact x7); (((apply jjT; exact rfl; rintro w' hq; apply jJ; exact eI rfl; refine jz ?_; exact ⟨rfl, rfl⟩; apply jjT; exact rfl; rintro w' hq; apply jJ; exact eI rfl; refine jz ?_; exact ⟨rfl, rfl⟩; refine jjU ?_))))
  refine jjX (by decide +kernel) x7 ?_
  have := x7.toStep
  (refine jjF ?_; refine jC rfl rfl rfl ⟨inferInstance, ?_⟩)
  exact rfl
end
end Go.Proofs.YtgmgiepdehlinaaDoor

/- The reference: the order of slips. -/
namespace Go.Proofs.YtgmgiepdehlinaaDoor
open Go.RowKit

theorem texts_ref3 (x y : ByteArray) (w : World) : Ct Tryd.prog 42 [.string x, .string y] w fun v _ => v = .int .i64 (cmpS x y) := by
  refine Ct.ofW (by simp) ?_
  (refine jjB ?_; refine jjC ?_; apply jJ; exact eI rfl; refine jz ?_; refine jjB ?_; refine jjD ?_; refine jjB ?_; refine jjC ?_; apply jI; exact eT rfl; apply jI; exact eT rfl)
  refine Ops.lssS rfl rfl ?_
  obtain ⟨B, hB⟩ : ∃ B, Op.bytesLess x.toList y.toList = B := ⟨_, rfl⟩
  rw [cmpS, hB]
  cases B
  · (apply jJ; exact eB rfl; refine jz ?_; refine jjK rfl ?_; refine jjB ?_; refine jjC ?_; apply jI; exact eT rfl; apply jI; exact eT rfl)
    refine Ops.gtrS rfl rfl ?_
    rw [hB, beqS, Bool.false_or]
    by_cases e : x = y
    · rw [decide_eq_true e, if_pos e]
      (apply jJ; exact eB rfl; refine jz ?_; refine jjK rfl ?_; refine jjG ?_; refine jjB ?_; refine jjC ?_; apply jJ; exact eI rfl; refine jz ?_; refine jjF ?_; refine jB rfl rfl ⟨inferInstance, ?_⟩)
      exact rfl
    · rw [decide_eq_false e, if_neg e]
      (apply jJ; exact eB rfl; refine jz ?_; refine jjJ rfl ?_; refine jjB ?_; refine jjC ?_; apply jJ; exact eI rfl; refine jz ?_; refine jjF ?_; refine jB rfl rfl ⟨inferInstance, ?_⟩)
      exact rfl
  · (apply jJ; exact eB rfl; refine jz ?_; refine jjJ rfl ?_; refine jjB ?_; refine jjC ?_; apply jJ; exact eI rfl; refine jz ?_; refine jjF ?_; refine jB rfl rfl ⟨inferInstance, ?_⟩)
    exact rfl
set_option maxHeartbeats 1000000 in
theorem Slip_ref3 (x : Slp) (w : World) (hx : SmallS x) : Ct Tryd.prog 41 [encSl x] w fun v _ => v = .bool (slipB x) := by
  obtain ⟨h1, h2, h3⟩ := hx
  refine Ct.ofW (by simp) ?_
  (refine jjB ?_; refine jjC ?_)
  (refine jy rfl ?_; intro b1 w_b1 hb_b1 hs_b1 hS_b1 hk_b1; have hA_b1 := At.ofBlock hk_b1)
  (apply jJ; exact eB rfl; refine jz ?_; refine jjB ?_; refine jjC ?_; refine jm ?_; refine jn rfl ?_; refine jN rfl rfl rfl ?_)
  obtain ⟨B1, e1⟩ : ∃ B, wordsB x.2.2.1 = B := ⟨_, rfl⟩
  obtain ⟨B2, e2⟩ : ∃ B, wordsB x.2.2.2 = B := ⟨_, rfl⟩
  obtain ⟨B3, e3⟩ : ∃ B, wordB x.2.1 = B := ⟨_, rfl⟩
  refine jjQ ((parts_ref3 x.2.2.1 _ h2).mono fun v _ _ h => by rw [e1] at h; exact h) rfl rfl ?_
  rintro _ w2 hS2 ⟨sv, rfl, -⟩
  (apply jI; exact eU rfl; refine ju rfl rfl ?_; refine ju rfl rfl ?_; apply jJ; exact rfl; apply jJ; exact eB rfl; refine jz ?_; refine jjB ?_; refine jjC ?_; refine jm ?_; refine jn rfl ?_; refine jN rfl rfl rfl ?_)
  refine jjQ ((parts_ref3 x.2.2.2 _ h3).mono fun v _ _ h => by rw [e2] at h; exact h) rfl rfl ?_
  rintro _ w3 hS3 ⟨sv2, rfl, -⟩
  rw [slipB, e1, e2, e3]
  cases B1
  · (apply jI; exact eU rfl; refine ju rfl rfl ?_; refine ju rfl rfl ?_; apply jJ; exact rfl; apply jJ; exact eB rfl; refine jz ?_; refine jjB ?_; refine jjC ?_; apply jI; exact eB rfl; apply jI; exact eB rfl; refine jU rfl rfl rfl rfl ?_; apply jL rfl; exact eB rfl; apply jI; exact eB rfl; refine jU rfl rfl rfl rfl ?_; refine jU rfl rfl rfl rfl ?_; refine jU rfl rfl rfl rfl ?_; apply jL rfl; exact eB rfl; apply jJ; exact eB rfl; refine jz ?_; refine jjF ?_; refine jB rfl rfl ⟨inferInstance, ?_⟩)
    exact rfl
  cases B2
  · (apply jI; exact eU rfl; refine ju rfl rfl ?_; refine ju rfl rfl ?_; apply jJ; exact rfl; apply jJ; exact eB rfl; refine jz ?_; refine jjB ?_; refine jjC ?_; apply jI; exact eB rfl; apply jI; exact eB rfl; refine jT rfl rfl rfl ?_; apply jI; exact eB rfl; apply jK rfl; exact eB rfl; apply jI; exact eB rfl; refine jU rfl rfl rfl rfl ?_; refine jU rfl rfl rfl rfl ?_; refine jU rfl rfl rfl rfl ?_; apply jL rfl; exact eB rfl; apply jJ; exact eB rfl; refine jz ?_; refine jjF ?_; refine jB rfl rfl ⟨inferInstance, ?_⟩)
    exact rfl
  (apply jI; exact eU rfl; refine ju rfl rfl ?_; refine ju rfl rfl ?_; apply jJ; exact rfl; apply jJ; exact eB rfl; refine jz ?_; refine jjB ?_; refine jjC ?_; apply jI; exact eB rfl; apply jI; exact eB rfl; refine jT rfl rfl rfl ?_; apply jI; exact eB rfl; apply jK rfl; exact eB rfl; apply jI; exact eB rfl; refine jT rfl rfl rfl ?_; refine jm ?_; refine jn rfl ?_; refine jT rfl rfl rfl ?_; refine jN rfl rfl rfl ?_; refine jT rfl rfl rfl ?_)
  refine jjQ ((Word_ref x.2.1 _ (by omega)).mono fun v _ _ h => h.trans (by rw [e3])) rfl rfl ?_
  rintro _ w4 hS4 rfl
  (apply jK rfl; exact eB rfl; apply jJ; exact eB rfl; refine jz ?_; refine jjF ?_; refine jB rfl rfl ⟨inferInstance, ?_⟩)
  exact rfl
theorem bytesLess_irr : ∀ l : List UInt8, Op.bytesLess l l = false
  | [] => rfl
  | c :: l => by simp [Op.bytesLess, bytesLess_irr l]
theorem cmpS_self (x : ByteArray) : cmpS x x = 0 := by rw [cmpS, bytesLess_irr]; simp
theorem cmpS_ne {x y : ByteArray} (h : x ≠ y) : cmpS x y ≠ 0 := by
  unfold cmpS
  repeat' split
  all_goals (first | decide | (exfalso; exact h ‹_›))
set_option maxHeartbeats 2000000 in
theorem Order_ref3 (x y : Slp) (w : World) (hx : SmallS x) (hy : SmallS y) : Ct Tryd.prog 21 [encSl x, encSl y] w fun v _ => v = .tuple #[.int .i64 (ordR x y).1, .int .i64 (ordR x y).2] := by
  refine Ct.ofW (by simp) ?_
  (refine jjB ?_; refine jjC ?_)
  (refine jy rfl ?_; intro b2 w_b2 hb_b2 hs_b2 hS_b2 hk_b2; have hA_b2 := At.ofBlock hk_b2)
  skip
  (refine jy rfl ?_; intro b3 w_b3 hb_b3 hs_b3 hS_b3 hk_b3; have hA_b3 := At.ofBlock hk_b3)
  obtain ⟨B1, e1⟩ : ∃ B, slipB x = B := ⟨_, rfl⟩
  obtain ⟨B2, e2⟩ : ∃ B, slipB y = B := ⟨_, rfl⟩
  (apply jJ; exact eI rfl; apply jJ; exact eI rfl; refine jz ?_; refine jjB ?_; refine jjB ?_; refine jjC ?_; refine jO rfl rfl rfl rfl ?_)
  refine jjQ ((Slip_ref3 x _ hx).mono fun v _ _ h => h.trans (by rw [e1])) rfl rfl ?_
  rintro _ w2 hS2 rfl
  rw [ordR, e1, e2]
  cases B1
  · (refine jq rfl ?_; apply jI; exact eB rfl; refine jU rfl rfl rfl rfl ?_; refine jU rfl rfl rfl rfl ?_; refine jU rfl rfl rfl rfl ?_; apply jK rfl; exact eB rfl; refine jz ?_; refine jjJ rfl ?_; refine jjB ?_; refine jjC ?_; apply jJ; exact eI rfl; apply jJ; exact eI rfl; refine jz ?_; refine jjF ?_; refine jC rfl rfl rfl ⟨inferInstance, ?_⟩)
    exact rfl
  (refine jp rfl ?_; apply jI; exact eB rfl; refine jT rfl rfl rfl ?_; refine jO rfl rfl rfl rfl ?_; refine jT rfl rfl rfl ?_)
  refine jjQ ((Slip_ref3 y _ hy).mono fun v _ _ h => h.trans (by rw [e2])) rfl rfl ?_
  rintro _ w3 hS3 rfl
  cases B2
  · (refine jT rfl rfl rfl ?_; refine jq rfl ?_; apply jL rfl; exact eB rfl; refine jz ?_; refine jjJ rfl ?_; refine jjB ?_; refine jjC ?_; apply jJ; exact eI rfl; apply jJ; exact eI rfl; refine jz ?_; refine jjF ?_; refine jC rfl rfl rfl ⟨inferInstance, ?_⟩)
    exact rfl
  rw [show (if (true && true) = true then (ordS x y, (0 : Int)) else (0, 31)) = (ordS x y, 0) from rfl]
  (refine jT rfl rfl rfl ?_; refine jp rfl ?_; apply jL rfl; exact eB rfl; refine jz ?_; refine jjK rfl ?_; refine jjG ?_; refine jjB ?_; refine jjD ?_; refine jjB ?_; refine jjC ?_; refine jm ?_; refine jn rfl ?_; refine jN rfl rfl rfl ?_; refine jm ?_; refine jn rfl ?_; refine jN rfl rfl rfl ?_)
  refine Ops.neqS rfl rfl ?_
  by_cases c1 : x.2.1 = y.2.1
  rotate_left
  · rw [decide_eq_true c1]
    (apply jJ; exact eB rfl; refine jz ?_; refine jjJ rfl ?_; refine jjB ?_; refine jjC ?_; refine jm ?_; refine jn rfl ?_; refine jN rfl rfl rfl ?_; refine jm ?_; refine jn rfl ?_; refine jN rfl rfl rfl ?_)
    refine jjQ (texts_ref3 _ _ _) rfl rfl ?_
    rintro _ w4 hS4 rfl
    (apply jJ; exact eI rfl; apply jJ; exact eI rfl; refine jz ?_; refine jjF ?_; refine jC rfl rfl rfl ⟨inferInstance, ?_⟩)
    rw [ordS, orF, if_neg (cmpS_ne c1)]; exact rfl
  rw [decide_eq_false (fun h => h c1)]
  have o1 : ordS x y = orF [cmpP x.1 y.1, cmpS x.2.2.2 y.2.2.2, cmpS x.2.2.1 y.2.2.1] := by rw [ordS, orF, c1, cmpS_self, if_pos rfl]
  (apply jJ; exact eB rfl; refine jz ?_; refine jjK rfl ?_; refine jjB ?_; refine jjC ?_; refine jm ?_; refine jn rfl ?_; refine jO rfl rfl rfl rfl ?_; refine jm ?_; refine jn rfl ?_; refine jO rfl rfl rfl rfl ?_)
  refine Ops.neqT (enc := encPl) x.1 y.1 rfl rfl ?_
  by_cases c2 : x.1 = y.1
  rotate_left
  · rw [decide_eq_true c2]
    (apply jJ; exact eB rfl; refine jz ?_; refine jjJ rfl ?_; refine jjB ?_; refine jjB ?_; refine jjC ?_; refine jm ?_; refine jn rfl ?_; refine jO rfl rfl rfl rfl ?_; refine jm ?_; refine jn rfl ?_; refine jO rfl rfl rfl rfl ?_)
    obtain ⟨B, hB⟩ : ∃ B, befP x.1 y.1 = B := ⟨_, rfl⟩
    refine jjQ ((Before_ref1 x.1 y.1 _).mono fun v _ _ h => h.trans (by rw [hB])) rfl rfl ?_
    rintro _ w4 hS4 rfl
    cases B
    · (refine jz ?_; refine jjK rfl ?_; refine jjG ?_; refine jjB ?_; refine jjC ?_; apply jJ; exact eI rfl; apply jJ; exact eI rfl; refine jz ?_; refine jjF ?_; refine jC rfl rfl rfl ⟨inferInstance, ?_⟩)
      rw [o1, cmpP_gt hB c2]; exact rfl
    · (refine jz ?_; refine jjJ rfl ?_; refine jjB ?_; refine jjC ?_; apply jJ; exact eI rfl; apply jJ; exact eI rfl; refine jz ?_; refine jjF ?_; refine jC rfl rfl rfl ⟨inferInstance, ?_⟩)
      rw [o1, cmpP_lt hB]; exact rfl
  rw [decide_eq_false (fun h => h c2)]
  have o2 : ordS x y = orF [cmpS x.2.2.2 y.2.2.2, cmpS x.2.2.1 y.2.2.1] := by rw [o1, orF, c2, cmpP_self, if_pos rfl]
  (apply jJ; exact eB rfl; refine jz ?_; refine jjK rfl ?_; refine jjB ?_; refine jjC ?_; refine jm ?_; refine jn rfl ?_; refine jN rfl rfl rfl ?_; refine jm ?_; refine jn rfl ?_; refine jN rfl rfl rfl ?_)
  refine Ops.neqS rfl rfl ?_
  by_cases c3 : x.2.2.2 = y.2.2.2
  rotate_left
  · rw [decide_eq_true c3]
    (apply jJ; exact eB rfl; refine jz ?_; refine jjJ rfl ?_; refine jjB ?_; refine jjC ?_; refine jm ?_; refine jn rfl ?_; refine jN rfl rfl rfl ?_; refine jm ?_; refine jn rfl ?_; refine jN rfl rfl rfl ?_)
    refine jjQ (texts_ref3 _ _ _) rfl rfl ?_
    rintro _ w4 hS4 rfl
    (apply jJ; exact eI rfl; apply jJ; exact eI rfl; refine jz ?_; refine jjF ?_; refine jC rfl rfl rfl ⟨inferInstance, ?_⟩)
    rw [o2, orF, if_neg (cmpS_ne c3)]; exact rfl
  rw [decide_eq_false (fun h => h c3)]
  have o3 : ordS x y = cmpS x.2.2.1 y.2.2.1 := by
    rw [o2, orF, c3, cmpS_self, if_pos rfl, orF, orF]
    split
    · exact Eq.symm ‹_›
    · rfl
  (apply jJ; exact eB rfl; refine jz ?_; refine jjK rfl ?_; refine jjG ?_; refine jjB ?_; refine jjC ?_; refine jm ?_; refine jn rfl ?_; refine jN rfl rfl rfl ?_; refine jm ?_; refine jn rfl ?_; refine jN rfl rfl rfl ?_)
  refine jjQ (texts_ref3 _ _ _) rfl rfl ?_
  rintro _ w4 hS4 rfl
  (apply jJ; exact eI rfl; apply jJ; exact eI rfl; refine jz ?_; refine jjF ?_; refine jC rfl rfl rfl ⟨inferInstance, ?_⟩)
  rw [o3]; exact rfl
end Go.Proofs.YtgmgiepdehlinaaDoor

/- Comparisons of lists, element by element. -/
namespace Go.Proofs.YtgmgiepdehlinaaDoor
open Go.RowKit

set_option maxHeartbeats 1000000 in
theorem same_words1 (a1 a2 : Option Addr) (c1 c2 n1 n2 : Nat) (xs ys : List ByteArray) (w : World) (h1 : xs.length = n1) (h2 : ys.length = n2) (hx : RowV w false 1 (.slice a1 n1 c1) (xs.map strV)) (hy : RowV w false 1 (.slice a2 n2 c2) (ys.map strV)) : Ct Tryd.prog 37 [.slice a1 n1 c1, .slice a2 n2 c2] w fun v _ => v = .bool (decide (xs = ys)) := by
  subst h1 h2
  have hlx := hx.len
  have hly := hy.len
  rw [List.length_map] at hlx hly
  refine Ct.ofW (by simp) ?_
  by_cases hl : xs.length = ys.length
  rotate_left
  · (refine jjB ?_; refine jjC ?_; apply jJ; exact eB rfl; refine jz ?_; refine jjB ?_; refine jjB ?_; refine jjC ?_; apply jI; exact eS rfl; refine jh rfl ?_; apply jI; exact eS rfl; refine jh rfl ?_; refine jjj rfl rfl (by omega) ?_; refine jz ?_; refine jjJ rfl ?_; refine jjB ?_; refine jjC ?_; apply jJ; exact eB rfl; refine jz ?_; refine jjF ?_; refine jB rfl rfl ⟨inferInstance, ?_⟩)
    rw [decide_eq_false (fun e => hl (by rw [e]))]; exact rfl
  (refine jjB ?_; refine jjC ?_; apply jJ; exact eB rfl; refine jz ?_; refine jjB ?_; refine jjB ?_; refine jjC ?_; apply jI; exact eS rfl; refine jh rfl ?_; apply jI; exact eS rfl; refine jh rfl ?_; refine jjk rfl rfl (by omega) ?_; refine jz ?_; refine jjK rfl ?_; refine jjG ?_; refine jjB ?_; refine jjB ?_; refine jjC ?_; apply jJ; exact eI rfl; refine jz ?_; refine jjD ?_)
  refine W.keep0 [(0, .slice a1 xs.length c1), (1, .slice a2 ys.length c2), (5, .int .i64 ((0 : Nat) : Int))] ⟨eS rfl, eS rfl, eI rfl, trivial⟩ fun s0 => ?_
  refine W.loop (11 :: 12 :: 13 :: 14 :: 17 :: 18 :: 19 :: 20 :: 21 :: 22 :: 23 :: 24 :: 25 :: 4 :: 15 :: 16 :: 5 :: []) (fun g s' V => ∃ k : Nat, s' 5 = .int .i64 ((k : Nat) : Int) ∧ g = xs.length - k ∧ k ≤ xs.length ∧ ∀ (j : Nat) (hj : j < xs.length), j < k → xs[j] = ys[j]'(by omega)) xs.length ⟨0, rfl, rfl, Nat.zero_le _, by intros; omega⟩ ?_
  rintro _ sd w1 hS1 ⟨k, h5, rfl, hk, hpre⟩
  refine W.fix h5 ?_
  clear h5
  by_cases hkl : k < xs.length
  rotate_left
  · have e : xs = ys := List.ext_getElem hl fun j hj _ => hpre j hj (by omega)
    (refine jjB ?_; refine jjB ?_; refine jjC ?_; apply jI; exact eI rfl; apply jI; exact eS rfl; refine jh rfl ?_; refine jja rfl rfl (by omega) ?_; refine jz ?_; refine jjK rfl ?_; refine jjE ?_; refine jjB ?_; refine jjC ?_; apply jJ; exact eB rfl; refine jz ?_; refine jjF ?_; refine jB rfl rfl ⟨inferInstance, ?_⟩)
    rw [decide_eq_true e]; exact rfl
  have hkl2 : k < ys.length := by omega
  obtain ⟨b1, o1, rfl, hA1⟩ := hx.place' (map_get hkl)
  obtain ⟨b2, o2, rfl, hA2⟩ := hy.place' (map_get hkl2)
  rw [Nat.mul_one] at hA1 hA2
  (refine jjB ?_; refine jjB ?_; refine jjC ?_; apply jI; exact eI rfl; apply jI; exact eS rfl; refine jh rfl ?_; refine jjZ rfl rfl (by omega) ?_; refine jz ?_; refine jjJ rfl ?_; refine jjG ?_; refine jjB ?_; refine jjD ?_; refine jjB ?_)
  refine W.draw (fun w' => Ext w w') ?_
  intro w2 hS2
  have hE2 : Ext w w2 := hS1.ext.trans hS2.ext
  (refine jjV [0, 1, 2, 3, 4, 5, 6, 7] ?_ ?_ ?_; (decide +kernel); (exact hE2); (((apply jjT; exact rfl; rintro w' hq; have := hq.toStep; apply jI; exact eS rfl; refine jz ?_; exact ⟨rfl, rfl⟩; apply jjT; exact rfl; rintro w' hq; have := hq.toStep; apply jI; exact eI rfl; refine jz ?_; exact ⟨rfl, rfl⟩; apply jjT; exact rfl; rintro w' hq; have := hq.toStep; refine jG rfl rfl rfl (by omega) ?_; refine jz ?_; exact ⟨rfl, rfl⟩; apply jjT; exact rfl; rintro w' hq; have := hq.toStep; refine jQ rfl rfl ?_; refine jz ?_; exact ⟨rfl, rfl⟩; apply jjT; exact rfl; rintro w' hq; have := hq.toStep; apply jI; exact eS rfl; refine jz ?_; exact ⟨rfl, rfl⟩; apply jjT; exact rfl; rintro w' hq; have := hq.toStep; apply jI; exact eI rfl; refine jz ?_; exact ⟨rfl, rfl⟩; apply jjT; exact rfl; rintro w' hq; have := hq.toStep; refine jG rfl rfl rfl (by omega) ?_; refine jz ?_; exact ⟨rfl, rfl⟩; apply jjT; exact rfl; rintro w' hq; have := hq.toStep; refine jQ rfl rfl ?_; refine jz ?_; exact ⟨rfl, rfl⟩; refine jjU ?_))))
  by_cases hkj : xs[k] = ys[k]
  · refine jjV [8] (by decide +kernel) hE2 (jjT (v := .bool false) rfl (fun w' q1 => ?_) (jjU ?_)); (refine Ops.neqS (a := xs[k]) (b := ys[k]) rfl rfl ?_; rw [decide_eq_false (by simp [hkj])]; refine jz ?_; exact ⟨rfl, rfl⟩)
    refine jjX (by decide +kernel) hE2 ?_
    (refine jjK rfl ?_; refine jjG ?_; refine jjC ?_; apply jI; exact eI rfl; refine jY rfl rfl (by omega) ?_; apply jJ; exact eI rfl; refine jz ?_)
    refine ⟨rfl, by ((refine Same.upd rfl ?_; refine Same.upd rfl ?_; refine Same.upd rfl ?_; refine Same.upd rfl ?_; refine Same.upd rfl ?_; refine Same.upd rfl ?_; refine Same.upd rfl ?_; refine Same.upd rfl ?_; refine Same.upd rfl ?_; refine Same.upd rfl ?_; refine Same.upd rfl ?_; refine Same.upd rfl ?_; refine Same.upd rfl ?_; refine Same.upd rfl ?_; refine Same.upd rfl ?_; refine Same.upd rfl ?_; refine Same.upd rfl ?_; exact Same.ovN)), xs.length - (k + 1), by omega, inferInstance, k + 1, congrArg (Value.int .i64) (by omega), rfl, by omega, fun j hj hjk => ?_⟩
    by_cases e : j = k
    · subst e; exact hkj
    · exact hpre j hj (by omega)
  · refine jjV [8] (by decide +kernel) hE2 (jjT (v := .bool true) rfl (fun w' q1 => ?_) (jjU ?_)); (refine Ops.neqS (a := xs[k]) (b := ys[k]) rfl rfl ?_; rw [decide_eq_true hkj]; refine jz ?_; exact ⟨rfl, rfl⟩)
    refine jjX (by decide +kernel) hE2 ?_
    (refine jjJ rfl ?_; refine jjB ?_; refine jjC ?_; apply jJ; exact eB rfl; refine jz ?_; refine jjF ?_; refine jB rfl rfl ⟨inferInstance, ?_⟩)
    rw [decide_eq_false (fun e => hkj (by simp only [e]))]; exact rfl

set_option maxHeartbeats 1000000 in
theorem same_slips3 (a1 a2 : Option Addr) (c1 c2 n1 n2 : Nat) (xs ys : List Slp) (w : World) (h1 : xs.length = n1) (h2 : ys.length = n2) (hx : RowV w true 6 (.slice a1 n1 c1) (xs.map encSl)) (hy : RowV w true 6 (.slice a2 n2 c2) (ys.map encSl)) : Ct Tryd.prog 15 [.slice a1 n1 c1, .slice a2 n2 c2] w fun v _ => v = .bool (decide (xs = ys)) := by
  subst h1 h2
  have hlx := hx.len
  have hly := hy.len
  rw [List.length_map] at hlx hly
  refine Ct.ofW (by simp) ?_
  by_cases hl : xs.length = ys.length
  rotate_left
  · (refine jjB ?_; refine jjC ?_; apply jJ; exact eB rfl; refine jz ?_; refine jjB ?_; refine jjB ?_; refine jjC ?_; apply jI; exact eS rfl; refine jh rfl ?_; apply jI; exact eS rfl; refine jh rfl ?_; refine jjj rfl rfl (by omega) ?_; refine jz ?_; refine jjJ rfl ?_; refine jjB ?_; refine jjC ?_; apply jJ; exact eB rfl; refine jz ?_; refine jjF ?_; refine jB rfl rfl ⟨inferInstance, ?_⟩)
    rw [decide_eq_false (fun e => hl (by rw [e]))]; exact rfl
  (refine jjB ?_; refine jjC ?_; apply jJ; exact eB rfl; refine jz ?_; refine jjB ?_; refine jjB ?_; refine jjC ?_; apply jI; exact eS rfl; refine jh rfl ?_; apply jI; exact eS rfl; refine jh rfl ?_; refine jjk rfl rfl (by omega) ?_; refine jz ?_; refine jjK rfl ?_; refine jjG ?_; refine jjB ?_; refine jjB ?_; refine jjC ?_; apply jJ; exact eI rfl; refine jz ?_; refine jjD ?_)
  refine W.keep0 [(0, .slice a1 xs.length c1), (1, .slice a2 ys.length c2), (5, .int .i64 ((0 : Nat) : Int))] ⟨eS rfl, eS rfl, eI rfl, trivial⟩ fun s0 => ?_
  refine W.loop (11 :: 12 :: 13 :: 14 :: 17 :: 18 :: 19 :: 20 :: 21 :: 22 :: 23 :: 24 :: 25 :: 4 :: 15 :: 16 :: 5 :: []) (fun g s' V => ∃ k : Nat, s' 5 = .int .i64 ((k : Nat) : Int) ∧ g = xs.length - k ∧ k ≤ xs.length ∧ ∀ (j : Nat) (hj : j < xs.length), j < k → xs[j] = ys[j]'(by omega)) xs.length ⟨0, rfl, rfl, Nat.zero_le _, by intros; omega⟩ ?_
  rintro _ sd w1 hS1 ⟨k, h5, rfl, hk, hpre⟩
  refine W.fix h5 ?_
  clear h5
  by_cases hkl : k < xs.length
  rotate_left
  · have e : xs = ys := List.ext_getElem hl fun j hj _ => hpre j hj (by omega)
    (refine jjB ?_; refine jjB ?_; refine jjC ?_; apply jI; exact eI rfl; apply jI; exact eS rfl; refine jh rfl ?_; refine jja rfl rfl (by omega) ?_; refine jz ?_; refine jjK rfl ?_; refine jjE ?_; refine jjB ?_; refine jjC ?_; apply jJ; exact eB rfl; refine jz ?_; refine jjF ?_; refine jB rfl rfl ⟨inferInstance, ?_⟩)
    rw [decide_eq_true e]; exact rfl
  have hkl2 : k < ys.length := by omega
  obtain ⟨b1, o1, rfl, hA1⟩ := hx.place' (map_get hkl)
  obtain ⟨b2, o2, rfl, hA2⟩ := hy.place' (map_get hkl2)
  (refine jjB ?_; refine jjB ?_; refine jjC ?_; apply jI; exact eI rfl; apply jI; exact eS rfl; refine jh rfl ?_; refine jjZ rfl rfl (by omega) ?_; refine jz ?_; refine jjJ rfl ?_; refine jjG ?_; refine jjB ?_; refine jjD ?_; refine jjB ?_)
  refine W.draw (fun w' => Ext w w') ?_
  intro w2 hS2
  have hE2 : Ext w w2 := hS1.ext.trans hS2.ext
  (refine jjV [0, 1, 2, 3, 4, 5, 6, 7] ?_ ?_ ?_; (decide +kernel); (exact hE2); (((apply jjT; exact rfl; rintro w' hq; have := hq.toStep; apply jI; exact eS rfl; refine jz ?_; exact ⟨rfl, rfl⟩; apply jjT; exact rfl; rintro w' hq; have := hq.toStep; apply jI; exact eI rfl; refine jz ?_; exact ⟨rfl, rfl⟩; apply jjT; exact rfl; rintro w' hq; have := hq.toStep; refine jH _ rfl rfl rfl (by omega) ?_; refine jz ?_; exact ⟨rfl, rfl⟩; apply jjT; exact rfl; rintro w' hq; have := hq.toStep; refine jQ rfl rfl ?_; refine jz ?_; exact ⟨rfl, rfl⟩; apply jjT; exact rfl; rintro w' hq; have := hq.toStep; apply jI; exact eS rfl; refine jz ?_; exact ⟨rfl, rfl⟩; apply jjT; exact rfl; rintro w' hq; have := hq.toStep; apply jI; exact eI rfl; refine jz ?_; exact ⟨rfl, rfl⟩; apply jjT; exact rfl; rintro w' hq; have := hq.toStep; refine jH _ rfl rfl rfl (by omega) ?_; refine jz ?_; exact ⟨rfl, rfl⟩; apply jjT; exact rfl; rintro w' hq; have := hq.toStep; refine jQ rfl rfl ?_; refine jz ?_; exact ⟨rfl, rfl⟩; refine jjU ?_))))
  by_cases hkj : xs[k] = ys[k]
  · refine jjV [8] (by decide +kernel) hE2 (jjT (v := .bool false) rfl (fun w' q1 => ?_) (jjU ?_)); (refine Ops.neqT (enc := encSl) xs[k] ys[k] rfl rfl ?_; rw [decide_eq_false (by simp [hkj])]; refine jz ?_; exact ⟨rfl, rfl⟩)
    refine jjX (by decide +kernel) hE2 ?_
    (refine jjK rfl ?_; refine jjG ?_; refine jjC ?_; apply jI; exact eI rfl; refine jY rfl rfl (by omega) ?_; apply jJ; exact eI rfl; refine jz ?_)
    refine ⟨rfl, by ((refine Same.upd rfl ?_; refine Same.upd rfl ?_; refine Same.upd rfl ?_; refine Same.upd rfl ?_; refine Same.upd rfl ?_; refine Same.upd rfl ?_; refine Same.upd rfl ?_; refine Same.upd rfl ?_; refine Same.upd rfl ?_; refine Same.upd rfl ?_; refine Same.upd rfl ?_; refine Same.upd rfl ?_; refine Same.upd rfl ?_; refine Same.upd rfl ?_; refine Same.upd rfl ?_; refine Same.upd rfl ?_; refine Same.upd rfl ?_; exact Same.ovN)), xs.length - (k + 1), by omega, inferInstance, k + 1, congrArg (Value.int .i64) (by omega), rfl, by omega, fun j hj hjk => ?_⟩
    by_cases e : j = k
    · subst e; exact hkj
    · exact hpre j hj (by omega)
  · refine jjV [8] (by decide +kernel) hE2 (jjT (v := .bool true) rfl (fun w' q1 => ?_) (jjU ?_)); (refine Ops.neqT (enc := encSl) xs[k] ys[k] rfl rfl ?_; rw [decide_eq_true hkj]; refine jz ?_; exact ⟨rfl, rfl⟩)
    refine jjX (by decide +kernel) hE2 ?_
    (refine jjJ rfl ?_; refine jjB ?_; refine jjC ?_; apply jJ; exact eB rfl; refine jz ?_; refine jjF ?_; refine jB rfl rfl ⟨inferInstance, ?_⟩)
    rw [decide_eq_false (fun e => hkj (by simp only [e]))]; exact rfl
end Go.Proofs.YtgmgiepdehlinaaDoor

/- The reference: Same (texts). -/
namespace Go.Proofs.YtgmgiepdehlinaaDoor
open Go.RowKit

section
variable (a a' : Option Addr) (c c' : Nat) (cs ds : List Ch) (w : World) [hrow : RowI w (.slice a cs.length c) true 2 (cs.map encCh)] [hT : TextI w cs] [hrow' : RowI w (.slice a' ds.length c') true 2 (ds.map encCh)] [hT' : TextI w ds]
set_option maxHeartbeats 4000000 in
theorem Same_ref1 (hs : SmallT cs) : Ct Tryd.prog 16 [.agg #[.slice a cs.length c], .agg #[.slice a' ds.length c']] w fun v _ => v = .bool (decide (txF cs = txF ds)) := by
  have hs1 := hs.1
  refine Ct.ofW (by simp) ?_
  (refine jjB ?_; refine jjC ?_)
  (refine jy rfl ?_; intro b2 w_b2 hb_b2 hs_b2 hS_b2 hk_b2; have hA_b2 := At.ofBlock hk_b2)
  skip
  (refine jy rfl ?_; intro b3 w_b3 hb_b3 hs_b3 hS_b3 hk_b3; have hA_b3 := At.ofBlock hk_b3)
  by_cases hl : cs.length = ds.length
  rotate_left
  · (apply jJ; exact eB rfl; refine jz ?_; refine jjB ?_; refine jjB ?_; refine jjC ?_; refine jm ?_; refine jn rfl ?_; refine jN rfl rfl rfl ?_; refine jh rfl ?_; refine jm ?_; refine jn rfl ?_; refine jN rfl rfl rfl ?_; refine jh rfl ?_; refine jjj rfl rfl (by omega) ?_; refine jz ?_; refine jjJ rfl ?_; refine jjB ?_; refine jjC ?_; apply jJ; exact eB rfl; refine jz ?_; refine jjF ?_; refine jB rfl rfl ⟨inferInstance, ?_⟩)
    rw [decide_eq_false (fun e => hl (by have := congrArg List.length e; rwa [txF_len, txF_len] at this))]; exact rfl
  (apply jJ; exact eB rfl; refine jz ?_; refine jjB ?_; refine jjB ?_; refine jjC ?_; refine jm ?_; refine jn rfl ?_; refine jN rfl rfl rfl ?_; refine jh rfl ?_; refine jm ?_; refine jn rfl ?_; refine jN rfl rfl rfl ?_; refine jh rfl ?_; refine jjk rfl rfl (by omega) ?_; refine jz ?_; refine jjK rfl ?_; refine jjG ?_; refine jjB ?_; refine jjB ?_; refine jjC ?_; apply jJ; exact eI rfl; refine jz ?_; refine jjD ?_)
  refine W.keep0 [(2, .pointer (some ⟨b2, 0, none⟩)), (3, .pointer (some ⟨b3, 0, none⟩)), (5, .int .i64 ((0 : Nat) : Int))] ⟨eP rfl, eP rfl, eI rfl, trivial⟩ fun s0 => ?_
  refine W.loop (16 :: 17 :: 18 :: 19 :: 20 :: 23 :: 24 :: 25 :: 26 :: 27 :: 28 :: 29 :: 30 :: 31 :: 32 :: 6 :: 7 :: 33 :: 34 :: 35 :: 36 :: 37 :: 38 :: 39 :: 40 :: 41 :: 42 :: 43 :: 44 :: 45 :: 46 :: 4 :: 8 :: 47 :: 48 :: 49 :: 50 :: 51 :: 54 :: 55 :: 56 :: 57 :: 58 :: 59 :: 60 :: 61 :: 62 :: 63 :: 64 :: 65 :: 52 :: 53 :: 21 :: 22 :: 5 :: []) (fun g s' V => ∃ k : Nat, s' 5 = .int .i64 ((k : Nat) : Int) ∧ g = cs.length - k ∧ k ≤ cs.length ∧ ∀ (j : Nat) (hj : j < cs.length), j < k → txC cs[j] = txC (ds[j]'(by omega))) cs.length ⟨0, rfl, rfl, Nat.zero_le _, by intros; omega⟩ ?_
  rintro _ sd w1 hS1 ⟨k, h5, rfl, hk, hpre⟩
  refine W.fix h5 ?_
  clear h5
  by_cases hkc : k < cs.length
  rotate_left
  · have e : txF cs = txF ds := by
      refine List.ext_getElem (by rw [txF_len, txF_len]; exact hl) fun j hj _ => ?_
      rw [txF_len] at hj
      simpa [txF] using hpre j hj (by omega)
    (refine jjB ?_; refine jjB ?_; refine jjC ?_; apply jI; exact eI rfl; refine jm ?_; refine jn rfl ?_; refine jN rfl rfl rfl ?_; refine jh rfl ?_; refine jja rfl rfl (by omega) ?_; refine jz ?_; refine jjK rfl ?_; refine jjE ?_; refine jjB ?_; refine jjC ?_; apply jJ; exact eB rfl; refine jz ?_; refine jjF ?_; refine jB rfl rfl ⟨inferInstance, ?_⟩)
    rw [decide_eq_true e]; exact rfl
  have hkd : k < ds.length := by omega
  obtain ⟨ba, oa, rfl, hA⟩ := hrow.h.place' (map_get hkc)
  obtain ⟨bd, od, rfl, hD⟩ := hrow'.h.place' (map_get hkd)
  (refine jjB ?_; refine jjB ?_; refine jjC ?_; apply jI; exact eI rfl; refine jm ?_; refine jn rfl ?_; refine jN rfl rfl rfl ?_; refine jh rfl ?_; refine jjZ rfl rfl (by omega) ?_; refine jz ?_; refine jjJ rfl ?_; refine jjG ?_; refine jjB ?_; refine jjD ?_; refine jjB ?_)
  refine W.draw (fun w' => Ext w_b3 w') ?_
  intro w2 hS2
  have hE2 : Ext w_b3 w2 := hS1.ext.trans hS2.ext
  (refine jjV [0, 1, 2, 3, 4, 5, 6, 7, 8, 9] ?_ ?_ ?_; (decide +kernel); (exact hE2); (((apply jjT; exact rfl; rintro w' hq; have := hq.toStep; refine jm ?_; refine jn rfl ?_; refine jz ?_; exact ⟨rfl, rfl⟩; apply jjT; exact rfl; rintro w' hq; have := hq.toStep; refine jN rfl rfl rfl ?_; refine jz ?_; exact ⟨rfl, rfl⟩; apply jjT; exact rfl; rintro w' hq; have := hq.toStep; apply jI; exact eI rfl; refine jz ?_; exact ⟨rfl, rfl⟩; apply jjT; exact rfl; rintro w' hq; have := hq.toStep; refine jH _ rfl rfl rfl (by omega) ?_; refine jz ?_; exact ⟨rfl, rfl⟩; apply jjT; exact rfl; rintro w' hq; have := hq.toStep; refine jQ rfl rfl ?_; refine jz ?_; exact ⟨rfl, rfl⟩; apply jjT; exact rfl; rintro w' hq; have := hq.toStep; refine jm ?_; refine jn rfl ?_; refine jz ?_; exact ⟨rfl, rfl⟩; apply jjT; exact rfl; rintro w' hq; have := hq.toStep; refine jN rfl rfl rfl ?_; refine jz ?_; exact ⟨rfl, rfl⟩; apply jjT; exact rfl; rintro w' hq; have := hq.toStep; apply jI; exact eI rfl; refine jz ?_; exact ⟨rfl, rfl⟩; apply jjT; exact rfl; rintro w' hq; have := hq.toStep; refine jH _ rfl rfl rfl (by omega) ?_; refine jz ?_; exact ⟨rfl, rfl⟩; apply jjT; exact rfl; rintro w' hq; have := hq.toStep; refine jQ rfl rfl ?_; refine jz ?_; exact ⟨rfl, rfl⟩; refine jjU ?_))))
  have hl6 := hE2.size
  refine AnyS.mono (K' := fun s w' => s 2 = .pointer (some ⟨b2, 0, none⟩) ∧ s 3 = .pointer (some ⟨b3, 0, none⟩) ∧ s 5 = .int .i64 ((k : Nat) : Int) ∧ (∃ b6 b7, s 6 = .pointer (some ⟨b6, 0, none⟩) ∧ s 7 = .pointer (some ⟨b7, 0, none⟩) ∧ At w' b6 0 [.int .i64 cs[k].1, .slice cs[k].2.1 cs[k].2.2.2.length cs[k].2.2.1] ∧ At w' b7 0 [.int .i64 ds[k].1, .slice ds[k].2.1 ds[k].2.2.2.length ds[k].2.2.1]) ∧ Ext w_b3 w' ∧ Same (16 :: 17 :: 18 :: 19 :: 20 :: 23 :: 24 :: 25 :: 26 :: 27 :: 28 :: 29 :: 30 :: 31 :: 32 :: 6 :: 7 :: 33 :: 34 :: 35 :: 36 :: 37 :: 38 :: 39 :: 40 :: 41 :: 42 :: 43 :: 44 :: 45 :: 46 :: 4 :: 8 :: 47 :: 48 :: 49 :: 50 :: 51 :: 54 :: 55 :: 56 :: 57 :: 58 :: 59 :: 60 :: 61 :: 62 :: 63 :: 64 :: 65 :: 52 :: 53 :: 21 :: 22 :: 5 :: []) (upds s0 [(2, .pointer (some ⟨b2, 0, none⟩)), (3, .pointer (some ⟨b3, 0, none⟩)), (5, .int .i64 ((0 : Nat) : Int))]) s) ?_ ?_
  rotate_left
  · refine jjl 10 11 (by decide +kernel) rfl rfl hE2 ?_ ?_
    · refine jjY ?_
      intro b6 wa hb6 hs6 hS6 hk6
      have k6 := Bk.of hk6
      refine jz ?_
      (apply jjW 11; (decide +kernel); exact rfl; (exact hE2.trans hS6.ext))
      refine jjY ?_
      intro b7 wb hb7 hs7 hS7 hk7
      have k7 := Bk.of hk7
      have m6 := k6.ext hS7.ext
      refine jz ?_
      have eb := (hE2.trans hS6.ext).trans hS7.ext
      have zb := hE2.size
      (apply jjW 12; (decide +kernel); exact rfl; (exact eb))
      refine Ops.store rfl rfl rfl rfl rfl ?_
      intro wc hpc
      have m7 := hpc.bk (k7) (by omega)
      have m6 : Bk wc b6 [.int .i64 cs[k].1, .slice cs[k].2.1 cs[k].2.2.2.length cs[k].2.2.1] 68 := ⟨hpc.new⟩
      refine jz ?_
      have ec := hpc.ext eb (by omega)
      (apply jjW 13; (decide +kernel); exact rfl; (exact ec))
      refine Ops.store rfl rfl rfl rfl rfl ?_
      intro wd hpd
      have n6 := hpd.bk m6 (by omega)
      have n7 : Bk wd b7 [.int .i64 ds[k].1, .slice ds[k].2.1 ds[k].2.2.2.length ds[k].2.2.1] 68 := ⟨hpd.new⟩
      have ed := hpd.ext ec (by omega)
      refine jz ?_
      refine jjX (by decide +kernel) ed ?_
      exact ⟨rfl, rfl, rfl, ⟨b6, b7, rfl, rfl, Bk.toAt (h := n6), Bk.toAt (h := n7)⟩, ed, by ((refine Same.upd rfl ?_; refine Same.upd rfl ?_; refine Same.upd rfl ?_; refine Same.upd rfl ?_; refine Same.upd rfl ?_; refine Same.upd rfl ?_; refine Same.upd rfl ?_; refine Same.upd rfl ?_; refine Same.upd rfl ?_; refine Same.upd rfl ?_; refine Same.upd rfl ?_; refine Same.upd rfl ?_; refine Same.upd rfl ?_; refine Same.upd rfl ?_; refine Same.upd rfl ?_; refine Same.upd rfl ?_; refine Same.upd rfl ?_; refine Same.upd rfl ?_; exact Same.ovN))⟩
    · refine jjY ?_
      intro b7 wa hb7 hs7 hS7 hk7
      have k7 := Bk.of hk7
      refine jz ?_
      (apply jjW 10; (decide +kernel); exact rfl; (exact hE2.trans hS7.ext))
      refine jjY ?_
      intro b6 wb hb6 hs6 hS6 hk6
      have k6 := Bk.of hk6
      have m7 := k7.ext hS6.ext
      refine jz ?_
      have eb := (hE2.trans hS7.ext).trans hS6.ext
      have zb := hE2.size
      (apply jjW 12; (decide +kernel); exact rfl; (exact eb))
      refine Ops.store rfl rfl rfl rfl rfl ?_
      intro wc hpc
      have m7 := hpc.bk (m7) (by omega)
      have m6 : Bk wc b6 [.int .i64 cs[k].1, .slice cs[k].2.1 cs[k].2.2.2.length cs[k].2.2.1] 68 := ⟨hpc.new⟩
      refine jz ?_
      have ec := hpc.ext eb (by omega)
      (apply jjW 13; (decide +kernel); exact rfl; (exact ec))
      refine Ops.store rfl rfl rfl rfl rfl ?_
      intro wd hpd
      have n6 := hpd.bk m6 (by omega)
      have n7 : Bk wd b7 [.int .i64 ds[k].1, .slice ds[k].2.1 ds[k].2.2.2.length ds[k].2.2.1] 68 := ⟨hpd.new⟩
      have ed := hpd.ext ec (by omega)
      refine jz ?_
      refine jjX (by decide +kernel) ed ?_
      exact ⟨rfl, rfl, rfl, ⟨b6, b7, rfl, rfl, Bk.toAt (h := n6), Bk.toAt (h := n7)⟩, ed, by ((refine Same.upd rfl ?_; refine Same.upd rfl ?_; refine Same.upd rfl ?_; refine Same.upd rfl ?_; refine Same.upd rfl ?_; refine Same.upd rfl ?_; refine Same.upd rfl ?_; refine Same.upd rfl ?_; refine Same.upd rfl ?_; refine Same.upd rfl ?_; refine Same.upd rfl ?_; refine Same.upd rfl ?_; refine Same.upd rfl ?_; refine Same.upd rfl ?_; refine Same.upd rfl ?_; refine Same.upd rfl ?_; refine Same.upd rfl ?_; refine Same.upd rfl ?_; exact Same.ovN))⟩
  rintro s w3 ⟨h2, h3, h5, ⟨b6, b7, h6, h7, hA6, hA7⟩, hE3, hsm⟩
  clear hl6 hE2 hS2 w2
  have hS3 : Step w_b3 w3 := hE3.toStep
  have hsk := hs.2 _ (List.getElem_mem hkc)
  refine W.keep [(2, .pointer (some ⟨b2, 0, none⟩)), (3, .pointer (some ⟨b3, 0, none⟩)), (5, .int .i64 ((k : Nat) : Int)), (6, .pointer (some ⟨b6, 0, none⟩)), (7, .pointer (some ⟨b7, 0, none⟩))] (D := (16 :: 17 :: 18 :: 19 :: 20 :: 23 :: 24 :: 25 :: 26 :: 27 :: 28 :: 29 :: 30 :: 31 :: 32 :: 6 :: 7 :: 33 :: 34 :: 35 :: 36 :: 37 :: 38 :: 39 :: 40 :: 41 :: 42 :: 43 :: 44 :: 45 :: 46 :: 4 :: 8 :: 47 :: 48 :: 49 :: 50 :: 51 :: 54 :: 55 :: 56 :: 57 :: 58 :: 59 :: 60 :: 61 :: 62 :: 63 :: 64 :: 65 :: 52 :: 53 :: 21 :: 22 :: 5 :: [])) (sO := upds s0 _) hsm ⟨h2, h3, h5, h6, h7, trivial⟩ fun s1 hs1' => ?_
  clear h2 h3 h5 h6 h7 hsm
  have hno : txC cs[k] ≠ txC ds[k] → ¬ txF cs = txF ds := fun h e => h (by
    have h1 : (txF cs)[k]? = some (txC cs[k]) := by simp [txF, hkc]
    have h2 : (txF ds)[k]? = some (txC ds[k]) := by simp [txF, hkd]
    rw [e, h2] at h1
    exact (Option.some.inj h1).symm)
  by_cases hid : cs[k].1 = ds[k].1
  rotate_left
  · (refine jjB ?_; refine jjB ?_; refine jjC ?_; refine jm ?_; refine jn rfl ?_; refine jN rfl rfl rfl ?_; refine jm ?_; refine jn rfl ?_; refine jN rfl rfl rfl ?_; refine jjj rfl rfl (by omega) ?_; apply jI; exact eB rfl; refine jU rfl rfl rfl rfl ?_; refine jU rfl rfl rfl rfl ?_; refine jU rfl rfl rfl rfl ?_; refine jU rfl rfl rfl rfl ?_; refine jU rfl rfl rfl rfl ?_; refine jU rfl rfl rfl rfl ?_; refine jU rfl rfl rfl rfl ?_; apply jK rfl; exact eB rfl; refine jz ?_; refine jjJ rfl ?_; refine jjB ?_; refine jjC ?_; apply jJ; exact eB rfl; refine jz ?_; refine jjF ?_; refine jB rfl rfl ⟨inferInstance, ?_⟩)
    rw [decide_eq_false (hno fun e => hid (congrArg (fun x : Int × List (List ByteArray) => x.1) e))]; exact rfl
  by_cases hll : cs[k].2.2.2.length = ds[k].2.2.2.length
  rotate_left
  · (refine jjB ?_; refine jjB ?_; refine jjC ?_; refine jm ?_; refine jn rfl ?_; refine jN rfl rfl rfl ?_; refine jm ?_; refine jn rfl ?_; refine jN rfl rfl rfl ?_; refine jjk rfl rfl (by omega) ?_; apply jI; exact eB rfl; refine jT rfl rfl rfl ?_; refine jm ?_; refine jn rfl ?_; refine jT rfl rfl rfl ?_; refine jN rfl rfl rfl ?_; refine jT rfl rfl rfl ?_; refine jh rfl ?_; refine jT rfl rfl rfl ?_; refine jm ?_; refine jn rfl ?_; refine jT rfl rfl rfl ?_; refine jN rfl rfl rfl ?_; refine jT rfl rfl rfl ?_; refine jh rfl ?_; refine jT rfl rfl rfl ?_; refine jjj rfl rfl (by omega) ?_; apply jL rfl; exact eB rfl; refine jz ?_; refine jjJ rfl ?_; refine jjB ?_; refine jjC ?_; apply jJ; exact eB rfl; refine jz ?_; refine jjF ?_; refine jB rfl rfl ⟨inferInstance, ?_⟩)
    rw [decide_eq_false (hno fun e => hll (by have := congrArg (fun x : Int × List (List ByteArray) => x.2.length) e; simpa using this))]; exact rfl
  (refine jjB ?_; refine jjB ?_; refine jjC ?_; refine jm ?_; refine jn rfl ?_; refine jN rfl rfl rfl ?_; refine jm ?_; refine jn rfl ?_; refine jN rfl rfl rfl ?_; refine jjk rfl rfl (by omega) ?_; apply jI; exact eB rfl; refine jT rfl rfl rfl ?_; refine jm ?_; refine jn rfl ?_; refine jT rfl rfl rfl ?_; refine jN rfl rfl rfl ?_; refine jT rfl rfl rfl ?_; refine jh rfl ?_; refine jT rfl rfl rfl ?_; refine jm ?_; refine jn rfl ?_; refine jT rfl rfl rfl ?_; refine jN rfl rfl rfl ?_; refine jT rfl rfl rfl ?_; refine jh rfl ?_; refine jT rfl rfl rfl ?_; refine jjk rfl rfl (by omega) ?_; apply jL rfl; exact eB rfl; refine jz ?_; refine jjK rfl ?_; refine jjG ?_; refine jjB ?_; refine jjC ?_; apply jJ; exact eI rfl; refine jz ?_; refine jjD ?_)
  refine W.keep [(2, .pointer (some ⟨b2, 0, none⟩)), (3, .pointer (some ⟨b3, 0, none⟩)), (5, .int .i64 ((k : Nat) : Int)), (6, .pointer (some ⟨b6, 0, none⟩)), (7, .pointer (some ⟨b7, 0, none⟩)), (8, .int .i64 ((0 : Nat) : Int))] (D := (16 :: 17 :: 18 :: 19 :: 20 :: 23 :: 24 :: 25 :: 26 :: 27 :: 28 :: 29 :: 30 :: 31 :: 32 :: 6 :: 7 :: 33 :: 34 :: 35 :: 36 :: 37 :: 38 :: 39 :: 40 :: 41 :: 42 :: 43 :: 44 :: 45 :: 46 :: 4 :: 8 :: 47 :: 48 :: 49 :: 50 :: 51 :: 54 :: 55 :: 56 :: 57 :: 58 :: 59 :: 60 :: 61 :: 62 :: 63 :: 64 :: 65 :: 52 :: 53 :: 21 :: 22 :: 5 :: [])) (sO := upds s0 _) (by ((refine Same.upd rfl ?_; refine Same.upd rfl ?_; refine Same.upd rfl ?_; refine Same.upd rfl ?_; refine Same.upd rfl ?_; refine Same.upd rfl ?_; refine Same.upd rfl ?_; refine Same.upd rfl ?_; refine Same.upd rfl ?_; refine Same.upd rfl ?_; refine Same.upd rfl ?_; refine Same.upd rfl ?_; refine Same.upd rfl ?_; refine Same.upd rfl ?_; refine Same.upd rfl ?_; assumption))) ⟨eP rfl, eP rfl, eI rfl, eP rfl, eP rfl, eI rfl, trivial⟩ fun s2 hs2' => ?_
  refine W.loop (47 :: 48 :: 49 :: 50 :: 51 :: 54 :: 55 :: 56 :: 57 :: 58 :: 59 :: 60 :: 61 :: 62 :: 63 :: 64 :: 65 :: 4 :: 52 :: 53 :: 8 :: []) (fun g s' V => ∃ n : Nat, s' 8 = .int .i64 ((n : Nat) : Int) ∧ g = cs[k].2.2.2.length - n ∧ n ≤ cs[k].2.2.2.length ∧ ∀ (j : Nat) (hj : j < cs[k].2.2.2.length), j < n → cs[k].2.2.2[j].2.2 = (ds[k].2.2.2[j]'(by omega)).2.2) cs[k].2.2.2.length ⟨0, rfl, rfl, Nat.zero_le _, by intros; omega⟩ ?_
  rintro _ sd2 w4 hS4 ⟨n, h8, rfl, hn, hpre2⟩
  refine W.fix h8 ?_
  clear h8
  by_cases hnl : n < cs[k].2.2.2.length
  rotate_left
  · have e : txC cs[k] = txC ds[k] := by
      refine Prod.ext hid (List.ext_getElem (by simpa using hll) fun j hj _ => ?_)
      rw [List.length_map] at hj
      simpa using hpre2 j hj (by omega)
    (refine jjB ?_; refine jjB ?_; refine jjC ?_; apply jI; exact eI rfl; refine jm ?_; refine jn rfl ?_; refine jN rfl rfl rfl ?_; refine jh rfl ?_; refine jja rfl rfl (by omega) ?_; refine jz ?_; refine jjK rfl ?_; refine jjE ?_; refine jjC ?_; apply jI; exact eI rfl; refine jY rfl rfl (by omega) ?_; apply jJ; exact eI rfl; refine jz ?_)
    refine ⟨rfl, by ((refine Same.upd rfl ?_; refine Same.upd rfl ?_; refine Same.upd rfl ?_; refine Same.upd rfl ?_; refine Same.upd rfl ?_; refine Same.upd rfl ?_; refine Same.upd rfl ?_; refine Same.upd rfl ?_; refine Same.upd rfl ?_; refine Same.ovN' rfl ?_; assumption)), cs.length - (k + 1), by omega, inferInstance, k + 1, congrArg (Value.int .i64) (by omega), rfl, by omega, fun j hj hjk => ?_⟩
    by_cases ej : j = k
    · subst ej; exact e
    · exact hpre j hj (by omega)
  have hnl2 : n < ds[k].2.2.2.length := by omega
  obtain ⟨bl, ol, el, hAl⟩ := (hT.line hkc).h.place' (map_get hnl)
  obtain ⟨bm, om, em, hAm⟩ := (hT'.line hkd).h.place' (map_get hnl2)
  rw [Nat.mul_one] at hAl hAm
  have hE4 : Ext w w4 := inferInstance
  have k6 := hA6.ext hS4.ext
  have k7 := hA7.ext hS4.ext
  (refine jjB ?_; refine jjB ?_; refine jjC ?_; apply jI; exact eI rfl; refine jm ?_; refine jn rfl ?_; refine jN rfl rfl rfl ?_; refine jh rfl ?_; refine jjZ rfl rfl (by omega) ?_; refine jz ?_; refine jjJ rfl ?_; refine jjG ?_; refine jjB ?_; refine jjD ?_; refine jjB ?_)
  rw [el] at k6
  rw [em] at k7
  have hW1 := (hT.word hkc hnl).h
  have hW2 := (hT'.word hkd hnl2).h
  refine W.draw (fun w' => Ext w4 w') ?_
  intro w5 hS5
  (refine jjV [0, 1, 2, 3, 4, 5, 6, 7, 8, 9] ?_ ?_ ?_; (decide +kernel); (exact hS5.ext); (((apply jjT; exact rfl; rintro w' hq; have := hq.toStep; refine jm ?_; refine jn rfl ?_; refine jz ?_; exact ⟨rfl, rfl⟩; apply jjT; exact rfl; rintro w' hq; have := hq.toStep; refine jN rfl rfl rfl ?_; refine jz ?_; exact ⟨rfl, rfl⟩; apply jjT; exact rfl; rintro w' hq; have := hq.toStep; apply jI; exact eI rfl; refine jz ?_; exact ⟨rfl, rfl⟩; apply jjT; exact rfl; rintro w' hq; have := hq.toStep; refine jG rfl rfl rfl (by omega) ?_; refine jz ?_; exact ⟨rfl, rfl⟩; apply jjT; exact rfl; rintro w' hq; have := hq.toStep; refine jQ rfl rfl ?_; refine jz ?_; exact ⟨rfl, rfl⟩; apply jjT; exact rfl; rintro w' hq; have := hq.toStep; refine jm ?_; refine jn rfl ?_; refine jz ?_; exact ⟨rfl, rfl⟩; apply jjT; exact rfl; rintro w' hq; have := hq.toStep; refine jN rfl rfl rfl ?_; refine jz ?_; exact ⟨rfl, rfl⟩; apply jjT; exact rfl; rintro w' hq; have := hq.toStep; apply jI; exact eI rfl; refine jz ?_; exact ⟨rfl, rfl⟩; apply jjT; exact rfl; rintro w' hq; have := hq.toStep; refine jG rfl rfl rfl (by omega) ?_; refine jz ?_; exact ⟨rfl, rfl⟩; apply jjT; exact rfl; rintro w' hq; have := hq.toStep; refine jQ rfl rfl ?_; refine jz ?_; exact ⟨rfl, rfl⟩; refine jjU ?_))))
  (apply jjW 10; (decide +kernel); exact rfl; (exact hS5.ext))
  obtain ⟨B, hB⟩ : ∃ B, decide (cs[k].2.2.2[n].2.2 = ds[k].2.2.2[n].2.2) = B := ⟨_, rfl⟩
  refine jjQ ((same_words1 _ _ _ _ _ _ cs[k].2.2.2[n].2.2 ds[k].2.2.2[n].2.2 _ rfl rfl (hW1.ext (hE4.trans hS5.ext)) (hW2.ext (hE4.trans hS5.ext))).mono fun v _ _ h => h.trans (by rw [hB])) rfl rfl ?_
  rintro _ w6 hS6 rfl
  refine jz ?_
  have e6 := hS5.ext.trans hS6.ext
  cases B with
  | true =>
    have hBe := of_decide_eq_true hB
    (refine jjV [11] ?_ ?_ ?_; (decide +kernel); (exact e6); (((apply jjT; exact rfl; rintro w' hq; have := hq.toStep; refine jp rfl ?_; refine jz ?_; exact ⟨rfl, rfl⟩; refine jjU ?_))))
    refine jjX (by decide +kernel) e6 ?_
    (refine jjK rfl ?_; refine jjG ?_; refine jjC ?_; apply jI; exact eI rfl; refine jY rfl rfl (by omega) ?_; apply jJ; exact eI rfl; refine jz ?_)
    refine ⟨rfl, by ((refine Same.upd rfl ?_; refine Same.upd rfl ?_; refine Same.upd rfl ?_; refine Same.upd rfl ?_; refine Same.upd rfl ?_; refine Same.upd rfl ?_; refine Same.upd rfl ?_; refine Same.upd rfl ?_; refine Same.upd rfl ?_; refine Same.upd rfl ?_; refine Same.upd rfl ?_; refine Same.upd rfl ?_; refine Same.upd rfl ?_; refine Same.upd rfl ?_; refine Same.upd rfl ?_; refine Same.upd rfl ?_; refine Same.upd rfl ?_; refine Same.upd rfl ?_; refine Same.upd rfl ?_; refine Same.upd rfl ?_; refine Same.upd rfl ?_; exact Same.ovN)), cs[k].2.2.2.length - (n + 1), by omega, inferInstance, n + 1, congrArg (Value.int .i64) (by omega), rfl, by omega, fun j hj hjn => ?_⟩
    by_cases ej : j = n
    · subst ej; exact hBe
    · exact hpre2 j hj (by omega)
  | false =>
    have hBe := of_decide_eq_false hB
    (refine jjV [11] ?_ ?_ ?_; (decide +kernel); (exact e6); (((apply jjT; exact rfl; rintro w' hq; have := hq.toStep; refine jq rfl ?_; refine jz ?_; exact ⟨rfl, rfl⟩; refine jjU ?_))))
    refine jjX (by decide +kernel) e6 ?_
    (refine jjJ rfl ?_; refine jjB ?_; refine jjC ?_; apply jJ; exact eB rfl; refine jz ?_; refine jjF ?_; refine jB rfl rfl ⟨inferInstance, ?_⟩)
    rw [decide_eq_false (hno fun e => hBe (by
      have h1 : (txC cs[k]).2[n]? = some cs[k].2.2.2[n].2.2 := by simp [hnl]
      have h2 : (txC ds[k]).2[n]? = some ds[k].2.2.2[n].2.2 := by simp [hnl2]
      rw [e, h2] at h1
      exact (Option.some.inj h1).symm))]; exact rfl
end
end Go.Proofs.YtgmgiepdehlinaaDoor
