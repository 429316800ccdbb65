/- Texts of the proof, part 6: Gs1, Eng28, Gl2, LawGl. -/
import Derived.Test.YtfebegbjggoijaaGreatDoorGL5
/- galley: Set. -/
namespace Go.Proofs.YtfebegbjggoijaaGreatDoor
open Go.RowKit

theorem one_blk (b : Blk) : ([b].map encB).all (fun v => v.cells.toList.all (·.oneCell')) = true := rfl
section
variable (a : Option Addr) (c : Nat) (cs : List Ch) (wd side : Int) (w : World) [hrow : RowI w (.slice a cs.length c) true 2 (cs.map encCh)] [hT : TextI w cs] [hgs : At w 2 0 sidesC]
set_option maxHeartbeats 8000000 in
theorem Set_galley (hs : SmallT cs) (hd : 0 ≤ side ∧ side ≤ 255) (h : Int) : Ct Tryz.prog 33 [.agg #[.slice a cs.length c], encCut wd side, .int .i64 h] w fun v w' => ∃ ga gc, v = .tuple #[.agg #[.int .i64 (setR (txF cs) wd side h).1.1, .slice ga (setR (txF cs) wd side h).1.2.length gc], .int .i64 (setR (txF cs) wd side h).2] ∧ RowV w' true 2 (.slice ga (setR (txF cs) wd side h).1.2.length gc) ((setR (txF cs) wd side h).1.2.map encB) := by
  refine Ct.ofW (by simp) ?_
  (refine jjB ?_; refine jjC ?_)
  (refine jy rfl ?_; intro b3 w_b3 hb_b3 hs_b3 hS_b3 hk_b3; have hA_b3 := At.ofBlock hk_b3)
  skip
  (refine jy rfl ?_; intro b4 w_b4 hb_b4 hs_b4 hS_b4 hk_b4; have hA_b4 := At.ofBlock hk_b4)
  ((skip); refine jjY ?_; intro b6 w_b6 hb_b6 hs_b6 hS_b6 hk_b6; have hA_b6 := Bk.of hk_b6)
  (apply jJ; exact eI rfl; refine jz ?_; refine jjB ?_; refine jjC ?_; refine jO rfl rfl rfl rfl ?_; refine jO rfl rfl rfl rfl ?_)
  have hB6 : Bk w_b6 b6 [.int .i64 0, .slice none 0 0] 24 := hA_b6
  have z3 := hS_b3.size
  have z4 := hS_b4.size
  obtain ⟨e, he⟩ : ∃ e, askE (txF cs) wd side = e := ⟨_, rfl⟩
  refine jjQ ((All_slip a c cs wd side _ hs hd).mono fun v _ _ h => by rw [he] at h; exact h) rfl rfl ?_
  rintro _ w7 hS7 ⟨lv, rfl, hO⟩
  obtain ⟨la, lc, elv⟩ := hO.slice
  rw [List.length_map] at elv
  subst elv
  have hE7 : Ext w w7 := inferInstance
  have hB67 : Bk w7 b6 [.int .i64 0, .slice none 0 0] 24 := hB6.ext hS7.ext
  have h3in := askE_in (txF cs) wd side
  rw [he] at h3in
  by_cases h0 : e = 0
  rotate_left
  · rw [setR_ask (by rw [he]; exact h0), he]
    (apply jI; exact eU rfl; refine ju rfl rfl ?_; refine ju rfl rfl ?_; apply jJ; exact eS rfl; apply jJ; exact eI rfl; refine jz ?_; refine jjB ?_; refine jjB ?_; refine jjC ?_; apply jI; exact eI rfl; refine jjj rfl rfl (by omega) ?_; refine jz ?_; refine jjJ rfl ?_; refine jjB ?_; refine jjC ?_)
    (refine jjS (cells := [.int .i64 0, .slice none 0 0]) ?_ ?_; exact rfl)
    (apply jI; exact eI rfl)
    refine Ops.store rfl rfl rfl rfl rfl ?_
    intro V2 hp2
    have hA2 : At V2 b6 0 [.int .i64 0, .slice none 0 0] := Bk.toAt (h := Bk.of hp2.new)
    (apply jJ; exact eI rfl; refine jz ?_; refine jjF ?_)
    exact fin2C rfl rfl rfl rfl rfl rfl ⟨hp2.ext hE7 (by omega), none, 0, rfl, RowV.nilS _ _ _ _ _⟩
  obtain ⟨ht, hc⟩ := askE_zero (he.trans h0)
  have ha : askE (txF cs) wd side = 0 := he.trans h0
  rw [allR, if_pos ha] at hO ⊢
  obtain ⟨ls, hls⟩ : ∃ ls, allS (txF cs) side wd = ls := ⟨_, rfl⟩
  have hl6 : ls.length ≤ 600 := by rw [← hls]; exact allS_len ht
  rw [hls] at hO ⊢
  have iL7 : RowI w7 (.slice la ls.length lc) true 6 (ls.map encSl) := ⟨hO.row⟩
  (apply jI; exact eU rfl; refine ju rfl rfl ?_; refine ju rfl rfl ?_; apply jJ; exact eS rfl; apply jJ; exact eI rfl; refine jz ?_; refine jjB ?_; refine jjB ?_; refine jjC ?_; apply jI; exact eI rfl; refine jjk rfl rfl (by omega) ?_; refine jz ?_; refine jjK rfl ?_; refine jjG ?_; refine jjB ?_; refine jjB ?_; refine jjC ?_; apply jI; exact eI rfl)
  (refine jjP (v := .int _ _) rfl (by exact rfl) (by exact rfl) (by exact rfl) (by exact rfl) ?_; intro b29 w_b29 hb_b29 hs_b29 hS_b29 hk_b29; have hR_b29 := RowV.one (agg := false) (k := 1) rfl hk_b29)
  skip
  obtain ⟨B, hB⟩ : ∃ B, inB 4 40 h = B := ⟨_, rfl⟩
  refine jjQ ((in_galley 4 40 _ [h] _ hR_b29).mono fun v _ _ q => q.trans (by rw [all1, hB])) rfl rfl ?_
  rintro _ w8 hS8 rfl
  have hE8 : Ext w w8 := inferInstance
  have hB68 : Bk w8 b6 [.int .i64 0, .slice none 0 0] 24 := inferInstance
  cases B with
  | false =>
    rw [setR_high ha hB]
    (refine jq rfl ?_; refine jz ?_; refine jjJ rfl ?_; refine jjB ?_; refine jjC ?_)
    (refine jjS (cells := [.int .i64 0, .slice none 0 0]) ?_ ?_; exact rfl)
    skip
    refine Ops.store rfl rfl rfl rfl rfl ?_
    intro V2 hp2
    have hA2 : At V2 b6 0 [.int .i64 0, .slice none 0 0] := Bk.toAt (h := Bk.of hp2.new)
    (apply jJ; exact eI rfl; refine jz ?_; refine jjF ?_)
    exact fin2C rfl rfl rfl rfl rfl rfl ⟨hp2.ext hE8 (by omega), none, 0, rfl, RowV.nilS _ _ _ _ _⟩
  | true =>
  (refine jp rfl ?_; refine jz ?_; refine jjK rfl ?_; refine jjG ?_; refine jjB ?_; refine jjC ?_)
  refine Ops.makeMap Value.string ?_
  intro mb w9 hmb hs9 hS9 hM9
  (apply jJ; exact eM rfl; refine jz ?_; refine jjB ?_; refine jjB ?_; refine jjC ?_; apply jI; exact eS rfl; refine jh rfl ?_; apply jI; exact eI rfl; refine jz ?_; refine jjD ?_)
  have hE9 : Ext w w9 := inferInstance
  have zE8 := hE8.size
  have hwm : w.heap.size ≤ mb := by omega
  have hlt6 := hB68.lt
  have n6m : b6 ≠ mb := by omega
  have h3lt : b3 < b6 := by omega
  have y3 : At w9 b3 0 [.slice a cs.length c] := inferInstance
  have hB69 : Bk w9 b6 [.int .i64 0, .slice none 0 0] 24 := hB68.ext hS9.ext
  have iL9 : RowI w9 (.slice la ls.length lc) true 6 (ls.map encSl) := inferInstance
  refine W.keep0 [(2, .int .i64 h), (3, .pointer (some ⟨b3, 0, none⟩)), (6, .pointer (some ⟨b6, 0, none⟩)), (10, .map (some mb)), (34, .slice la ls.length lc), (35, .int .i64 (ls.length : Int)), (36, .int .i64 ((0 : Nat) : Int))] ⟨eI rfl, eP rfl, eP rfl, eM rfl, eS rfl, eI rfl, eI rfl, trivial⟩ fun s0 => ?_
  have hnl : (Value.slice la ls.length lc).ownBlock ≠ some mb := fun e => by
    have := (hO.block _ e).2
    have := (show Ext w7 w8 from inferInstance).size
    omega
  refine W.loopG (37 :: 38 :: 39 :: 12 :: 40 :: 41 :: 42 :: 43 :: 44 :: 45 :: 36 :: []) (fun g s' V => ∃ (k : Nat) (m : List (ByteArray × Value)), s' 36 = .int .i64 ((k : Nat) : Int) ∧ g = ls.length - k ∧ k ≤ ls.length ∧ Only mb w9 V ∧ MapE Value.string V mb m ∧ ∀ x, (mget m x).getD (.int .i64 0) = .int .i64 (cN (ls.take k) x : Int)) ls.length ⟨0, [], rfl, rfl, Nat.zero_le _, .ofExt (.refl _), hM9, fun x => by simp [mget, cN]⟩ ?_
  rintro _ sd V ⟨k, m, h36, rfl, hk, hOn, hM, hget⟩
  refine W.fix (d := 36) h36 ?_
  clear h36
  have hEV : Ext w V := hOn.ext hE9 hwm
  have iLV : RowI V (.slice la ls.length lc) true 6 (ls.map encSl) := ⟨hOn.row iL9.h hnl⟩
  have hB6V : Bk V b6 [.int .i64 0, .slice none 0 0] 24 := hOn.bk hB69 n6m
  have y3V : At V b3 0 [.slice a cs.length c] := hOn.at_ y3 (by omega)
  by_cases hkl : k < ls.length
  · have hgk := List.getElem?_eq_getElem hkl
    have hsn := cN_snoc hgk
    obtain ⟨u, hu⟩ : ∃ u, ls[k] = u := ⟨_, rfl⟩
    rw [hu] at hsn
    have hcn := cN_le (ls.take k) u.2.1
    rw [List.length_take] at hcn
    (refine jjB ?_; refine jjC ?_; refine jjZ rfl rfl (by omega) ?_; refine jz ?_; refine jjB ?_; refine jjJ rfl ?_; refine jjG ?_; refine jjB ?_; refine jjD ?_; refine jjB ?_; refine jjC ?_; refine jF rfl rfl rfl (map_get (by omega)) ?_; intro _ _ _; refine jQ rfl rfl ?_)
    rw [hu]
    (apply jjR rfl; (intro _; first|exact eI rfl|exact eB rfl|exact eP rfl|exact eS rfl|exact eT rfl|exact eA rfl|exact eU rfl|exact eF rfl|exact eM rfl|exact eN rfl|exact rfl); exact rfl; exact rfl; exact rfl; exact rfl; intro b12 w_b12 hb_b12 hs_b12 hS_b12 hk_b12; have hA_b12 := Bk.of hk_b12)
    have e12 := hS_b12.ext
    have hx12 : At w_b12 b12 0 [.int .i64 u.1.1, .int .i64 u.1.2.1, .int .i64 u.1.2.2, .string u.2.1, .string u.2.2.1, .string u.2.2.2] := Bk.toAt (h := hA_b12)
    (refine jz ?_; refine jjC ?_; apply jI; exact eM rfl; refine jm ?_; refine jn rfl ?_; refine jN rfl rfl rfl ?_)
    refine Ops.lookupV (k := u.2.1) (hget u.2.1) (hM.ext e12) rfl rfl ?_
    generalize hcv : cN (ls.take k) u.2.1 = cv at *
    (refine jY rfl rfl (by omega) ?_)
    refine Ops.mapUpdate (k := u.2.1) (v := .int .i64 ((cv : Int) + 1)) (hM.ext e12) rfl rfl rfl ?_
    intro V2 o2 hp2 hM2
    (refine jz ?_; refine jjC ?_; refine jY rfl rfl (by omega) ?_; apply jI; exact eI rfl; refine jz ?_)
    refine ⟨rfl, by ((refine Same.upd rfl ?_; refine Same.upd rfl ?_; refine Same.upd rfl ?_; refine Same.upd rfl ?_; refine Same.upd rfl ?_; refine Same.upd rfl ?_; refine Same.upd rfl ?_; refine Same.upd rfl ?_; refine Same.upd rfl ?_; refine Same.upd rfl ?_; refine Same.upd rfl ?_; refine Same.upd rfl ?_; exact Same.ovN)), ls.length - (k + 1), by omega, k + 1, _, congrArg (Value.int .i64) (by omega), rfl, by omega, (hOn.trans (.ofExt e12)).trans (.ofPut hp2), hM2, fun x => ?_⟩
    rw [hsn]
    by_cases e : x = u.2.1
    · subst e
      rw [mget_set_same, if_pos rfl, hcv]
      exact congrArg (Value.int .i64) (by omega)
    · rw [mget_set_other _ _ e, if_neg (fun h => e h.symm), Nat.add_zero]
      exact hget x
  obtain rfl : k = ls.length := by omega
  rw [List.take_length] at hget
  have hrV : RowI V (.slice a cs.length c) true 2 (cs.map encCh) := ⟨hrow.h.ext hEV⟩
  have hTV : TextI V cs := hT.ext hEV
  (refine jjB ?_; refine jjC ?_; refine jja rfl rfl (by omega) ?_; refine jz ?_; refine jjB ?_; refine jjK rfl ?_; refine jjE ?_; refine jjB ?_; refine jjC ?_; refine jO rfl rfl rfl rfl ?_)
  refine jjQ ((Vocabulary_leaf a c cs _ hs).mono fun v _ _ q => by rw [vocR, if_pos ht] at q; exact q) rfl rfl ?_
  rintro _ w10 hS10 ⟨wv, rfl, hOw⟩
  obtain ⟨ws, hws⟩ : ∃ ws, vocL (wsOf (txF cs)) = ws := ⟨_, rfl⟩
  simp only [hws] at hOw
  obtain ⟨wa, wc, ewv⟩ := hOw.slice
  rw [List.length_map] at ewv
  subst ewv
  have hwl : ws.length ≤ 600 := by
    rw [← hws]
    refine Nat.le_trans (voc_len _) ?_
    rw [wsOf, List.length_map]; exact allW_small ht
  have hww : ∀ x ∈ ws, wordB x = true := fun x hx => voc_word ht (by rw [hws]; exact hx)
  have iW : RowI w10 (.slice wa ws.length wc) false 1 (ws.map strV) := ⟨hOw.row⟩
  (apply jI; exact eU rfl; refine ju rfl rfl ?_; refine ju rfl rfl ?_; apply jJ; exact eS rfl; apply jJ; exact eI rfl; refine jz ?_; refine jjB ?_; refine jjC ?_; apply jI; exact eI rfl)
  (refine jjS (cells := [.int .i64 h, .slice none 0 0]) ?_ ?_; exact rfl)
  (apply jjR rfl; (intro _; first|exact eI rfl|exact eB rfl|exact eP rfl|exact eS rfl|exact eT rfl|exact eA rfl|exact eU rfl|exact eF rfl|exact eM rfl|exact eN rfl|exact rfl); exact rfl; exact rfl; exact rfl; exact rfl; intro b15 w_b15 hb_b15 hs_b15 hS_b15 hk_b15; have hA_b15 := Bk.of hk_b15)
  (refine jz ?_; refine jjB ?_; refine jjB ?_; refine jjC ?_; apply jI; exact eS rfl; refine jh rfl ?_; apply jI; exact eI rfl; refine jz ?_; refine jjD ?_)
  have e15 := hS10.ext.trans hS_b15.ext
  have hE15 : Ext w w_b15 := hEV.trans e15
  have zE15 := hE15.size
  have hM15 : MapE Value.string w_b15 mb m := hM.ext e15
  have hB615 : Bk w_b15 b6 [.int .i64 0, .slice none 0 0] 24 := hB6V.ext e15
  have hMl := hM.lt
  have z10 := hS10.size
  have n15 : b15 ≠ mb := by omega
  have hBv : b6 < V.heap.size := hB6V.lt
  have n615 : b6 ≠ b15 := by omega
  have iW15 : RowI w_b15 (.slice wa ws.length wc) false 1 (ws.map strV) := inferInstance
  have hnw : (Value.slice wa ws.length wc).ownBlock ≠ some b15 := fun e => by
    have := (hOw.block _ e).2
    omega
  refine W.keep0 [(6, .pointer (some ⟨b6, 0, none⟩)), (10, .map (some mb)), (15, .pointer (some ⟨b15, 0, none⟩)), (53, .slice wa ws.length wc), (54, .int .i64 (ws.length : Int)), (55, .int .i64 ((0 : Nat) : Int))] ⟨eP rfl, eM rfl, eP rfl, eS rfl, eI rfl, eI rfl, trivial⟩ fun s1 => ?_
  refine W.loopG (56 :: 57 :: 58 :: 17 :: 59 :: 60 :: 61 :: 62 :: 63 :: 64 :: 65 :: 66 :: 67 :: 68 :: 69 :: 70 :: 55 :: []) (fun g s' V2 => ∃ (k : Nat) (gv : Value), s' 55 = .int .i64 ((k : Nat) : Int) ∧ g = ws.length - k ∧ k ≤ ws.length ∧ Only b15 w_b15 V2 ∧ Bk V2 b15 [.int .i64 h, gv] 24 ∧ OwnL V2 w_b15.heap.size 37 true 2 gv ((blkL ls (ws.take k)).map encB)) ws.length ⟨0, _, rfl, rfl, Nat.zero_le _, .ofExt (.refl _), hA_b15, OwnL.nil _ _ _ _ _⟩ ?_
  rintro _ sd2 V2 ⟨k, gv, h55, rfl, hk, hOn2, hB2, hOg⟩
  refine W.fix (d := 55) h55 ?_
  clear h55
  have zOn2 := hOn2.size
  have hE2 : Ext w V2 := hOn2.ext hE15 (by omega)
  have hM2 : MapE Value.string V2 mb m := hOn2.map hM15 (fun e => n15 e.symm)
  have iW2 : RowI V2 (.slice wa ws.length wc) false 1 (ws.map strV) := ⟨hOn2.row iW15.h hnw⟩
  have hB62 : Bk V2 b6 [.int .i64 0, .slice none 0 0] 24 := hOn2.bk hB615 n615
  have hA15 : At V2 b15 0 [.int .i64 h, gv] := Bk.toAt (h := hB2)
  have hbl := blkL_len ls (ws.take k)
  have htk := List.length_take_le k ws
  by_cases hkl : k < ws.length
  · have hgk := List.getElem?_eq_getElem hkl
    have hsn := blkL_snoc (ls := ls) hgk
    obtain ⟨u, hu⟩ : ∃ u, ws[k] = u := ⟨_, rfl⟩
    rw [hu] at hsn
    have hcn := cN_le ls u
    obtain ⟨ga, gl, gc, rfl⟩ := hOg.slice3
    (refine jjB ?_; refine jjC ?_; refine jjZ rfl rfl (by omega) ?_; refine jz ?_; refine jjB ?_; refine jjJ rfl ?_; refine jjG ?_; refine jjB ?_; refine jjD ?_; refine jjB ?_; refine jjC ?_; refine jF rfl rfl rfl (map_get (by omega)) ?_; intro _ _ _; refine jQ rfl rfl ?_; apply jJ; exact eT rfl; refine jz ?_; refine jjC ?_; refine jm ?_; refine jn rfl ?_; refine jN rfl rfl rfl ?_; apply jI; exact eT rfl; apply jI; exact eM rfl; apply jI; exact eT rfl)
    rw [hu]
    skip
    refine Ops.lookupV (k := u) (hget u) hM2 rfl rfl ?_
    generalize hcv : cN ls u = cv at *
    (refine jY rfl rfl (by omega) ?_)
    (refine jjS (cells := [.string u, .int .i64 (1 + (cv : Int))]) ?_ ?_; exact rfl)
    skip
    (refine jjP (v := .agg _) rfl (by exact rfl) (by exact rfl) (by exact rfl) (by exact rfl) ?_; intro b67 w_b67 hb_b67 hs_b67 hS_b67 hk_b67; have hR_b67 := RowV.one (agg := true) (k := 2) rfl hk_b67)
    have e67 := hS_b67.ext
    have hR67 : RowV w_b67 true 2 (.slice (some ⟨b67, 0, none⟩) 1 1) ([(u, 1 + (cv : Int))].map encB) := hR_b67
    have z67 := e67.size
    skip
    refine Ops.appendL (hOg.ext e67) (by omega) hR67 rfl rfl rfl rfl (one_blk _) (by simp only [List.length_map, List.length_cons, List.length_nil]; omega) (by simp only [List.length_map, List.length_cons, List.length_nil]; omega) ?_
    intro v3 V3 hA3 hO3 _ hown3
    have hnb : ∀ b, b < w_b15.heap.size → (Value.slice ga gl gc).ownBlock ≠ some b := fun b h e => by have := (hOg.block _ e).1; omega
    have hl15 := hA_b15.lt
    have hB3 : Bk V3 b15 [.int .i64 h, .slice ga gl gc] 24 := hA3.bk (hB2.ext e67) (hnb _ hl15)
    obtain ⟨a3, l3, c3, rfl⟩ := hO3.slice3
    (refine jm ?_; refine jn rfl ?_)
    refine Ops.storeC (cs := [.int .i64 h, .slice ga gl gc]) (j := 1) (v := .slice a3 l3 c3) rfl rfl rfl rfl (show 1 < 2 by omega) ?_
    intro V4 hp4
    (refine jz ?_; refine jjC ?_; refine jY rfl rfl (by omega) ?_; apply jI; exact eI rfl; refine jz ?_)
    have hn3 : (Value.slice a3 l3 c3).ownBlock ≠ some b15 := fun e => by
      rcases hown3 with h | h
      · rw [h] at e; exact hnb _ hl15 e
      · rw [h] at e; cases e; omega
    rw [← List.map_append, ← hsn] at hO3
    exact ⟨rfl, by ((refine Same.upd rfl ?_; refine Same.upd rfl ?_; refine Same.upd rfl ?_; refine Same.upd rfl ?_; refine Same.upd rfl ?_; refine Same.upd rfl ?_; refine Same.upd rfl ?_; refine Same.upd rfl ?_; refine Same.upd rfl ?_; refine Same.upd rfl ?_; refine Same.upd rfl ?_; refine Same.upd rfl ?_; refine Same.upd rfl ?_; refine Same.upd rfl ?_; refine Same.upd rfl ?_; refine Same.upd rfl ?_; refine Same.upd rfl ?_; refine Same.upd rfl ?_; exact Same.ovN)), ws.length - (k + 1), by omega, k + 1, _, congrArg (Value.int .i64) (by omega), rfl, by omega, ((hOn2.trans (.ofExt e67)).app hA3 (Nat.le_refl _)).trans (.ofPut hp4), ⟨hp4.new⟩, hO3.put hp4 hn3⟩
  obtain rfl : k = ws.length := by omega
  rw [List.take_length] at hOg hbl
  obtain ⟨ga, gc, egv⟩ := hOg.slice
  rw [List.length_map] at egv
  subst egv
  obtain ⟨G, hG⟩ : ∃ G, galleyB h (blkL ls ws) = G := ⟨_, rfl⟩
  have hchk := (Check_galley h (.slice ga (blkL ls ws).length gc) (blkL ls ws) V2 hOg.row fun b hb => by
    obtain ⟨x, hx, rfl⟩ := List.mem_map.1 hb
    have := (word_size (hww x hx)).2
    show x.size ≤ _
    omega).mono (R' := fun v _ => v = .int .i64 (if G then 0 else 80)) fun v _ _ q => q.trans (by rw [gErr, hG])
  (refine jjB ?_; refine jjC ?_; refine jja rfl rfl (by omega) ?_; refine jz ?_; refine jjB ?_; refine jjK rfl ?_; refine jjE ?_; refine jjB ?_; refine jjB ?_; refine jjC ?_; refine jO rfl rfl rfl rfl ?_)
  refine jjQ hchk rfl rfl ?_
  rintro _ w11 hS11 rfl
  have hB611 : Bk w11 b6 [.int .i64 0, .slice none 0 0] 24 := hB62.ext hS11.ext
  have hE11 := hE2.trans hS11.ext
  have hB15' : At w11 b15 0 [.int .i64 h, .slice ga (blkL ls ws).length gc] := hA15.ext hS11.ext
  cases G with
  | false =>
    rw [setR_no ha hB (by rw [hls, hws]; exact hG)]
    (refine jc rfl rfl ?_; refine jz ?_; refine jjJ rfl ?_; refine jjB ?_; refine jjC ?_)
    (refine jjS (cells := [.int .i64 0, .slice none 0 0]) ?_ ?_; exact rfl)
    skip
    refine Ops.store rfl rfl rfl rfl rfl ?_
    intro V3 hp3
    have hA3 : At V3 b6 0 [.int .i64 0, .slice none 0 0] := Bk.toAt (h := Bk.of hp3.new)
    (apply jJ; exact eI rfl; refine jz ?_; refine jjF ?_)
    exact fin2C rfl rfl rfl rfl rfl rfl ⟨hp3.ext hE11 (by omega), none, 0, rfl, RowV.nilS _ _ _ _ _⟩
  | true =>
    rw [setR_yes ha hB (by rw [hls, hws]; exact hG), hls, hws]
    (refine jc rfl rfl ?_; refine jz ?_; refine jjK rfl ?_; refine jjG ?_; refine jjB ?_; refine jjC ?_; refine jO rfl rfl rfl rfl ?_)
    refine Ops.store rfl rfl rfl rfl rfl ?_
    intro V3 hp3
    have hA3 : At V3 b6 0 [.int .i64 h, .slice ga (blkL ls ws).length gc] := Bk.toAt (h := Bk.of hp3.new)
    (apply jJ; exact eI rfl; refine jz ?_; refine jjF ?_)
    have hOg3 := (hOg.ext hS11.ext).put hp3 (fun e => by have := (hOg.block _ e).1; omega)
    exact fin2C rfl rfl rfl rfl rfl rfl ⟨hp3.ext hE11 (by omega), ga, gc, rfl, hOg3.row⟩
end
end Go.Proofs.YtfebegbjggoijaaGreatDoor

/- The proof engine, part 28: literals of slices of however many elements. -/
namespace Go.Proofs.YtfebegbjggoijaaGreatDoor
open Go.RowKit

/-- Zero cells of so many elements. -/
def zeroL (z : Value) (m : Nat) : List Value := (List.range m).map fun i => z.cells[i % z.cells.size]!
section rules
variable {P : Program} {ro : Option Nat} {n : Nat} {all rest : List Oper} {K : Sl → World → Prop} {s : Sl} {w : World} {d : Nat} {ty : Nat} {pos : String} {af : Array Edge} {t e : Nat}
theorem Ops.buildSliceF {len size bytes : Nat} {z : Value} {parts : Array (Nat × Operand)} {cells : List Value} [ht : TSl P t e] [hz : TS P e z size bytes] (h0 : Nat.blt 0 (len * size) = true) (h1 : Nat.blt (len * size) 10000 = true)
    (hf : fillL (fun i => some (i * size, size)) (zeroL z (len * size)) (parts.toList.map fun (i, x) => (i, ev n s x)) = some cells)
    (h : ∀ b w', b = w.heap.size → w'.heap.size = w.heap.size + 1 → Step w w' → Bk w' b cells e → Ops P ro n all rest K (upd s d (.slice (some ⟨b, 0, none⟩) len len)) w') :
    Ops P ro n all (⟨some d, .buildSlice t len parts, ty, pos, af, none⟩ :: rest) K s w := by
  have h0' : 0 < len * size := by simpa using h0
  have h1' : len * size < 10000 := by simpa using h1
  have hf2 := fillL_eq _ _ _ _ hf
  have e1 : (zeroL z (len * size)).toArray = (Array.range (len * size)).map (z.cells[· % z.cells.size]!) := by
    apply Array.ext'
    simp [zeroL]
  rw [e1] at hf2
  have e2 : (parts.map fun (p : Nat × Operand) => (p.1, ev n s p.2)).toList = parts.toList.map fun (i, x) => (i, ev n s x) := by simp
  refine Ops.ofRun (w' := w.alloc (.cells cells.toArray e)) rfl ?_ (h w.heap.size _ rfl (by simp) ⟨(Below.refl _ w).alloc (Nat.le_refl _) _⟩ (Bk.of (World.alloc_heap_new w _)))
  have hne : ¬ len * size = 0 := by omega
  have hbig : ¬ (16777216 < len * size) := by omega
  simp only [execOp, Instr.buildSlice, Sem.run_bind, run_underlying ht.h, run_sizeOf' w hz, Result.andThen_ok]
  simp [hbig, run_zeroValue' w hz, newRow]
  have hf3 : Instr.fill (fun i => some (i * size, size)) (Array.map (fun x => z.cells[x % z.cells.size]!) (Array.range (len * size))) (parts.toList.map fun p => (p.1, ev n s p.2)) = some cells.toArray := hf2
  simp [hf3]
  intro hc; exact absurd hc hne
end rules
/-- What such a literal reads as. -/
theorem Bk.rows {w : World} {b e k : Nat} {agg : Bool} {xs : List Value} (h : Bk w b (xs.flatMap (·.cells.toList)) e) (hf : ∀ x ∈ xs, fitsV agg k x = true) (hl : xs.length ≤ 140737488355328) : RowV w agg k (.slice (some ⟨b, 0, none⟩) xs.length xs.length) xs := by
  refine ⟨hl, hf, .inr ⟨b, 0, xs.length, rfl, Nat.le_refl _, fun j x hx => ⟨fun i v hv => ?_⟩⟩⟩
  have := flat_get (k := k) (xs := xs) (fun y hy => fitsV_cells (hf y hy)) hx hv
  have hc := (Bk.toAt (h := h)).h _ _ this
  rw [show 0 + j * k + i = 0 + (j * k + i) by omega]; exact hc
end Go.Proofs.YtfebegbjggoijaaGreatDoor

/- The laws of galleys: the chapter's examples (alive). -/
namespace Go.Proofs.YtfebegbjggoijaaGreatDoor
open Go.RowKit

abbrev noneC : List Value := [.int .i64 (-1), .int .i64 (-1)]
theorem strs_fit8 (l : List ByteArray) : ∀ x ∈ l.map strV, fitsV false 1 x = true := fun x hx => by
  obtain ⟨y, _, rfl⟩ := List.mem_map.1 hx; rfl
theorem blk_fit8 (l : List Blk) : ∀ x ∈ l.map encB, fitsV true 2 x = true := fun x hx => by
  obtain ⟨y, _, rfl⟩ := List.mem_map.1 hx; rfl
set_option maxHeartbeats 1000000 in
theorem text_law8 (w : World) : Ct Tryz.prog 34 [] w fun v w' => ∃ a c cs, v = .agg #[.slice a cs.length c] ∧ RowV w' true 2 (.slice a cs.length c) (cs.map encCh) ∧ TextI w' cs ∧ txF cs = seaT := by
  refine Ct.ofW (by simp) ?_
  (((refine jjB ?_; refine jjC ?_)); refine jjY ?_; intro b0 w_b0 hb_b0 hs_b0 hS_b0 hk_b0; have hA_b0 := Bk.of hk_b0)
  (refine jz ?_; refine jjB ?_; refine jjC ?_)
  refine Ops.buildSliceF (cells := [strV wThe, strV wSea, strV wIs, strV wOld]) rfl rfl rfl ?_
  intro b1 w1 hb1 hs1 hS1 hk1
  refine Ops.buildSliceF (cells := [strV wOld, strV wThe, strV wSea]) rfl rfl rfl ?_
  intro b2 w2 hb2 hs2 hS2 hk2
  refine Ops.buildSliceF (cells := [.slice (some ⟨b1, 0, none⟩) 4 4, .slice (some ⟨b2, 0, none⟩) 3 3]) rfl rfl rfl ?_
  intro b3 w3 hb3 hs3 hS3 hk3
  (refine jjS (cells := [.int .i64 7, .slice (some ⟨b3, 0, none⟩) 2 2]) ?_ ?_; exact rfl)
  refine Ops.buildSliceF (cells := [strV wSea, strV wAnd, strV wSea]) rfl rfl rfl ?_
  intro b5 w5 hb5 hs5 hS5 hk5
  refine Ops.buildSliceF (cells := [.slice (some ⟨b5, 0, none⟩) 3 3]) rfl rfl rfl ?_
  intro b6 w6 hb6 hs6 hS6 hk6
  (refine jjS (cells := [.int .i64 3, .slice (some ⟨b6, 0, none⟩) 1 1]) ?_ ?_; exact rfl)
  refine Ops.buildSliceF (cells := [.int .i64 7, .slice (some ⟨b3, 0, none⟩) 2 2, .int .i64 3, .slice (some ⟨b6, 0, none⟩) 1 1]) rfl rfl rfl ?_
  intro b8 w8 hb8 hs8 hS8 hk8
  (refine jjS (cells := [.slice (some ⟨b8, 0, none⟩) 2 2]) ?_ ?_; exact rfl)
  have hb0 : Bk w8 b0 [.slice none 0 0] 63 := inferInstance
  have hE8 : Ext w w8 := inferInstance
  have k1 : Bk w8 b1 [strV wThe, strV wSea, strV wIs, strV wOld] 9 := inferInstance
  have k2 : Bk w8 b2 [strV wOld, strV wThe, strV wSea] 9 := inferInstance
  have k3 : Bk w8 b3 [.slice (some ⟨b1, 0, none⟩) 4 4, .slice (some ⟨b2, 0, none⟩) 3 3] 71 := inferInstance
  have k5 : Bk w8 b5 [strV wSea, strV wAnd, strV wSea] 9 := inferInstance
  have k6 : Bk w8 b6 [.slice (some ⟨b5, 0, none⟩) 3 3] 71 := inferInstance
  refine Ops.store rfl rfl rfl rfl rfl ?_
  intro V2 hp2
  have := Bk.toAt (h := Bk.of hp2.new)
  have z0 := hS_b0.size
  have z1 := hS1.size
  have z2 := hS2.size
  have z3 := hS3.size
  have z5 := hS5.size
  have z6 := hS6.size
  have z8 := hS8.size
  have m1 := hp2.bk k1 (by omega)
  have m2 := hp2.bk k2 (by omega)
  have m3 := hp2.bk k3 (by omega)
  have m5 := hp2.bk k5 (by omega)
  have m6 := hp2.bk k6 (by omega)
  have m8 := hp2.bk hk8 (by omega)
  (refine jz ?_; refine jjF ?_)
  refine fin1C rfl rfl rfl rfl rfl ⟨hp2.ext hE8 (by omega), some ⟨b8, 0, none⟩, 2, [(7, some ⟨b3, 0, none⟩, 2, [(some ⟨b1, 0, none⟩, 4, [wThe, wSea, wIs, wOld]), (some ⟨b2, 0, none⟩, 3, [wOld, wThe, wSea])]), (3, some ⟨b6, 0, none⟩, 1, [(some ⟨b5, 0, none⟩, 3, [wSea, wAnd, wSea])])], rfl, ?_, ⟨?_, ?_⟩, rfl⟩
  · exact Bk.rows (xs := [encCh (7, some ⟨b3, 0, none⟩, 2, [(some ⟨b1, 0, none⟩, 4, [wThe, wSea, wIs, wOld]), (some ⟨b2, 0, none⟩, 3, [wOld, wThe, wSea])]), encCh (3, some ⟨b6, 0, none⟩, 1, [(some ⟨b5, 0, none⟩, 3, [wSea, wAnd, wSea])])]) m8 (by simp [fitsV]) (by simp)
  · intro x hx
    simp only [List.mem_cons, List.not_mem_nil, or_false] at hx
    rcases hx with rfl | rfl
    · exact m3.row (fun x hx => by simp at hx; rcases hx with rfl | rfl <;> rfl) (by simp)
    · exact m6.row (fun x hx => by simp at hx; rcases hx with rfl; rfl) (by simp)
  · intro x hx
    simp only [List.mem_cons, List.not_mem_nil, or_false] at hx
    rcases hx with rfl | rfl
    · intro y hy
      simp only [List.mem_cons, List.not_mem_nil, or_false] at hy
      rcases hy with rfl | rfl
      · exact m1.row (strs_fit8 [_, _, _, _]) (by simp)
      · exact m2.row (strs_fit8 [_, _, _]) (by simp)
    · intro y hy
      simp only [List.mem_cons, List.not_mem_nil, or_false] at hy
      subst hy
      exact m5.row (strs_fit8 [_, _, _]) (by simp)
set_option maxHeartbeats 1000000 in
theorem example_law8 (w : World) : Ct Tryz.prog 31 [] w fun v w' => ∃ a c, v = .agg #[.int .i64 5, .slice a exG.length c] ∧ RowV w' true 2 (.slice a exG.length c) (exG.map encB) := by
  refine Ct.ofW (by simp) ?_
  (((refine jjB ?_; refine jjC ?_)); refine jjY ?_; intro b0 w_b0 hb_b0 hs_b0 hS_b0 hk_b0; have hA_b0 := Bk.of hk_b0)
  (refine jz ?_; refine jjB ?_; refine jjC ?_)
  (refine jjS (cells := [.string wAnd, .int .i64 3]) ?_ ?_; exact rfl)
  (refine jjS (cells := [.string wIs, .int .i64 2]) ?_ ?_; exact rfl)
  (refine jjS (cells := [.string wOld, .int .i64 6]) ?_ ?_; exact rfl)
  (refine jjS (cells := [.string wSea, .int .i64 4]) ?_ ?_; exact rfl)
  refine Ops.buildSliceF (cells := [.string wAnd, .int .i64 3, .string wIs, .int .i64 2, .string wOld, .int .i64 6, .string wSea, .int .i64 4]) rfl rfl rfl ?_
  intro b5 w5 hb5 hs5 hS5 hk5
  (refine jjS (cells := [.int .i64 5, .slice (some ⟨b5, 0, none⟩) 4 4]) ?_ ?_; exact rfl)
  have hb0 : Bk w5 b0 [.int .i64 0, .slice none 0 0] 24 := inferInstance
  have hE5 : Ext w w5 := inferInstance
  refine Ops.store rfl rfl rfl rfl rfl ?_
  intro V2 hp2
  have := Bk.toAt (h := Bk.of hp2.new)
  have z0 := hS_b0.size
  have z5 := hS5.size
  have m5 := hp2.bk hk5 (by omega)
  (refine jz ?_; refine jjF ?_)
  refine fin1C rfl rfl rfl rfl rfl ⟨hp2.ext hE5 (by omega), some ⟨b5, 0, none⟩, 4, rfl, ?_⟩
  exact Bk.rows (xs := exG.map encB) m5 (blk_fit8 _) (by simp)
theorem int_fit8 (l : List Int) : ∀ x ∈ l.map intV, fitsV false 1 x = true := fun x hx => by
  obtain ⟨y, _, rfl⟩ := List.mem_map.1 hx; rfl
theorem exg_sz : ∀ b ∈ exG, b.1.size ≤ 140737488351232 := by decide
section
variable (w : World) [hgs : At w 2 0 sidesC] [htn : At w 1 0 tornC] [hnn : At w 0 0 noneC]
set_option maxRecDepth 20000 in
set_option maxHeartbeats 16000000 in
theorem alive_law8 : Ct Tryz.prog 11 [] w fun v _ => v = .bool true := by
  refine Ct.ofW (by simp) ?_
  (refine jjB ?_; refine jjC ?_; apply jJ; exact eB rfl; refine jz ?_; refine jjB ?_; refine jjC ?_)
  refine jjQ (example_law8 _) rfl rfl ?_
  rintro _ w1 hS1 ⟨a1, c1, rfl, hR1⟩
  skip
  refine jjQ ((Ends_galley 5 a1 c1 exG _ hR1 exg_sz (htn.ext inferInstance)).mono (R' := fun v w' => ∃ u, v = .tuple #[u, .int .i64 0] ∧ RowV w' false 1 u ([(3 : Int), 5, 7, 8, 9, 11, 13, 15].map intV)) fun v _ _ h => by rw [if_pos ex_ok, ex_ends] at h; exact h) rfl rfl ?_
  rintro _ w2 hS2 ⟨u2, rfl, hR2⟩
  obtain ⟨a2, c2, rfl, i2⟩ := hR2.ints
  (apply jI; exact eU rfl; refine ju rfl rfl ?_; refine ju rfl rfl ?_; apply jJ; exact eS rfl; apply jJ; exact eI rfl; refine jz ?_; refine jjB ?_; refine jjC ?_)
  refine jjQ (example_law8 _) rfl rfl ?_
  rintro _ w3 hS3 ⟨a3, c3, rfl, hR3⟩
  skip
  refine jjQ ((Break_galley 5 a3 c3 exG _ hR3 exg_sz (htn.ext inferInstance) (hnn.ext inferInstance)).mono (R' := fun v w' => ∃ u, v = .tuple #[u, .int .i64 0] ∧ RowV w' false 1 u ([(5 : Int), 9, 13, 15].map intV)) fun v _ _ h => by rw [if_pos ex_ok, ex_brk] at h; exact h) rfl rfl ?_
  rintro _ w4 hS4 ⟨u4, rfl, hR4⟩
  obtain ⟨a4, c4, rfl, i4⟩ := hR4.ints
  (apply jI; exact eU rfl; refine ju rfl rfl ?_; refine ju rfl rfl ?_; apply jJ; exact eS rfl; apply jJ; exact eI rfl; refine jz ?_; refine jjB ?_; refine jjC ?_)
  refine jjQ (example_law8 _) rfl rfl ?_
  rintro _ w5 hS5 ⟨a5, c5, rfl, hR5⟩
  skip
  refine Ops.buildSliceF (cells := [.int .i64 5, .int .i64 9, .int .i64 13, .int .i64 15]) rfl rfl rfl ?_
  intro b6 w6 hb6 hs6 hS6 hk6
  have i6 : RowI w6 (.slice (some ⟨b6, 0, none⟩) exL.length 4) false 1 (exL.map intV) := ⟨hk6.row (fun x hx => by simp at hx; rcases hx with rfl | rfl | rfl | rfl <;> rfl) (by simp)⟩
  skip
  refine jjQ (ints_law8 (.slice (some ⟨b6, 0, none⟩) 4 4) _ _ _ rfl _) rfl rfl ?_
  rintro _ w7 hS7 rfl
  skip
  refine jjQ ((Waste_galley 5 a5 c5 exG (some ⟨b6, 0, none⟩) 4 exL _ (by decide) ((hR5.ext hS6.ext).ext hS7.ext) exg_sz (htn.ext inferInstance)).mono (R' := fun v _ => v = .tuple #[.int .i64 2, .int .i64 0]) fun v _ _ h => h.trans (by rw [ex_waste, ex_valid])) rfl rfl ?_
  rintro _ w8 hS8 rfl
  (apply jI; exact eU rfl; refine ju rfl rfl ?_; refine ju rfl rfl ?_; apply jJ; exact eI rfl; apply jJ; exact eI rfl; refine jz ?_; refine jjB ?_; refine jjC ?_)
  refine jjQ (example_law8 _) rfl rfl ?_
  rintro _ w9 hS9 ⟨a9, c9, rfl, hR9⟩
  skip
  refine jjQ ((Proof_galley 5 a9 c9 exG _ hR9 exg_sz (htn.ext inferInstance) (fun _ => by rw [ex_ends]; decide)).mono (R' := fun v w' => ∃ u, v = .tuple #[u, .int .i64 0] ∧ RowV w' false 1 u ([(0 : Int), 4, 0, 5, 4, 1, 6, 2, 2].map intV)) fun v _ _ h => by rw [if_pos ex_ok] at h; exact h) rfl rfl ?_
  rintro _ w10 hS10 ⟨u10, rfl, hR10⟩
  obtain ⟨a10, c10, rfl, i10⟩ := hR10.ints
  (apply jI; exact eU rfl; refine ju rfl rfl ?_; refine ju rfl rfl ?_; apply jJ; exact eS rfl; apply jJ; exact eI rfl; refine jz ?_; refine jjB ?_; refine jjC ?_)
  refine jjQ (example_law8 _) rfl rfl ?_
  rintro _ w11 hS11 ⟨a11, c11, rfl, hR11⟩
  skip
  refine Ops.buildSliceF (cells := [.int .i64 5, .int .i64 9, .int .i64 13, .int .i64 15]) rfl rfl rfl ?_
  intro b12 w12 hb12 hs12 hS12 hk12
  have i12 : RowI w12 (.slice (some ⟨b12, 0, none⟩) exL.length 4) false 1 (exL.map intV) := ⟨hk12.row (fun x hx => by simp at hx; rcases hx with rfl | rfl | rfl | rfl <;> rfl) (by simp)⟩
  skip
  refine jjQ (ints_law8 (.slice (some ⟨b12, 0, none⟩) 4 4) _ _ _ rfl _) rfl rfl ?_
  rintro _ w13 hS13 rfl
  skip
  refine jjQ ((At_galley 5 a11 c11 exG (some ⟨b12, 0, none⟩) 4 exL _ 9 (by decide) ((hR11.ext hS12.ext).ext hS13.ext) exg_sz (htn.ext inferInstance)).mono (R' := fun v _ => v = .tuple #[.int .i64 2, .int .i64 0, .int .i64 0]) fun v _ _ h => h.trans (by rw [ex_at]; rfl)) rfl rfl ?_
  rintro _ w14 hS14 rfl
  (apply jI; exact eU rfl; refine ju rfl rfl ?_; refine ju rfl rfl ?_; refine ju rfl rfl ?_; apply jJ; exact eI rfl; apply jJ; exact eI rfl; apply jJ; exact eI rfl; refine jz ?_; refine jjB ?_; refine jjC ?_)
  refine jjQ (example_law8 _) rfl rfl ?_
  rintro _ w15 hS15 ⟨a15, c15, rfl, hR15⟩
  skip
  refine Ops.buildSliceF (cells := [.int .i64 5, .int .i64 9, .int .i64 13, .int .i64 15]) rfl rfl rfl ?_
  intro b16 w16 hb16 hs16 hS16 hk16
  have i16 : RowI w16 (.slice (some ⟨b16, 0, none⟩) exL.length 4) false 1 (exL.map intV) := ⟨hk16.row (fun x hx => by simp at hx; rcases hx with rfl | rfl | rfl | rfl <;> rfl) (by simp)⟩
  skip
  refine jjQ (ints_law8 (.slice (some ⟨b16, 0, none⟩) 4 4) _ _ _ rfl _) rfl rfl ?_
  rintro _ w17 hS17 rfl
  skip
  refine jjQ ((Columns_galley 5 a15 c15 exG (some ⟨b16, 0, none⟩) 4 exL _ 2 (by decide) ((hR15.ext hS16.ext).ext hS17.ext) exg_sz (htn.ext inferInstance)).mono (R' := fun v _ => v = .tuple #[.int .i64 1, .int .i64 2, .int .i64 0]) fun v _ _ h => h.trans (by rw [ex_col]; rfl)) rfl rfl ?_
  rintro _ w18 hS18 rfl
  (apply jI; exact eU rfl; refine ju rfl rfl ?_; refine ju rfl rfl ?_; refine ju rfl rfl ?_; apply jJ; exact eI rfl; apply jJ; exact eI rfl; apply jJ; exact eI rfl; refine jz ?_; refine jjB ?_; refine jjC ?_)
  refine jjQ (example_law8 _) rfl rfl ?_
  rintro _ w19 hS19 ⟨a19, c19, rfl, hR19⟩
  skip
  refine Ops.buildSliceF (cells := [.int .i64 5, .int .i64 9, .int .i64 13, .int .i64 15]) rfl rfl rfl ?_
  intro b20 w20 hb20 hs20 hS20 hk20
  have i20 : RowI w20 (.slice (some ⟨b20, 0, none⟩) exL.length 4) false 1 (exL.map intV) := ⟨hk20.row (fun x hx => by simp at hx; rcases hx with rfl | rfl | rfl | rfl <;> rfl) (by simp)⟩
  skip
  refine jjQ (ints_law8 (.slice (some ⟨b20, 0, none⟩) 4 4) _ _ _ rfl _) rfl rfl ?_
  rintro _ w21 hS21 rfl
  skip
  refine jjQ ((Fix_galley 5 a19 c19 exG (some ⟨b20, 0, none⟩) 4 exL _ 1 3 (by decide) ((hR19.ext hS20.ext).ext hS21.ext) exg_sz (htn.ext inferInstance) (hnn.ext inferInstance)).mono (R' := fun v w' => ∃ (xa : Option Addr) (xc : Nat) (aa : Option Addr) (ac : Nat), v = .tuple #[.agg #[.int .i64 5, .slice xa 4 xc], .slice aa 5 ac, .int .i64 0, .int .i64 0, .int .i64 0] ∧ RowV w' true 2 (.slice xa 4 xc) ([(wAnd, (3 : Int)), (wIs, 3), (wOld, 6), (wSea, 4)].map encB) ∧ RowV w' false 1 (.slice aa 5 ac) ([(3 : Int), 6, 10, 14, 16].map intV)) fun v _ _ h => ?_) rfl rfl ?_
  · rcases h with ⟨h1, -⟩ | ⟨-, h1, -⟩ | ⟨-, k', t, xa, xc, aa, ac, hk, hD, hT, hv, hOx, hOm, -⟩
    · exact absurd ex_valid h1
    · exact absurd ⟨⟨by omega, by decide⟩, by omega, by omega⟩ h1
    · obtain rfl : k' = 1 := by omega
      obtain rfl : t = 0 := (FixT.eq hD hT).trans ex_colT.1
      rw [ex_fix, ex_colT.2] at hv
      rw [ex_fix] at hOm
      exact ⟨xa, xc, aa, ac, hv, hOx.row, hOm.row⟩
  rintro _ w22 hS22 ⟨xa, xc, aa, ac, rfl, hRx, hRm⟩
  (apply jI; exact eU rfl; refine ju rfl rfl ?_; refine ju rfl rfl ?_; refine ju rfl rfl ?_; refine ju rfl rfl ?_; refine ju rfl rfl ?_)
  (apply jjR rfl; (intro _; first|exact eI rfl|exact eB rfl|exact eP rfl|exact eS rfl|exact eT rfl|exact eA rfl|exact eU rfl|exact eF rfl|exact eM rfl|exact eN rfl|exact rfl); exact rfl; exact rfl; exact rfl; exact rfl; intro b15 w_b15 hb_b15 hs_b15 hS_b15 hk_b15; have hA_b15 := Bk.of hk_b15)
  (apply jJ; exact eS rfl; apply jJ; exact eI rfl; apply jJ; exact eI rfl; apply jJ; exact eI rfl; refine jz ?_; refine jjB ?_; refine jjC ?_)
  refine jjQ (text_law8 _) rfl rfl ?_
  rintro _ w23 hS23 ⟨a23, c23, cs23, rfl, hR23, hT23, hx23⟩
  have i23 := RowI.mk hR23
  skip
  (refine jjS (cells := [.int .i64 14, .int .u8 3]) ?_ ?_; exact rfl)
  have hst := Set_galley a23 c23 cs23 14 3 w23 (small_of_great (by rw [hx23]; kernel_rfl)) (by omega) 4
  rw [hx23, ex_set] at hst
  skip
  refine jjQ hst rfl rfl ?_
  rintro _ w24 hS24 ⟨ga, gc, rfl, hRg⟩
  (apply jI; exact eU rfl; refine ju rfl rfl ?_; refine ju rfl rfl ?_)
  (apply jjR rfl; (intro _; first|exact eI rfl|exact eB rfl|exact eP rfl|exact eS rfl|exact eT rfl|exact eA rfl|exact eU rfl|exact eF rfl|exact eM rfl|exact eN rfl|exact rfl); exact rfl; exact rfl; exact rfl; exact rfl; intro b20 w_b20 hb_b20 hs_b20 hS_b20 hk_b20; have hA_b20 := Bk.of hk_b20)
  (apply jJ; exact eI rfl; refine jz ?_; refine jjB ?_; refine jjC ?_)
  (refine jjS (cells := [.string wAnd, .int .i64 2]) ?_ ?_; exact rfl)
  (refine jjS (cells := [.string wIs, .int .i64 2]) ?_ ?_; exact rfl)
  (refine jjS (cells := [.string wOld, .int .i64 3]) ?_ ?_; exact rfl)
  (refine jjS (cells := [.string wSea, .int .i64 5]) ?_ ?_; exact rfl)
  (refine jjS (cells := [.string wThe, .int .i64 3]) ?_ ?_; exact rfl)
  refine Ops.buildSliceF (cells := [.string wAnd, .int .i64 2, .string wIs, .int .i64 2, .string wOld, .int .i64 3, .string wSea, .int .i64 5, .string wThe, .int .i64 3]) rfl rfl rfl ?_
  intro b25 w25 hb25 hs25 hS25 hk25
  have hEx : Ext w22 w25 := inferInstance
  have iM : RowI w25 (.slice aa 5 ac) false 1 ([(3 : Int), 6, 10, 14, 16].map intV) := ⟨hRm.ext inferInstance⟩
  have iX : RowI w25 (.slice xa 4 xc) true 2 ([(wAnd, (3 : Int)), (wIs, 3), (wOld, 6), (wSea, 4)].map encB) := ⟨hRx.ext inferInstance⟩
  have iG : RowI w25 (.slice ga 5 gc) true 2 ([(wAnd, (2 : Int)), (wIs, 2), (wOld, 3), (wSea, 5), (wThe, 3)].map encB) := ⟨hRg.ext inferInstance⟩
  have iW : RowI w25 (.slice (some ⟨b25, 0, none⟩) 5 5) true 2 ([(wAnd, (2 : Int)), (wIs, 2), (wOld, 3), (wSea, 5), (wThe, 3)].map encB) := ⟨Bk.rows (xs := [(wAnd, (2 : Int)), (wIs, 2), (wOld, 3), (wSea, 5), (wThe, 3)].map encB) hk25 (blk_fit8 _) (by simp)⟩
  have hA15 : At w25 b15 0 [.int .i64 5, .slice xa 4 xc] := inferInstance
  have hA20 : At w25 b20 0 [.int .i64 4, .slice ga 5 gc] := inferInstance
  (apply jJ; exact eS rfl; refine jz ?_; refine jjB ?_; refine jjC ?_; apply jI; exact eI rfl; refine jjh rfl rfl (by omega) ?_; apply jI; exact eB rfl; refine jT rfl rfl rfl ?_; apply jI; exact eS rfl; refine jT rfl rfl rfl ?_)
  refine Ops.buildSliceF (cells := [.int .i64 3, .int .i64 5, .int .i64 7, .int .i64 8, .int .i64 9, .int .i64 11, .int .i64 13, .int .i64 15]) rfl rfl rfl ?_
  intro b87 w87 hb87 hs87 hS87 hk87
  have i87 : RowI w87 (.slice (some ⟨b87, 0, none⟩) ([3, 5, 7, 8, 9, 11, 13, 15] : List Int).length 8) false 1 (([3, 5, 7, 8, 9, 11, 13, 15] : List Int).map intV) := ⟨Bk.row (xs := ([3, 5, 7, 8, 9, 11, 13, 15] : List Int).map intV) hk87 (int_fit8 _) (by simp)⟩
  (refine jT rfl rfl rfl ?_)
  refine jjQ ((same_law8 a2 (some ⟨b87, 0, none⟩) c2 8 [3, 5, 7, 8, 9, 11, 13, 15] [3, 5, 7, 8, 9, 11, 13, 15] _).mono (R' := fun v _ => v = .bool true) fun v _ _ h => h.trans (by rw [decide_eq_true rfl])) rfl rfl ?_
  rintro _ w26 hS26 rfl
  (apply jK rfl; exact eB rfl; apply jI; exact eB rfl; refine jT rfl rfl rfl ?_; apply jI; exact eI rfl; refine jT rfl rfl rfl ?_; refine jjh rfl rfl (by omega) ?_; apply jK rfl; exact eB rfl; apply jI; exact eB rfl; refine jT rfl rfl rfl ?_; apply jI; exact eS rfl; refine jT rfl rfl rfl ?_)
  refine Ops.buildSliceF (cells := [.int .i64 5, .int .i64 9, .int .i64 13, .int .i64 15]) rfl rfl rfl ?_
  intro b96 w96 hb96 hs96 hS96 hk96
  have i96 : RowI w96 (.slice (some ⟨b96, 0, none⟩) ([5, 9, 13, 15] : List Int).length 4) false 1 (([5, 9, 13, 15] : List Int).map intV) := ⟨Bk.row (xs := ([5, 9, 13, 15] : List Int).map intV) hk96 (int_fit8 _) (by simp)⟩
  (refine jT rfl rfl rfl ?_)
  refine jjQ ((same_law8 a4 (some ⟨b96, 0, none⟩) c4 4 [5, 9, 13, 15] [5, 9, 13, 15] _).mono (R' := fun v _ => v = .bool true) fun v _ _ h => h.trans (by rw [decide_eq_true rfl])) rfl rfl ?_
  rintro _ w27 hS27 rfl
  (apply jK rfl; exact eB rfl; apply jI; exact eB rfl; refine jT rfl rfl rfl ?_; apply jI; exact eI rfl; refine jT rfl rfl rfl ?_; refine jjh rfl rfl (by omega) ?_; apply jK rfl; exact eB rfl; apply jI; exact eB rfl; refine jT rfl rfl rfl ?_; apply jI; exact eI rfl; refine jT rfl rfl rfl ?_; refine jjh rfl rfl (by omega) ?_; apply jK rfl; exact eB rfl; apply jI; exact eB rfl; refine jT rfl rfl rfl ?_; apply jI; exact eI rfl; refine jT rfl rfl rfl ?_; refine jjh rfl rfl (by omega) ?_; apply jK rfl; exact eB rfl; apply jI; exact eB rfl; refine jT rfl rfl rfl ?_; apply jI; exact eS rfl; refine jT rfl rfl rfl ?_)
  refine Ops.buildSliceF (cells := [.int .i64 0, .int .i64 4, .int .i64 0, .int .i64 5, .int .i64 4, .int .i64 1, .int .i64 6, .int .i64 2, .int .i64 2]) rfl rfl rfl ?_
  intro b113 w113 hb113 hs113 hS113 hk113
  have i113 : RowI w113 (.slice (some ⟨b113, 0, none⟩) ([0, 4, 0, 5, 4, 1, 6, 2, 2] : List Int).length 9) false 1 (([0, 4, 0, 5, 4, 1, 6, 2, 2] : List Int).map intV) := ⟨Bk.row (xs := ([0, 4, 0, 5, 4, 1, 6, 2, 2] : List Int).map intV) hk113 (int_fit8 _) (by simp)⟩
  (refine jT rfl rfl rfl ?_)
  refine jjQ ((same_law8 a10 (some ⟨b113, 0, none⟩) c10 9 [0, 4, 0, 5, 4, 1, 6, 2, 2] [0, 4, 0, 5, 4, 1, 6, 2, 2] _).mono (R' := fun v _ => v = .bool true) fun v _ _ h => h.trans (by rw [decide_eq_true rfl])) rfl rfl ?_
  rintro _ w28 hS28 rfl
  (apply jK rfl; exact eB rfl; apply jI; exact eB rfl; refine jT rfl rfl rfl ?_; apply jI; exact eI rfl; refine jT rfl rfl rfl ?_; refine jjh rfl rfl (by omega) ?_; apply jK rfl; exact eB rfl; apply jI; exact eB rfl; refine jT rfl rfl rfl ?_; apply jI; exact eI rfl; refine jT rfl rfl rfl ?_; refine jjh rfl rfl (by omega) ?_; apply jK rfl; exact eB rfl; apply jI; exact eB rfl; refine jT rfl rfl rfl ?_; apply jI; exact eI rfl; refine jT rfl rfl rfl ?_; refine jjh rfl rfl (by omega) ?_; apply jK rfl; exact eB rfl; apply jI; exact eB rfl; refine jT rfl rfl rfl ?_; apply jI; exact eI rfl; refine jT rfl rfl rfl ?_; refine jjh rfl rfl (by omega) ?_; apply jK rfl; exact eB rfl; apply jI; exact eB rfl; refine jT rfl rfl rfl ?_; apply jI; exact eI rfl; refine jT rfl rfl rfl ?_; refine jjh rfl rfl (by omega) ?_; apply jK rfl; exact eB rfl; apply jI; exact eB rfl; refine jT rfl rfl rfl ?_; apply jI; exact eI rfl; refine jT rfl rfl rfl ?_; refine jjh rfl rfl (by omega) ?_; apply jK rfl; exact eB rfl; apply jI; exact eB rfl; refine jT rfl rfl rfl ?_; apply jI; exact eI rfl; refine jT rfl rfl rfl ?_; refine jjh rfl rfl (by omega) ?_; apply jK rfl; exact eB rfl; apply jI; exact eB rfl; refine jT rfl rfl rfl ?_; refine jm ?_; refine jn rfl ?_; refine jT rfl rfl rfl ?_; refine jN rfl rfl rfl ?_; refine jT rfl rfl rfl ?_; refine jh rfl ?_; refine jT rfl rfl rfl ?_; refine jjh rfl rfl (by omega) ?_; apply jK rfl; exact eB rfl; apply jI; exact eB rfl; refine jT rfl rfl rfl ?_; refine jm ?_; refine jn rfl ?_; refine jT rfl rfl rfl ?_; refine jN rfl rfl rfl ?_; refine jT rfl rfl rfl ?_)
  refine jF rfl rfl rfl (map_get (show 1 < [(wAnd, (3 : Int)), (wIs, 3), (wOld, 6), (wSea, 4)].length by decide)) ?_
  intro b153 o153 hA153
  have hA153' : At _ b153 o153 [.string wIs, .int .i64 3] := hA153
  (refine jT rfl rfl rfl ?_; refine jm ?_; refine jn rfl ?_; refine jT rfl rfl rfl ?_; refine jP rfl rfl rfl ?_; refine jT rfl rfl rfl ?_; refine jjh rfl rfl (by omega) ?_; apply jK rfl; exact eB rfl; apply jI; exact eB rfl; refine jT rfl rfl rfl ?_; apply jI; exact eS rfl; refine jT rfl rfl rfl ?_)
  refine Ops.buildSliceF (cells := [.int .i64 3, .int .i64 6, .int .i64 10, .int .i64 14, .int .i64 16]) rfl rfl rfl ?_
  intro b160 w160 hb160 hs160 hS160 hk160
  have i160 : RowI w160 (.slice (some ⟨b160, 0, none⟩) ([3, 6, 10, 14, 16] : List Int).length 5) false 1 (([3, 6, 10, 14, 16] : List Int).map intV) := ⟨Bk.row (xs := ([3, 6, 10, 14, 16] : List Int).map intV) hk160 (int_fit8 _) (by simp)⟩
  (refine jT rfl rfl rfl ?_)
  refine jjQ ((same_law8 aa (some ⟨b160, 0, none⟩) ac 5 [3, 6, 10, 14, 16] [3, 6, 10, 14, 16] _).mono (R' := fun v _ => v = .bool true) fun v _ _ h => h.trans (by rw [decide_eq_true rfl])) rfl rfl ?_
  rintro _ w29 hS29 rfl
  (apply jK rfl; exact eB rfl; apply jI; exact eB rfl; refine jT rfl rfl rfl ?_; apply jI; exact eI rfl; refine jT rfl rfl rfl ?_; refine jjh rfl rfl (by omega) ?_; apply jK rfl; exact eB rfl; apply jI; exact eB rfl; refine jT rfl rfl rfl ?_; apply jI; exact eI rfl; refine jT rfl rfl rfl ?_; refine jjh rfl rfl (by omega) ?_; apply jK rfl; exact eB rfl; apply jI; exact eB rfl; refine jT rfl rfl rfl ?_; apply jI; exact eI rfl; refine jT rfl rfl rfl ?_; refine jjh rfl rfl (by omega) ?_; apply jK rfl; exact eB rfl; apply jI; exact eB rfl; refine jT rfl rfl rfl ?_; refine jO rfl rfl rfl rfl ?_; refine jT rfl rfl rfl ?_; apply jI; exact eS rfl; refine jT rfl rfl rfl ?_)
  (refine jjS (cells := [.int .i64 4, .slice (some ⟨b25, 0, none⟩) 5 5]) ?_ ?_; exact rfl)
  (refine jT rfl rfl rfl ?_)
  refine jjQ (Same_yes 4 ga (some ⟨b25, 0, none⟩) gc 5 [(wAnd, 2), (wIs, 2), (wOld, 3), (wSea, 5), (wThe, 3)] _) rfl rfl ?_
  rintro _ w30 hS30 rfl
  (apply jK rfl; exact eB rfl; apply jJ; exact eB rfl; refine jz ?_; refine jjF ?_; refine jB rfl rfl ⟨inferInstance, ?_⟩)
  exact rfl
end
end Go.Proofs.YtfebegbjggoijaaGreatDoor

/- The law: no breaking has less waste. -/
namespace Go.Proofs.YtfebegbjggoijaaGreatDoor
open Go.RowKit

theorem mul_small {x : Int} (h : 0 ≤ x ∧ x ≤ 1000) : -9223372036854775808 ≤ x * x ∧ x * x ≤ 9223372036854775807 := by
  have h1 := Int.mul_nonneg h.1 h.1
  have h2 := Int.mul_le_mul h.2 h.2 h.1 (by omega : (0 : Int) ≤ 1000)
  omega
/-- What stands in the proof, as the loops ask for it. -/
structure PrfI (h S : Int) (E xs P : List Int) : Prop where
  len : P.length = xs.length + 1
  p0 : P.getD 0 0 = 0
  up : ∀ i j, i < j → j ≤ xs.length → E.getD i 0 < E.getD j 0
  last : ∀ k, k ≤ xs.length → (E.getD k 0 = S ↔ k = xs.length)
  rng : ∀ k, k ≤ xs.length → 0 ≤ E.getD k 0 ∧ E.getD k 0 ≤ 600
  low : ∀ k, k ≤ xs.length → 0 ≤ P.getD k 0 ∧ P.getD k 0 ≤ 1000000
  le : ∀ k, 1 ≤ k → k ≤ xs.length → ∀ j, j < k → E.getD k 0 - E.getD j 0 ≤ h → P.getD k 0 ≤ P.getD j 0 + colW h S (E.getD j 0) (E.getD k 0)
  ex : ∀ k, 1 ≤ k → k ≤ xs.length → ∃ j, j < k ∧ E.getD k 0 - E.getD j 0 ≤ h ∧ P.getD k 0 = P.getD j 0 + colW h S (E.getD j 0) (E.getD k 0)
theorem prf_I {h : Int} {bs : List Blk} (hg : galleyB h bs = true) : PrfI h (sumL bs) (0 :: endsF 0 bs) (endsF 0 bs) (proofS h (sumL bs) (endsF 0 bs)).2 := by
  obtain ⟨hh, hl, hb, hs1, hs2⟩ := galley_yes hg
  have hr := rise_ends hb
  have hlen := endsF_len hb 0
  obtain ⟨p0, ps⟩ := proof_steps (tot := sumL bs) (h := h) (by omega) (xs := endsF 0 bs) (by omega) hr
  obtain ⟨e1, e2⟩ := last_getD hb hl.1
  have I := proofI (tot := sumL bs) (h := h) (by omega) (endsF 0 bs).length (endsF 0 bs) rfl (by omega) hr
  refine ⟨proofS_len _ _ _, p0, hr.up, fun k hk => ⟨fun e => ?_, fun e => by rw [e]; exact e1⟩, fun k hk => ?_, fun k hk => ?_, fun k h1 h2 => (ps k h1 h2).1, fun k h1 h2 => (ps k h1 h2).2⟩
  · refine Decidable.by_contra fun hne => ?_
    have := hr.up k (endsF 0 bs).length (by omega) (Nat.le_refl _)
    omega
  · have h0 : (0 :: endsF 0 bs).getD 0 0 = 0 := rfl
    have hlo : 0 ≤ (0 :: endsF 0 bs).getD k 0 := by
      rcases Nat.eq_zero_or_pos k with e | e
      · subst e; exact Int.le_refl _
      · have := hr.up 0 k e hk; omega
    refine ⟨hlo, ?_⟩
    rcases Nat.lt_or_ge k (endsF 0 bs).length with c | c
    · have := hr.up k (endsF 0 bs).length c (Nat.le_refl _); omega
    · obtain rfl : k = (endsF 0 bs).length := by omega
      omega
  · have := I.low k (by rw [List.length_cons]; omega)
    omega
section
variable (h : Int) (a : Option Addr) (c : Nat) (bs : List Blk) (ba : Option Addr) (bc : Nat) (by_ : List Int) (w : World) [hgs : At w 2 0 sidesC] [htn : At w 1 0 tornC] [hnn : At w 0 0 noneC]
set_option maxRecDepth 20000 in
set_option maxHeartbeats 16000000 in
theorem GalleyLeast_law (hu : U32s by_) [hrow : RowI w (.slice a bs.length c) true 2 (bs.map encB)] [hby : RowI w (.slice ba by_.length bc) false 1 (by_.map u32V)] :
    Ct Tryz.prog 4 [.agg #[.int .i64 h, .slice a bs.length c], .slice ba by_.length bc] w fun v _ => v = .bool true := by
  refine Ct.ofW (by simp) ?_
  (refine jjB ?_; refine jjC ?_)
  (refine jy rfl ?_; intro b2 w_b2 hb_b2 hs_b2 hS_b2 hk_b2; have hA_b2 := At.ofBlock hk_b2)
  (apply jJ; exact eB rfl; refine jz ?_; refine jjB ?_; refine jjC ?_)
  refine jjQ (alive_law8 _) rfl rfl ?_
  rintro _ w3 hS3 rfl
  obtain ⟨R, hR⟩ : ∃ R, (greatB bs || decide (700 < 0)) = R := ⟨_, rfl⟩
  (apply jJ; exact eB rfl; refine jz ?_; refine jjB ?_; refine jjB ?_; refine jjC ?_; refine jO rfl rfl rfl rfl ?_)
  refine jjQ ((great_ref h a c bs none 0 0 _).mono fun v _ _ h => h.trans (by rw [hR])) rfl rfl ?_
  rintro _ w4 hS4 rfl
  cases R with
  | true =>
    (apply jI; exact eB rfl; refine jU rfl rfl rfl rfl ?_; refine jU rfl rfl rfl rfl ?_; refine jU rfl rfl rfl rfl ?_; apply jK rfl; exact eB rfl; apply jI; exact eB rfl; refine jU rfl rfl rfl rfl ?_; refine jU rfl rfl rfl rfl ?_; apply jK rfl; exact eB rfl; refine jz ?_; refine jjJ rfl ?_; refine jjB ?_; refine jjC ?_; apply jI; exact eB rfl; apply jJ; exact eB rfl; refine jz ?_; refine jjF ?_; refine jB rfl rfl ⟨inferInstance, ?_⟩)
    exact rfl
  | false =>
  have hgr : greatB bs = false := by simpa using hR
  have hsz := great_no hgr
  have hbz : ∀ b ∈ bs, b.1.size ≤ 140737488351232 := fun b hb => by have := hsz.2 b hb; omega
  obtain ⟨G, hG⟩ : ∃ G, galleyB h bs = G := ⟨_, rfl⟩
  (apply jI; exact eB rfl; refine jT rfl rfl rfl ?_; refine jO rfl rfl rfl rfl ?_; refine jT rfl rfl rfl ?_)
  refine jjQ ((Galley_ref h a c bs _ hbz (by omega)).mono fun v _ _ h => h.trans (by rw [hG])) rfl rfl ?_
  rintro _ w5 hS5 rfl
  cases G with
  | false =>
    (refine jT rfl rfl rfl ?_; refine jq rfl ?_; apply jL rfl; exact eB rfl; apply jI; exact eB rfl; refine jU rfl rfl rfl rfl ?_; refine jU rfl rfl rfl rfl ?_; apply jK rfl; exact eB rfl; refine jz ?_; refine jjJ rfl ?_; refine jjB ?_; refine jjC ?_; apply jI; exact eB rfl; apply jJ; exact eB rfl; refine jz ?_; refine jjF ?_; refine jB rfl rfl ⟨inferInstance, ?_⟩)
    exact rfl
  | true =>
  obtain ⟨hh, hlb, hbb, hs1, hs2⟩ := galley_yes hG
  have hge : gErr h bs = 0 := by rw [gErr, hG]; rfl
  (refine jT rfl rfl rfl ?_; refine jp rfl ?_; apply jL rfl; exact eB rfl; apply jI; exact eB rfl; refine jT rfl rfl rfl ?_; apply jI; exact eB rfl; refine jT rfl rfl rfl ?_; refine jp rfl ?_; apply jL rfl; exact eB rfl; refine jz ?_; refine jjK rfl ?_; refine jjG ?_; refine jjB ?_; refine jjC ?_; refine jO rfl rfl rfl rfl ?_)
  refine jjQ ((Break_galley h a c bs _ (hrow.h.ext inferInstance) hbz (htn.ext inferInstance) (hnn.ext inferInstance)).mono (R' := fun v w' => ∃ u, v = .tuple #[u, .int .i64 0] ∧ RowV w' false 1 u ((brkL h bs).map intV)) fun v _ _ h => by rw [if_pos hG, hge] at h; exact h) rfl rfl ?_
  rintro _ w6 hS6 ⟨u6, rfl, hR6⟩
  obtain ⟨a6, c6, rfl, i6⟩ := hR6.ints
  obtain ⟨hbv, hbw, hbl⟩ := brk_facts hG
  have hb6 : (brkL h bs).length ≤ 600 := by have := chn_up (valid_chn.1 hbv); omega
  have hbr6 : brkE h bs (brkL h bs) = 0 := by rw [brkE, if_pos hG, if_pos hbv]
  have hlz : lastZ (endsF 0 bs) = sumL bs := lastZ_ends hbb hlb.1
  have hPI := prf_I hG
  have hPl := proof_last hG
  have heb : ∀ x ∈ endsF 0 bs, 0 ≤ x ∧ x ≤ 1000 := fun x hx => by have := ends_bound hbb x hx; omega
  (apply jI; exact eU rfl; refine ju rfl rfl ?_; refine ju rfl rfl ?_; apply jJ; exact eS rfl; apply jJ; exact eI rfl; refine jz ?_; refine jjB ?_; refine jjC ?_; refine jO rfl rfl rfl rfl ?_)
  obtain ⟨xs, hxs⟩ : ∃ xs, endsF 0 bs = xs := ⟨_, rfl⟩
  refine jjQ ((Ends_galley h a c bs _ (hrow.h.ext inferInstance) hbz (htn.ext inferInstance)).mono (R' := fun v w' => ∃ u, v = .tuple #[u, .int .i64 0] ∧ RowV w' false 1 u (xs.map intV)) fun v _ _ h => by rw [if_pos hG, hge, hxs] at h; exact h) rfl rfl ?_
  rintro _ w7 hS7 ⟨u7, rfl, hR7⟩
  obtain ⟨a7, c7, rfl, i7⟩ := hR7.ints
  (apply jI; exact eU rfl; refine ju rfl rfl ?_; refine ju rfl rfl ?_; apply jJ; exact eS rfl; apply jJ; exact eI rfl; refine jz ?_; refine jjB ?_; refine jjC ?_; refine jO rfl rfl rfl rfl ?_)
  obtain ⟨P, hP⟩ : ∃ P, (proofS h (sumL bs) (endsF 0 bs)).2 = P := ⟨_, rfl⟩
  refine jjQ ((Proof_galley h a c bs _ (hrow.h.ext inferInstance) hbz (htn.ext inferInstance) (fun _ => heb)).mono (R' := fun v w' => ∃ u, v = .tuple #[u, .int .i64 0] ∧ RowV w' false 1 u (P.map intV)) fun v _ _ h => by rw [if_pos hG, hge, hlz, hP] at h; exact h) rfl rfl ?_
  rintro _ w10 hS10 ⟨u10, rfl, hR10⟩
  obtain ⟨a10, c10, rfl, i10⟩ := hR10.ints
  rw [hP, hxs] at hPI hPl
  have hxl := (last_getD hbb hlb.1).2
  rw [hxs] at hxl
  obtain ⟨W0, hW0⟩ : ∃ W0, wasteP h (sumL bs) (brkL h bs) (brkL h bs).length = W0 := ⟨_, rfl⟩
  rw [hW0] at hPl hbl
  clear hbw heb hP
  generalize hbest : brkL h bs = best at *
  (apply jI; exact eU rfl; refine ju rfl rfl ?_; refine ju rfl rfl ?_; apply jJ; exact eS rfl; apply jJ; exact eI rfl; refine jz ?_; refine jjB ?_; refine jjC ?_; refine jO rfl rfl rfl rfl ?_; apply jI; exact eS rfl)
  refine jjQ ((Waste_galley h a c bs a6 c6 best _ (by omega) (hrow.h.ext inferInstance) hbz (htn.ext inferInstance)).mono (R' := fun v _ => v = .tuple #[.int .i64 W0, .int .i64 0]) fun v _ _ h => h.trans (by rw [wasteS, if_pos hbr6, hW0, hbr6])) rfl rfl ?_
  rintro _ w11 hS11 rfl
  have hPn := hPI.len
  have hx6 : xs.length ≤ 600 := by have := endsF_len hbb 0; rw [hxs] at this; omega
  have e0 : P.getD 0 0 = P[0]'(by omega) := getD_lt (by omega)
  have eL : P.getD xs.length 0 = P[xs.length]'(by omega) := getD_lt (by omega)
  have hp0 := hPI.p0
  rw [e0] at hp0
  rw [eL] at hPl
  (apply jI; exact eU rfl; refine ju rfl rfl ?_; refine ju rfl rfl ?_; apply jJ; exact eI rfl; apply jJ; exact eI rfl; refine jz ?_; refine jjB ?_; refine jjB ?_; refine jjC ?_; apply jI; exact eI rfl; refine jjk rfl rfl (by omega) ?_; apply jI; exact eB rfl; refine jT rfl rfl rfl ?_; apply jI; exact eI rfl; refine jT rfl rfl rfl ?_; refine jjk rfl rfl (by omega) ?_; apply jL rfl; exact eB rfl; apply jI; exact eB rfl; refine jT rfl rfl rfl ?_; apply jI; exact eI rfl; refine jT rfl rfl rfl ?_; refine jjk rfl rfl (by omega) ?_; apply jL rfl; exact eB rfl; apply jI; exact eB rfl; refine jT rfl rfl rfl ?_; apply jI; exact eI rfl; refine jT rfl rfl rfl ?_; refine jjk rfl rfl (by omega) ?_; apply jL rfl; exact eB rfl; apply jI; exact eB rfl; refine jT rfl rfl rfl ?_; apply jI; exact eS rfl; refine jT rfl rfl rfl ?_; refine jh rfl ?_; refine jT rfl rfl rfl ?_; apply jI; exact eS rfl; refine jT rfl rfl rfl ?_; refine jh rfl ?_; refine jT rfl rfl rfl ?_; refine jY rfl rfl (by omega) ?_; refine jT rfl rfl rfl ?_; refine jjk rfl rfl (by omega) ?_; apply jL rfl; exact eB rfl; apply jI; exact eB rfl; refine jT rfl rfl rfl ?_; apply jI; exact eS rfl; refine jT rfl rfl rfl ?_)
  refine jF (j := 0) rfl rfl rfl (map_get (show 0 < P.length by omega)) ?_
  intro _ _ _
  (refine jT rfl rfl rfl ?_; refine jQ rfl rfl ?_; refine jT rfl rfl rfl ?_; refine jjk rfl rfl (by omega) ?_; apply jL rfl; exact eB rfl; apply jI; exact eB rfl; refine jT rfl rfl rfl ?_; apply jI; exact eS rfl; refine jT rfl rfl rfl ?_; apply jI; exact eS rfl; refine jT rfl rfl rfl ?_; refine jh rfl ?_; refine jT rfl rfl rfl ?_; refine jF rfl rfl rfl (map_get (by omega)) ?_; intro _ _ _; refine jT rfl rfl rfl ?_; refine jQ rfl rfl ?_; refine jT rfl rfl rfl ?_; apply jI; exact eI rfl; refine jT rfl rfl rfl ?_; refine jjk rfl rfl (by omega) ?_; apply jL rfl; exact eB rfl; refine jz ?_; refine jjK rfl ?_; refine jjG ?_; refine jjB ?_; refine jjC ?_)
  (refine jjP (v := .int _ _) rfl (by exact rfl) (by exact rfl) (by exact rfl) (by exact rfl) ?_; intro b94 w_b94 hb_b94 hs_b94 hS_b94 hk_b94; have hR_b94 := RowV.one (agg := false) (k := 1) rfl hk_b94)
  (apply jI; exact eS rfl)
  refine Ops.appendL (OwnL.one (B := w11.heap.size) (k := 1) (agg := false) (x := .int .i64 0) rfl (by omega) hk_b94) (by omega) (i7.h.ext inferInstance) rfl rfl rfl rfl (all_ints xs) ?_ ?_ ?_
  · simp only [List.length_map, List.length_cons, List.length_nil]; omega
  · simp only [List.length_map, List.length_cons, List.length_nil]; omega
  intro v13 w13 hA13 hO13 _ _
  have hE13 : Ext w11 w13 := hA13.ext inferInstance (Nat.le_refl _)
  have hS13 := hE13.toStep
  have hO13' : OwnL w13 w11.heap.size 3 false 1 v13 ((0 :: xs).map intV) := hO13
  obtain ⟨a13, c13, rfl⟩ := hO13'.slice
  rw [List.length_map] at hO13' ⊢
  obtain ⟨E, hE⟩ : ∃ E, (0 : Int) :: xs = E := ⟨_, rfl⟩
  have hEl : E.length = xs.length + 1 := by rw [← hE, List.length_cons]
  have iE := hO13'.row
  rw [hE] at iE hPI
  rw [hE]
  have hE0 : E[0]? = some 0 := by rw [← hE]; rfl
  obtain ⟨pE, oE, rfl, -⟩ := iE.place (map_get (show 0 < E.length by omega))
  have iP := i10.h.ext (w' := w13) inferInstance
  obtain ⟨pP, oP, rfl, -⟩ := iP.place (map_get (show 0 < P.length by omega))
  have hEw : Ext w w13 := inferInstance
  have hx2 : At w13 b2 0 [.int .i64 h, .slice a bs.length c] := inferInstance
  have ir : RowI w13 (.slice a bs.length c) true 2 (bs.map encB) := inferInstance
  have i7' : RowI w13 (.slice a7 xs.length c7) false 1 (xs.map intV) := inferInstance
  have i6' : RowI w13 (.slice a6 best.length c6) false 1 (best.map intV) := inferInstance
  have hby' : RowI w13 (.slice ba by_.length bc) false 1 (by_.map u32V) := inferInstance
  have htn' : At w13 1 0 tornC := inferInstance
  (apply jJ; exact eS rfl; refine jz ?_; refine jjB ?_; refine jjB ?_; refine jjC ?_; apply jJ; exact eI rfl; refine jz ?_; refine jjD ?_)
  clear hO13 hO13' i6 i7 i10 hS3 hS4 hS5 hS6 hS7 hS10 hS11 hS13
  refine W.keep0 [(1, .slice ba by_.length bc), (2, .pointer (some ⟨b2, 0, none⟩)), (5, .bool true), (6, .slice a6 best.length c6), (8, .slice a7 xs.length c7), (10, .slice (some ⟨pP, oP, none⟩) P.length c10), (12, .int .i64 W0), (14, .slice (some ⟨pE, oE, none⟩) E.length c13), (15, .int .i64 ((1 : Nat) : Int))] ⟨eS rfl, eP rfl, eB rfl, eS rfl, eS rfl, eS rfl, eI rfl, eS rfl, eI rfl, trivial⟩ fun s0 => ?_
  refine W.loop (97 :: 98 :: 99 :: 100 :: 16 :: 103 :: 104 :: 105 :: 106 :: 17 :: 107 :: 108 :: 109 :: 110 :: 111 :: 112 :: 113 :: 114 :: 115 :: 116 :: 117 :: 118 :: 119 :: 120 :: 121 :: 122 :: 123 :: 124 :: 125 :: 126 :: 127 :: 128 :: 129 :: 130 :: 131 :: 132 :: 133 :: 134 :: 135 :: 136 :: 137 :: 138 :: 139 :: 140 :: 141 :: 142 :: 143 :: 144 :: 145 :: 146 :: 147 :: 148 :: 149 :: 150 :: 151 :: 152 :: 153 :: 154 :: 18 :: 155 :: 156 :: 157 :: 158 :: 159 :: 160 :: 161 :: 162 :: 163 :: 164 :: 165 :: 166 :: 167 :: 168 :: 169 :: 170 :: 4 :: 171 :: 172 :: 173 :: 174 :: 175 :: 176 :: 177 :: 178 :: 179 :: 180 :: 181 :: 182 :: 183 :: 184 :: 185 :: 186 :: 187 :: 101 :: 102 :: 15 :: []) (fun g s' V => ∃ k : Nat, s' 15 = .int .i64 ((k : Nat) : Int) ∧ g = E.length - k ∧ 1 ≤ k ∧ k ≤ E.length) (E.length - 1) ⟨1, rfl, rfl, by omega, by omega⟩ ?_
  rintro _ sd V hSV ⟨k, h15, rfl, hk0, hk⟩
  refine W.fix (d := 15) h15 ?_
  clear h15
  by_cases hk3 : k < E.length
  rotate_left
  · (refine jjB ?_; refine jjB ?_; refine jjC ?_; apply jI; exact eI rfl; apply jI; exact eS rfl; refine jh rfl ?_; refine jja rfl rfl (by omega) ?_; refine jz ?_; refine jjK rfl ?_; refine jjE ?_; refine jjB ?_; refine jjC ?_; refine jO rfl rfl rfl rfl ?_; apply jI; exact eS rfl; apply jI; exact eS rfl)
    refine jjQ (chosen_law8 h a c bs a7 c7 xs ba bc by_ hu _ hG hxs.symm) rfl rfl ?_
    rintro _ w20 hS20 ⟨l, u8, rfl, hO8, hv8, hl8⟩
    obtain ⟨a8, c8, rfl⟩ := hO8.slice
    rw [List.length_map] at hO8 ⊢
    have i8 : RowI w20 (.slice a8 l.length c8) false 1 (l.map intV) := RowI.mk hO8.row
    have hbr8 : brkE h bs l = 0 := by rw [brkE, if_pos hG, if_pos hv8]
    obtain ⟨hl1, hl2⟩ := hbl l hv8
    (apply jI; exact eU rfl; refine ju rfl rfl ?_; refine ju rfl rfl ?_; apply jJ; exact eS rfl; apply jJ; exact eB rfl; refine jz ?_; refine jjB ?_; refine jjC ?_; refine jO rfl rfl rfl rfl ?_; apply jI; exact eS rfl)
    refine jjQ ((Waste_galley h a c bs a8 c8 l _ (by omega) (ir.h.ext inferInstance) hbz (htn'.ext inferInstance)).mono (R' := fun v _ => v = .tuple #[.int .i64 (wasteP h (sumL bs) l l.length), .int .i64 0]) fun v _ _ h => h.trans (by rw [wasteS, if_pos hbr8, hbr8])) rfl rfl ?_
    rintro _ w21 hS21 rfl
    generalize wasteP h (sumL bs) l l.length = W1 at *
    by_cases hw : W0 < W1
    · (apply jI; exact eU rfl; refine ju rfl rfl ?_; refine ju rfl rfl ?_; apply jJ; exact eI rfl; apply jJ; exact eI rfl; refine jz ?_; refine jjB ?_; refine jjB ?_; refine jjC ?_; apply jI; exact eB rfl; refine jp rfl ?_; apply jI; exact eB rfl; refine jT rfl rfl rfl ?_; apply jI; exact eI rfl; refine jT rfl rfl rfl ?_; refine jjk rfl rfl (by omega) ?_; apply jL rfl; exact eB rfl; apply jI; exact eB rfl; refine jT rfl rfl rfl ?_; apply jI; exact eI rfl; refine jT rfl rfl rfl ?_; apply jI; exact eI rfl; refine jT rfl rfl rfl ?_; refine jja rfl rfl (by omega) ?_; apply jL rfl; exact eB rfl; refine jz ?_; refine jjK rfl ?_; refine jjG ?_; refine jjB ?_; refine jjC ?_; apply jI; exact eB rfl; apply jI; exact eB rfl; refine jT rfl rfl rfl ?_; apply jI; exact eI rfl; refine jT rfl rfl rfl ?_; apply jI; exact eI rfl; refine jT rfl rfl rfl ?_; refine jjd rfl rfl (by omega) ?_; refine jT rfl rfl rfl ?_; apply jI; exact eB rfl; refine jU rfl rfl rfl rfl ?_; refine jU rfl rfl rfl rfl ?_; refine jU rfl rfl rfl rfl ?_; refine jU rfl rfl rfl rfl ?_; refine jT rfl rfl rfl ?_; apply jK rfl; exact eB rfl; apply jK rfl; exact eB rfl; apply jJ; exact eB rfl; refine jz ?_; refine jjF ?_; refine jB rfl rfl ⟨inferInstance, ?_⟩)
      exact rfl
    · have e : W1 = W0 := by omega
      have hbf := hl2 e
      (apply jI; exact eU rfl; refine ju rfl rfl ?_; refine ju rfl rfl ?_; apply jJ; exact eI rfl; apply jJ; exact eI rfl; refine jz ?_; refine jjB ?_; refine jjB ?_; refine jjC ?_; apply jI; exact eB rfl; refine jp rfl ?_; apply jI; exact eB rfl; refine jT rfl rfl rfl ?_; apply jI; exact eI rfl; refine jT rfl rfl rfl ?_; refine jjk rfl rfl (by omega) ?_; apply jL rfl; exact eB rfl; apply jI; exact eB rfl; refine jT rfl rfl rfl ?_; apply jI; exact eI rfl; refine jT rfl rfl rfl ?_; apply jI; exact eI rfl; refine jT rfl rfl rfl ?_; refine jja rfl rfl (by omega) ?_; apply jL rfl; exact eB rfl; refine jz ?_; refine jjK rfl ?_; refine jjG ?_; refine jjB ?_; refine jjC ?_; apply jI; exact eB rfl; apply jI; exact eB rfl; refine jT rfl rfl rfl ?_; apply jI; exact eI rfl; refine jT rfl rfl rfl ?_; apply jI; exact eI rfl; refine jT rfl rfl rfl ?_; refine jje rfl rfl (by omega) ?_; refine jT rfl rfl rfl ?_; apply jI; exact eB rfl; refine jT rfl rfl rfl ?_; apply jI; exact eS rfl; refine jT rfl rfl rfl ?_; apply jI; exact eS rfl; refine jT rfl rfl rfl ?_)
      refine jjQ ((before_law8 a8 a6 c8 c6 l best _ (by omega) (by omega)).mono fun v _ _ h => h.trans (by rw [hbf])) rfl rfl ?_
      rintro _ w22 hS22 rfl
      (refine jT rfl rfl rfl ?_; refine jq rfl ?_; refine jT rfl rfl rfl ?_; apply jL rfl; exact eB rfl; apply jK rfl; exact eB rfl; apply jJ; exact eB rfl; refine jz ?_; refine jjF ?_; refine jB rfl rfl ⟨inferInstance, ?_⟩)
      exact rfl
  have hEk : E.getD k 0 = E[k] := getD_lt hk3
  have hPk : P.getD k 0 = P[k]'(by omega) := getD_lt (by omega)
  have hrk := hPI.rng k (by omega)
  have hlk := hPI.low k (by omega)
  have hlast := hPI.last k (by omega)
  have hex := hPI.ex k hk0 (by omega)
  have hle := hPI.le k hk0 (by omega)
  have hupk := fun j (hj : j < k) => hPI.up j k hj (by omega)
  have hAk : At V pE (oE + k) (intV E[k]).cells.toList := by
    have := place_at8 (iE.ext hSV.ext) (map_get hk3)
    rwa [Nat.mul_one] at this
  have hAp : At V pP (oP + k) (intV (P[k]'(by omega))).cells.toList := by
    have := place_at8 (iP.ext hSV.ext) (map_get (show k < P.length by omega))
    rwa [Nat.mul_one] at this
  rw [hEk, hPk] at hex hle
  rw [hEk] at hrk hlast hupk
  rw [hPk] at hlk
  generalize E[k] = ek at *
  generalize P[k]'(by omega) = pk at *
  (refine jjB ?_; refine jjB ?_; refine jjC ?_; apply jI; exact eI rfl; apply jI; exact eS rfl; refine jh rfl ?_; refine jjZ rfl rfl (by omega) ?_; refine jz ?_; refine jjJ rfl ?_; refine jjG ?_; refine jjB ?_; refine jjD ?_; refine jjB ?_; refine jjC ?_; apply jJ; exact eB rfl; refine jz ?_; refine jjB ?_; refine jjB ?_; refine jjC ?_; apply jI; exact eI rfl; apply jI; exact eI rfl; refine jz ?_; refine jjD ?_)
  refine W.keep [(1, .slice ba by_.length bc), (2, .pointer (some ⟨b2, 0, none⟩)), (5, .bool true), (6, .slice a6 best.length c6), (8, .slice a7 xs.length c7), (10, .slice (some ⟨pP, oP, none⟩) P.length c10), (12, .int .i64 W0), (14, .slice (some ⟨pE, oE, none⟩) E.length c13), (15, .int .i64 ((k : Nat) : Int)), (16, .bool false), (103, .int .i64 ((k : Nat) : Int)), (104, .int .i64 ((0 : Nat) : Int))] (D := (97 :: 98 :: 99 :: 100 :: 16 :: 103 :: 104 :: 105 :: 106 :: 17 :: 107 :: 108 :: 109 :: 110 :: 111 :: 112 :: 113 :: 114 :: 115 :: 116 :: 117 :: 118 :: 119 :: 120 :: 121 :: 122 :: 123 :: 124 :: 125 :: 126 :: 127 :: 128 :: 129 :: 130 :: 131 :: 132 :: 133 :: 134 :: 135 :: 136 :: 137 :: 138 :: 139 :: 140 :: 141 :: 142 :: 143 :: 144 :: 145 :: 146 :: 147 :: 148 :: 149 :: 150 :: 151 :: 152 :: 153 :: 154 :: 18 :: 155 :: 156 :: 157 :: 158 :: 159 :: 160 :: 161 :: 162 :: 163 :: 164 :: 165 :: 166 :: 167 :: 168 :: 169 :: 170 :: 4 :: 171 :: 172 :: 173 :: 174 :: 175 :: 176 :: 177 :: 178 :: 179 :: 180 :: 181 :: 182 :: 183 :: 184 :: 185 :: 186 :: 187 :: 101 :: 102 :: 15 :: [])) (sO := upds s0 _) (by ((refine Same.upd rfl ?_; refine Same.upd rfl ?_; refine Same.upd rfl ?_; refine Same.upd rfl ?_; refine Same.upd rfl ?_; refine Same.upd rfl ?_; refine Same.upd rfl ?_; refine Same.upd rfl ?_; exact Same.ovN))) ⟨eS rfl, eP rfl, eB rfl, eS rfl, eS rfl, eS rfl, eI rfl, eS rfl, eI rfl, eB rfl, eI rfl, eI rfl, trivial⟩ fun s1 hs1' => ?_
  refine W.loop (105 :: 106 :: 17 :: 107 :: 108 :: 109 :: 110 :: 111 :: 112 :: 113 :: 114 :: 115 :: 116 :: 117 :: 118 :: 119 :: 120 :: 121 :: 122 :: 123 :: 124 :: 125 :: 126 :: 127 :: 128 :: 129 :: 130 :: 131 :: 132 :: 133 :: 134 :: 135 :: 136 :: 137 :: 138 :: 139 :: 140 :: 141 :: 142 :: 143 :: 144 :: 145 :: 146 :: 147 :: 148 :: 149 :: 150 :: 151 :: 152 :: 153 :: 154 :: 18 :: 155 :: 156 :: 157 :: 158 :: 159 :: 160 :: 161 :: 162 :: 163 :: 164 :: 165 :: 166 :: 167 :: 168 :: 169 :: 170 :: 4 :: 171 :: 172 :: 173 :: 174 :: 175 :: 176 :: 177 :: 178 :: 179 :: 180 :: 181 :: 182 :: 183 :: 184 :: 16 :: 185 :: 104 :: []) (fun g s' V => ∃ (j : Nat) (J : Bool), s' 104 = .int .i64 ((j : Nat) : Int) ∧ s' 16 = .bool J ∧ g = k - j ∧ j ≤ k ∧ ∀ i, i < j → ek - E.getD i 0 ≤ h → pk = P.getD i 0 + colW h (sumL bs) (E.getD i 0) ek → J = true) k ⟨0, false, rfl, rfl, rfl, Nat.zero_le _, fun i hi => absurd hi (Nat.not_lt_zero _)⟩ ?_
  rintro _ sd2 V2 hSV2 ⟨j, J, h104, h16, rfl, hj, hJ⟩
  refine W.fix (d := 104) h104 (W.fix (d := 16) h16 ?_)
  clear h104 h16
  by_cases hj3 : j < k
  rotate_left
  · obtain rfl : j = k := by omega
    obtain ⟨i, i1, i2, i3⟩ := hex
    obtain rfl : J = true := hJ i i1 i2 i3
    (refine jjB ?_; refine jjC ?_; refine jja rfl rfl (by omega) ?_; refine jz ?_; refine jjB ?_; refine jjK rfl ?_; refine jjE ?_; refine jjB ?_; refine jjC ?_; apply jI; exact eB rfl; refine jp rfl ?_; refine jz ?_; refine jjK rfl ?_; refine jjG ?_; refine jjC ?_; apply jI; exact eI rfl; refine jY rfl rfl (by omega) ?_; apply jJ; exact eI rfl; refine jz ?_)
    exact ⟨rfl, by ((refine Same.upd rfl ?_; refine Same.upd rfl ?_; refine Same.upd rfl ?_; refine Same.upd rfl ?_; refine Same.upd rfl ?_; refine Same.upd rfl ?_; refine Same.upd rfl ?_; refine Same.upd rfl ?_; refine Same.ovN' rfl ?_; assumption)), E.length - (j + 1), by omega, inferInstance, j + 1, congrArg (Value.int .i64) (by omega), rfl, by omega, by omega⟩
  have hEj : E.getD j 0 = E[j]'(by omega) := getD_lt (by omega)
  have hPj : P.getD j 0 = P[j]'(by omega) := getD_lt (by omega)
  have hrj := hPI.rng j (by omega)
  have hlj := hPI.low j (by omega)
  have hlej := hle j hj3
  have hupj := hupk j hj3
  have hJj : ∀ (J' : Bool), (J = true → J' = true) → (ek - E[j]'(by omega) ≤ h → pk = P[j]'(by omega) + colW h (sumL bs) (E[j]'(by omega)) ek → J' = true) → ∀ i, i < j + 1 → ek - E.getD i 0 ≤ h → pk = P.getD i 0 + colW h (sumL bs) (E.getD i 0) ek → J' = true := fun J' h1 h2 i hi q1 q2 => by
    rcases Nat.lt_or_ge i j with ci | ci
    · exact h1 (hJ i ci q1 q2)
    · obtain rfl : i = j := by omega
      rw [hEj] at q1 q2
      rw [hPj] at q2
      exact h2 q1 q2
  have hAj : At V2 pE (oE + j) (intV (E[j]'(by omega))).cells.toList := by
    have := place_at8 ((iE.ext hSV.ext).ext hSV2.ext) (map_get (show j < E.length by omega))
    rwa [Nat.mul_one] at this
  have hAq : At V2 pP (oP + j) (intV (P[j]'(by omega))).cells.toList := by
    have := place_at8 ((iP.ext hSV.ext).ext hSV2.ext) (map_get (show j < P.length by omega))
    rwa [Nat.mul_one] at this
  have hAk2 : At V2 pE (oE + k) (intV ek).cells.toList := hAk.ext hSV2.ext
  have hAp2 : At V2 pP (oP + k) (intV pk).cells.toList := hAp.ext hSV2.ext
  rw [hEj, hPj] at hlej
  rw [hEj] at hrj hupj
  rw [hPj] at hlj
  generalize E[j]'(by omega) = ej at *
  generalize P[j]'(by omega) = pj at *
  clear hex hle hupk hJ hbl hPI iE iP hbb hbz hsz
  (refine jjB ?_; refine jjC ?_; refine jjZ rfl rfl (by omega) ?_; refine jz ?_; refine jjB ?_; refine jjJ rfl ?_; refine jjG ?_; refine jjB ?_; refine jjD ?_; refine jjB ?_; refine jjC ?_; apply jI; exact eI rfl; apply jJ; exact eI rfl; refine jz ?_; refine jjB ?_; refine jjB ?_)
  refine W.draw (fun w' => Ext V2 w') ?_
  intro w30 hS30
  by_cases hd : ek - ej ≤ h
  rotate_left
  · refine jjV [0, 1, 2, 3, 4, 5, 6, 7, 8, 9, 10, 11, 12, 13, 14, 15, 16, 17, 18, 19, 20, 21, 22] (by decide +kernel) hS30.ext ?_
    (((apply jjT; exact rfl; rintro w' hq; have := hq.toStep; apply jI; exact eS rfl; refine jz ?_; exact ⟨rfl, rfl⟩; apply jjT; exact rfl; rintro w' hq; have := hq.toStep; apply jI; exact eI rfl; refine jz ?_; exact ⟨rfl, rfl⟩; apply jjT; exact rfl; rintro w' hq; have := hq.toStep; refine jG rfl rfl rfl (by omega) ?_; refine jz ?_; exact ⟨rfl, rfl⟩; apply jjT; exact rfl; rintro w' hq; have := hq.toStep; refine jQ rfl rfl ?_; refine jz ?_; exact ⟨rfl, rfl⟩; apply jjT; exact rfl; rintro w' hq; have := hq.toStep; apply jI; exact eS rfl; refine jz ?_; exact ⟨rfl, rfl⟩; apply jjT; exact rfl; rintro w' hq; have := hq.toStep; apply jI; exact eI rfl; refine jz ?_; exact ⟨rfl, rfl⟩; apply jjT; exact rfl; rintro w' hq; have := hq.toStep; refine jG rfl rfl rfl (by omega) ?_; refine jz ?_; exact ⟨rfl, rfl⟩; apply jjT; exact rfl; rintro w' hq; have := hq.toStep; refine jQ rfl rfl ?_; refine jz ?_; exact ⟨rfl, rfl⟩; apply jjT; exact rfl; rintro w' hq; have := hq.toStep; refine jjg rfl rfl (by omega) ?_; refine jz ?_; exact ⟨rfl, rfl⟩; apply jjT; exact rfl; rintro w' hq; have := hq.toStep; apply jI; exact eB rfl; refine jz ?_; exact ⟨rfl, rfl⟩; apply jjT; exact rfl; rintro w' hq; have := hq.toStep; refine jT rfl rfl rfl ?_; apply jI; exact eS rfl; refine jz ?_; exact ⟨rfl, rfl⟩; apply jjT; exact rfl; rintro w' hq; have := hq.toStep; refine jT rfl rfl rfl ?_; apply jI; exact eI rfl; refine jz ?_; exact ⟨rfl, rfl⟩; apply jjT; exact rfl; rintro w' hq; have := hq.toStep; refine jT rfl rfl rfl ?_; refine jG rfl rfl rfl (by omega) ?_; refine jz ?_; exact ⟨rfl, rfl⟩; apply jjT; exact rfl; rintro w' hq; have := hq.toStep; refine jT rfl rfl rfl ?_; refine jQ rfl rfl ?_; refine jz ?_; exact ⟨rfl, rfl⟩; apply jjT; exact rfl; rintro w' hq; have := hq.toStep; refine jT rfl rfl rfl ?_; apply jI; exact eS rfl; refine jz ?_; exact ⟨rfl, rfl⟩; apply jjT; exact rfl; rintro w' hq; have := hq.toStep; refine jT rfl rfl rfl ?_; apply jI; exact eI rfl; refine jz ?_; exact ⟨rfl, rfl⟩; apply jjT; exact rfl; rintro w' hq; have := hq.toStep; refine jT rfl rfl rfl ?_; refine jG rfl rfl rfl (by omega) ?_; refine jz ?_; exact ⟨rfl, rfl⟩; apply jjT; exact rfl; rintro w' hq; have := hq.toStep; refine jT rfl rfl rfl ?_; refine jQ rfl rfl ?_; refine jz ?_; exact ⟨rfl, rfl⟩; apply jjT; exact rfl; rintro w' hq; have := hq.toStep; refine jT rfl rfl rfl ?_; refine jZ rfl rfl (by omega) ?_; refine jz ?_; exact ⟨rfl, rfl⟩; apply jjT; exact rfl; rintro w' hq; have := hq.toStep; refine jT rfl rfl rfl ?_; refine jm ?_; refine jn rfl ?_; refine jz ?_; exact ⟨rfl, rfl⟩; apply jjT; exact rfl; rintro w' hq; have := hq.toStep; refine jT rfl rfl rfl ?_; refine jN rfl rfl rfl ?_; refine jz ?_; exact ⟨rfl, rfl⟩; apply jjT; exact rfl; rintro w' hq; have := hq.toStep; refine jT rfl rfl rfl ?_; refine jjd rfl rfl (by omega) ?_; refine jz ?_; exact ⟨rfl, rfl⟩; apply jjT; exact rfl; rintro w' hq; have := hq.toStep; apply jL rfl; exact eB rfl; refine jz ?_; exact ⟨rfl, rfl⟩; refine jjU ?_)))
    refine jjX (by decide +kernel) hS30.ext ?_
    (refine jjJ rfl ?_; refine jjE ?_; refine jjC ?_; refine jY rfl rfl (by omega) ?_; apply jI; exact eI rfl; refine jz ?_)
    exact ⟨rfl, by ((refine Same.upd rfl ?_; refine Same.upd rfl ?_; refine Same.upd rfl ?_; refine Same.upd rfl ?_; refine Same.upd rfl ?_; refine Same.upd rfl ?_; refine Same.upd rfl ?_; refine Same.upd rfl ?_; refine Same.upd rfl ?_; refine Same.upd rfl ?_; refine Same.upd rfl ?_; refine Same.upd rfl ?_; refine Same.upd rfl ?_; refine Same.upd rfl ?_; refine Same.upd rfl ?_; refine Same.upd rfl ?_; refine Same.upd rfl ?_; refine Same.upd rfl ?_; refine Same.upd rfl ?_; refine Same.upd rfl ?_; refine Same.upd rfl ?_; refine Same.upd rfl ?_; refine Same.upd rfl ?_; refine Same.upd rfl ?_; refine Same.upd rfl ?_; refine Same.upd rfl ?_; refine Same.upd rfl ?_; refine Same.upd rfl ?_; refine Same.upd rfl ?_; refine Same.upd rfl ?_; exact Same.ovN)), k - (j + 1), by omega, inferInstance, j + 1, J, congrArg (Value.int .i64) (by omega), rfl, rfl, by omega, hJj J (fun h => h) (fun h1 _ => absurd h1 hd)⟩
  refine jjV [0, 1, 2, 3, 4, 5, 6, 7, 8, 9, 10, 11, 12, 13, 14, 15, 16, 17, 18, 19, 20, 21, 22] (by decide +kernel) hS30.ext ?_
  (((apply jjT; exact rfl; rintro w' hq; have := hq.toStep; apply jI; exact eS rfl; refine jz ?_; exact ⟨rfl, rfl⟩; apply jjT; exact rfl; rintro w' hq; have := hq.toStep; apply jI; exact eI rfl; refine jz ?_; exact ⟨rfl, rfl⟩; apply jjT; exact rfl; rintro w' hq; have := hq.toStep; refine jG rfl rfl rfl (by omega) ?_; refine jz ?_; exact ⟨rfl, rfl⟩; apply jjT; exact rfl; rintro w' hq; have := hq.toStep; refine jQ rfl rfl ?_; refine jz ?_; exact ⟨rfl, rfl⟩; apply jjT; exact rfl; rintro w' hq; have := hq.toStep; apply jI; exact eS rfl; refine jz ?_; exact ⟨rfl, rfl⟩; apply jjT; exact rfl; rintro w' hq; have := hq.toStep; apply jI; exact eI rfl; refine jz ?_; exact ⟨rfl, rfl⟩; apply jjT; exact rfl; rintro w' hq; have := hq.toStep; refine jG rfl rfl rfl (by omega) ?_; refine jz ?_; exact ⟨rfl, rfl⟩; apply jjT; exact rfl; rintro w' hq; have := hq.toStep; refine jQ rfl rfl ?_; refine jz ?_; exact ⟨rfl, rfl⟩; apply jjT; exact rfl; rintro w' hq; have := hq.toStep; refine jjg rfl rfl (by omega) ?_; refine jz ?_; exact ⟨rfl, rfl⟩; apply jjT; exact rfl; rintro w' hq; have := hq.toStep; apply jI; exact eB rfl; refine jz ?_; exact ⟨rfl, rfl⟩; apply jjT; exact rfl; rintro w' hq; have := hq.toStep; refine jT rfl rfl rfl ?_; apply jI; exact eS rfl; refine jz ?_; exact ⟨rfl, rfl⟩; apply jjT; exact rfl; rintro w' hq; have := hq.toStep; refine jT rfl rfl rfl ?_; apply jI; exact eI rfl; refine jz ?_; exact ⟨rfl, rfl⟩; apply jjT; exact rfl; rintro w' hq; have := hq.toStep; refine jT rfl rfl rfl ?_; refine jG rfl rfl rfl (by omega) ?_; refine jz ?_; exact ⟨rfl, rfl⟩; apply jjT; exact rfl; rintro w' hq; have := hq.toStep; refine jT rfl rfl rfl ?_; refine jQ rfl rfl ?_; refine jz ?_; exact ⟨rfl, rfl⟩; apply jjT; exact rfl; rintro w' hq; have := hq.toStep; refine jT rfl rfl rfl ?_; apply jI; exact eS rfl; refine jz ?_; exact ⟨rfl, rfl⟩; apply jjT; exact rfl; rintro w' hq; have := hq.toStep; refine jT rfl rfl rfl ?_; apply jI; exact eI rfl; refine jz ?_; exact ⟨rfl, rfl⟩; apply jjT; exact rfl; rintro w' hq; have := hq.toStep; refine jT rfl rfl rfl ?_; refine jG rfl rfl rfl (by omega) ?_; refine jz ?_; exact ⟨rfl, rfl⟩; apply jjT; exact rfl; rintro w' hq; have := hq.toStep; refine jT rfl rfl rfl ?_; refine jQ rfl rfl ?_; refine jz ?_; exact ⟨rfl, rfl⟩; apply jjT; exact rfl; rintro w' hq; have := hq.toStep; refine jT rfl rfl rfl ?_; refine jZ rfl rfl (by omega) ?_; refine jz ?_; exact ⟨rfl, rfl⟩; apply jjT; exact rfl; rintro w' hq; have := hq.toStep; refine jT rfl rfl rfl ?_; refine jm ?_; refine jn rfl ?_; refine jz ?_; exact ⟨rfl, rfl⟩; apply jjT; exact rfl; rintro w' hq; have := hq.toStep; refine jT rfl rfl rfl ?_; refine jN rfl rfl rfl ?_; refine jz ?_; exact ⟨rfl, rfl⟩; apply jjT; exact rfl; rintro w' hq; have := hq.toStep; refine jT rfl rfl rfl ?_; refine jje rfl rfl (by omega) ?_; refine jz ?_; exact ⟨rfl, rfl⟩; apply jjT; exact rfl; rintro w' hq; have := hq.toStep; apply jL rfl; exact eB rfl; refine jz ?_; exact ⟨rfl, rfl⟩; refine jjU ?_)))
  refine jjX (by decide +kernel) hS30.ext ?_
  (refine jjK rfl ?_; refine jjG ?_; refine jjB ?_)
  refine W.draw (fun w' => Ext w30 w') ?_
  intro w31 hS31
  refine jjV [0, 1, 2, 3, 4, 5, 6, 7, 8, 9, 10, 11, 12, 13, 14, 15, 16, 17, 18, 19, 20, 21, 22, 23] (by decide +kernel) hS31.ext ?_
  (((apply jjT; exact rfl; rintro w' hq; have := hq.toStep; refine jm ?_; refine jn rfl ?_; refine jz ?_; exact ⟨rfl, rfl⟩; apply jjT; exact rfl; rintro w' hq; have := hq.toStep; refine jN rfl rfl rfl ?_; refine jz ?_; exact ⟨rfl, rfl⟩; apply jjT; exact rfl; rintro w' hq; have := hq.toStep; apply jI; exact eS rfl; refine jz ?_; exact ⟨rfl, rfl⟩; apply jjT; exact rfl; rintro w' hq; have := hq.toStep; apply jI; exact eI rfl; refine jz ?_; exact ⟨rfl, rfl⟩; apply jjT; exact rfl; rintro w' hq; have := hq.toStep; refine jG rfl rfl rfl (by omega) ?_; refine jz ?_; exact ⟨rfl, rfl⟩; apply jjT; exact rfl; rintro w' hq; have := hq.toStep; refine jQ rfl rfl ?_; refine jz ?_; exact ⟨rfl, rfl⟩; apply jjT; exact rfl; rintro w' hq; have := hq.toStep; refine jZ rfl rfl (by omega) ?_; refine jz ?_; exact ⟨rfl, rfl⟩; apply jjT; exact rfl; rintro w' hq; have := hq.toStep; apply jI; exact eS rfl; refine jz ?_; exact ⟨rfl, rfl⟩; apply jjT; exact rfl; rintro w' hq; have := hq.toStep; apply jI; exact eI rfl; refine jz ?_; exact ⟨rfl, rfl⟩; apply jjT; exact rfl; rintro w' hq; have := hq.toStep; refine jG rfl rfl rfl (by omega) ?_; refine jz ?_; exact ⟨rfl, rfl⟩; apply jjT; exact rfl; rintro w' hq; have := hq.toStep; refine jQ rfl rfl ?_; refine jz ?_; exact ⟨rfl, rfl⟩; apply jjT; exact rfl; rintro w' hq; have := hq.toStep; refine jY rfl rfl (by omega) ?_; refine jz ?_; exact ⟨rfl, rfl⟩; apply jjT; exact rfl; rintro w' hq; have := hq.toStep; refine jm ?_; refine jn rfl ?_; refine jz ?_; exact ⟨rfl, rfl⟩; apply jjT; exact rfl; rintro w' hq; have := hq.toStep; refine jN rfl rfl rfl ?_; refine jz ?_; exact ⟨rfl, rfl⟩; apply jjT; exact rfl; rintro w' hq; have := hq.toStep; apply jI; exact eS rfl; refine jz ?_; exact ⟨rfl, rfl⟩; apply jjT; exact rfl; rintro w' hq; have := hq.toStep; apply jI; exact eI rfl; refine jz ?_; exact ⟨rfl, rfl⟩; apply jjT; exact rfl; rintro w' hq; have := hq.toStep; refine jG rfl rfl rfl (by omega) ?_; refine jz ?_; exact ⟨rfl, rfl⟩; apply jjT; exact rfl; rintro w' hq; have := hq.toStep; refine jQ rfl rfl ?_; refine jz ?_; exact ⟨rfl, rfl⟩; apply jjT; exact rfl; rintro w' hq; have := hq.toStep; refine jZ rfl rfl (by omega) ?_; refine jz ?_; exact ⟨rfl, rfl⟩; apply jjT; exact rfl; rintro w' hq; have := hq.toStep; apply jI; exact eS rfl; refine jz ?_; exact ⟨rfl, rfl⟩; apply jjT; exact rfl; rintro w' hq; have := hq.toStep; apply jI; exact eI rfl; refine jz ?_; exact ⟨rfl, rfl⟩; apply jjT; exact rfl; rintro w' hq; have := hq.toStep; refine jG rfl rfl rfl (by omega) ?_; refine jz ?_; exact ⟨rfl, rfl⟩; apply jjT; exact rfl; rintro w' hq; have := hq.toStep; refine jQ rfl rfl ?_; refine jz ?_; exact ⟨rfl, rfl⟩; apply jjT; exact rfl; rintro w' hq; have := hq.toStep; refine jY rfl rfl (by omega) ?_; refine jz ?_; exact ⟨rfl, rfl⟩; refine jjU ?_)))
  refine jjV [24] (by decide +kernel) hS31.ext (jjT (v := .int .i64 ((h - ek + ej) * (h - ek + ej))) rfl (fun w' q1 => ?_) (jjU ?_)); (refine Ops.mul rfl rfl (mul_small (by omega)) ?_; refine jz ?_; exact ⟨rfl, rfl⟩)
  refine jjV [25] (by decide +kernel) hS31.ext ?_
  (((apply jjT; exact rfl; rintro w' hq; have := hq.toStep; apply jJ; exact eI rfl; refine jz ?_; exact ⟨rfl, rfl⟩; refine jjU ?_)))
  refine jjX (by decide +kernel) hS31.ext ?_
  have hmul := mul_small (x := h - ek + ej) (by omega)
  have hmul0 := Int.mul_nonneg (show 0 ≤ h - ek + ej by omega) (show 0 ≤ h - ek + ej by omega)
  have hmul1 := Int.mul_le_mul (show h - ek + ej ≤ 1000 by omega) (show h - ek + ej ≤ 1000 by omega) (show 0 ≤ h - ek + ej by omega) (by omega : (0 : Int) ≤ 1000)
  obtain ⟨Cw, hCw⟩ : ∃ Cw, colW h (sumL bs) ej ek = Cw := ⟨_, rfl⟩
  rw [hCw] at hlej hJj
  rw [colW] at hCw
  have hlej' := hlej hd
  generalize hmm : (h - ek + ej) * (h - ek + ej) = mm at *
  by_cases hkl : k = E.length - 1
  · rw [if_pos (hlast.2 (by omega))] at hCw
    subst hCw
    (refine jjB ?_; refine jjB ?_; refine jjC ?_; apply jI; exact eI rfl; apply jI; exact eS rfl; refine jh rfl ?_; refine jZ rfl rfl (by omega) ?_; refine jjh rfl rfl (by omega) ?_; refine jz ?_; refine jjJ rfl ?_; refine jjC ?_; apply jJ; exact eI rfl; refine jz ?_; refine jjB ?_; refine jjB ?_)
    refine W.draw (fun w' => Ext w31 w') ?_
    intro w32 hS32
    refine jjV [0, 1, 2, 3, 4, 5, 6, 7, 8, 9, 10] (by decide +kernel) hS32.ext ?_
    (((apply jjT; exact rfl; rintro w' hq; have := hq.toStep; apply jI; exact eS rfl; refine jz ?_; exact ⟨rfl, rfl⟩; apply jjT; exact rfl; rintro w' hq; have := hq.toStep; apply jI; exact eI rfl; refine jz ?_; exact ⟨rfl, rfl⟩; apply jjT; exact rfl; rintro w' hq; have := hq.toStep; refine jG rfl rfl rfl (by omega) ?_; refine jz ?_; exact ⟨rfl, rfl⟩; apply jjT; exact rfl; rintro w' hq; have := hq.toStep; refine jQ rfl rfl ?_; refine jz ?_; exact ⟨rfl, rfl⟩; apply jjT; exact rfl; rintro w' hq; have := hq.toStep; apply jI; exact eS rfl; refine jz ?_; exact ⟨rfl, rfl⟩; apply jjT; exact rfl; rintro w' hq; have := hq.toStep; apply jI; exact eI rfl; refine jz ?_; exact ⟨rfl, rfl⟩; apply jjT; exact rfl; rintro w' hq; have := hq.toStep; refine jG rfl rfl rfl (by omega) ?_; refine jz ?_; exact ⟨rfl, rfl⟩; apply jjT; exact rfl; rintro w' hq; have := hq.toStep; refine jQ rfl rfl ?_; refine jz ?_; exact ⟨rfl, rfl⟩; apply jjT; exact rfl; rintro w' hq; have := hq.toStep; apply jI; exact eI rfl; refine jz ?_; exact ⟨rfl, rfl⟩; apply jjT; exact rfl; rintro w' hq; have := hq.toStep; refine jY rfl rfl (by omega) ?_; refine jz ?_; exact ⟨rfl, rfl⟩; apply jjT; exact rfl; rintro w' hq; have := hq.toStep; refine jje rfl rfl (by omega) ?_; refine jz ?_; exact ⟨rfl, rfl⟩; refine jjU ?_)))
    refine jjX (by decide +kernel) hS32.ext ?_
    (refine jjK rfl ?_; refine jjG ?_)
    refine W.draw (fun w' => Ext w32 w') ?_
    intro w33 hS33
    cases J with
    | true =>
      refine jjV [0, 1, 2, 3, 4, 5, 6, 7, 8, 9, 10, 11, 12, 13, 14] (by decide +kernel) hS33.ext ?_
      (((apply jjT; exact rfl; rintro w' hq; have := hq.toStep; apply jI; exact eB rfl; refine jz ?_; exact ⟨rfl, rfl⟩; apply jjT; exact rfl; rintro w' hq; have := hq.toStep; apply jI; exact eB rfl; refine jz ?_; exact ⟨rfl, rfl⟩; apply jjT; exact rfl; rintro w' hq; have := hq.toStep; refine jU rfl rfl rfl rfl ?_; refine jz ?_; exact ⟨rfl, rfl⟩; apply jjT; exact rfl; rintro w' hq; have := hq.toStep; refine jU rfl rfl rfl rfl ?_; refine jz ?_; exact ⟨rfl, rfl⟩; apply jjT; exact rfl; rintro w' hq; have := hq.toStep; refine jU rfl rfl rfl rfl ?_; refine jz ?_; exact ⟨rfl, rfl⟩; apply jjT; exact rfl; rintro w' hq; have := hq.toStep; refine jU rfl rfl rfl rfl ?_; refine jz ?_; exact ⟨rfl, rfl⟩; apply jjT; exact rfl; rintro w' hq; have := hq.toStep; refine jU rfl rfl rfl rfl ?_; refine jz ?_; exact ⟨rfl, rfl⟩; apply jjT; exact rfl; rintro w' hq; have := hq.toStep; refine jU rfl rfl rfl rfl ?_; refine jz ?_; exact ⟨rfl, rfl⟩; apply jjT; exact rfl; rintro w' hq; have := hq.toStep; refine jU rfl rfl rfl rfl ?_; refine jz ?_; exact ⟨rfl, rfl⟩; apply jjT; exact rfl; rintro w' hq; have := hq.toStep; refine jU rfl rfl rfl rfl ?_; refine jz ?_; exact ⟨rfl, rfl⟩; apply jjT; exact rfl; rintro w' hq; have := hq.toStep; refine jU rfl rfl rfl rfl ?_; refine jz ?_; exact ⟨rfl, rfl⟩; apply jjT; exact rfl; rintro w' hq; have := hq.toStep; refine jU rfl rfl rfl rfl ?_; refine jz ?_; exact ⟨rfl, rfl⟩; apply jjT; exact rfl; rintro w' hq; have := hq.toStep; refine jU rfl rfl rfl rfl ?_; refine jz ?_; exact ⟨rfl, rfl⟩; apply jjT; exact rfl; rintro w' hq; have := hq.toStep; apply jK rfl; exact eB rfl; refine jz ?_; exact ⟨rfl, rfl⟩; apply jjT; exact rfl; rintro w' hq; have := hq.toStep; apply jJ; exact eB rfl; refine jz ?_; exact ⟨rfl, rfl⟩; refine jjU ?_)))
      refine jjX (by decide +kernel) hS33.ext ?_
      (refine jjC ?_; refine jY rfl rfl (by omega) ?_; apply jI; exact eI rfl; refine jz ?_)
      exact ⟨rfl, by ((refine Same.upd rfl ?_; refine Same.upd rfl ?_; refine Same.upd rfl ?_; refine Same.upd rfl ?_; refine Same.upd rfl ?_; refine Same.upd rfl ?_; refine Same.upd rfl ?_; refine Same.upd rfl ?_; refine Same.upd rfl ?_; refine Same.upd rfl ?_; refine Same.upd rfl ?_; refine Same.upd rfl ?_; refine Same.upd rfl ?_; refine Same.upd rfl ?_; refine Same.upd rfl ?_; refine Same.upd rfl ?_; refine Same.upd rfl ?_; refine Same.upd rfl ?_; refine Same.upd rfl ?_; refine Same.upd rfl ?_; refine Same.upd rfl ?_; refine Same.upd rfl ?_; refine Same.upd rfl ?_; refine Same.upd rfl ?_; refine Same.upd rfl ?_; refine Same.upd rfl ?_; refine Same.upd rfl ?_; refine Same.upd rfl ?_; refine Same.upd rfl ?_; refine Same.upd rfl ?_; refine Same.upd rfl ?_; refine Same.upd rfl ?_; refine Same.upd rfl ?_; refine Same.upd rfl ?_; refine Same.upd rfl ?_; refine Same.upd rfl ?_; refine Same.upd rfl ?_; refine Same.upd rfl ?_; refine Same.upd rfl ?_; refine Same.upd rfl ?_; refine Same.upd rfl ?_; refine Same.upd rfl ?_; refine Same.upd rfl ?_; refine Same.upd rfl ?_; refine Same.upd rfl ?_; refine Same.upd rfl ?_; refine Same.upd rfl ?_; refine Same.upd rfl ?_; refine Same.upd rfl ?_; refine Same.upd rfl ?_; refine Same.upd rfl ?_; refine Same.upd rfl ?_; refine Same.upd rfl ?_; refine Same.upd rfl ?_; refine Same.upd rfl ?_; refine Same.upd rfl ?_; refine Same.upd rfl ?_; refine Same.upd rfl ?_; refine Same.upd rfl ?_; refine Same.upd rfl ?_; refine Same.upd rfl ?_; refine Same.upd rfl ?_; refine Same.upd rfl ?_; refine Same.upd rfl ?_; refine Same.upd rfl ?_; refine Same.upd rfl ?_; refine Same.upd rfl ?_; refine Same.upd rfl ?_; refine Same.upd rfl ?_; refine Same.upd rfl ?_; refine Same.upd rfl ?_; refine Same.upd rfl ?_; refine Same.upd rfl ?_; refine Same.upd rfl ?_; refine Same.upd rfl ?_; refine Same.upd rfl ?_; refine Same.upd rfl ?_; refine Same.upd rfl ?_; refine Same.upd rfl ?_; refine Same.upd rfl ?_; refine Same.upd rfl ?_; refine Same.upd rfl ?_; refine Same.upd rfl ?_; refine Same.upd rfl ?_; refine Same.upd rfl ?_; refine Same.upd rfl ?_; refine Same.upd rfl ?_; refine Same.upd rfl ?_; exact Same.ovN)), k - (j + 1), by omega, inferInstance, j + 1, true, congrArg (Value.int .i64) (by omega), rfl, rfl, by omega, hJj true (fun h => h) (fun _ _ => rfl)⟩
    | false =>
      by_cases he : pk = pj + 0
      · refine jjV [0, 1, 2, 3, 4, 5, 6, 7, 8, 9, 10, 11, 12, 13, 14] (by decide +kernel) hS33.ext ?_
        (((apply jjT; exact rfl; rintro w' hq; have := hq.toStep; apply jI; exact eB rfl; refine jz ?_; exact ⟨rfl, rfl⟩; apply jjT; exact rfl; rintro w' hq; have := hq.toStep; apply jI; exact eB rfl; refine jz ?_; exact ⟨rfl, rfl⟩; apply jjT; exact rfl; rintro w' hq; have := hq.toStep; refine jT rfl rfl rfl ?_; apply jI; exact eS rfl; refine jz ?_; exact ⟨rfl, rfl⟩; apply jjT; exact rfl; rintro w' hq; have := hq.toStep; refine jT rfl rfl rfl ?_; apply jI; exact eI rfl; refine jz ?_; exact ⟨rfl, rfl⟩; apply jjT; exact rfl; rintro w' hq; have := hq.toStep; refine jT rfl rfl rfl ?_; refine jG rfl rfl rfl (by omega) ?_; refine jz ?_; exact ⟨rfl, rfl⟩; apply jjT; exact rfl; rintro w' hq; have := hq.toStep; refine jT rfl rfl rfl ?_; refine jQ rfl rfl ?_; refine jz ?_; exact ⟨rfl, rfl⟩; apply jjT; exact rfl; rintro w' hq; have := hq.toStep; refine jT rfl rfl rfl ?_; apply jI; exact eS rfl; refine jz ?_; exact ⟨rfl, rfl⟩; apply jjT; exact rfl; rintro w' hq; have := hq.toStep; refine jT rfl rfl rfl ?_; apply jI; exact eI rfl; refine jz ?_; exact ⟨rfl, rfl⟩; apply jjT; exact rfl; rintro w' hq; have := hq.toStep; refine jT rfl rfl rfl ?_; refine jG rfl rfl rfl (by omega) ?_; refine jz ?_; exact ⟨rfl, rfl⟩; apply jjT; exact rfl; rintro w' hq; have := hq.toStep; refine jT rfl rfl rfl ?_; refine jQ rfl rfl ?_; refine jz ?_; exact ⟨rfl, rfl⟩; apply jjT; exact rfl; rintro w' hq; have := hq.toStep; refine jT rfl rfl rfl ?_; apply jI; exact eI rfl; refine jz ?_; exact ⟨rfl, rfl⟩; apply jjT; exact rfl; rintro w' hq; have := hq.toStep; refine jT rfl rfl rfl ?_; refine jY rfl rfl (by omega) ?_; refine jz ?_; exact ⟨rfl, rfl⟩; apply jjT; exact rfl; rintro w' hq; have := hq.toStep; refine jT rfl rfl rfl ?_; refine jjh rfl rfl (by omega) ?_; refine jz ?_; exact ⟨rfl, rfl⟩; apply jjT; exact rfl; rintro w' hq; have := hq.toStep; apply jL rfl; exact eB rfl; refine jz ?_; exact ⟨rfl, rfl⟩; apply jjT; exact rfl; rintro w' hq; have := hq.toStep; apply jJ; exact eB rfl; refine jz ?_; exact ⟨rfl, rfl⟩; refine jjU ?_)))
        refine jjX (by decide +kernel) hS33.ext ?_
        (refine jjC ?_; refine jY rfl rfl (by omega) ?_; apply jI; exact eI rfl; refine jz ?_)
        exact ⟨rfl, by ((refine Same.upd rfl ?_; refine Same.upd rfl ?_; refine Same.upd rfl ?_; refine Same.upd rfl ?_; refine Same.upd rfl ?_; refine Same.upd rfl ?_; refine Same.upd rfl ?_; refine Same.upd rfl ?_; refine Same.upd rfl ?_; refine Same.upd rfl ?_; refine Same.upd rfl ?_; refine Same.upd rfl ?_; refine Same.upd rfl ?_; refine Same.upd rfl ?_; refine Same.upd rfl ?_; refine Same.upd rfl ?_; refine Same.upd rfl ?_; refine Same.upd rfl ?_; refine Same.upd rfl ?_; refine Same.upd rfl ?_; refine Same.upd rfl ?_; refine Same.upd rfl ?_; refine Same.upd rfl ?_; refine Same.upd rfl ?_; refine Same.upd rfl ?_; refine Same.upd rfl ?_; refine Same.upd rfl ?_; refine Same.upd rfl ?_; refine Same.upd rfl ?_; refine Same.upd rfl ?_; refine Same.upd rfl ?_; refine Same.upd rfl ?_; refine Same.upd rfl ?_; refine Same.upd rfl ?_; refine Same.upd rfl ?_; refine Same.upd rfl ?_; refine Same.upd rfl ?_; refine Same.upd rfl ?_; refine Same.upd rfl ?_; refine Same.upd rfl ?_; refine Same.upd rfl ?_; refine Same.upd rfl ?_; refine Same.upd rfl ?_; refine Same.upd rfl ?_; refine Same.upd rfl ?_; refine Same.upd rfl ?_; refine Same.upd rfl ?_; refine Same.upd rfl ?_; refine Same.upd rfl ?_; refine Same.upd rfl ?_; refine Same.upd rfl ?_; refine Same.upd rfl ?_; refine Same.upd rfl ?_; refine Same.upd rfl ?_; refine Same.upd rfl ?_; refine Same.upd rfl ?_; refine Same.upd rfl ?_; refine Same.upd rfl ?_; refine Same.upd rfl ?_; refine Same.upd rfl ?_; refine Same.upd rfl ?_; refine Same.upd rfl ?_; refine Same.upd rfl ?_; refine Same.upd rfl ?_; refine Same.upd rfl ?_; refine Same.upd rfl ?_; refine Same.upd rfl ?_; refine Same.upd rfl ?_; refine Same.upd rfl ?_; refine Same.upd rfl ?_; refine Same.upd rfl ?_; refine Same.upd rfl ?_; refine Same.upd rfl ?_; refine Same.upd rfl ?_; refine Same.upd rfl ?_; refine Same.upd rfl ?_; refine Same.upd rfl ?_; refine Same.upd rfl ?_; refine Same.upd rfl ?_; refine Same.upd rfl ?_; refine Same.upd rfl ?_; refine Same.upd rfl ?_; refine Same.upd rfl ?_; refine Same.upd rfl ?_; refine Same.upd rfl ?_; refine Same.upd rfl ?_; refine Same.upd rfl ?_; refine Same.upd rfl ?_; exact Same.ovN)), k - (j + 1), by omega, inferInstance, j + 1, true, congrArg (Value.int .i64) (by omega), rfl, rfl, by omega, hJj true (fun h => by cases h) (fun _ _ => rfl)⟩
      · refine jjV [0, 1, 2, 3, 4, 5, 6, 7, 8, 9, 10, 11, 12, 13, 14] (by decide +kernel) hS33.ext ?_
        (((apply jjT; exact rfl; rintro w' hq; have := hq.toStep; apply jI; exact eB rfl; refine jz ?_; exact ⟨rfl, rfl⟩; apply jjT; exact rfl; rintro w' hq; have := hq.toStep; apply jI; exact eB rfl; refine jz ?_; exact ⟨rfl, rfl⟩; apply jjT; exact rfl; rintro w' hq; have := hq.toStep; refine jT rfl rfl rfl ?_; apply jI; exact eS rfl; refine jz ?_; exact ⟨rfl, rfl⟩; apply jjT; exact rfl; rintro w' hq; have := hq.toStep; refine jT rfl rfl rfl ?_; apply jI; exact eI rfl; refine jz ?_; exact ⟨rfl, rfl⟩; apply jjT; exact rfl; rintro w' hq; have := hq.toStep; refine jT rfl rfl rfl ?_; refine jG rfl rfl rfl (by omega) ?_; refine jz ?_; exact ⟨rfl, rfl⟩; apply jjT; exact rfl; rintro w' hq; have := hq.toStep; refine jT rfl rfl rfl ?_; refine jQ rfl rfl ?_; refine jz ?_; exact ⟨rfl, rfl⟩; apply jjT; exact rfl; rintro w' hq; have := hq.toStep; refine jT rfl rfl rfl ?_; apply jI; exact eS rfl; refine jz ?_; exact ⟨rfl, rfl⟩; apply jjT; exact rfl; rintro w' hq; have := hq.toStep; refine jT rfl rfl rfl ?_; apply jI; exact eI rfl; refine jz ?_; exact ⟨rfl, rfl⟩; apply jjT; exact rfl; rintro w' hq; have := hq.toStep; refine jT rfl rfl rfl ?_; refine jG rfl rfl rfl (by omega) ?_; refine jz ?_; exact ⟨rfl, rfl⟩; apply jjT; exact rfl; rintro w' hq; have := hq.toStep; refine jT rfl rfl rfl ?_; refine jQ rfl rfl ?_; refine jz ?_; exact ⟨rfl, rfl⟩; apply jjT; exact rfl; rintro w' hq; have := hq.toStep; refine jT rfl rfl rfl ?_; apply jI; exact eI rfl; refine jz ?_; exact ⟨rfl, rfl⟩; apply jjT; exact rfl; rintro w' hq; have := hq.toStep; refine jT rfl rfl rfl ?_; refine jY rfl rfl (by omega) ?_; refine jz ?_; exact ⟨rfl, rfl⟩; apply jjT; exact rfl; rintro w' hq; have := hq.toStep; refine jT rfl rfl rfl ?_; refine jji rfl rfl (by omega) ?_; refine jz ?_; exact ⟨rfl, rfl⟩; apply jjT; exact rfl; rintro w' hq; have := hq.toStep; apply jL rfl; exact eB rfl; refine jz ?_; exact ⟨rfl, rfl⟩; apply jjT; exact rfl; rintro w' hq; have := hq.toStep; apply jJ; exact eB rfl; refine jz ?_; exact ⟨rfl, rfl⟩; refine jjU ?_)))
        refine jjX (by decide +kernel) hS33.ext ?_
        (refine jjC ?_; refine jY rfl rfl (by omega) ?_; apply jI; exact eI rfl; refine jz ?_)
        exact ⟨rfl, by ((refine Same.upd rfl ?_; refine Same.upd rfl ?_; refine Same.upd rfl ?_; refine Same.upd rfl ?_; refine Same.upd rfl ?_; refine Same.upd rfl ?_; refine Same.upd rfl ?_; refine Same.upd rfl ?_; refine Same.upd rfl ?_; refine Same.upd rfl ?_; refine Same.upd rfl ?_; refine Same.upd rfl ?_; refine Same.upd rfl ?_; refine Same.upd rfl ?_; refine Same.upd rfl ?_; refine Same.upd rfl ?_; refine Same.upd rfl ?_; refine Same.upd rfl ?_; refine Same.upd rfl ?_; refine Same.upd rfl ?_; refine Same.upd rfl ?_; refine Same.upd rfl ?_; refine Same.upd rfl ?_; refine Same.upd rfl ?_; refine Same.upd rfl ?_; refine Same.upd rfl ?_; refine Same.upd rfl ?_; refine Same.upd rfl ?_; refine Same.upd rfl ?_; refine Same.upd rfl ?_; refine Same.upd rfl ?_; refine Same.upd rfl ?_; refine Same.upd rfl ?_; refine Same.upd rfl ?_; refine Same.upd rfl ?_; refine Same.upd rfl ?_; refine Same.upd rfl ?_; refine Same.upd rfl ?_; refine Same.upd rfl ?_; refine Same.upd rfl ?_; refine Same.upd rfl ?_; refine Same.upd rfl ?_; refine Same.upd rfl ?_; refine Same.upd rfl ?_; refine Same.upd rfl ?_; refine Same.upd rfl ?_; refine Same.upd rfl ?_; refine Same.upd rfl ?_; refine Same.upd rfl ?_; refine Same.upd rfl ?_; refine Same.upd rfl ?_; refine Same.upd rfl ?_; refine Same.upd rfl ?_; refine Same.upd rfl ?_; refine Same.upd rfl ?_; refine Same.upd rfl ?_; refine Same.upd rfl ?_; refine Same.upd rfl ?_; refine Same.upd rfl ?_; refine Same.upd rfl ?_; refine Same.upd rfl ?_; refine Same.upd rfl ?_; refine Same.upd rfl ?_; refine Same.upd rfl ?_; refine Same.upd rfl ?_; refine Same.upd rfl ?_; refine Same.upd rfl ?_; refine Same.upd rfl ?_; refine Same.upd rfl ?_; refine Same.upd rfl ?_; refine Same.upd rfl ?_; refine Same.upd rfl ?_; refine Same.upd rfl ?_; refine Same.upd rfl ?_; refine Same.upd rfl ?_; refine Same.upd rfl ?_; refine Same.upd rfl ?_; refine Same.upd rfl ?_; refine Same.upd rfl ?_; refine Same.upd rfl ?_; refine Same.upd rfl ?_; refine Same.upd rfl ?_; refine Same.upd rfl ?_; refine Same.upd rfl ?_; refine Same.upd rfl ?_; refine Same.upd rfl ?_; refine Same.upd rfl ?_; refine Same.upd rfl ?_; exact Same.ovN)), k - (j + 1), by omega, inferInstance, j + 1, false, congrArg (Value.int .i64) (by omega), rfl, rfl, by omega, hJj false (fun h => h) (fun _ h2 => absurd h2 he)⟩
  · rw [if_neg (fun e => hkl (by have := hlast.1 e; omega))] at hCw
    subst hCw
    (refine jjB ?_; refine jjB ?_; refine jjC ?_; apply jI; exact eI rfl; apply jI; exact eS rfl; refine jh rfl ?_; refine jZ rfl rfl (by omega) ?_; refine jji rfl rfl (by omega) ?_; refine jz ?_; refine jjK rfl ?_; refine jjG ?_; refine jjB ?_; refine jjB ?_)
    refine W.draw (fun w' => Ext w31 w') ?_
    intro w32 hS32
    refine jjV [0, 1, 2, 3, 4, 5, 6, 7, 8, 9, 10] (by decide +kernel) hS32.ext ?_
    (((apply jjT; exact rfl; rintro w' hq; have := hq.toStep; apply jI; exact eS rfl; refine jz ?_; exact ⟨rfl, rfl⟩; apply jjT; exact rfl; rintro w' hq; have := hq.toStep; apply jI; exact eI rfl; refine jz ?_; exact ⟨rfl, rfl⟩; apply jjT; exact rfl; rintro w' hq; have := hq.toStep; refine jG rfl rfl rfl (by omega) ?_; refine jz ?_; exact ⟨rfl, rfl⟩; apply jjT; exact rfl; rintro w' hq; have := hq.toStep; refine jQ rfl rfl ?_; refine jz ?_; exact ⟨rfl, rfl⟩; apply jjT; exact rfl; rintro w' hq; have := hq.toStep; apply jI; exact eS rfl; refine jz ?_; exact ⟨rfl, rfl⟩; apply jjT; exact rfl; rintro w' hq; have := hq.toStep; apply jI; exact eI rfl; refine jz ?_; exact ⟨rfl, rfl⟩; apply jjT; exact rfl; rintro w' hq; have := hq.toStep; refine jG rfl rfl rfl (by omega) ?_; refine jz ?_; exact ⟨rfl, rfl⟩; apply jjT; exact rfl; rintro w' hq; have := hq.toStep; refine jQ rfl rfl ?_; refine jz ?_; exact ⟨rfl, rfl⟩; apply jjT; exact rfl; rintro w' hq; have := hq.toStep; apply jI; exact eI rfl; refine jz ?_; exact ⟨rfl, rfl⟩; apply jjT; exact rfl; rintro w' hq; have := hq.toStep; refine jY rfl rfl (by omega) ?_; refine jz ?_; exact ⟨rfl, rfl⟩; apply jjT; exact rfl; rintro w' hq; have := hq.toStep; refine jje rfl rfl (by omega) ?_; refine jz ?_; exact ⟨rfl, rfl⟩; refine jjU ?_)))
    refine jjX (by decide +kernel) hS32.ext ?_
    (refine jjK rfl ?_; refine jjG ?_)
    refine W.draw (fun w' => Ext w32 w') ?_
    intro w33 hS33
    cases J with
    | true =>
      refine jjV [0, 1, 2, 3, 4, 5, 6, 7, 8, 9, 10, 11, 12, 13, 14] (by decide +kernel) hS33.ext ?_
      (((apply jjT; exact rfl; rintro w' hq; have := hq.toStep; apply jI; exact eB rfl; refine jz ?_; exact ⟨rfl, rfl⟩; apply jjT; exact rfl; rintro w' hq; have := hq.toStep; apply jI; exact eB rfl; refine jz ?_; exact ⟨rfl, rfl⟩; apply jjT; exact rfl; rintro w' hq; have := hq.toStep; refine jU rfl rfl rfl rfl ?_; refine jz ?_; exact ⟨rfl, rfl⟩; apply jjT; exact rfl; rintro w' hq; have := hq.toStep; refine jU rfl rfl rfl rfl ?_; refine jz ?_; exact ⟨rfl, rfl⟩; apply jjT; exact rfl; rintro w' hq; have := hq.toStep; refine jU rfl rfl rfl rfl ?_; refine jz ?_; exact ⟨rfl, rfl⟩; apply jjT; exact rfl; rintro w' hq; have := hq.toStep; refine jU rfl rfl rfl rfl ?_; refine jz ?_; exact ⟨rfl, rfl⟩; apply jjT; exact rfl; rintro w' hq; have := hq.toStep; refine jU rfl rfl rfl rfl ?_; refine jz ?_; exact ⟨rfl, rfl⟩; apply jjT; exact rfl; rintro w' hq; have := hq.toStep; refine jU rfl rfl rfl rfl ?_; refine jz ?_; exact ⟨rfl, rfl⟩; apply jjT; exact rfl; rintro w' hq; have := hq.toStep; refine jU rfl rfl rfl rfl ?_; refine jz ?_; exact ⟨rfl, rfl⟩; apply jjT; exact rfl; rintro w' hq; have := hq.toStep; refine jU rfl rfl rfl rfl ?_; refine jz ?_; exact ⟨rfl, rfl⟩; apply jjT; exact rfl; rintro w' hq; have := hq.toStep; refine jU rfl rfl rfl rfl ?_; refine jz ?_; exact ⟨rfl, rfl⟩; apply jjT; exact rfl; rintro w' hq; have := hq.toStep; refine jU rfl rfl rfl rfl ?_; refine jz ?_; exact ⟨rfl, rfl⟩; apply jjT; exact rfl; rintro w' hq; have := hq.toStep; refine jU rfl rfl rfl rfl ?_; refine jz ?_; exact ⟨rfl, rfl⟩; apply jjT; exact rfl; rintro w' hq; have := hq.toStep; apply jK rfl; exact eB rfl; refine jz ?_; exact ⟨rfl, rfl⟩; apply jjT; exact rfl; rintro w' hq; have := hq.toStep; apply jJ; exact eB rfl; refine jz ?_; exact ⟨rfl, rfl⟩; refine jjU ?_)))
      refine jjX (by decide +kernel) hS33.ext ?_
      (refine jjC ?_; refine jY rfl rfl (by omega) ?_; apply jI; exact eI rfl; refine jz ?_)
      exact ⟨rfl, by ((refine Same.upd rfl ?_; refine Same.upd rfl ?_; refine Same.upd rfl ?_; refine Same.upd rfl ?_; refine Same.upd rfl ?_; refine Same.upd rfl ?_; refine Same.upd rfl ?_; refine Same.upd rfl ?_; refine Same.upd rfl ?_; refine Same.upd rfl ?_; refine Same.upd rfl ?_; refine Same.upd rfl ?_; refine Same.upd rfl ?_; refine Same.upd rfl ?_; refine Same.upd rfl ?_; refine Same.upd rfl ?_; refine Same.upd rfl ?_; refine Same.upd rfl ?_; refine Same.upd rfl ?_; refine Same.upd rfl ?_; refine Same.upd rfl ?_; refine Same.upd rfl ?_; refine Same.upd rfl ?_; refine Same.upd rfl ?_; refine Same.upd rfl ?_; refine Same.upd rfl ?_; refine Same.upd rfl ?_; refine Same.upd rfl ?_; refine Same.upd rfl ?_; refine Same.upd rfl ?_; refine Same.upd rfl ?_; refine Same.upd rfl ?_; refine Same.upd rfl ?_; refine Same.upd rfl ?_; refine Same.upd rfl ?_; refine Same.upd rfl ?_; refine Same.upd rfl ?_; refine Same.upd rfl ?_; refine Same.upd rfl ?_; refine Same.upd rfl ?_; refine Same.upd rfl ?_; refine Same.upd rfl ?_; refine Same.upd rfl ?_; refine Same.upd rfl ?_; refine Same.upd rfl ?_; refine Same.upd rfl ?_; refine Same.upd rfl ?_; refine Same.upd rfl ?_; refine Same.upd rfl ?_; refine Same.upd rfl ?_; refine Same.upd rfl ?_; refine Same.upd rfl ?_; refine Same.upd rfl ?_; refine Same.upd rfl ?_; refine Same.upd rfl ?_; refine Same.upd rfl ?_; refine Same.upd rfl ?_; refine Same.upd rfl ?_; refine Same.upd rfl ?_; refine Same.upd rfl ?_; refine Same.upd rfl ?_; refine Same.upd rfl ?_; refine Same.upd rfl ?_; refine Same.upd rfl ?_; refine Same.upd rfl ?_; refine Same.upd rfl ?_; refine Same.upd rfl ?_; refine Same.upd rfl ?_; refine Same.upd rfl ?_; refine Same.upd rfl ?_; refine Same.upd rfl ?_; refine Same.upd rfl ?_; refine Same.upd rfl ?_; refine Same.upd rfl ?_; refine Same.upd rfl ?_; refine Same.upd rfl ?_; refine Same.upd rfl ?_; refine Same.upd rfl ?_; refine Same.upd rfl ?_; refine Same.upd rfl ?_; refine Same.upd rfl ?_; refine Same.upd rfl ?_; refine Same.upd rfl ?_; refine Same.upd rfl ?_; refine Same.upd rfl ?_; refine Same.upd rfl ?_; refine Same.upd rfl ?_; exact Same.ovN)), k - (j + 1), by omega, inferInstance, j + 1, true, congrArg (Value.int .i64) (by omega), rfl, rfl, by omega, hJj true (fun h => h) (fun _ _ => rfl)⟩
    | false =>
      by_cases he : pk = pj + mm
      · refine jjV [0, 1, 2, 3, 4, 5, 6, 7, 8, 9, 10, 11, 12, 13, 14] (by decide +kernel) hS33.ext ?_
        (((apply jjT; exact rfl; rintro w' hq; have := hq.toStep; apply jI; exact eB rfl; refine jz ?_; exact ⟨rfl, rfl⟩; apply jjT; exact rfl; rintro w' hq; have := hq.toStep; apply jI; exact eB rfl; refine jz ?_; exact ⟨rfl, rfl⟩; apply jjT; exact rfl; rintro w' hq; have := hq.toStep; refine jT rfl rfl rfl ?_; apply jI; exact eS rfl; refine jz ?_; exact ⟨rfl, rfl⟩; apply jjT; exact rfl; rintro w' hq; have := hq.toStep; refine jT rfl rfl rfl ?_; apply jI; exact eI rfl; refine jz ?_; exact ⟨rfl, rfl⟩; apply jjT; exact rfl; rintro w' hq; have := hq.toStep; refine jT rfl rfl rfl ?_; refine jG rfl rfl rfl (by omega) ?_; refine jz ?_; exact ⟨rfl, rfl⟩; apply jjT; exact rfl; rintro w' hq; have := hq.toStep; refine jT rfl rfl rfl ?_; refine jQ rfl rfl ?_; refine jz ?_; exact ⟨rfl, rfl⟩; apply jjT; exact rfl; rintro w' hq; have := hq.toStep; refine jT rfl rfl rfl ?_; apply jI; exact eS rfl; refine jz ?_; exact ⟨rfl, rfl⟩; apply jjT; exact rfl; rintro w' hq; have := hq.toStep; refine jT rfl rfl rfl ?_; apply jI; exact eI rfl; refine jz ?_; exact ⟨rfl, rfl⟩; apply jjT; exact rfl; rintro w' hq; have := hq.toStep; refine jT rfl rfl rfl ?_; refine jG rfl rfl rfl (by omega) ?_; refine jz ?_; exact ⟨rfl, rfl⟩; apply jjT; exact rfl; rintro w' hq; have := hq.toStep; refine jT rfl rfl rfl ?_; refine jQ rfl rfl ?_; refine jz ?_; exact ⟨rfl, rfl⟩; apply jjT; exact rfl; rintro w' hq; have := hq.toStep; refine jT rfl rfl rfl ?_; apply jI; exact eI rfl; refine jz ?_; exact ⟨rfl, rfl⟩; apply jjT; exact rfl; rintro w' hq; have := hq.toStep; refine jT rfl rfl rfl ?_; refine jY rfl rfl (by omega) ?_; refine jz ?_; exact ⟨rfl, rfl⟩; apply jjT; exact rfl; rintro w' hq; have := hq.toStep; refine jT rfl rfl rfl ?_; refine jjh rfl rfl (by omega) ?_; refine jz ?_; exact ⟨rfl, rfl⟩; apply jjT; exact rfl; rintro w' hq; have := hq.toStep; apply jL rfl; exact eB rfl; refine jz ?_; exact ⟨rfl, rfl⟩; apply jjT; exact rfl; rintro w' hq; have := hq.toStep; apply jJ; exact eB rfl; refine jz ?_; exact ⟨rfl, rfl⟩; refine jjU ?_)))
        refine jjX (by decide +kernel) hS33.ext ?_
        (refine jjC ?_; refine jY rfl rfl (by omega) ?_; apply jI; exact eI rfl; refine jz ?_)
        exact ⟨rfl, by ((refine Same.upd rfl ?_; refine Same.upd rfl ?_; refine Same.upd rfl ?_; refine Same.upd rfl ?_; refine Same.upd rfl ?_; refine Same.upd rfl ?_; refine Same.upd rfl ?_; refine Same.upd rfl ?_; refine Same.upd rfl ?_; refine Same.upd rfl ?_; refine Same.upd rfl ?_; refine Same.upd rfl ?_; refine Same.upd rfl ?_; refine Same.upd rfl ?_; refine Same.upd rfl ?_; refine Same.upd rfl ?_; refine Same.upd rfl ?_; refine Same.upd rfl ?_; refine Same.upd rfl ?_; refine Same.upd rfl ?_; refine Same.upd rfl ?_; refine Same.upd rfl ?_; refine Same.upd rfl ?_; refine Same.upd rfl ?_; refine Same.upd rfl ?_; refine Same.upd rfl ?_; refine Same.upd rfl ?_; refine Same.upd rfl ?_; refine Same.upd rfl ?_; refine Same.upd rfl ?_; refine Same.upd rfl ?_; refine Same.upd rfl ?_; refine Same.upd rfl ?_; refine Same.upd rfl ?_; refine Same.upd rfl ?_; refine Same.upd rfl ?_; refine Same.upd rfl ?_; refine Same.upd rfl ?_; refine Same.upd rfl ?_; refine Same.upd rfl ?_; refine Same.upd rfl ?_; refine Same.upd rfl ?_; refine Same.upd rfl ?_; refine Same.upd rfl ?_; refine Same.upd rfl ?_; refine Same.upd rfl ?_; refine Same.upd rfl ?_; refine Same.upd rfl ?_; refine Same.upd rfl ?_; refine Same.upd rfl ?_; refine Same.upd rfl ?_; refine Same.upd rfl ?_; refine Same.upd rfl ?_; refine Same.upd rfl ?_; refine Same.upd rfl ?_; refine Same.upd rfl ?_; refine Same.upd rfl ?_; refine Same.upd rfl ?_; refine Same.upd rfl ?_; refine Same.upd rfl ?_; refine Same.upd rfl ?_; refine Same.upd rfl ?_; refine Same.upd rfl ?_; refine Same.upd rfl ?_; refine Same.upd rfl ?_; refine Same.upd rfl ?_; refine Same.upd rfl ?_; refine Same.upd rfl ?_; refine Same.upd rfl ?_; refine Same.upd rfl ?_; refine Same.upd rfl ?_; refine Same.upd rfl ?_; refine Same.upd rfl ?_; refine Same.upd rfl ?_; refine Same.upd rfl ?_; refine Same.upd rfl ?_; refine Same.upd rfl ?_; refine Same.upd rfl ?_; refine Same.upd rfl ?_; refine Same.upd rfl ?_; refine Same.upd rfl ?_; refine Same.upd rfl ?_; refine Same.upd rfl ?_; refine Same.upd rfl ?_; refine Same.upd rfl ?_; refine Same.upd rfl ?_; refine Same.upd rfl ?_; exact Same.ovN)), k - (j + 1), by omega, inferInstance, j + 1, true, congrArg (Value.int .i64) (by omega), rfl, rfl, by omega, hJj true (fun h => by cases h) (fun _ _ => rfl)⟩
      · refine jjV [0, 1, 2, 3, 4, 5, 6, 7, 8, 9, 10, 11, 12, 13, 14] (by decide +kernel) hS33.ext ?_
        (((apply jjT; exact rfl; rintro w' hq; have := hq.toStep; apply jI; exact eB rfl; refine jz ?_; exact ⟨rfl, rfl⟩; apply jjT; exact rfl; rintro w' hq; have := hq.toStep; apply jI; exact eB rfl; refine jz ?_; exact ⟨rfl, rfl⟩; apply jjT; exact rfl; rintro w' hq; have := hq.toStep; refine jT rfl rfl rfl ?_; apply jI; exact eS rfl; refine jz ?_; exact ⟨rfl, rfl⟩; apply jjT; exact rfl; rintro w' hq; have := hq.toStep; refine jT rfl rfl rfl ?_; apply jI; exact eI rfl; refine jz ?_; exact ⟨rfl, rfl⟩; apply jjT; exact rfl; rintro w' hq; have := hq.toStep; refine jT rfl rfl rfl ?_; refine jG rfl rfl rfl (by omega) ?_; refine jz ?_; exact ⟨rfl, rfl⟩; apply jjT; exact rfl; rintro w' hq; have := hq.toStep; refine jT rfl rfl rfl ?_; refine jQ rfl rfl ?_; refine jz ?_; exact ⟨rfl, rfl⟩; apply jjT; exact rfl; rintro w' hq; have := hq.toStep; refine jT rfl rfl rfl ?_; apply jI; exact eS rfl; refine jz ?_; exact ⟨rfl, rfl⟩; apply jjT; exact rfl; rintro w' hq; have := hq.toStep; refine jT rfl rfl rfl ?_; apply jI; exact eI rfl; refine jz ?_; exact ⟨rfl, rfl⟩; apply jjT; exact rfl; rintro w' hq; have := hq.toStep; refine jT rfl rfl rfl ?_; refine jG rfl rfl rfl (by omega) ?_; refine jz ?_; exact ⟨rfl, rfl⟩; apply jjT; exact rfl; rintro w' hq; have := hq.toStep; refine jT rfl rfl rfl ?_; refine jQ rfl rfl ?_; refine jz ?_; exact ⟨rfl, rfl⟩; apply jjT; exact rfl; rintro w' hq; have := hq.toStep; refine jT rfl rfl rfl ?_; apply jI; exact eI rfl; refine jz ?_; exact ⟨rfl, rfl⟩; apply jjT; exact rfl; rintro w' hq; have := hq.toStep; refine jT rfl rfl rfl ?_; refine jY rfl rfl (by omega) ?_; refine jz ?_; exact ⟨rfl, rfl⟩; apply jjT; exact rfl; rintro w' hq; have := hq.toStep; refine jT rfl rfl rfl ?_; refine jji rfl rfl (by omega) ?_; refine jz ?_; exact ⟨rfl, rfl⟩; apply jjT; exact rfl; rintro w' hq; have := hq.toStep; apply jL rfl; exact eB rfl; refine jz ?_; exact ⟨rfl, rfl⟩; apply jjT; exact rfl; rintro w' hq; have := hq.toStep; apply jJ; exact eB rfl; refine jz ?_; exact ⟨rfl, rfl⟩; refine jjU ?_)))
        refine jjX (by decide +kernel) hS33.ext ?_
        (refine jjC ?_; refine jY rfl rfl (by omega) ?_; apply jI; exact eI rfl; refine jz ?_)
        exact ⟨rfl, by ((refine Same.upd rfl ?_; refine Same.upd rfl ?_; refine Same.upd rfl ?_; refine Same.upd rfl ?_; refine Same.upd rfl ?_; refine Same.upd rfl ?_; refine Same.upd rfl ?_; refine Same.upd rfl ?_; refine Same.upd rfl ?_; refine Same.upd rfl ?_; refine Same.upd rfl ?_; refine Same.upd rfl ?_; refine Same.upd rfl ?_; refine Same.upd rfl ?_; refine Same.upd rfl ?_; refine Same.upd rfl ?_; refine Same.upd rfl ?_; refine Same.upd rfl ?_; refine Same.upd rfl ?_; refine Same.upd rfl ?_; refine Same.upd rfl ?_; refine Same.upd rfl ?_; refine Same.upd rfl ?_; refine Same.upd rfl ?_; refine Same.upd rfl ?_; refine Same.upd rfl ?_; refine Same.upd rfl ?_; refine Same.upd rfl ?_; refine Same.upd rfl ?_; refine Same.upd rfl ?_; refine Same.upd rfl ?_; refine Same.upd rfl ?_; refine Same.upd rfl ?_; refine Same.upd rfl ?_; refine Same.upd rfl ?_; refine Same.upd rfl ?_; refine Same.upd rfl ?_; refine Same.upd rfl ?_; refine Same.upd rfl ?_; refine Same.upd rfl ?_; refine Same.upd rfl ?_; refine Same.upd rfl ?_; refine Same.upd rfl ?_; refine Same.upd rfl ?_; refine Same.upd rfl ?_; refine Same.upd rfl ?_; refine Same.upd rfl ?_; refine Same.upd rfl ?_; refine Same.upd rfl ?_; refine Same.upd rfl ?_; refine Same.upd rfl ?_; refine Same.upd rfl ?_; refine Same.upd rfl ?_; refine Same.upd rfl ?_; refine Same.upd rfl ?_; refine Same.upd rfl ?_; refine Same.upd rfl ?_; refine Same.upd rfl ?_; refine Same.upd rfl ?_; refine Same.upd rfl ?_; refine Same.upd rfl ?_; refine Same.upd rfl ?_; refine Same.upd rfl ?_; refine Same.upd rfl ?_; refine Same.upd rfl ?_; refine Same.upd rfl ?_; refine Same.upd rfl ?_; refine Same.upd rfl ?_; refine Same.upd rfl ?_; refine Same.upd rfl ?_; refine Same.upd rfl ?_; refine Same.upd rfl ?_; refine Same.upd rfl ?_; refine Same.upd rfl ?_; refine Same.upd rfl ?_; refine Same.upd rfl ?_; refine Same.upd rfl ?_; refine Same.upd rfl ?_; refine Same.upd rfl ?_; refine Same.upd rfl ?_; refine Same.upd rfl ?_; refine Same.upd rfl ?_; refine Same.upd rfl ?_; refine Same.upd rfl ?_; refine Same.upd rfl ?_; refine Same.upd rfl ?_; refine Same.upd rfl ?_; exact Same.ovN)), k - (j + 1), by omega, inferInstance, j + 1, false, congrArg (Value.int .i64) (by omega), rfl, rfl, by omega, hJj false (fun h => h) (fun _ h2 => absurd h2 he)⟩
end
end Go.Proofs.YtfebegbjggoijaaGreatDoor
