/- Texts of the proof, part 6: Gs1, Eng28, Gl2, PlRc, PlRd, PlRe, LawGc. -/
import Derived.Test.YtfebegbjggoijaaGreatDoorGC5
/- galley: Set. -/
namespace Go.Proofs.YtfebegbjggoijaaGreatDoor
open Go.RowKit

theorem one_blk (b : Blk) : ([b].map encB).all (fun v => v.cells.toList.all (·.oneCell')) = true := rfl
section
variable (a : Option Addr) (c : Nat) (cs : List Ch) (wd side : Int) (w : World) [hrow : RowI w (.slice a cs.length c) true 2 (cs.map encCh)] [hT : TextI w cs] [hgs : At w 2 0 sidesC]
set_option maxHeartbeats 8000000 in
theorem Set_galley (hs : SmallT cs) (hd : 0 ≤ side ∧ side ≤ 255) (h : Int) : Ct Tryz.prog 33 [.agg #[.slice a cs.length c], encCut wd side, .int .i64 h] w fun v w' => ∃ ga gc, v = .tuple #[.agg #[.int .i64 (setR (txF cs) wd side h).1.1, .slice ga (setR (txF cs) wd side h).1.2.length gc], .int .i64 (setR (txF cs) wd side h).2] ∧ RowV w' true 2 (.slice ga (setR (txF cs) wd side h).1.2.length gc) ((setR (txF cs) wd side h).1.2.map encB) := by
  refine Ct.ofW (by simp) ?_
  (refine jjB ?_; refine jjC ?_)
  (refine jy rfl ?_; intro b3 w_b3 hb_b3 hs_b3 hS_b3 hk_b3; have hA_b3 := At.ofBlock hk_b3)
  skip
  (refine jy rfl ?_; intro b4 w_b4 hb_b4 hs_b4 hS_b4 hk_b4; have hA_b4 := At.ofBlock hk_b4)
  ((skip); refine jjY ?_; intro b6 w_b6 hb_b6 hs_b6 hS_b6 hk_b6; have hA_b6 := Bk.of hk_b6)
  (apply jJ; exact eI rfl; refine jz ?_; refine jjB ?_; refine jjC ?_; refine jO rfl rfl rfl rfl ?_; refine jO rfl rfl rfl rfl ?_)
  have hB6 : Bk w_b6 b6 [.int .i64 0, .slice none 0 0] 24 := hA_b6
  have z3 := hS_b3.size
  have z4 := hS_b4.size
  obtain ⟨e, he⟩ : ∃ e, askE (txF cs) wd side = e := ⟨_, rfl⟩
  refine jjQ ((All_slip a c cs wd side _ hs hd).mono fun v _ _ h => by rw [he] at h; exact h) rfl rfl ?_
  rintro _ w7 hS7 ⟨lv, rfl, hO⟩
  obtain ⟨la, lc, elv⟩ := hO.slice
  rw [List.length_map] at elv
  subst elv
  have hE7 : Ext w w7 := inferInstance
  have hB67 : Bk w7 b6 [.int .i64 0, .slice none 0 0] 24 := hB6.ext hS7.ext
  have h3in := askE_in (txF cs) wd side
  rw [he] at h3in
  by_cases h0 : e = 0
  rotate_left
  · rw [setR_ask (by rw [he]; exact h0), he]
    (apply jI; exact eU rfl; refine ju rfl rfl ?_; refine ju rfl rfl ?_; apply jJ; exact eS rfl; apply jJ; exact eI rfl; refine jz ?_; refine jjB ?_; refine jjB ?_; refine jjC ?_; apply jI; exact eI rfl; refine jjj rfl rfl (by omega) ?_; refine jz ?_; refine jjJ rfl ?_; refine jjB ?_; refine jjC ?_)
    (refine jjS (cells := [.int .i64 0, .slice none 0 0]) ?_ ?_; exact rfl)
    (apply jI; exact eI rfl)
    refine Ops.store rfl rfl rfl rfl rfl ?_
    intro V2 hp2
    have hA2 : At V2 b6 0 [.int .i64 0, .slice none 0 0] := Bk.toAt (h := Bk.of hp2.new)
    (apply jJ; exact eI rfl; refine jz ?_; refine jjF ?_)
    exact fin2C rfl rfl rfl rfl rfl rfl ⟨hp2.ext hE7 (by omega), none, 0, rfl, RowV.nilS _ _ _ _ _⟩
  obtain ⟨ht, hc⟩ := askE_zero (he.trans h0)
  have ha : askE (txF cs) wd side = 0 := he.trans h0
  rw [allR, if_pos ha] at hO ⊢
  obtain ⟨ls, hls⟩ : ∃ ls, allS (txF cs) side wd = ls := ⟨_, rfl⟩
  have hl6 : ls.length ≤ 600 := by rw [← hls]; exact allS_len ht
  rw [hls] at hO ⊢
  have iL7 : RowI w7 (.slice la ls.length lc) true 6 (ls.map encSl) := ⟨hO.row⟩
  (apply jI; exact eU rfl; refine ju rfl rfl ?_; refine ju rfl rfl ?_; apply jJ; exact eS rfl; apply jJ; exact eI rfl; refine jz ?_; refine jjB ?_; refine jjB ?_; refine jjC ?_; apply jI; exact eI rfl; refine jjk rfl rfl (by omega) ?_; refine jz ?_; refine jjK rfl ?_; refine jjG ?_; refine jjB ?_; refine jjB ?_; refine jjC ?_; apply jI; exact eI rfl)
  (refine jjP (v := .int _ _) rfl (by exact rfl) (by exact rfl) (by exact rfl) (by exact rfl) ?_; intro b29 w_b29 hb_b29 hs_b29 hS_b29 hk_b29; have hR_b29 := RowV.one (agg := false) (k := 1) rfl hk_b29)
  skip
  obtain ⟨B, hB⟩ : ∃ B, inB 4 40 h = B := ⟨_, rfl⟩
  refine jjQ ((in_galley 4 40 _ [h] _ hR_b29).mono fun v _ _ q => q.trans (by rw [all1, hB])) rfl rfl ?_
  rintro _ w8 hS8 rfl
  have hE8 : Ext w w8 := inferInstance
  have hB68 : Bk w8 b6 [.int .i64 0, .slice none 0 0] 24 := inferInstance
  cases B with
  | false =>
    rw [setR_high ha hB]
    (refine jq rfl ?_; refine jz ?_; refine jjJ rfl ?_; refine jjB ?_; refine jjC ?_)
    (refine jjS (cells := [.int .i64 0, .slice none 0 0]) ?_ ?_; exact rfl)
    skip
    refine Ops.store rfl rfl rfl rfl rfl ?_
    intro V2 hp2
    have hA2 : At V2 b6 0 [.int .i64 0, .slice none 0 0] := Bk.toAt (h := Bk.of hp2.new)
    (apply jJ; exact eI rfl; refine jz ?_; refine jjF ?_)
    exact fin2C rfl rfl rfl rfl rfl rfl ⟨hp2.ext hE8 (by omega), none, 0, rfl, RowV.nilS _ _ _ _ _⟩
  | true =>
  (refine jp rfl ?_; refine jz ?_; refine jjK rfl ?_; refine jjG ?_; refine jjB ?_; refine jjC ?_)
  refine Ops.makeMap Value.string ?_
  intro mb w9 hmb hs9 hS9 hM9
  (apply jJ; exact eM rfl; refine jz ?_; refine jjB ?_; refine jjB ?_; refine jjC ?_; apply jI; exact eS rfl; refine jh rfl ?_; apply jI; exact eI rfl; refine jz ?_; refine jjD ?_)
  have hE9 : Ext w w9 := inferInstance
  have zE8 := hE8.size
  have hwm : w.heap.size ≤ mb := by omega
  have hlt6 := hB68.lt
  have n6m : b6 ≠ mb := by omega
  have h3lt : b3 < b6 := by omega
  have y3 : At w9 b3 0 [.slice a cs.length c] := inferInstance
  have hB69 : Bk w9 b6 [.int .i64 0, .slice none 0 0] 24 := hB68.ext hS9.ext
  have iL9 : RowI w9 (.slice la ls.length lc) true 6 (ls.map encSl) := inferInstance
  refine W.keep0 [(2, .int .i64 h), (3, .pointer (some ⟨b3, 0, none⟩)), (6, .pointer (some ⟨b6, 0, none⟩)), (10, .map (some mb)), (34, .slice la ls.length lc), (35, .int .i64 (ls.length : Int)), (36, .int .i64 ((0 : Nat) : Int))] ⟨eI rfl, eP rfl, eP rfl, eM rfl, eS rfl, eI rfl, eI rfl, trivial⟩ fun s0 => ?_
  have hnl : (Value.slice la ls.length lc).ownBlock ≠ some mb := fun e => by
    have := (hO.block _ e).2
    have := (show Ext w7 w8 from inferInstance).size
    omega
  refine W.loopG (37 :: 38 :: 39 :: 12 :: 40 :: 41 :: 42 :: 43 :: 44 :: 45 :: 36 :: []) (fun g s' V => ∃ (k : Nat) (m : List (ByteArray × Value)), s' 36 = .int .i64 ((k : Nat) : Int) ∧ g = ls.length - k ∧ k ≤ ls.length ∧ Only mb w9 V ∧ MapE Value.string V mb m ∧ ∀ x, (mget m x).getD (.int .i64 0) = .int .i64 (cN (ls.take k) x : Int)) ls.length ⟨0, [], rfl, rfl, Nat.zero_le _, .ofExt (.refl _), hM9, fun x => by simp [mget, cN]⟩ ?_
  rintro _ sd V ⟨k, m, h36, rfl, hk, hOn, hM, hget⟩
  refine W.fix (d := 36) h36 ?_
  clear h36
  have hEV : Ext w V := hOn.ext hE9 hwm
  have iLV : RowI V (.slice la ls.length lc) true 6 (ls.map encSl) := ⟨hOn.row iL9.h hnl⟩
  have hB6V : Bk V b6 [.int .i64 0, .slice none 0 0] 24 := hOn.bk hB69 n6m
  have y3V : At V b3 0 [.slice a cs.length c] := hOn.at_ y3 (by omega)
  by_cases hkl : k < ls.length
  · have hgk := List.getElem?_eq_getElem hkl
    have hsn := cN_snoc hgk
    obtain ⟨u, hu⟩ : ∃ u, ls[k] = u := ⟨_, rfl⟩
    rw [hu] at hsn
    have hcn := cN_le (ls.take k) u.2.1
    rw [List.length_take] at hcn
    (refine jjB ?_; refine jjC ?_; refine jjZ rfl rfl (by omega) ?_; refine jz ?_; refine jjB ?_; refine jjJ rfl ?_; refine jjG ?_; refine jjB ?_; refine jjD ?_; refine jjB ?_; refine jjC ?_; refine jF rfl rfl rfl (map_get (by omega)) ?_; intro _ _ _; refine jQ rfl rfl ?_)
    rw [hu]
    (apply jjR rfl; (intro _; first|exact eI rfl|exact eB rfl|exact eP rfl|exact eS rfl|exact eT rfl|exact eA rfl|exact eU rfl|exact eF rfl|exact eM rfl|exact eN rfl|exact rfl); exact rfl; exact rfl; exact rfl; exact rfl; intro b12 w_b12 hb_b12 hs_b12 hS_b12 hk_b12; have hA_b12 := Bk.of hk_b12)
    have e12 := hS_b12.ext
    have hx12 : At w_b12 b12 0 [.int .i64 u.1.1, .int .i64 u.1.2.1, .int .i64 u.1.2.2, .string u.2.1, .string u.2.2.1, .string u.2.2.2] := Bk.toAt (h := hA_b12)
    (refine jz ?_; refine jjC ?_; apply jI; exact eM rfl; refine jm ?_; refine jn rfl ?_; refine jN rfl rfl rfl ?_)
    refine Ops.lookupV (k := u.2.1) (hget u.2.1) (hM.ext e12) rfl rfl ?_
    generalize hcv : cN (ls.take k) u.2.1 = cv at *
    (refine jY rfl rfl (by omega) ?_)
    refine Ops.mapUpdate (k := u.2.1) (v := .int .i64 ((cv : Int) + 1)) (hM.ext e12) rfl rfl rfl ?_
    intro V2 o2 hp2 hM2
    (refine jz ?_; refine jjC ?_; refine jY rfl rfl (by omega) ?_; apply jI; exact eI rfl; refine jz ?_)
    refine ⟨rfl, by ((refine Same.upd rfl ?_; refine Same.upd rfl ?_; refine Same.upd rfl ?_; refine Same.upd rfl ?_; refine Same.upd rfl ?_; refine Same.upd rfl ?_; refine Same.upd rfl ?_; refine Same.upd rfl ?_; refine Same.upd rfl ?_; refine Same.upd rfl ?_; refine Same.upd rfl ?_; refine Same.upd rfl ?_; exact Same.ovN)), ls.length - (k + 1), by omega, k + 1, _, congrArg (Value.int .i64) (by omega), rfl, by omega, (hOn.trans (.ofExt e12)).trans (.ofPut hp2), hM2, fun x => ?_⟩
    rw [hsn]
    by_cases e : x = u.2.1
    · subst e
      rw [mget_set_same, if_pos rfl, hcv]
      exact congrArg (Value.int .i64) (by omega)
    · rw [mget_set_other _ _ e, if_neg (fun h => e h.symm), Nat.add_zero]
      exact hget x
  obtain rfl : k = ls.length := by omega
  rw [List.take_length] at hget
  have hrV : RowI V (.slice a cs.length c) true 2 (cs.map encCh) := ⟨hrow.h.ext hEV⟩
  have hTV : TextI V cs := hT.ext hEV
  (refine jjB ?_; refine jjC ?_; refine jja rfl rfl (by omega) ?_; refine jz ?_; refine jjB ?_; refine jjK rfl ?_; refine jjE ?_; refine jjB ?_; refine jjC ?_; refine jO rfl rfl rfl rfl ?_)
  refine jjQ ((Vocabulary_leaf a c cs _ hs).mono fun v _ _ q => by rw [vocR, if_pos ht] at q; exact q) rfl rfl ?_
  rintro _ w10 hS10 ⟨wv, rfl, hOw⟩
  obtain ⟨ws, hws⟩ : ∃ ws, vocL (wsOf (txF cs)) = ws := ⟨_, rfl⟩
  simp only [hws] at hOw
  obtain ⟨wa, wc, ewv⟩ := hOw.slice
  rw [List.length_map] at ewv
  subst ewv
  have hwl : ws.length ≤ 600 := by
    rw [← hws]
    refine Nat.le_trans (voc_len _) ?_
    rw [wsOf, List.length_map]; exact allW_small ht
  have hww : ∀ x ∈ ws, wordB x = true := fun x hx => voc_word ht (by rw [hws]; exact hx)
  have iW : RowI w10 (.slice wa ws.length wc) false 1 (ws.map strV) := ⟨hOw.row⟩
  (apply jI; exact eU rfl; refine ju rfl rfl ?_; refine ju rfl rfl ?_; apply jJ; exact eS rfl; apply jJ; exact eI rfl; refine jz ?_; refine jjB ?_; refine jjC ?_; apply jI; exact eI rfl)
  (refine jjS (cells := [.int .i64 h, .slice none 0 0]) ?_ ?_; exact rfl)
  (apply jjR rfl; (intro _; first|exact eI rfl|exact eB rfl|exact eP rfl|exact eS rfl|exact eT rfl|exact eA rfl|exact eU rfl|exact eF rfl|exact eM rfl|exact eN rfl|exact rfl); exact rfl; exact rfl; exact rfl; exact rfl; intro b15 w_b15 hb_b15 hs_b15 hS_b15 hk_b15; have hA_b15 := Bk.of hk_b15)
  (refine jz ?_; refine jjB ?_; refine jjB ?_; refine jjC ?_; apply jI; exact eS rfl; refine jh rfl ?_; apply jI; exact eI rfl; refine jz ?_; refine jjD ?_)
  have e15 := hS10.ext.trans hS_b15.ext
  have hE15 : Ext w w_b15 := hEV.trans e15
  have zE15 := hE15.size
  have hM15 : MapE Value.string w_b15 mb m := hM.ext e15
  have hB615 : Bk w_b15 b6 [.int .i64 0, .slice none 0 0] 24 := hB6V.ext e15
  have hMl := hM.lt
  have z10 := hS10.size
  have n15 : b15 ≠ mb := by omega
  have hBv : b6 < V.heap.size := hB6V.lt
  have n615 : b6 ≠ b15 := by omega
  have iW15 : RowI w_b15 (.slice wa ws.length wc) false 1 (ws.map strV) := inferInstance
  have hnw : (Value.slice wa ws.length wc).ownBlock ≠ some b15 := fun e => by
    have := (hOw.block _ e).2
    omega
  refine W.keep0 [(6, .pointer (some ⟨b6, 0, none⟩)), (10, .map (some mb)), (15, .pointer (some ⟨b15, 0, none⟩)), (53, .slice wa ws.length wc), (54, .int .i64 (ws.length : Int)), (55, .int .i64 ((0 : Nat) : Int))] ⟨eP rfl, eM rfl, eP rfl, eS rfl, eI rfl, eI rfl, trivial⟩ fun s1 => ?_
  refine W.loopG (56 :: 57 :: 58 :: 17 :: 59 :: 60 :: 61 :: 62 :: 63 :: 64 :: 65 :: 66 :: 67 :: 68 :: 69 :: 70 :: 55 :: []) (fun g s' V2 => ∃ (k : Nat) (gv : Value), s' 55 = .int .i64 ((k : Nat) : Int) ∧ g = ws.length - k ∧ k ≤ ws.length ∧ Only b15 w_b15 V2 ∧ Bk V2 b15 [.int .i64 h, gv] 24 ∧ OwnL V2 w_b15.heap.size 37 true 2 gv ((blkL ls (ws.take k)).map encB)) ws.length ⟨0, _, rfl, rfl, Nat.zero_le _, .ofExt (.refl _), hA_b15, OwnL.nil _ _ _ _ _⟩ ?_
  rintro _ sd2 V2 ⟨k, gv, h55, rfl, hk, hOn2, hB2, hOg⟩
  refine W.fix (d := 55) h55 ?_
  clear h55
  have zOn2 := hOn2.size
  have hE2 : Ext w V2 := hOn2.ext hE15 (by omega)
  have hM2 : MapE Value.string V2 mb m := hOn2.map hM15 (fun e => n15 e.symm)
  have iW2 : RowI V2 (.slice wa ws.length wc) false 1 (ws.map strV) := ⟨hOn2.row iW15.h hnw⟩
  have hB62 : Bk V2 b6 [.int .i64 0, .slice none 0 0] 24 := hOn2.bk hB615 n615
  have hA15 : At V2 b15 0 [.int .i64 h, gv] := Bk.toAt (h := hB2)
  have hbl := blkL_len ls (ws.take k)
  have htk := List.length_take_le k ws
  by_cases hkl : k < ws.length
  · have hgk := List.getElem?_eq_getElem hkl
    have hsn := blkL_snoc (ls := ls) hgk
    obtain ⟨u, hu⟩ : ∃ u, ws[k] = u := ⟨_, rfl⟩
    rw [hu] at hsn
    have hcn := cN_le ls u
    obtain ⟨ga, gl, gc, rfl⟩ := hOg.slice3
    (refine jjB ?_; refine jjC ?_; refine jjZ rfl rfl (by omega) ?_; refine jz ?_; refine jjB ?_; refine jjJ rfl ?_; refine jjG ?_; refine jjB ?_; refine jjD ?_; refine jjB ?_; refine jjC ?_; refine jF rfl rfl rfl (map_get (by omega)) ?_; intro _ _ _; refine jQ rfl rfl ?_; apply jJ; exact eT rfl; refine jz ?_; refine jjC ?_; refine jm ?_; refine jn rfl ?_; refine jN rfl rfl rfl ?_; apply jI; exact eT rfl; apply jI; exact eM rfl; apply jI; exact eT rfl)
    rw [hu]
    skip
    refine Ops.lookupV (k := u) (hget u) hM2 rfl rfl ?_
    generalize hcv : cN ls u = cv at *
    (refine jY rfl rfl (by omega) ?_)
    (refine jjS (cells := [.string u, .int .i64 (1 + (cv : Int))]) ?_ ?_; exact rfl)
    skip
    (refine jjP (v := .agg _) rfl (by exact rfl) (by exact rfl) (by exact rfl) (by exact rfl) ?_; intro b67 w_b67 hb_b67 hs_b67 hS_b67 hk_b67; have hR_b67 := RowV.one (agg := true) (k := 2) rfl hk_b67)
    have e67 := hS_b67.ext
    have hR67 : RowV w_b67 true 2 (.slice (some ⟨b67, 0, none⟩) 1 1) ([(u, 1 + (cv : Int))].map encB) := hR_b67
    have z67 := e67.size
    skip
    refine Ops.appendL (hOg.ext e67) (by omega) hR67 rfl rfl rfl rfl (one_blk _) (by simp only [List.length_map, List.length_cons, List.length_nil]; omega) (by simp only [List.length_map, List.length_cons, List.length_nil]; omega) ?_
    intro v3 V3 hA3 hO3 _ hown3
    have hnb : ∀ b, b < w_b15.heap.size → (Value.slice ga gl gc).ownBlock ≠ some b := fun b h e => by have := (hOg.block _ e).1; omega
    have hl15 := hA_b15.lt
    have hB3 : Bk V3 b15 [.int .i64 h, .slice ga gl gc] 24 := hA3.bk (hB2.ext e67) (hnb _ hl15)
    obtain ⟨a3, l3, c3, rfl⟩ := hO3.slice3
    (refine jm ?_; refine jn rfl ?_)
    refine Ops.storeC (cs := [.int .i64 h, .slice ga gl gc]) (j := 1) (v := .slice a3 l3 c3) rfl rfl rfl rfl (show 1 < 2 by omega) ?_
    intro V4 hp4
    (refine jz ?_; refine jjC ?_; refine jY rfl rfl (by omega) ?_; apply jI; exact eI rfl; refine jz ?_)
    have hn3 : (Value.slice a3 l3 c3).ownBlock ≠ some b15 := fun e => by
      rcases hown3 with h | h
      · rw [h] at e; exact hnb _ hl15 e
      · rw [h] at e; cases e; omega
    rw [← List.map_append, ← hsn] at hO3
    exact ⟨rfl, by ((refine Same.upd rfl ?_; refine Same.upd rfl ?_; refine Same.upd rfl ?_; refine Same.upd rfl ?_; refine Same.upd rfl ?_; refine Same.upd rfl ?_; refine Same.upd rfl ?_; refine Same.upd rfl ?_; refine Same.upd rfl ?_; refine Same.upd rfl ?_; refine Same.upd rfl ?_; refine Same.upd rfl ?_; refine Same.upd rfl ?_; refine Same.upd rfl ?_; refine Same.upd rfl ?_; refine Same.upd rfl ?_; refine Same.upd rfl ?_; refine Same.upd rfl ?_; exact Same.ovN)), ws.length - (k + 1), by omega, k + 1, _, congrArg (Value.int .i64) (by omega), rfl, by omega, ((hOn2.trans (.ofExt e67)).app hA3 (Nat.le_refl _)).trans (.ofPut hp4), ⟨hp4.new⟩, hO3.put hp4 hn3⟩
  obtain rfl : k = ws.length := by omega
  rw [List.take_length] at hOg hbl
  obtain ⟨ga, gc, egv⟩ := hOg.slice
  rw [List.length_map] at egv
  subst egv
  obtain ⟨G, hG⟩ : ∃ G, galleyB h (blkL ls ws) = G := ⟨_, rfl⟩
  have hchk := (Check_galley h (.slice ga (blkL ls ws).length gc) (blkL ls ws) V2 hOg.row fun b hb => by
    obtain ⟨x, hx, rfl⟩ := List.mem_map.1 hb
    have := (word_size (hww x hx)).2
    show x.size ≤ _
    omega).mono (R' := fun v _ => v = .int .i64 (if G then 0 else 80)) fun v _ _ q => q.trans (by rw [gErr, hG])
  (refine jjB ?_; refine jjC ?_; refine jja rfl rfl (by omega) ?_; refine jz ?_; refine jjB ?_; refine jjK rfl ?_; refine jjE ?_; refine jjB ?_; refine jjB ?_; refine jjC ?_; refine jO rfl rfl rfl rfl ?_)
  refine jjQ hchk rfl rfl ?_
  rintro _ w11 hS11 rfl
  have hB611 : Bk w11 b6 [.int .i64 0, .slice none 0 0] 24 := hB62.ext hS11.ext
  have hE11 := hE2.trans hS11.ext
  have hB15' : At w11 b15 0 [.int .i64 h, .slice ga (blkL ls ws).length gc] := hA15.ext hS11.ext
  cases G with
  | false =>
    rw [setR_no ha hB (by rw [hls, hws]; exact hG)]
    (refine jc rfl rfl ?_; refine jz ?_; refine jjJ rfl ?_; refine jjB ?_; refine jjC ?_)
    (refine jjS (cells := [.int .i64 0, .slice none 0 0]) ?_ ?_; exact rfl)
    skip
    refine Ops.store rfl rfl rfl rfl rfl ?_
    intro V3 hp3
    have hA3 : At V3 b6 0 [.int .i64 0, .slice none 0 0] := Bk.toAt (h := Bk.of hp3.new)
    (apply jJ; exact eI rfl; refine jz ?_; refine jjF ?_)
    exact fin2C rfl rfl rfl rfl rfl rfl ⟨hp3.ext hE11 (by omega), none, 0, rfl, RowV.nilS _ _ _ _ _⟩
  | true =>
    rw [setR_yes ha hB (by rw [hls, hws]; exact hG), hls, hws]
    (refine jc rfl rfl ?_; refine jz ?_; refine jjK rfl ?_; refine jjG ?_; refine jjB ?_; refine jjC ?_; refine jO rfl rfl rfl rfl ?_)
    refine Ops.store rfl rfl rfl rfl rfl ?_
    intro V3 hp3
    have hA3 : At V3 b6 0 [.int .i64 h, .slice ga (blkL ls ws).length gc] := Bk.toAt (h := Bk.of hp3.new)
    (apply jJ; exact eI rfl; refine jz ?_; refine jjF ?_)
    have hOg3 := (hOg.ext hS11.ext).put hp3 (fun e => by have := (hOg.block _ e).1; omega)
    exact fin2C rfl rfl rfl rfl rfl rfl ⟨hp3.ext hE11 (by omega), ga, gc, rfl, hOg3.row⟩
end
end Go.Proofs.YtfebegbjggoijaaGreatDoor

/- The proof engine, part 28: literals of slices of however many elements. -/
namespace Go.Proofs.YtfebegbjggoijaaGreatDoor
open Go.RowKit

/-- Zero cells of so many elements. -/
def zeroL (z : Value) (m : Nat) : List Value := (List.range m).map fun i => z.cells[i % z.cells.size]!
section rules
variable {P : Program} {ro : Option Nat} {n : Nat} {all rest : List Oper} {K : Sl → World → Prop} {s : Sl} {w : World} {d : Nat} {ty : Nat} {pos : String} {af : Array Edge} {t e : Nat}
theorem Ops.buildSliceF {len size bytes : Nat} {z : Value} {parts : Array (Nat × Operand)} {cells : List Value} [ht : TSl P t e] [hz : TS P e z size bytes] (h0 : Nat.blt 0 (len * size) = true) (h1 : Nat.blt (len * size) 10000 = true)
    (hf : fillL (fun i => some (i * size, size)) (zeroL z (len * size)) (parts.toList.map fun (i, x) => (i, ev n s x)) = some cells)
    (h : ∀ b w', b = w.heap.size → w'.heap.size = w.heap.size + 1 → Step w w' → Bk w' b cells e → Ops P ro n all rest K (upd s d (.slice (some ⟨b, 0, none⟩) len len)) w') :
    Ops P ro n all (⟨some d, .buildSlice t len parts, ty, pos, af, none⟩ :: rest) K s w := by
  have h0' : 0 < len * size := by simpa using h0
  have h1' : len * size < 10000 := by simpa using h1
  have hf2 := fillL_eq _ _ _ _ hf
  have e1 : (zeroL z (len * size)).toArray = (Array.range (len * size)).map (z.cells[· % z.cells.size]!) := by
    apply Array.ext'
    simp [zeroL]
  rw [e1] at hf2
  have e2 : (parts.map fun (p : Nat × Operand) => (p.1, ev n s p.2)).toList = parts.toList.map fun (i, x) => (i, ev n s x) := by simp
  refine Ops.ofRun (w' := w.alloc (.cells cells.toArray e)) rfl ?_ (h w.heap.size _ rfl (by simp) ⟨(Below.refl _ w).alloc (Nat.le_refl _) _⟩ (Bk.of (World.alloc_heap_new w _)))
  have hne : ¬ len * size = 0 := by omega
  have hbig : ¬ (16777216 < len * size) := by omega
  simp only [execOp, Instr.buildSlice, Sem.run_bind, run_underlying ht.h, run_sizeOf' w hz, Result.andThen_ok]
  simp [hbig, run_zeroValue' w hz, newRow]
  have hf3 : Instr.fill (fun i => some (i * size, size)) (Array.map (fun x => z.cells[x % z.cells.size]!) (Array.range (len * size))) (parts.toList.map fun p => (p.1, ev n s p.2)) = some cells.toArray := hf2
  simp [hf3]
  intro hc; exact absurd hc hne
end rules
/-- What such a literal reads as. -/
theorem Bk.rows {w : World} {b e k : Nat} {agg : Bool} {xs : List Value} (h : Bk w b (xs.flatMap (·.cells.toList)) e) (hf : ∀ x ∈ xs, fitsV agg k x = true) (hl : xs.length ≤ 140737488355328) : RowV w agg k (.slice (some ⟨b, 0, none⟩) xs.length xs.length) xs := by
  refine ⟨hl, hf, .inr ⟨b, 0, xs.length, rfl, Nat.le_refl _, fun j x hx => ⟨fun i v hv => ?_⟩⟩⟩
  have := flat_get (k := k) (xs := xs) (fun y hy => fitsV_cells (hf y hy)) hx hv
  have hc := (Bk.toAt (h := h)).h _ _ this
  rw [show 0 + j * k + i = 0 + (j * k + i) by omega]; exact hc
end Go.Proofs.YtfebegbjggoijaaGreatDoor

/- The laws of galleys: the chapter's examples (alive). -/
namespace Go.Proofs.YtfebegbjggoijaaGreatDoor
open Go.RowKit

abbrev noneC : List Value := [.int .i64 (-1), .int .i64 (-1)]
theorem strs_fit8 (l : List ByteArray) : ∀ x ∈ l.map strV, fitsV false 1 x = true := fun x hx => by
  obtain ⟨y, _, rfl⟩ := List.mem_map.1 hx; rfl
theorem blk_fit8 (l : List Blk) : ∀ x ∈ l.map encB, fitsV true 2 x = true := fun x hx => by
  obtain ⟨y, _, rfl⟩ := List.mem_map.1 hx; rfl
set_option maxHeartbeats 1000000 in
theorem text_law8 (w : World) : Ct Tryz.prog 34 [] w fun v w' => ∃ a c cs, v = .agg #[.slice a cs.length c] ∧ RowV w' true 2 (.slice a cs.length c) (cs.map encCh) ∧ TextI w' cs ∧ txF cs = seaT := by
  refine Ct.ofW (by simp) ?_
  (((refine jjB ?_; refine jjC ?_)); refine jjY ?_; intro b0 w_b0 hb_b0 hs_b0 hS_b0 hk_b0; have hA_b0 := Bk.of hk_b0)
  (refine jz ?_; refine jjB ?_; refine jjC ?_)
  refine Ops.buildSliceF (cells := [strV wThe, strV wSea, strV wIs, strV wOld]) rfl rfl rfl ?_
  intro b1 w1 hb1 hs1 hS1 hk1
  refine Ops.buildSliceF (cells := [strV wOld, strV wThe, strV wSea]) rfl rfl rfl ?_
  intro b2 w2 hb2 hs2 hS2 hk2
  refine Ops.buildSliceF (cells := [.slice (some ⟨b1, 0, none⟩) 4 4, .slice (some ⟨b2, 0, none⟩) 3 3]) rfl rfl rfl ?_
  intro b3 w3 hb3 hs3 hS3 hk3
  (refine jjS (cells := [.int .i64 7, .slice (some ⟨b3, 0, none⟩) 2 2]) ?_ ?_; exact rfl)
  refine Ops.buildSliceF (cells := [strV wSea, strV wAnd, strV wSea]) rfl rfl rfl ?_
  intro b5 w5 hb5 hs5 hS5 hk5
  refine Ops.buildSliceF (cells := [.slice (some ⟨b5, 0, none⟩) 3 3]) rfl rfl rfl ?_
  intro b6 w6 hb6 hs6 hS6 hk6
  (refine jjS (cells := [.int .i64 3, .slice (some ⟨b6, 0, none⟩) 1 1]) ?_ ?_; exact rfl)
  refine Ops.buildSliceF (cells := [.int .i64 7, .slice (some ⟨b3, 0, none⟩) 2 2, .int .i64 3, .slice (some ⟨b6, 0, none⟩) 1 1]) rfl rfl rfl ?_
  intro b8 w8 hb8 hs8 hS8 hk8
  (refine jjS (cells := [.slice (some ⟨b8, 0, none⟩) 2 2]) ?_ ?_; exact rfl)
  have hb0 : Bk w8 b0 [.slice none 0 0] 63 := inferInstance
  have hE8 : Ext w w8 := inferInstance
  have k1 : Bk w8 b1 [strV wThe, strV wSea, strV wIs, strV wOld] 9 := inferInstance
  have k2 : Bk w8 b2 [strV wOld, strV wThe, strV wSea] 9 := inferInstance
  have k3 : Bk w8 b3 [.slice (some ⟨b1, 0, none⟩) 4 4, .slice (some ⟨b2, 0, none⟩) 3 3] 71 := inferInstance
  have k5 : Bk w8 b5 [strV wSea, strV wAnd, strV wSea] 9 := inferInstance
  have k6 : Bk w8 b6 [.slice (some ⟨b5, 0, none⟩) 3 3] 71 := inferInstance
  refine Ops.store rfl rfl rfl rfl rfl ?_
  intro V2 hp2
  have := Bk.toAt (h := Bk.of hp2.new)
  have z0 := hS_b0.size
  have z1 := hS1.size
  have z2 := hS2.size
  have z3 := hS3.size
  have z5 := hS5.size
  have z6 := hS6.size
  have z8 := hS8.size
  have m1 := hp2.bk k1 (by omega)
  have m2 := hp2.bk k2 (by omega)
  have m3 := hp2.bk k3 (by omega)
  have m5 := hp2.bk k5 (by omega)
  have m6 := hp2.bk k6 (by omega)
  have m8 := hp2.bk hk8 (by omega)
  (refine jz ?_; refine jjF ?_)
  refine fin1C rfl rfl rfl rfl rfl ⟨hp2.ext hE8 (by omega), some ⟨b8, 0, none⟩, 2, [(7, some ⟨b3, 0, none⟩, 2, [(some ⟨b1, 0, none⟩, 4, [wThe, wSea, wIs, wOld]), (some ⟨b2, 0, none⟩, 3, [wOld, wThe, wSea])]), (3, some ⟨b6, 0, none⟩, 1, [(some ⟨b5, 0, none⟩, 3, [wSea, wAnd, wSea])])], rfl, ?_, ⟨?_, ?_⟩, rfl⟩
  · exact Bk.rows (xs := [encCh (7, some ⟨b3, 0, none⟩, 2, [(some ⟨b1, 0, none⟩, 4, [wThe, wSea, wIs, wOld]), (some ⟨b2, 0, none⟩, 3, [wOld, wThe, wSea])]), encCh (3, some ⟨b6, 0, none⟩, 1, [(some ⟨b5, 0, none⟩, 3, [wSea, wAnd, wSea])])]) m8 (by simp [fitsV]) (by simp)
  · intro x hx
    simp only [List.mem_cons, List.not_mem_nil, or_false] at hx
    rcases hx with rfl | rfl
    · exact m3.row (fun x hx => by simp at hx; rcases hx with rfl | rfl <;> rfl) (by simp)
    · exact m6.row (fun x hx => by simp at hx; rcases hx with rfl; rfl) (by simp)
  · intro x hx
    simp only [List.mem_cons, List.not_mem_nil, or_false] at hx
    rcases hx with rfl | rfl
    · intro y hy
      simp only [List.mem_cons, List.not_mem_nil, or_false] at hy
      rcases hy with rfl | rfl
      · exact m1.row (strs_fit8 [_, _, _, _]) (by simp)
      · exact m2.row (strs_fit8 [_, _, _]) (by simp)
    · intro y hy
      simp only [List.mem_cons, List.not_mem_nil, or_false] at hy
      subst hy
      exact m5.row (strs_fit8 [_, _, _]) (by simp)
set_option maxHeartbeats 1000000 in
theorem example_law8 (w : World) : Ct Tryz.prog 31 [] w fun v w' => ∃ a c, v = .agg #[.int .i64 5, .slice a exG.length c] ∧ RowV w' true 2 (.slice a exG.length c) (exG.map encB) := by
  refine Ct.ofW (by simp) ?_
  (((refine jjB ?_; refine jjC ?_)); refine jjY ?_; intro b0 w_b0 hb_b0 hs_b0 hS_b0 hk_b0; have hA_b0 := Bk.of hk_b0)
  (refine jz ?_; refine jjB ?_; refine jjC ?_)
  (refine jjS (cells := [.string wAnd, .int .i64 3]) ?_ ?_; exact rfl)
  (refine jjS (cells := [.string wIs, .int .i64 2]) ?_ ?_; exact rfl)
  (refine jjS (cells := [.string wOld, .int .i64 6]) ?_ ?_; exact rfl)
  (refine jjS (cells := [.string wSea, .int .i64 4]) ?_ ?_; exact rfl)
  refine Ops.buildSliceF (cells := [.string wAnd, .int .i64 3, .string wIs, .int .i64 2, .string wOld, .int .i64 6, .string wSea, .int .i64 4]) rfl rfl rfl ?_
  intro b5 w5 hb5 hs5 hS5 hk5
  (refine jjS (cells := [.int .i64 5, .slice (some ⟨b5, 0, none⟩) 4 4]) ?_ ?_; exact rfl)
  have hb0 : Bk w5 b0 [.int .i64 0, .slice none 0 0] 24 := inferInstance
  have hE5 : Ext w w5 := inferInstance
  refine Ops.store rfl rfl rfl rfl rfl ?_
  intro V2 hp2
  have := Bk.toAt (h := Bk.of hp2.new)
  have z0 := hS_b0.size
  have z5 := hS5.size
  have m5 := hp2.bk hk5 (by omega)
  (refine jz ?_; refine jjF ?_)
  refine fin1C rfl rfl rfl rfl rfl ⟨hp2.ext hE5 (by omega), some ⟨b5, 0, none⟩, 4, rfl, ?_⟩
  exact Bk.rows (xs := exG.map encB) m5 (blk_fit8 _) (by simp)
theorem int_fit8 (l : List Int) : ∀ x ∈ l.map intV, fitsV false 1 x = true := fun x hx => by
  obtain ⟨y, _, rfl⟩ := List.mem_map.1 hx; rfl
theorem exg_sz : ∀ b ∈ exG, b.1.size ≤ 140737488351232 := by decide
section
variable (w : World) [hgs : At w 2 0 sidesC] [htn : At w 1 0 tornC] [hnn : At w 0 0 noneC]
set_option maxRecDepth 20000 in
set_option maxHeartbeats 16000000 in
theorem alive_law8 : Ct Tryz.prog 11 [] w fun v _ => v = .bool true := by
  refine Ct.ofW (by simp) ?_
  (refine jjB ?_; refine jjC ?_; apply jJ; exact eB rfl; refine jz ?_; refine jjB ?_; refine jjC ?_)
  refine jjQ (example_law8 _) rfl rfl ?_
  rintro _ w1 hS1 ⟨a1, c1, rfl, hR1⟩
  skip
  refine jjQ ((Ends_galley 5 a1 c1 exG _ hR1 exg_sz (htn.ext inferInstance)).mono (R' := fun v w' => ∃ u, v = .tuple #[u, .int .i64 0] ∧ RowV w' false 1 u ([(3 : Int), 5, 7, 8, 9, 11, 13, 15].map intV)) fun v _ _ h => by rw [if_pos ex_ok, ex_ends] at h; exact h) rfl rfl ?_
  rintro _ w2 hS2 ⟨u2, rfl, hR2⟩
  obtain ⟨a2, c2, rfl, i2⟩ := hR2.ints
  (apply jI; exact eU rfl; refine ju rfl rfl ?_; refine ju rfl rfl ?_; apply jJ; exact eS rfl; apply jJ; exact eI rfl; refine jz ?_; refine jjB ?_; refine jjC ?_)
  refine jjQ (example_law8 _) rfl rfl ?_
  rintro _ w3 hS3 ⟨a3, c3, rfl, hR3⟩
  skip
  refine jjQ ((Break_galley 5 a3 c3 exG _ hR3 exg_sz (htn.ext inferInstance) (hnn.ext inferInstance)).mono (R' := fun v w' => ∃ u, v = .tuple #[u, .int .i64 0] ∧ RowV w' false 1 u ([(5 : Int), 9, 13, 15].map intV)) fun v _ _ h => by rw [if_pos ex_ok, ex_brk] at h; exact h) rfl rfl ?_
  rintro _ w4 hS4 ⟨u4, rfl, hR4⟩
  obtain ⟨a4, c4, rfl, i4⟩ := hR4.ints
  (apply jI; exact eU rfl; refine ju rfl rfl ?_; refine ju rfl rfl ?_; apply jJ; exact eS rfl; apply jJ; exact eI rfl; refine jz ?_; refine jjB ?_; refine jjC ?_)
  refine jjQ (example_law8 _) rfl rfl ?_
  rintro _ w5 hS5 ⟨a5, c5, rfl, hR5⟩
  skip
  refine Ops.buildSliceF (cells := [.int .i64 5, .int .i64 9, .int .i64 13, .int .i64 15]) rfl rfl rfl ?_
  intro b6 w6 hb6 hs6 hS6 hk6
  have i6 : RowI w6 (.slice (some ⟨b6, 0, none⟩) exL.length 4) false 1 (exL.map intV) := ⟨hk6.row (fun x hx => by simp at hx; rcases hx with rfl | rfl | rfl | rfl <;> rfl) (by simp)⟩
  skip
  refine jjQ (ints_law8 (.slice (some ⟨b6, 0, none⟩) 4 4) _ _ _ rfl _) rfl rfl ?_
  rintro _ w7 hS7 rfl
  skip
  refine jjQ ((Waste_galley 5 a5 c5 exG (some ⟨b6, 0, none⟩) 4 exL _ (by decide) ((hR5.ext hS6.ext).ext hS7.ext) exg_sz (htn.ext inferInstance)).mono (R' := fun v _ => v = .tuple #[.int .i64 2, .int .i64 0]) fun v _ _ h => h.trans (by rw [ex_waste, ex_valid])) rfl rfl ?_
  rintro _ w8 hS8 rfl
  (apply jI; exact eU rfl; refine ju rfl rfl ?_; refine ju rfl rfl ?_; apply jJ; exact eI rfl; apply jJ; exact eI rfl; refine jz ?_; refine jjB ?_; refine jjC ?_)
  refine jjQ (example_law8 _) rfl rfl ?_
  rintro _ w9 hS9 ⟨a9, c9, rfl, hR9⟩
  skip
  refine jjQ ((Proof_galley 5 a9 c9 exG _ hR9 exg_sz (htn.ext inferInstance) (fun _ => by rw [ex_ends]; decide)).mono (R' := fun v w' => ∃ u, v = .tuple #[u, .int .i64 0] ∧ RowV w' false 1 u ([(0 : Int), 4, 0, 5, 4, 1, 6, 2, 2].map intV)) fun v _ _ h => by rw [if_pos ex_ok] at h; exact h) rfl rfl ?_
  rintro _ w10 hS10 ⟨u10, rfl, hR10⟩
  obtain ⟨a10, c10, rfl, i10⟩ := hR10.ints
  (apply jI; exact eU rfl; refine ju rfl rfl ?_; refine ju rfl rfl ?_; apply jJ; exact eS rfl; apply jJ; exact eI rfl; refine jz ?_; refine jjB ?_; refine jjC ?_)
  refine jjQ (example_law8 _) rfl rfl ?_
  rintro _ w11 hS11 ⟨a11, c11, rfl, hR11⟩
  skip
  refine Ops.buildSliceF (cells := [.int .i64 5, .int .i64 9, .int .i64 13, .int .i64 15]) rfl rfl rfl ?_
  intro b12 w12 hb12 hs12 hS12 hk12
  have i12 : RowI w12 (.slice (some ⟨b12, 0, none⟩) exL.length 4) false 1 (exL.map intV) := ⟨hk12.row (fun x hx => by simp at hx; rcases hx with rfl | rfl | rfl | rfl <;> rfl) (by simp)⟩
  skip
  refine jjQ (ints_law8 (.slice (some ⟨b12, 0, none⟩) 4 4) _ _ _ rfl _) rfl rfl ?_
  rintro _ w13 hS13 rfl
  skip
  refine jjQ ((At_galley 5 a11 c11 exG (some ⟨b12, 0, none⟩) 4 exL _ 9 (by decide) ((hR11.ext hS12.ext).ext hS13.ext) exg_sz (htn.ext inferInstance)).mono (R' := fun v _ => v = .tuple #[.int .i64 2, .int .i64 0, .int .i64 0]) fun v _ _ h => h.trans (by rw [ex_at]; rfl)) rfl rfl ?_
  rintro _ w14 hS14 rfl
  (apply jI; exact eU rfl; refine ju rfl rfl ?_; refine ju rfl rfl ?_; refine ju rfl rfl ?_; apply jJ; exact eI rfl; apply jJ; exact eI rfl; apply jJ; exact eI rfl; refine jz ?_; refine jjB ?_; refine jjC ?_)
  refine jjQ (example_law8 _) rfl rfl ?_
  rintro _ w15 hS15 ⟨a15, c15, rfl, hR15⟩
  skip
  refine Ops.buildSliceF (cells := [.int .i64 5, .int .i64 9, .int .i64 13, .int .i64 15]) rfl rfl rfl ?_
  intro b16 w16 hb16 hs16 hS16 hk16
  have i16 : RowI w16 (.slice (some ⟨b16, 0, none⟩) exL.length 4) false 1 (exL.map intV) := ⟨hk16.row (fun x hx => by simp at hx; rcases hx with rfl | rfl | rfl | rfl <;> rfl) (by simp)⟩
  skip
  refine jjQ (ints_law8 (.slice (some ⟨b16, 0, none⟩) 4 4) _ _ _ rfl _) rfl rfl ?_
  rintro _ w17 hS17 rfl
  skip
  refine jjQ ((Columns_galley 5 a15 c15 exG (some ⟨b16, 0, none⟩) 4 exL _ 2 (by decide) ((hR15.ext hS16.ext).ext hS17.ext) exg_sz (htn.ext inferInstance)).mono (R' := fun v _ => v = .tuple #[.int .i64 1, .int .i64 2, .int .i64 0]) fun v _ _ h => h.trans (by rw [ex_col]; rfl)) rfl rfl ?_
  rintro _ w18 hS18 rfl
  (apply jI; exact eU rfl; refine ju rfl rfl ?_; refine ju rfl rfl ?_; refine ju rfl rfl ?_; apply jJ; exact eI rfl; apply jJ; exact eI rfl; apply jJ; exact eI rfl; refine jz ?_; refine jjB ?_; refine jjC ?_)
  refine jjQ (example_law8 _) rfl rfl ?_
  rintro _ w19 hS19 ⟨a19, c19, rfl, hR19⟩
  skip
  refine Ops.buildSliceF (cells := [.int .i64 5, .int .i64 9, .int .i64 13, .int .i64 15]) rfl rfl rfl ?_
  intro b20 w20 hb20 hs20 hS20 hk20
  have i20 : RowI w20 (.slice (some ⟨b20, 0, none⟩) exL.length 4) false 1 (exL.map intV) := ⟨hk20.row (fun x hx => by simp at hx; rcases hx with rfl | rfl | rfl | rfl <;> rfl) (by simp)⟩
  skip
  refine jjQ (ints_law8 (.slice (some ⟨b20, 0, none⟩) 4 4) _ _ _ rfl _) rfl rfl ?_
  rintro _ w21 hS21 rfl
  skip
  refine jjQ ((Fix_galley 5 a19 c19 exG (some ⟨b20, 0, none⟩) 4 exL _ 1 3 (by decide) ((hR19.ext hS20.ext).ext hS21.ext) exg_sz (htn.ext inferInstance) (hnn.ext inferInstance)).mono (R' := fun v w' => ∃ (xa : Option Addr) (xc : Nat) (aa : Option Addr) (ac : Nat), v = .tuple #[.agg #[.int .i64 5, .slice xa 4 xc], .slice aa 5 ac, .int .i64 0, .int .i64 0, .int .i64 0] ∧ RowV w' true 2 (.slice xa 4 xc) ([(wAnd, (3 : Int)), (wIs, 3), (wOld, 6), (wSea, 4)].map encB) ∧ RowV w' false 1 (.slice aa 5 ac) ([(3 : Int), 6, 10, 14, 16].map intV)) fun v _ _ h => ?_) rfl rfl ?_
  · rcases h with ⟨h1, -⟩ | ⟨-, h1, -⟩ | ⟨-, k', t, xa, xc, aa, ac, hk, hD, hT, hv, hOx, hOm, -⟩
    · exact absurd ex_valid h1
    · exact absurd ⟨⟨by omega, by decide⟩, by omega, by omega⟩ h1
    · obtain rfl : k' = 1 := by omega
      obtain rfl : t = 0 := (FixT.eq hD hT).trans ex_colT.1
      rw [ex_fix, ex_colT.2] at hv
      rw [ex_fix] at hOm
      exact ⟨xa, xc, aa, ac, hv, hOx.row, hOm.row⟩
  rintro _ w22 hS22 ⟨xa, xc, aa, ac, rfl, hRx, hRm⟩
  (apply jI; exact eU rfl; refine ju rfl rfl ?_; refine ju rfl rfl ?_; refine ju rfl rfl ?_; refine ju rfl rfl ?_; refine ju rfl rfl ?_)
  (apply jjR rfl; (intro _; first|exact eI rfl|exact eB rfl|exact eP rfl|exact eS rfl|exact eT rfl|exact eA rfl|exact eU rfl|exact eF rfl|exact eM rfl|exact eN rfl|exact rfl); exact rfl; exact rfl; exact rfl; exact rfl; intro b15 w_b15 hb_b15 hs_b15 hS_b15 hk_b15; have hA_b15 := Bk.of hk_b15)
  (apply jJ; exact eS rfl; apply jJ; exact eI rfl; apply jJ; exact eI rfl; apply jJ; exact eI rfl; refine jz ?_; refine jjB ?_; refine jjC ?_)
  refine jjQ (text_law8 _) rfl rfl ?_
  rintro _ w23 hS23 ⟨a23, c23, cs23, rfl, hR23, hT23, hx23⟩
  have i23 := RowI.mk hR23
  skip
  (refine jjS (cells := [.int .i64 14, .int .u8 3]) ?_ ?_; exact rfl)
  have hst := Set_galley a23 c23 cs23 14 3 w23 (small_of_great (by rw [hx23]; kernel_rfl)) (by omega) 4
  rw [hx23, ex_set] at hst
  skip
  refine jjQ hst rfl rfl ?_
  rintro _ w24 hS24 ⟨ga, gc, rfl, hRg⟩
  (apply jI; exact eU rfl; refine ju rfl rfl ?_; refine ju rfl rfl ?_)
  (apply jjR rfl; (intro _; first|exact eI rfl|exact eB rfl|exact eP rfl|exact eS rfl|exact eT rfl|exact eA rfl|exact eU rfl|exact eF rfl|exact eM rfl|exact eN rfl|exact rfl); exact rfl; exact rfl; exact rfl; exact rfl; intro b20 w_b20 hb_b20 hs_b20 hS_b20 hk_b20; have hA_b20 := Bk.of hk_b20)
  (apply jJ; exact eI rfl; refine jz ?_; refine jjB ?_; refine jjC ?_)
  (refine jjS (cells := [.string wAnd, .int .i64 2]) ?_ ?_; exact rfl)
  (refine jjS (cells := [.string wIs, .int .i64 2]) ?_ ?_; exact rfl)
  (refine jjS (cells := [.string wOld, .int .i64 3]) ?_ ?_; exact rfl)
  (refine jjS (cells := [.string wSea, .int .i64 5]) ?_ ?_; exact rfl)
  (refine jjS (cells := [.string wThe, .int .i64 3]) ?_ ?_; exact rfl)
  refine Ops.buildSliceF (cells := [.string wAnd, .int .i64 2, .string wIs, .int .i64 2, .string wOld, .int .i64 3, .string wSea, .int .i64 5, .string wThe, .int .i64 3]) rfl rfl rfl ?_
  intro b25 w25 hb25 hs25 hS25 hk25
  have hEx : Ext w22 w25 := inferInstance
  have iM : RowI w25 (.slice aa 5 ac) false 1 ([(3 : Int), 6, 10, 14, 16].map intV) := ⟨hRm.ext inferInstance⟩
  have iX : RowI w25 (.slice xa 4 xc) true 2 ([(wAnd, (3 : Int)), (wIs, 3), (wOld, 6), (wSea, 4)].map encB) := ⟨hRx.ext inferInstance⟩
  have iG : RowI w25 (.slice ga 5 gc) true 2 ([(wAnd, (2 : Int)), (wIs, 2), (wOld, 3), (wSea, 5), (wThe, 3)].map encB) := ⟨hRg.ext inferInstance⟩
  have iW : RowI w25 (.slice (some ⟨b25, 0, none⟩) 5 5) true 2 ([(wAnd, (2 : Int)), (wIs, 2), (wOld, 3), (wSea, 5), (wThe, 3)].map encB) := ⟨Bk.rows (xs := [(wAnd, (2 : Int)), (wIs, 2), (wOld, 3), (wSea, 5), (wThe, 3)].map encB) hk25 (blk_fit8 _) (by simp)⟩
  have hA15 : At w25 b15 0 [.int .i64 5, .slice xa 4 xc] := inferInstance
  have hA20 : At w25 b20 0 [.int .i64 4, .slice ga 5 gc] := inferInstance
  (apply jJ; exact eS rfl; refine jz ?_; refine jjB ?_; refine jjC ?_; apply jI; exact eI rfl; refine jjh rfl rfl (by omega) ?_; apply jI; exact eB rfl; refine jT rfl rfl rfl ?_; apply jI; exact eS rfl; refine jT rfl rfl rfl ?_)
  refine Ops.buildSliceF (cells := [.int .i64 3, .int .i64 5, .int .i64 7, .int .i64 8, .int .i64 9, .int .i64 11, .int .i64 13, .int .i64 15]) rfl rfl rfl ?_
  intro b87 w87 hb87 hs87 hS87 hk87
  have i87 : RowI w87 (.slice (some ⟨b87, 0, none⟩) ([3, 5, 7, 8, 9, 11, 13, 15] : List Int).length 8) false 1 (([3, 5, 7, 8, 9, 11, 13, 15] : List Int).map intV) := ⟨Bk.row (xs := ([3, 5, 7, 8, 9, 11, 13, 15] : List Int).map intV) hk87 (int_fit8 _) (by simp)⟩
  (refine jT rfl rfl rfl ?_)
  refine jjQ ((same_law8 a2 (some ⟨b87, 0, none⟩) c2 8 [3, 5, 7, 8, 9, 11, 13, 15] [3, 5, 7, 8, 9, 11, 13, 15] _).mono (R' := fun v _ => v = .bool true) fun v _ _ h => h.trans (by rw [decide_eq_true rfl])) rfl rfl ?_
  rintro _ w26 hS26 rfl
  (apply jK rfl; exact eB rfl; apply jI; exact eB rfl; refine jT rfl rfl rfl ?_; apply jI; exact eI rfl; refine jT rfl rfl rfl ?_; refine jjh rfl rfl (by omega) ?_; apply jK rfl; exact eB rfl; apply jI; exact eB rfl; refine jT rfl rfl rfl ?_; apply jI; exact eS rfl; refine jT rfl rfl rfl ?_)
  refine Ops.buildSliceF (cells := [.int .i64 5, .int .i64 9, .int .i64 13, .int .i64 15]) rfl rfl rfl ?_
  intro b96 w96 hb96 hs96 hS96 hk96
  have i96 : RowI w96 (.slice (some ⟨b96, 0, none⟩) ([5, 9, 13, 15] : List Int).length 4) false 1 (([5, 9, 13, 15] : List Int).map intV) := ⟨Bk.row (xs := ([5, 9, 13, 15] : List Int).map intV) hk96 (int_fit8 _) (by simp)⟩
  (refine jT rfl rfl rfl ?_)
  refine jjQ ((same_law8 a4 (some ⟨b96, 0, none⟩) c4 4 [5, 9, 13, 15] [5, 9, 13, 15] _).mono (R' := fun v _ => v = .bool true) fun v _ _ h => h.trans (by rw [decide_eq_true rfl])) rfl rfl ?_
  rintro _ w27 hS27 rfl
  (apply jK rfl; exact eB rfl; apply jI; exact eB rfl; refine jT rfl rfl rfl ?_; apply jI; exact eI rfl; refine jT rfl rfl rfl ?_; refine jjh rfl rfl (by omega) ?_; apply jK rfl; exact eB rfl; apply jI; exact eB rfl; refine jT rfl rfl rfl ?_; apply jI; exact eI rfl; refine jT rfl rfl rfl ?_; refine jjh rfl rfl (by omega) ?_; apply jK rfl; exact eB rfl; apply jI; exact eB rfl; refine jT rfl rfl rfl ?_; apply jI; exact eI rfl; refine jT rfl rfl rfl ?_; refine jjh rfl rfl (by omega) ?_; apply jK rfl; exact eB rfl; apply jI; exact eB rfl; refine jT rfl rfl rfl ?_; apply jI; exact eS rfl; refine jT rfl rfl rfl ?_)
  refine Ops.buildSliceF (cells := [.int .i64 0, .int .i64 4, .int .i64 0, .int .i64 5, .int .i64 4, .int .i64 1, .int .i64 6, .int .i64 2, .int .i64 2]) rfl rfl rfl ?_
  intro b113 w113 hb113 hs113 hS113 hk113
  have i113 : RowI w113 (.slice (some ⟨b113, 0, none⟩) ([0, 4, 0, 5, 4, 1, 6, 2, 2] : List Int).length 9) false 1 (([0, 4, 0, 5, 4, 1, 6, 2, 2] : List Int).map intV) := ⟨Bk.row (xs := ([0, 4, 0, 5, 4, 1, 6, 2, 2] : List Int).map intV) hk113 (int_fit8 _) (by simp)⟩
  (refine jT rfl rfl rfl ?_)
  refine jjQ ((same_law8 a10 (some ⟨b113, 0, none⟩) c10 9 [0, 4, 0, 5, 4, 1, 6, 2, 2] [0, 4, 0, 5, 4, 1, 6, 2, 2] _).mono (R' := fun v _ => v = .bool true) fun v _ _ h => h.trans (by rw [decide_eq_true rfl])) rfl rfl ?_
  rintro _ w28 hS28 rfl
  (apply jK rfl; exact eB rfl; apply jI; exact eB rfl; refine jT rfl rfl rfl ?_; apply jI; exact eI rfl; refine jT rfl rfl rfl ?_; refine jjh rfl rfl (by omega) ?_; apply jK rfl; exact eB rfl; apply jI; exact eB rfl; refine jT rfl rfl rfl ?_; apply jI; exact eI rfl; refine jT rfl rfl rfl ?_; refine jjh rfl rfl (by omega) ?_; apply jK rfl; exact eB rfl; apply jI; exact eB rfl; refine jT rfl rfl rfl ?_; apply jI; exact eI rfl; refine jT rfl rfl rfl ?_; refine jjh rfl rfl (by omega) ?_; apply jK rfl; exact eB rfl; apply jI; exact eB rfl; refine jT rfl rfl rfl ?_; apply jI; exact eI rfl; refine jT rfl rfl rfl ?_; refine jjh rfl rfl (by omega) ?_; apply jK rfl; exact eB rfl; apply jI; exact eB rfl; refine jT rfl rfl rfl ?_; apply jI; exact eI rfl; refine jT rfl rfl rfl ?_; refine jjh rfl rfl (by omega) ?_; apply jK rfl; exact eB rfl; apply jI; exact eB rfl; refine jT rfl rfl rfl ?_; apply jI; exact eI rfl; refine jT rfl rfl rfl ?_; refine jjh rfl rfl (by omega) ?_; apply jK rfl; exact eB rfl; apply jI; exact eB rfl; refine jT rfl rfl rfl ?_; apply jI; exact eI rfl; refine jT rfl rfl rfl ?_; refine jjh rfl rfl (by omega) ?_; apply jK rfl; exact eB rfl; apply jI; exact eB rfl; refine jT rfl rfl rfl ?_; refine jm ?_; refine jn rfl ?_; refine jT rfl rfl rfl ?_; refine jN rfl rfl rfl ?_; refine jT rfl rfl rfl ?_; refine jh rfl ?_; refine jT rfl rfl rfl ?_; refine jjh rfl rfl (by omega) ?_; apply jK rfl; exact eB rfl; apply jI; exact eB rfl; refine jT rfl rfl rfl ?_; refine jm ?_; refine jn rfl ?_; refine jT rfl rfl rfl ?_; refine jN rfl rfl rfl ?_; refine jT rfl rfl rfl ?_)
  refine jF rfl rfl rfl (map_get (show 1 < [(wAnd, (3 : Int)), (wIs, 3), (wOld, 6), (wSea, 4)].length by decide)) ?_
  intro b153 o153 hA153
  have hA153' : At _ b153 o153 [.string wIs, .int .i64 3] := hA153
  (refine jT rfl rfl rfl ?_; refine jm ?_; refine jn rfl ?_; refine jT rfl rfl rfl ?_; refine jP rfl rfl rfl ?_; refine jT rfl rfl rfl ?_; refine jjh rfl rfl (by omega) ?_; apply jK rfl; exact eB rfl; apply jI; exact eB rfl; refine jT rfl rfl rfl ?_; apply jI; exact eS rfl; refine jT rfl rfl rfl ?_)
  refine Ops.buildSliceF (cells := [.int .i64 3, .int .i64 6, .int .i64 10, .int .i64 14, .int .i64 16]) rfl rfl rfl ?_
  intro b160 w160 hb160 hs160 hS160 hk160
  have i160 : RowI w160 (.slice (some ⟨b160, 0, none⟩) ([3, 6, 10, 14, 16] : List Int).length 5) false 1 (([3, 6, 10, 14, 16] : List Int).map intV) := ⟨Bk.row (xs := ([3, 6, 10, 14, 16] : List Int).map intV) hk160 (int_fit8 _) (by simp)⟩
  (refine jT rfl rfl rfl ?_)
  refine jjQ ((same_law8 aa (some ⟨b160, 0, none⟩) ac 5 [3, 6, 10, 14, 16] [3, 6, 10, 14, 16] _).mono (R' := fun v _ => v = .bool true) fun v _ _ h => h.trans (by rw [decide_eq_true rfl])) rfl rfl ?_
  rintro _ w29 hS29 rfl
  (apply jK rfl; exact eB rfl; apply jI; exact eB rfl; refine jT rfl rfl rfl ?_; apply jI; exact eI rfl; refine jT rfl rfl rfl ?_; refine jjh rfl rfl (by omega) ?_; apply jK rfl; exact eB rfl; apply jI; exact eB rfl; refine jT rfl rfl rfl ?_; apply jI; exact eI rfl; refine jT rfl rfl rfl ?_; refine jjh rfl rfl (by omega) ?_; apply jK rfl; exact eB rfl; apply jI; exact eB rfl; refine jT rfl rfl rfl ?_; apply jI; exact eI rfl; refine jT rfl rfl rfl ?_; refine jjh rfl rfl (by omega) ?_; apply jK rfl; exact eB rfl; apply jI; exact eB rfl; refine jT rfl rfl rfl ?_; refine jO rfl rfl rfl rfl ?_; refine jT rfl rfl rfl ?_; apply jI; exact eS rfl; refine jT rfl rfl rfl ?_)
  (refine jjS (cells := [.int .i64 4, .slice (some ⟨b25, 0, none⟩) 5 5]) ?_ ?_; exact rfl)
  (refine jT rfl rfl rfl ?_)
  refine jjQ (Same_yes 4 ga (some ⟨b25, 0, none⟩) gc 5 [(wAnd, 2), (wIs, 2), (wOld, 3), (wSea, 5), (wThe, 3)] _) rfl rfl ?_
  rintro _ w30 hS30 rfl
  (apply jK rfl; exact eB rfl; apply jJ; exact eB rfl; refine jz ?_; refine jjF ?_; refine jB rfl rfl ⟨inferInstance, ?_⟩)
  exact rfl
end
end Go.Proofs.YtfebegbjggoijaaGreatDoor

/- Plain law: what can be reached from a number of lines on (GalleyFixed). -/
namespace Go.Proofs.YtfebegbjggoijaaGreatDoor
open Go.RowKit

theorem gal_setB {h : Int} {bs : List Blk} {k : Nat} {ln : Int} (hg : galleyB h bs = true) (hk : k < bs.length) (hln : 1 ≤ ln ∧ ln ≤ 20) : galleyB h (setB bs k ln) = true := by
  simp only [galleyB, Bool.and_eq_true, List.all_eq_true, setB_len] at hg ⊢
  refine ⟨hg.1, fun b hb => ?_⟩
  rcases List.mem_or_eq_of_mem_set hb with h1 | h1
  · exact hg.2 b h1
  · have h2 := hg.2 bs[k] (List.getElem_mem hk)
    have e : bs.getD k (ByteArray.empty, 0) = bs[k] := by simp [List.getD_eq_getElem?_getD, hk]
    rw [h1, e]
    simp only [blockB, Bool.and_eq_true, inB, decide_eq_true_eq] at h2 ⊢
    exact ⟨h2.1, hln⟩
theorem setB_map {bs : List Blk} {k : Nat} {ln : Int} (hk : k < bs.length) : (setB bs k ln).map encB = (bs.map encB).set k (encB (bs[k].1, ln)) := by
  have e : bs.getD k (ByteArray.empty, 0) = bs[k] := by simp [List.getD_eq_getElem?_getD, hk]
  rw [setB, List.map_set, e]
theorem chn_split {h : Int} {may : Int → Bool} {to : Int} : ∀ {l : List Int} {n : Int}, n < to → Chn h may to n l → ∃ k l', Chn h may k n l' ∧ n ≤ k ∧ k < to ∧ to ≤ k + h
  | [], n, hlt, e => by have : n = to := e; omega
  | m :: l, n, hlt, ⟨h1, h2, h3, h4⟩ => by
    by_cases e : m = to
    · subst e; exact ⟨n, [], rfl, Int.le_refl _, h2, h3⟩
    · have hle := h4.le
      obtain ⟨k, l', c1, c2, c3, c4⟩ := chn_split (by omega) h4
      exact ⟨k, m :: l', ⟨h1, h2, h3, c1⟩, by omega, c3, c4⟩
theorem chn_snocR {h : Int} {may : Int → Bool} {to m : Int} (hm : may m = true) (h1 : to < m) (h2 : m ≤ to + h) : ∀ {l : List Int} {n : Int}, Chn h may to n l → Chn h may m n (l ++ [m])
  | [], n, e => by
    obtain rfl : n = to := e
    exact ⟨hm, h1, h2, rfl⟩
  | x :: l, n, ⟨a, b, c, d⟩ => ⟨a, b, c, chn_snocR hm h1 h2 d⟩
/-- Whether columns lead from a number of lines to another one. -/
def rB (h S : Int) (may : Int → Bool) (st x : Int) : Bool := decide (st ≤ x ∧ onW h S x may st ≠ noneW)
section
variable {h S st : Int} {may : Int → Bool} (hh : 0 ≤ h ∧ h ≤ 40) (hst : 0 ≤ st ∧ st ≤ 1000)
include hh hst
theorem rB_chn {x : Int} (hx : x ≤ 1000) : rB h S may st x = true ↔ ∃ l, Chn h may x st l := by
  rw [rB, decide_eq_true_eq]
  constructor
  · rintro ⟨h1, h2⟩
    exact chn_of_ne (x - st).toNat (Nat.le_refl _) h1 h2
  · rintro ⟨l, hl⟩
    exact ⟨hl.le, hl.none_ne hh (by omega)⟩
theorem rB_start : rB h S may st st = true := (rB_chn hh hst (by omega)).2 ⟨[], rfl⟩
theorem rB_may {x : Int} (hx : x ≤ 1000) (hne : x ≠ st) (hr : rB h S may st x = true) : may x = true := by
  obtain ⟨l, hl⟩ := (rB_chn hh hst hx).1 hr
  have := hl.le
  exact chn_last hl (by omega)
theorem rB_step {n : Int} (hn : n ≤ 1000) (hm : may n = true) (hlt : st < n) : rB h S may st n = true ↔ ∃ k, max st (n - h) ≤ k ∧ k < n ∧ rB h S may st k = true := by
  constructor
  · intro hr
    obtain ⟨l, hl⟩ := (rB_chn hh hst hn).1 hr
    obtain ⟨k, l', c1, c2, c3, c4⟩ := chn_split hlt hl
    exact ⟨k, by omega, c3, (rB_chn hh hst (by omega)).2 ⟨l', c1⟩⟩
  · rintro ⟨k, k1, k2, k3⟩
    obtain ⟨l, hl⟩ := (rB_chn hh hst (by omega)).1 k3
    exact (rB_chn hh hst hn).2 ⟨_, chn_snocR hm k2 (by omega) hl⟩
end
/-- What the map says when the first i ends were gone through. -/
def vR (h S : Int) (may : Int → Bool) (st : Int) (ms : List Int) (i : Nat) (x : Int) : Bool := decide (x = st) || (decide (x ∈ ms.take i) && rB h S may st x)
section
variable {h S st : Int} {may : Int → Bool} {ms : List Int} (hh : 0 ≤ h ∧ h ≤ 40) (hst : 0 ≤ st ∧ st ≤ 1000) (hms : ∀ x, x ∈ ms ↔ may x = true) (hup : ∀ i j, i < j → j < ms.length → ms.getD i 0 < ms.getD j 0) (hb : ∀ x ∈ ms, x ≤ 1000)
include hh hst hms hup hb
theorem vR_low {i : Nat} (hi : i < ms.length) {k : Int} (hk : k < ms[i]) : vR h S may st ms i k = rB h S may st k := by
  have hk1 : k ≤ 1000 := by have := hb ms[i] (List.getElem_mem hi); omega
  unfold vR
  by_cases e : k = st
  · subst e; rw [rB_start hh hst, decide_eq_true rfl]; rfl
  · rw [decide_eq_false e, Bool.false_or]
    by_cases hm : k ∈ ms.take i
    · rw [decide_eq_true hm, Bool.true_and]
    · rw [decide_eq_false hm, Bool.false_and]
      cases hr : rB h S may st k with
      | false => rfl
      | true =>
        exfalso
        obtain ⟨j, hj, ej⟩ := List.getElem_of_mem ((hms k).2 (rB_may hh hst hk1 e hr))
        rcases Nat.lt_or_ge j i with c | c
        · exact hm (by
            have : j < (ms.take i).length := by rw [List.length_take]; omega
            have e2 : (ms.take i)[j] = k := by rw [List.getElem_take]; exact ej
            rw [← e2]; exact List.getElem_mem this)
        · rcases Nat.lt_or_ge i j with c2 | c2
          · have := hup i j c2 hj
            rw [getD_lt hi, getD_lt hj] at this
            omega
          · obtain rfl : i = j := by omega
            omega
omit hh hst hms hup hb in
theorem vR_other {i : Nat} (hi : i < ms.length) {x : Int} (hx : x ≠ ms[i]) : vR h S may st ms (i + 1) x = vR h S may st ms i x := by
  unfold vR
  have e : (x ∈ ms.take (i + 1)) ↔ x ∈ ms.take i := by
    rw [take_snoc_get (List.getElem?_eq_getElem hi), List.mem_append, List.mem_singleton]
    exact ⟨fun h => h.resolve_right hx, Or.inl⟩
  rw [decide_eq_decide.2 e]
omit hms hup hb in
theorem vR_here {i : Nat} (hi : i < ms.length) : vR h S may st ms (i + 1) ms[i] = rB h S may st ms[i] := by
  unfold vR
  have e : ms[i] ∈ ms.take (i + 1) := by
    rw [take_snoc_get (List.getElem?_eq_getElem hi)]
    exact List.mem_append_right _ (List.mem_singleton.2 rfl)
  rw [decide_eq_true e, Bool.true_and]
  by_cases e2 : ms[i] = st
  · rw [decide_eq_true e2, e2, rB_start hh hst]; rfl
  · rw [decide_eq_false e2, Bool.false_or]
omit hh hst hms hb in
theorem vR_new {i : Nat} (hi : i < ms.length) : vR h S may st ms i ms[i] = decide (ms[i] = st) := by
  unfold vR
  have : ms[i] ∉ ms.take i := fun hm => by
    obtain ⟨j, hj, ej⟩ := List.getElem_of_mem hm
    rw [List.length_take] at hj
    rw [List.getElem_take] at ej
    have := hup j i (by omega) hi
    rw [getD_lt hi, getD_lt (by omega)] at this
    omega
  rw [decide_eq_false this, Bool.false_and, Bool.or_false]
omit hh hst hms hup hb in
theorem rB_low {i : Nat} (hi : i < ms.length) (hlt : ms[i] < st) : rB h S may st ms[i] = false := by
  rw [rB]
  exact decide_eq_false fun h => by omega
end
end Go.Proofs.YtfebegbjggoijaaGreatDoor

/- Plain law: what GalleyFixed asks for. -/
namespace Go.Proofs.YtfebegbjggoijaaGreatDoor
open Go.RowKit

structure FixW (h : Int) (bs : List Blk) (l : List Int) (X : Nat) (ln : Int) (xs : List Blk) (m : List Int) (F T n : Nat) (more st : Int) : Prop where
  xsl : xs.length = bs.length
  ok : ∀ b ∈ xs, 1 ≤ b.2 ∧ b.2 ≤ 20
  sz : ∀ N, (∀ b ∈ bs, b.1.size ≤ N) → ∀ b ∈ xs, b.1.size ≤ N
  gal : galleyB h xs = true
  set : ∀ hX : X < bs.length, xs.map encB = (bs.map encB).set X (encB (bs[X].1, ln))
  sum : 1 ≤ sumL xs ∧ sumL xs ≤ 600
  valid : validB h xs m = true
  ord : F ≤ T
  lt : T < l.length
  pos : 1 ≤ n
  len : m.length = F + n + (l.length - 1 - T)
  tak : m.take F = l.take F
  nth : ∀ i, T < i → i < l.length → m.getD (F + n + (i - T - 1)) 0 = l.getD i 0 + more
  mid : m.getD (F + n - 1) 0 = l.getD T 0 + more
  hst : st = prevD l F
  bst : 0 ≤ st ∧ st < l.getD T 0 + more
  en : l.getD T 0 + more ≤ sumL xs
  hmore : ∀ hX : X < bs.length, more = ln - bs[X].2
  reach : rB h (sumL xs) (fun k => mayR k 0 xs) st (l.getD T 0 + more) = true
  mem : l.getD T 0 + more ∈ endsF 0 xs

theorem FixA.toW {h : Int} {bs : List Blk} {l : List Int} {k : Nat} {ln : Int} {m : List Int} (A : FixA h bs l k ln m) (hG : galleyB h bs = true) (hh : 0 ≤ h ∧ h ≤ 40) (hb : ∀ b ∈ bs, 1 ≤ b.2 ∧ b.2 ≤ 20) (hk : k < bs.length) (hln : 1 ≤ ln ∧ ln ≤ 20) :
    FixW h bs l k ln (setB bs k ln) m (colF bs l k) (colT bs l k) (anewP h bs l k ln).length (moreF bs k ln) (startF bs l k) := by
  have hlen : m.length = colF bs l k + (anewP h bs l k ln).length + (l.length - 1 - colT bs l k) := by
    have := A.lt
    have := A.ord
    rw [A.eq]
    simp only [List.length_append, List.length_take, List.length_map, List.length_drop]
    omega
  have hFl : colF bs l k ≤ l.length := by have := A.lt; have := A.ord; omega
  have hok := setB_ok (k := k) hb hln
  have hsum := A.gal
  have hst := A.st
  have hen := A.en
  refine ⟨setB_len _ _ _, hok, ?_, gal_setB hG hk hln, fun hX => setB_map hX, A.gal, A.valid, A.ord, A.lt, A.pos, hlen, ?_, ?_, ?_, rfl, A.st, A.en, ?_, ?_, ?_⟩
  · intro N hN b hm
    rcases List.mem_or_eq_of_mem_set hm with h1 | h1
    · exact hN b h1
    · have e : bs.getD k (ByteArray.empty, 0) = bs[k] := by simp [List.getD_eq_getElem?_getD, hk]
      rw [h1, e]
      exact hN bs[k] (List.getElem_mem hk)
  · rw [A.eq, List.append_assoc, List.take_append_of_le_length (by rw [List.length_take]; omega), List.take_take, Nat.min_self]
  · intro i h1 h2
    rw [A.eq, List.getD_eq_getElem?_getD, List.getElem?_append_right (by rw [List.length_append, List.length_take]; omega)]
    rw [List.length_append, List.length_take, Nat.min_eq_left hFl, show colF bs l k + (anewP h bs l k ln).length + (i - colT bs l k - 1) - (colF bs l k + (anewP h bs l k ln).length) = i - colT bs l k - 1 by omega]
    rw [List.getElem?_map, List.getElem?_drop, show colT bs l k + 1 + (i - colT bs l k - 1) = i by omega, List.getElem?_eq_getElem h2, getD_lt h2]
    rfl
  · have hp := A.pos
    rw [A.eq, List.append_assoc, List.getD_eq_getElem?_getD, List.getElem?_append_right (by rw [List.length_take]; omega)]
    rw [List.length_take, Nat.min_eq_left hFl, show colF bs l k + (anewP h bs l k ln).length - 1 - colF bs l k = (anewP h bs l k ln).length - 1 by omega, List.getElem?_append_left (by omega), ← List.getD_eq_getElem?_getD]
    exact chn_lastD A.mid hp
  · intro hX
    have eb : linesL bs k = bs[k].2 := by simp [linesL, List.getD_eq_getElem?_getD, hk]
    rw [moreF, eb]
  · refine (rB_chn hh (by omega) (by omega)).2 ⟨_, A.mid⟩
  · exact (mem_endsF hok _).2 A.may

theorem ends_up {bs : List Blk} (hb : ∀ b ∈ bs, 1 ≤ b.2 ∧ b.2 ≤ 20) : ∀ i j, i < j → j < (endsF 0 bs).length → (endsF 0 bs).getD i 0 < (endsF 0 bs).getD j 0 := by
  have hp : (endsF 0 bs).Pairwise (· < ·) := by rw [endsF_R hb]; exact range_pair _ _
  intro i j h1 h2
  rw [getD_lt h2, getD_lt (by omega)]
  exact List.pairwise_iff_getElem.1 hp i j (by omega) h2 h1

/-- What the map of the numbers reached goes through. -/
structure MapR (h st : Int) (zs : List Int) (q : Int) (R : Int → Bool) (V : Nat → Int → Bool) : Prop where
  bnd : ∀ i (hi : i < zs.length), 1 ≤ zs[i] ∧ zs[i] ≤ 600
  stb : 0 ≤ st ∧ st ≤ 600
  zero : ∀ x, V 0 x = decide (x = st)
  low : ∀ i (hi : i < zs.length) k, k < zs[i] → V i k = R k
  new : ∀ i (hi : i < zs.length), V i zs[i] = decide (zs[i] = st)
  other : ∀ i (hi : i < zs.length) x, x ≠ zs[i] → V (i + 1) x = V i x
  here : ∀ i (hi : i < zs.length), V (i + 1) zs[i] = R zs[i]
  step : ∀ i (hi : i < zs.length), st < zs[i] → (R zs[i] = true ↔ ∃ k, max st (zs[i] - h) ≤ k ∧ k < zs[i] ∧ R k = true)
  start : R st = true
  lowR : ∀ i (hi : i < zs.length), zs[i] < st → R zs[i] = false
  fin : V zs.length q = true
theorem FixW.map {h : Int} {bs : List Blk} {l : List Int} {X : Nat} {ln : Int} {xs : List Blk} {m : List Int} {F T n : Nat} {more st : Int} (W : FixW h bs l X ln xs m F T n more st) (hh : 0 ≤ h ∧ h ≤ 40) :
    ∃ R V, MapR h st (endsF 0 xs) (l.getD T 0 + more) R V := by
  have hst := W.bst
  have hen := W.en
  have hsu := W.sum
  have hs : 0 ≤ st ∧ st ≤ 1000 := by omega
  have hms : ∀ x, x ∈ endsF 0 xs ↔ (fun k => mayR k 0 xs) x = true := fun x => mem_endsF W.ok x
  have hup := ends_up W.ok
  have hb0 := ends_bound W.ok
  have hb : ∀ x ∈ endsF 0 xs, x ≤ 1000 := fun x hx => by have := hb0 x hx; omega
  refine ⟨rB h (sumL xs) (fun k => mayR k 0 xs) st, vR h (sumL xs) (fun k => mayR k 0 xs) st (endsF 0 xs), ⟨?_, by omega, ?_, ?_, ?_, ?_, ?_, ?_, rB_start hh hs, ?_, ?_⟩⟩
  · intro i hi
    have := hb0 _ (List.getElem_mem hi)
    omega
  · intro x
    simp [vR]
  · intro i hi k hk
    exact vR_low hh hs hms hup hb hi hk
  · intro i hi
    exact vR_new hup hi
  · intro i hi x hx
    exact vR_other hi hx
  · intro i hi
    exact vR_here hh hs hi
  · intro i hi hl
    exact rB_step hh hs (hb _ (List.getElem_mem hi)) ((hms _).1 (List.getElem_mem hi)) hl
  · intro i hi hl
    exact rB_low hi hl
  · rw [vR, List.take_length, W.reach, decide_eq_true W.mem]
    simp
theorem prevD_at {l : List Int} {F : Nat} (h0 : 0 < F) (h : F ≤ l.length) : prevD l F = l[F - 1] := by
  obtain ⟨k, rfl⟩ : ∃ k, F = k + 1 := ⟨F - 1, by omega⟩
  exact getD_lt (by omega)
end Go.Proofs.YtfebegbjggoijaaGreatDoor

/- Plain law: what GalleyCheapest asks for. -/
namespace Go.Proofs.YtfebegbjggoijaaGreatDoor
open Go.RowKit

structure FixC (h : Int) (xs : List Blk) (l m : List Int) (F T n : Nat) (st en : Int) : Prop where
  ok : ∀ b ∈ xs, 1 ≤ b.2 ∧ b.2 ≤ 20
  gal : galleyB h xs = true
  sum : 1 ≤ sumL xs ∧ sumL xs ≤ 600
  valid : validB h xs m = true
  ord : F ≤ T
  lt : T < l.length
  pos : 1 ≤ n
  len : m.length = F + n + (l.length - 1 - T)
  hen : m.getD (F + n - 1) 0 = en
  hst : ∀ _ : 0 < F, m.getD (F - 1) 0 = st
  hst0 : F = 0 → st = 0
  bst : 0 ≤ st ∧ st < en
  ben : en ≤ sumL xs
  cheap : ∀ a, Chn h (fun k => mayR k 0 xs) en st a → validB h xs (m.take F ++ a ++ m.drop (F + n)) = true ∧ wasteP h (sumL xs) m m.length ≤ wasteP h (sumL xs) (m.take F ++ a ++ m.drop (F + n)) (m.take F ++ a ++ m.drop (F + n)).length ∧
    (wasteP h (sumL xs) (m.take F ++ a ++ m.drop (F + n)) (m.take F ++ a ++ m.drop (F + n)).length = wasteP h (sumL xs) m m.length → befL (m.take F ++ a ++ m.drop (F + n)) m = false)

theorem FixA.toC {h : Int} {bs : List Blk} {l : List Int} {k : Nat} {ln : Int} {m : List Int} (A : FixA h bs l k ln m) (hG : galleyB h bs = true) (hh : 0 ≤ h ∧ h ≤ 40) (hb : ∀ b ∈ bs, 1 ≤ b.2 ∧ b.2 ≤ 20) (hk : k < bs.length) (hln : 1 ≤ ln ∧ ln ≤ 20) :
    FixC h (setB bs k ln) l m (colF bs l k) (colT bs l k) (anewP h bs l k ln).length (startF bs l k) (l.getD (colT bs l k) 0 + moreF bs k ln) := by
  have W := A.toW hG hh hb hk hln
  have hFl : colF bs l k ≤ l.length := by have := A.lt; have := A.ord; omega
  have hdr : m.drop (colF bs l k + (anewP h bs l k ln).length) = (l.drop (colT bs l k + 1)).map fun n => n + moreF bs k ln := by
    rw [A.eq, List.drop_append_of_le_length (by rw [List.length_append, List.length_take]; omega), List.drop_of_length_le (by rw [List.length_append, List.length_take]; omega), List.nil_append]
  refine ⟨W.ok, W.gal, W.sum, W.valid, W.ord, W.lt, W.pos, W.len, W.mid, ?_, ?_, W.bst, W.en, ?_⟩
  · intro h0
    have e : (m.take (colF bs l k)).getD (colF bs l k - 1) 0 = (l.take (colF bs l k)).getD (colF bs l k - 1) 0 := by rw [W.tak]
    rw [List.getD_eq_getElem?_getD, List.getD_eq_getElem?_getD, List.getElem?_take_of_lt (by omega), List.getElem?_take_of_lt (by omega), ← List.getD_eq_getElem?_getD, ← List.getD_eq_getElem?_getD] at e
    rw [e, getD_lt (by omega)]
    exact (prevD_at h0 hFl).symm
  · intro h0
    rw [startF, h0]; rfl
  · intro a ha
    rw [W.tak, hdr]
    exact A.cheap ha rfl
end Go.Proofs.YtfebegbjggoijaaGreatDoor

/- The law: a correction is the cheapest one. -/
namespace Go.Proofs.YtfebegbjggoijaaGreatDoor
open Go.RowKit

/-- Two roads to one place: what is behind it is shown once. -/
theorem two_ways {P : Program} {ro : Option Nat} {n : Nat} {X : Ctx} {ds : List Deferred} {w : World} {c : Code} {G : Prop} (L : List (Nat × Value)) (h1 : (∀ s, AllEq s L → W P ro n c X s ds w) → G) (h2 : ∀ s0, W P ro n c X (upds s0 L) ds w) : G :=
  h1 fun s hA => by have := h2 s; rwa [upds_id hA] at this
/-- What the correction answers, for the laws. -/
theorem Fix_own8 (h : Int) (a : Option Addr) (c : Nat) (bs : List Blk) (la : Option Addr) (lc : Nat) (l : List Int) (X : Nat) (ln : Int) (w : World) (hll : l.length ≤ 100000) (hrow : RowV w true 2 (.slice a bs.length c) (bs.map encB)) (hbs : ∀ b ∈ bs, b.1.size ≤ 140737488351232) (htorn : At w 1 0 tornC) (hnone : At w 0 0 noneC) [hl : RowI w (.slice la l.length lc) false 1 (l.map intV)]
    (hX : X < bs.length) (hln : 1 ≤ ln ∧ ln ≤ 20) (hG : galleyB h bs = true) (hbr : brkE h bs l = 0) :
    Ct Tryz.prog 24 [.agg #[.int .i64 h, .slice a bs.length c], .slice la l.length lc, .int .i64 (X : Int), .int .i64 ln] w fun v w' => ∃ (ys : List Blk) (m : List Int) (F T n : Nat) (st en : Int) (xa : Option Addr) (xc : Nat) (aa : Option Addr) (ac : Nat),
      FixC h ys l m F T n st en ∧ ys.length ≤ 30 ∧ (∀ b ∈ ys, b.1.size ≤ 140737488351232) ∧ v = .tuple #[.agg #[.int .i64 h, .slice xa ys.length xc], .slice aa m.length ac, .int .i64 (F : Int), .int .i64 (T : Int), .int .i64 0] ∧ OwnL w' w.heap.size 37 true 2 (.slice xa ys.length xc) (ys.map encB) ∧ OwnL w' w.heap.size 3 false 1 (.slice aa m.length ac) (m.map intV) := by
  obtain ⟨hh, hlb, hbb, hs1, hs2⟩ := galley_yes hG
  refine (Fix_galley h a c bs la lc l w X ln hll hrow hbs htorn hnone).mono fun v w' _ hf => ?_
  rcases hf with ⟨h1, -⟩ | ⟨-, h1, -⟩ | ⟨-, k', t, xa, xc, aa, ac, hk, hD, hT, hv, hOx, hOm, -⟩
  · exact absurd hbr h1
  · exact absurd ⟨⟨by omega, by omega⟩, hln⟩ h1
  · obtain rfl : X = k' := by omega
    obtain rfl : t = colT bs l X := FixT.eq hD hT
    refine ⟨setB bs X ln, _, _, _, _, _, _, xa, xc, aa, ac, hD.all.toC hG (by omega) hbb hX hln, by rw [setB_len]; omega, (hD.all.toW hG (by omega) hbb hX hln).sz _ hbs, by rw [setB_len]; exact hv, ?_, hOm⟩
    rw [setB_len]
    exact hOx
theorem int_all (l : List Int) : (l.map intV).all (fun v => v.cells.toList.all (·.oneCell')) = true :=
  List.all_eq_true.2 fun v hv => by obtain ⟨x, _, rfl⟩ := List.mem_map.1 hv; rfl
section
variable (h : Int) (a : Option Addr) (c : Nat) (bs : List Blk) (ba : Option Addr) (bc : Nat) (by_ : List Int) (w : World) [hgs : At w 2 0 sidesC] [htn : At w 1 0 tornC] [hnn : At w 0 0 noneC]
set_option maxRecDepth 20000 in
set_option maxHeartbeats 8000000 in
theorem GalleyCheapest_law (hu : U32s by_) (x2 x3 : Nat) (hx2 : x2 ≤ 255) (hx3 : x3 ≤ 255) (oa : Option Addr) (oc : Nat) (ot : List Int) (ho : U32s ot) [hrow : RowI w (.slice a bs.length c) true 2 (bs.map encB)] [hby : RowI w (.slice ba by_.length bc) false 1 (by_.map u32V)] [hot : RowI w (.slice oa ot.length oc) false 1 (ot.map u32V)] :
    Ct Tryz.prog 6 [.agg #[.int .i64 h, .slice a bs.length c], .slice ba by_.length bc, .int .u8 (x2 : Int), .int .u8 (x3 : Int), .slice oa ot.length oc] w fun v _ => v = .bool true := by
  refine Ct.ofW (by simp) ?_
  (refine jjB ?_; refine jjC ?_)
  (refine jy rfl ?_; intro b2 w_b2 hb_b2 hs_b2 hS_b2 hk_b2; have hA_b2 := At.ofBlock hk_b2)
  (apply jJ; exact eB rfl; refine jz ?_; refine jjB ?_; refine jjC ?_)
  refine jjQ (alive_law8 _) rfl rfl ?_
  rintro _ w3 hS3 rfl
  obtain ⟨R, hR⟩ : ∃ R, (greatB bs || decide (700 < 0)) = R := ⟨_, rfl⟩
  (apply jJ; exact eB rfl; refine jz ?_; refine jjB ?_; refine jjB ?_; refine jjC ?_; refine jO rfl rfl rfl rfl ?_)
  refine jjQ ((great_ref h a c bs none 0 0 _).mono fun v _ _ h => h.trans (by rw [hR])) rfl rfl ?_
  rintro _ w4 hS4 rfl
  cases R with
  | true =>
    (apply jI; exact eB rfl; refine jU rfl rfl rfl rfl ?_; refine jU rfl rfl rfl rfl ?_; refine jU rfl rfl rfl rfl ?_; apply jK rfl; exact eB rfl; apply jI; exact eB rfl; refine jU rfl rfl rfl rfl ?_; refine jU rfl rfl rfl rfl ?_; apply jK rfl; exact eB rfl; refine jz ?_; refine jjJ rfl ?_; refine jjB ?_; refine jjC ?_; apply jI; exact eB rfl; apply jJ; exact eB rfl; refine jz ?_; refine jjF ?_; refine jB rfl rfl ⟨inferInstance, ?_⟩)
    exact rfl
  | false =>
  have hgr : greatB bs = false := by simpa using hR
  have hsz := great_no hgr
  have hbz : ∀ b ∈ bs, b.1.size ≤ 140737488351232 := fun b hb => by have := hsz.2 b hb; omega
  obtain ⟨G, hG⟩ : ∃ G, galleyB h bs = G := ⟨_, rfl⟩
  (apply jI; exact eB rfl; refine jT rfl rfl rfl ?_; refine jO rfl rfl rfl rfl ?_; refine jT rfl rfl rfl ?_)
  refine jjQ ((Galley_ref h a c bs _ hbz (by omega)).mono fun v _ _ h => h.trans (by rw [hG])) rfl rfl ?_
  rintro _ w5 hS5 rfl
  cases G with
  | false =>
    (refine jT rfl rfl rfl ?_; refine jq rfl ?_; apply jL rfl; exact eB rfl; apply jI; exact eB rfl; refine jU rfl rfl rfl rfl ?_; refine jU rfl rfl rfl rfl ?_; apply jK rfl; exact eB rfl; refine jz ?_; refine jjJ rfl ?_; refine jjB ?_; refine jjC ?_; apply jI; exact eB rfl; apply jJ; exact eB rfl; refine jz ?_; refine jjF ?_; refine jB rfl rfl ⟨inferInstance, ?_⟩)
    exact rfl
  | true =>
  obtain ⟨hh, hlb, hbb, hs1, hs2⟩ := galley_yes hG
  have hge : gErr h bs = 0 := by rw [gErr, hG]; rfl
  (refine jT rfl rfl rfl ?_; refine jp rfl ?_; apply jL rfl; exact eB rfl; apply jI; exact eB rfl; refine jT rfl rfl rfl ?_; apply jI; exact eB rfl; refine jT rfl rfl rfl ?_; refine jp rfl ?_; apply jL rfl; exact eB rfl; refine jz ?_; refine jjK rfl ?_; refine jjG ?_; refine jjB ?_; refine jjC ?_; refine jO rfl rfl rfl rfl ?_)
  obtain ⟨xs, hxs⟩ : ∃ xs, endsF 0 bs = xs := ⟨_, rfl⟩
  refine jjQ ((Ends_galley h a c bs _ (hrow.h.ext inferInstance) hbz (htn.ext inferInstance)).mono (R' := fun v w' => ∃ u, v = .tuple #[u, .int .i64 0] ∧ RowV w' false 1 u (xs.map intV)) fun v _ _ h => by rw [if_pos hG, hge, hxs] at h; exact h) rfl rfl ?_
  rintro _ w7 hS7 ⟨u7, rfl, hR7⟩
  obtain ⟨a7, c7, rfl, i7⟩ := hR7.ints
  (apply jI; exact eU rfl; refine ju rfl rfl ?_; refine ju rfl rfl ?_; apply jJ; exact eS rfl; apply jJ; exact eI rfl; refine jz ?_; refine jjB ?_; refine jjC ?_; refine jO rfl rfl rfl rfl ?_; apply jI; exact eS rfl; apply jI; exact eS rfl)
  refine jjQ (chosen_law8 h a c bs a7 c7 xs ba bc by_ hu _ hG hxs.symm) rfl rfl ?_
  rintro _ w8 hS8 ⟨l, u8, rfl, hO8, hv8, hl8⟩
  obtain ⟨a8, c8, rfl⟩ := hO8.slice
  rw [List.length_map] at hO8 ⊢
  have i8 : RowI w8 (.slice a8 l.length c8) false 1 (l.map intV) := RowI.mk hO8.row
  have hV8 := validI hbb hv8
  have hbr : brkE h bs l = 0 := by rw [brkE, if_pos hG, if_pos hv8]
  have hr1 : (x2 : Int) % (bs.length : Int) = ((x2 % bs.length : Nat) : Int) := by omega
  obtain ⟨X, hXe⟩ : ∃ X, x2 % bs.length = X := ⟨_, rfl⟩
  have hX : X < bs.length := hXe ▸ Nat.mod_lt x2 (show 0 < bs.length by omega)
  rw [hXe] at hr1
  have hln : 1 ≤ 1 + (x3 : Int) % 20 ∧ 1 + (x3 : Int) % 20 ≤ 20 := by omega
  (apply jI; exact eU rfl; refine ju rfl rfl ?_; refine ju rfl rfl ?_; apply jJ; exact eS rfl; apply jJ; exact eB rfl; refine jz ?_; refine jjB ?_; refine jjB ?_; refine jjC ?_; apply jI; exact eI rfl; refine jjk rfl rfl (by omega) ?_; apply jI; exact eB rfl; refine jT rfl rfl rfl ?_; apply jI; exact eB rfl; refine jT rfl rfl rfl ?_; refine jp rfl ?_; apply jL rfl; exact eB rfl; refine jz ?_; refine jjK rfl ?_; refine jjG ?_; refine jjB ?_)
  refine W.draw (fun w' => Ext w8 w') ?_
  intro w9 hS9
  refine AnyS.mono (K' := fun s w' => ∃ (ys : List Blk) (m : List Int) (F T n : Nat) (st en : Int) (xa : Option Addr) (xc : Nat) (aa : Option Addr) (ac b16 : Nat), FixC h ys l m F T n st en ∧ ys.length ≤ 30 ∧ (∀ b ∈ ys, b.1.size ≤ 140737488351232) ∧ s 4 = .slice oa ot.length oc ∧ s 5 = .pointer (some ⟨b2, 0, none⟩) ∧ s 11 = .bool true ∧ s 14 = .slice a8 l.length c8 ∧ s 16 = .pointer (some ⟨b16, 0, none⟩) ∧ s 17 = .slice aa m.length ac ∧ s 18 = .int .i64 (F : Int) ∧ s 19 = .int .i64 (T : Int) ∧ s 20 = .int .i64 0 ∧ Ext w8 w' ∧ At w' b16 0 [.int .i64 h, .slice xa ys.length xc] ∧ RowV w' true 2 (.slice xa ys.length xc) (ys.map encB) ∧ RowV w' false 1 (.slice aa m.length ac) (m.map intV)) ?_ ?_
  rotate_left
  · refine jjV [0, 1, 2] (by decide +kernel) hS9.ext ?_
    (((apply jjT; exact rfl; rintro w' hq; have := hq.toStep; refine jO rfl rfl rfl rfl ?_; refine jz ?_; exact ⟨rfl, rfl⟩; apply jjT; exact rfl; rintro w' hq; have := hq.toStep; apply jI; exact eS rfl; refine jz ?_; exact ⟨rfl, rfl⟩; apply jjT; exact rfl; rintro w' hq; have := hq.toStep; apply jI; exact eI rfl; refine jz ?_; exact ⟨rfl, rfl⟩; refine jjU ?_)))
    refine jjV [3] (by decide +kernel) hS9.ext (jjT (v := .int .i64 (x2 : Int)) rfl (fun w' q1 => ?_) (jjU ?_)); (refine Ops.convI rfl rfl (wrapi (by omega) (by omega)) ?_; refine jz ?_; exact ⟨rfl, rfl⟩)
    refine jjV [4, 5, 6] (by decide +kernel) hS9.ext ?_
    (((apply jjT; exact rfl; rintro w' hq; have := hq.toStep; refine jm ?_; refine jn rfl ?_; refine jz ?_; exact ⟨rfl, rfl⟩; apply jjT; exact rfl; rintro w' hq; have := hq.toStep; refine jN rfl rfl rfl ?_; refine jz ?_; exact ⟨rfl, rfl⟩; apply jjT; exact rfl; rintro w' hq; have := hq.toStep; refine jh rfl ?_; refine jz ?_; exact ⟨rfl, rfl⟩; refine jjU ?_)))
    refine jjV [7] (by decide +kernel) hS9.ext (jjT (v := .int .i64 (X : Int)) rfl (fun w' q1 => ?_) (jjU ?_)); ((refine Ops.rem rfl rfl (by omega) (by omega) ?_; rw [hr1]); refine jz ?_; exact ⟨rfl, rfl⟩)
    refine jjV [8] (by decide +kernel) hS9.ext ?_
    (((apply jjT; exact rfl; rintro w' hq; have := hq.toStep; apply jI; exact eI rfl; refine jz ?_; exact ⟨rfl, rfl⟩; refine jjU ?_)))
    refine jjV [9] (by decide +kernel) hS9.ext (jjT (v := .int .i64 (x3 : Int)) rfl (fun w' q1 => ?_) (jjU ?_)); (refine Ops.convI rfl rfl (wrapi (by omega) (by omega)) ?_; refine jz ?_; exact ⟨rfl, rfl⟩)
    refine jjV [10] (by decide +kernel) hS9.ext (jjT (v := .int .i64 ((x3 : Int) % 20)) rfl (fun w' q1 => ?_) (jjU ?_)); (refine Ops.rem rfl rfl (by omega) (by omega) ?_; refine jz ?_; exact ⟨rfl, rfl⟩)
    refine jjV [11] (by decide +kernel) hS9.ext ?_
    (((apply jjT; exact rfl; rintro w' hq; have := hq.toStep; refine jY rfl rfl (by omega) ?_; refine jz ?_; exact ⟨rfl, rfl⟩; refine jjU ?_)))
    repeat' (first
      | (refine jjl 12 19 (by decide +kernel) rfl rfl inferInstance ?_ ?_)
      | ((apply jjW 12; (decide +kernel); exact rfl; (exact inferInstance)))
      | ((apply jjW 19; (decide +kernel); exact rfl; (exact inferInstance)))
      | (refine jjQ (Fix_own8 h a c bs a8 c8 l X (1 + (x3 : Int) % 20) _ (by omega) (hrow.h.ext inferInstance) hbz (htn.ext inferInstance) (hnn.ext inferInstance) hX hln hG hbr) rfl rfl ?_; rintro _ v4 hv4 ⟨ys, m, F, T, n, st, en, xa, xc, aa, ac, C, hyl, hyz, rfl, hOx, hOm⟩; refine jz ?_; (refine jjV [13, 14, 15, 16, 17, 18] ?_ ?_ ?_; (decide +kernel); (exact inferInstance); ((repeat' (first|(apply jjT; exact rfl)|rintro w' hq; have := hq.toStep|(apply jI; exact eU rfl)|refine ju rfl rfl ?_|refine jz ?_|exact ⟨rfl, rfl⟩|refine jjU ?_)))))
      | (refine jjY ?_; intro b16 v8 hb16 hs16 hv16 hk16; have k16 := Bk.of hk16; have z16 : w8.heap.size ≤ b16 := (by rw [hb16]; exact Ext.size inferInstance); refine jz ?_)
      | ((apply jjW 20; (decide +kernel); exact rfl; (exact inferInstance)); refine Ops.store rfl rfl rfl rfl rfl ?_; intro V2 hp2; have e2 : Ext w8 V2 := hp2.ext inferInstance z16; refine jz ?_; (refine jjV [21, 22, 23, 24] ?_ ?_ ?_; (decide +kernel); (exact e2); ((repeat' (first|(apply jjT; exact rfl)|rintro w' hq; have := hq.toStep|(apply jJ; (first|exact eI rfl|exact eS rfl))|refine jz ?_|exact ⟨rfl, rfl⟩|refine jjU ?_)))); refine jjX (by decide +kernel) e2 ?_; exact ⟨ys, m, F, T, n, st, en, xa, xc, aa, ac, b16, C, hyl, hyz, rfl, rfl, rfl, rfl, rfl, rfl, rfl, rfl, rfl, e2, Bk.toAt (h := Bk.of hp2.new), by first | exact ((hOx.ext hv16.ext).put hp2 (fun e => by have := hOx.block b16 e; omega)).row | exact (hOx.put hp2 (fun e => by have := hOx.block b16 e; omega)).row, by first | exact ((hOm.ext hv16.ext).put hp2 (fun e => by have := hOm.block b16 e; omega)).row | exact (hOm.put hp2 (fun e => by have := hOm.block b16 e; omega)).row⟩))
  rintro s w10 ⟨ys, m, F, T, n, st, en, xa, xc, aa, ac, b16, C, hyl, hyz, h4, h5, h11, h14, h16, h17, h18, h19, h20, e10, hA16, hRx, hRm⟩
  have s10 : Step w8 w10 := e10.toStep
  refine W.keep0 [(4, .slice oa ot.length oc), (5, .pointer (some ⟨b2, 0, none⟩)), (11, .bool true), (14, .slice a8 l.length c8), (16, .pointer (some ⟨b16, 0, none⟩)), (17, .slice aa m.length ac), (18, .int .i64 (F : Int)), (19, .int .i64 (T : Int)), (20, .int .i64 0)] ⟨h4, h5, h11, h14, h16, h17, h18, h19, h20, trivial⟩ fun s1 => ?_
  clear h4 h5 h11 h14 h16 h17 h18 h19 h20
  have hord := C.ord
  have hlt := C.lt
  have hpos := C.pos
  have hmlen := C.len
  have hll := i8.h.len
  have hml := hRm.len
  have hcapm := hRm.cap.2
  simp only [List.length_map] at hll hml hcapm
  have hsu := C.sum
  have ix : RowI w10 (.slice xa ys.length xc) true 2 (ys.map encB) := RowI.mk hRx
  have im0 : RowI w10 (.slice aa m.length ac) false 1 (m.map intV) := RowI.mk hRm
  obtain ⟨pm, om, rfl, -⟩ := hRm.place (map_get (show 0 < m.length by omega))
  have hgy : gErr h ys = 0 := by rw [gErr, C.gal]; rfl
  have hbrm : brkE h ys m = 0 := by rw [brkE, if_pos C.gal, if_pos C.valid]
  have hm6 : m.length ≤ 600 := by have := chn_up (valid_chn.1 C.valid); omega
  (refine jjB ?_; refine jjB ?_; refine jjC ?_; apply jI; exact eI rfl; refine jjk rfl rfl (by omega) ?_; apply jI; exact eB rfl; refine jT rfl rfl rfl ?_; apply jI; exact eI rfl; refine jT rfl rfl rfl ?_; refine jja rfl rfl (by omega) ?_; apply jL rfl; exact eB rfl; apply jI; exact eB rfl; refine jT rfl rfl rfl ?_; apply jI; exact eI rfl; refine jT rfl rfl rfl ?_; apply jI; exact eI rfl; refine jT rfl rfl rfl ?_; refine jja rfl rfl (by omega) ?_; apply jL rfl; exact eB rfl; apply jI; exact eB rfl; refine jT rfl rfl rfl ?_; apply jI; exact eI rfl; refine jT rfl rfl rfl ?_; apply jI; exact eS rfl; refine jT rfl rfl rfl ?_; refine jh rfl ?_; refine jT rfl rfl rfl ?_; refine jjg rfl rfl (by omega) ?_; apply jL rfl; exact eB rfl; apply jI; exact eB rfl; refine jT rfl rfl rfl ?_; apply jI; exact eS rfl; refine jT rfl rfl rfl ?_; refine jh rfl ?_; refine jT rfl rfl rfl ?_; apply jI; exact eI rfl; refine jT rfl rfl rfl ?_; apply jI; exact eS rfl; refine jT rfl rfl rfl ?_; refine jh rfl ?_; refine jT rfl rfl rfl ?_; refine jY rfl rfl (by omega) ?_; refine jT rfl rfl rfl ?_; apply jI; exact eI rfl; refine jT rfl rfl rfl ?_; refine jZ rfl rfl (by omega) ?_; refine jT rfl rfl rfl ?_; refine jja rfl rfl (by omega) ?_; apply jL rfl; exact eB rfl; apply jI; exact eB rfl; refine jT rfl rfl rfl ?_; refine jO rfl rfl rfl rfl ?_; refine jT rfl rfl rfl ?_)
  refine jjQ ((Galley_ref h xa xc ys _ hyz (by omega)).mono fun v _ _ h => h.trans (by rw [C.gal])) rfl rfl ?_
  rintro _ w11 hS11 rfl
  (refine jT rfl rfl rfl ?_; refine jp rfl ?_; apply jL rfl; exact eB rfl; apply jI; exact eB rfl; refine jT rfl rfl rfl ?_; refine jO rfl rfl rfl rfl ?_; refine jT rfl rfl rfl ?_; apply jI; exact eS rfl; refine jT rfl rfl rfl ?_)
  refine jjQ ((Valid_ref h xa xc ys (some ⟨pm, om, none⟩) ac m _ (by omega) C.ok (by omega)).mono fun v _ _ h => h.trans (by rw [C.valid])) rfl rfl ?_
  rintro _ w12 hS12 rfl
  (refine jT rfl rfl rfl ?_; refine jp rfl ?_; apply jL rfl; exact eB rfl; refine jz ?_; refine jjK rfl ?_; refine jjG ?_; refine jjB ?_; refine jjC ?_; refine jO rfl rfl rfl rfl ?_)
  obtain ⟨zs, hzs⟩ : ∃ zs, endsF 0 ys = zs := ⟨_, rfl⟩
  refine jjQ ((Ends_galley h xa xc ys _ (ix.h.ext inferInstance) hyz (htn.ext inferInstance)).mono (R' := fun v w' => ∃ u, v = .tuple #[u, .int .i64 0] ∧ RowV w' false 1 u (zs.map intV)) fun v _ _ h => by rw [if_pos C.gal, hgy, hzs] at h; exact h) rfl rfl ?_
  rintro _ w13 hS13 ⟨u13, rfl, hR13⟩
  obtain ⟨a13, c13, rfl, i13⟩ := hR13.ints
  (apply jI; exact eU rfl; refine ju rfl rfl ?_; refine ju rfl rfl ?_; apply jJ; exact eS rfl; apply jJ; exact eI rfl; refine jz ?_; refine jjB ?_; refine jjC ?_; refine jO rfl rfl rfl rfl ?_; apply jI; exact eS rfl)
  obtain ⟨W0, hW0⟩ : ∃ W0, wasteP h (sumL ys) m m.length = W0 := ⟨_, rfl⟩
  refine jjQ ((Waste_galley h xa xc ys (some ⟨pm, om, none⟩) ac m _ (by omega) (ix.h.ext inferInstance) hyz (htn.ext inferInstance)).mono (R' := fun v _ => v = .tuple #[.int .i64 W0, .int .i64 0]) fun v _ _ h => h.trans (by rw [wasteS, if_pos hbrm, hW0, hbrm])) rfl rfl ?_
  rintro _ w14 hS14 rfl
  (apply jI; exact eU rfl; refine ju rfl rfl ?_; refine ju rfl rfl ?_; apply jJ; exact eI rfl; apply jJ; exact eI rfl; refine jz ?_; refine jjB ?_; refine jjB ?_; refine jjC ?_; apply jI; exact eI rfl; refine jjk rfl rfl (by omega) ?_; apply jI; exact eB rfl; refine jT rfl rfl rfl ?_; apply jI; exact eI rfl; refine jT rfl rfl rfl ?_; refine jjk rfl rfl (by omega) ?_; apply jL rfl; exact eB rfl; refine jz ?_; refine jjK rfl ?_; refine jjG ?_; refine jjB ?_; refine jjC ?_)
  refine Ops.buildSlice0 ?_
  intro b25 w15 hb25 hs25 hS25 hk25
  have hO25 := OwnL.empty (agg := false) (k := 1) (B := w14.heap.size) (by omega) hk25
  (apply jI; exact eS rfl; apply jI; exact eI rfl)
  refine Ops.sliceXHv (k := 1) (hi := F) rfl rfl rfl (by omega) (by omega) ?_
  have qm : RowV w15 false 1 (.slice (some ⟨pm, om, none⟩) F ac) ((m.take F).map intV) := by
    have := (im0.h.ext (w' := w15) inferInstance).takeV (hi := F) (by rw [List.length_map]; omega)
    rwa [← List.map_take] at this
  skip
  refine Ops.appendL hO25 (by omega) qm rfl rfl rfl rfl (int_all _) ?_ ?_ ?_
  · simp only [List.length_map, List.length_nil, List.length_take]; omega
  · simp only [List.length_map, List.length_nil, List.length_take]; omega
  intro v16 w16 hA16' hO16 _ _
  rw [List.nil_append] at hO16
  have hE16 : Ext w14 w16 := hA16'.ext inferInstance (Nat.le_refl _)
  have s16 : Step w14 w16 := hE16.toStep
  have hid : (m.length : Int) - ((l.length : Int) - 1 - (T : Int)) - 1 = ((F + n - 1 : Nat) : Int) := by omega
  have hJm : F + n - 1 < m.length := by omega
  have hen := C.hen
  rw [getD_lt hJm] at hen
  have hAm : At w16 pm (om + (F + n - 1)) (intV m[F + n - 1]).cells.toList := by
    have := place_at8 (im0.h.ext (w' := w16) inferInstance) (map_get hJm)
    rwa [Nat.mul_one] at this
  (apply jJ; exact rfl; refine jz ?_; refine jjB ?_; refine jjC ?_; apply jI; exact eS rfl; apply jI; exact eS rfl; refine jh rfl ?_; apply jI; exact eS rfl; refine jh rfl ?_; refine jZ rfl rfl (by omega) ?_; apply jI; exact eI rfl; refine jZ rfl rfl (by omega) ?_; refine jZ rfl rfl (by omega) ?_; refine jZ rfl rfl (by omega) ?_)
  refine jG rfl rfl hid (by omega) ?_
  obtain ⟨va, vc, rfl⟩ := hO16.slice
  rw [List.length_map] at hO16 ⊢
  have hql0 : (m.take F).length = F := by rw [List.length_take]; omega
  have hx5 : At w14 b2 0 [.int .i64 h, .slice a bs.length c] := inferInstance
  have hx16 : At w14 b16 0 [.int .i64 h, .slice xa ys.length xc] := inferInstance
  have iM : RowI w14 (.slice (some ⟨pm, om, none⟩) m.length ac) false 1 (m.map intV) := inferInstance
  have iX : RowI w14 (.slice xa ys.length xc) true 2 (ys.map encB) := inferInstance
  have iZ : RowI w14 (.slice a13 zs.length c13) false 1 (zs.map intV) := inferInstance
  have iT : RowI w14 (.slice oa ot.length oc) false 1 (ot.map u32V) := inferInstance
  have hE14' : Ext w w14 := inferInstance
  have htn3 : At w14 1 0 tornC := inferInstance
  have hbst := C.bst
  have hben := C.ben
  have hzl : zs.length ≤ 600 := by have := endsF_len C.ok 0; rw [hzs] at this; omega
  have hzm : ∀ x, x ∈ zs ↔ mayR x 0 ys = true := fun x => by rw [← hzs]; exact mem_endsF C.ok x
  have hzb : ∀ (k : Nat) (hk : k < zs.length), 1 ≤ zs[k] ∧ zs[k] ≤ sumL ys := fun k hk => ends_bound C.ok zs[k] (by rw [hzs]; exact List.getElem_mem hk)
  apply two_ways [(4, .slice oa ot.length oc), (5, .pointer (some ⟨b2, 0, none⟩)), (11, .bool true), (14, .slice a8 l.length c8), (16, .pointer (some ⟨b16, 0, none⟩)), (17, .slice (some ⟨pm, om, none⟩) m.length ac), (19, .int .i64 (T : Int)), (21, .slice a13 zs.length c13), (23, .int .i64 W0), (25, .slice va (m.take F).length vc), (26, .int .i64 en), (27, .int .i64 st)]
  · intro rest
    rcases Nat.eq_zero_or_pos F with hF0 | hF0
    · (refine jQ rfl rfl ?_; apply jJ; exact eI rfl; refine jz ?_; refine jjB ?_; refine jjC ?_; apply jJ; exact eI rfl; refine jz ?_; refine jjB ?_; refine jjB ?_; refine jjC ?_; apply jI; exact eI rfl; refine jje rfl rfl (by omega) ?_; refine jz ?_; refine jjK rfl ?_; refine jjG ?_; refine jjB ?_; refine jjD ?_)
      refine rest _ ?_
      exact ⟨eS rfl, eP rfl, eB rfl, eS rfl, eP rfl, eS rfl, eI rfl, eS rfl, eI rfl, eS rfl, congrArg (Value.int .i64) hen, congrArg (Value.int .i64) (C.hst0 hF0).symm, trivial⟩
    · have hFl : F - 1 < m.length := by omega
      have hst := C.hst hF0
      rw [getD_lt hFl] at hst
      have hAf : At w16 pm (om + (F - 1)) (intV m[F - 1]).cells.toList := by
        have := place_at8 (iM.h.ext hE16) (map_get hFl)
        rwa [Nat.mul_one] at this
      have hid' : (F : Int) - 1 = ((F - 1 : Nat) : Int) := by omega
      (refine jQ rfl rfl ?_; apply jJ; exact eI rfl; refine jz ?_; refine jjB ?_; refine jjC ?_; apply jJ; exact eI rfl; refine jz ?_; refine jjB ?_; refine jjB ?_; refine jjC ?_; apply jI; exact eI rfl; refine jjd rfl rfl (by omega) ?_; refine jz ?_; refine jjJ rfl ?_; refine jjC ?_; apply jI; exact eS rfl; apply jI; exact eI rfl; refine jZ rfl rfl (by omega) ?_)
      refine jG rfl rfl hid' (by omega) ?_
      (refine jQ rfl rfl ?_; apply jJ; exact eI rfl; refine jz ?_; refine jjB ?_; refine jjD ?_)
      refine rest _ ?_
      exact ⟨eS rfl, eP rfl, eB rfl, eS rfl, eP rfl, eS rfl, eI rfl, eS rfl, eI rfl, eS rfl, congrArg (Value.int .i64) hen, congrArg (Value.int .i64) hst, trivial⟩
  intro s2
  clear hAm hO25 qm hk25
  refine W.loopG (163 :: 164 :: 165 :: 28 :: 166 :: 167 :: 168 :: 169 :: 170 :: 171 :: 30 :: 172 :: 173 :: 174 :: 175 :: 176 :: 177 :: 178 :: 179 :: 180 :: 181 :: 182 :: 183 :: 184 :: 185 :: 186 :: 187 :: 188 :: 189 :: 190 :: 191 :: 192 :: 193 :: 194 :: 195 :: 196 :: 10 :: 197 :: 198 :: 199 :: 200 :: 201 :: 202 :: 203 :: 204 :: 205 :: 206 :: 207 :: 208 :: 209 :: 210 :: 211 :: 27 :: 212 :: 213 :: 214 :: 215 :: 25 :: []) (fun g s' V => ∃ (now : Int) (p : List Int) (v : Value), Ext w14 V ∧ s' 27 = .int .i64 now ∧ s' 25 = v ∧ OwnL V w14.heap.size 3 false 1 v ((m.take F ++ p).map intV) ∧ Chn h (fun n => mayR n 0 ys) now st p ∧ st ≤ now ∧ now ≤ en ∧ g = (en - now).toNat) (en - st).toNat ⟨st, [], .slice va (m.take F).length vc, hE16, rfl, rfl, by rw [List.append_nil]; exact hO16, rfl, by omega, by omega, rfl⟩ ?_
  rintro _ sd V ⟨now, p, v, hEV, h27, h25, hO, hC, hn1, hn2, rfl⟩
  refine W.fix (d := 27) h27 ?_
  clear h27
  have sV : Step w14 V := hEV.toStep
  have zV := hEV.size
  have hup := chn_up hC
  obtain ⟨q, hq⟩ : ∃ q, m.take F ++ p = q := ⟨_, rfl⟩
  have hql : q.length = F + p.length := by rw [← hq, List.length_append, hql0]
  rw [hq] at hO
  obtain ⟨la, lc, rfl⟩ := hO.slice
  rw [List.length_map] at h25 hO
  refine W.fix (d := 25) h25 ?_
  clear h25
  by_cases hlt2 : now < en
  rotate_left
  · obtain rfl : now = en := by omega
    obtain ⟨c1, c2, c3⟩ := C.cheap p hC
    rw [hq, hW0] at c2 c3
    rw [hq] at c1
    have hid2 : (m.length : Int) - ((l.length : Int) - 1 - (T : Int)) = ((F + n : Nat) : Int) := by omega
    have qd : RowV V false 1 (cutV (some ⟨pm, om, none⟩) ac 1 (F + n) m.length) ((m.drop (F + n)).map intV) := by
      have := (iM.h.ext (w' := V) inferInstance).dropV (lo := F + n) (by rw [List.length_map]; omega)
      rwa [← List.map_drop] at this
    have hdl : (m.drop (F + n)).length = m.length - (F + n) := List.length_drop
    (refine jjB ?_; refine jjB ?_; refine jjC ?_; apply jI; exact eI rfl; apply jI; exact eI rfl; refine jja rfl rfl (by omega) ?_; refine jz ?_; refine jjK rfl ?_; refine jjE ?_; refine jjB ?_; refine jjC ?_; apply jI; exact eS rfl; apply jI; exact eS rfl; apply jI; exact eS rfl; refine jh rfl ?_; apply jI; exact eS rfl; refine jh rfl ?_; refine jZ rfl rfl (by omega) ?_; apply jI; exact eI rfl; refine jZ rfl rfl (by omega) ?_; refine jZ rfl rfl (by omega) ?_)
    refine Ops.sliceXLv (k := 1) (lo := F + n) rfl rfl hid2 (by omega) ?_
    skip
    refine Ops.appendL hO zV qd rfl rfl rfl rfl (int_all _) ?_ ?_ ?_
    · simp only [List.length_map]; omega
    · simp only [List.length_map]; omega
    intro v20 w20 hA20 hO20 _ _
    rw [← List.map_append] at hO20
    obtain ⟨x, hx⟩ : ∃ x, q ++ m.drop (F + n) = x := ⟨_, rfl⟩
    rw [hx] at hO20 c1 c2 c3
    have hE20 : Ext w14 w20 := hA20.ext hEV (Nat.le_refl _)
    have s20 : Step w14 w20 := hE20.toStep
    obtain ⟨ka, kc, rfl⟩ := hO20.slice
    rw [List.length_map] at hO20 ⊢
    have iK : RowI w20 (.slice ka x.length kc) false 1 (x.map intV) := RowI.mk hO20.row
    have hx6 : x.length ≤ 600 := by have := chn_up (valid_chn.1 c1); omega
    have hbrx : brkE h ys x = 0 := by rw [brkE, if_pos C.gal, if_pos c1]
    (apply jJ; exact eS rfl; refine jz ?_; refine jjB ?_; refine jjC ?_; refine jO rfl rfl rfl rfl ?_; apply jI; exact eS rfl)
    refine jjQ ((Waste_galley h xa xc ys ka kc x _ (by omega) (iX.h.ext inferInstance) hyz (htn3.ext inferInstance)).mono (R' := fun v _ => v = .tuple #[.int .i64 (wasteP h (sumL ys) x x.length), .int .i64 0]) fun v _ _ h => h.trans (by rw [wasteS, if_pos hbrx, hbrx])) rfl rfl ?_
    rintro _ w21 hS21 rfl
    generalize wasteP h (sumL ys) x x.length = W1 at *
    have sAll : Step w w21 := (hE14'.trans (inferInstance : Ext w14 w21)).toStep
    by_cases hw : W0 < W1
    · (apply jI; exact eU rfl; refine ju rfl rfl ?_; refine ju rfl rfl ?_; apply jJ; exact eI rfl; apply jJ; exact eI rfl; refine jz ?_; refine jjB ?_; refine jjC ?_; apply jI; exact eB rfl; apply jI; exact eB rfl; refine jT rfl rfl rfl ?_; apply jI; exact eI rfl; refine jT rfl rfl rfl ?_; refine jjh rfl rfl (by omega) ?_; apply jK rfl; exact eB rfl; apply jI; exact eB rfl; refine jT rfl rfl rfl ?_; apply jI; exact eI rfl; refine jT rfl rfl rfl ?_; apply jI; exact eI rfl; refine jT rfl rfl rfl ?_; refine jjd rfl rfl (by omega) ?_; refine jT rfl rfl rfl ?_; apply jI; exact eB rfl; refine jU rfl rfl rfl rfl ?_; refine jU rfl rfl rfl rfl ?_; refine jU rfl rfl rfl rfl ?_; refine jU rfl rfl rfl rfl ?_; refine jV rfl rfl ?_; refine jV rfl rfl ?_; refine jV rfl rfl ?_; refine jV rfl rfl ?_; refine jU rfl rfl rfl rfl ?_; refine jT rfl rfl rfl ?_; apply jK rfl; exact eB rfl; apply jK rfl; exact eB rfl; apply jJ; exact eB rfl; refine jz ?_; refine jjF ?_; refine jB rfl rfl ⟨inferInstance, ?_⟩)
      exact rfl
    · have e : W1 = W0 := by omega
      have hbf := c3 e
      (apply jI; exact eU rfl; refine ju rfl rfl ?_; refine ju rfl rfl ?_; apply jJ; exact eI rfl; apply jJ; exact eI rfl; refine jz ?_; refine jjB ?_; refine jjC ?_; apply jI; exact eB rfl; apply jI; exact eB rfl; refine jT rfl rfl rfl ?_; apply jI; exact eI rfl; refine jT rfl rfl rfl ?_; refine jjh rfl rfl (by omega) ?_; apply jK rfl; exact eB rfl; apply jI; exact eB rfl; refine jT rfl rfl rfl ?_; apply jI; exact eI rfl; refine jT rfl rfl rfl ?_; apply jI; exact eI rfl; refine jT rfl rfl rfl ?_; refine jje rfl rfl (by omega) ?_; refine jT rfl rfl rfl ?_; apply jI; exact eB rfl; refine jT rfl rfl rfl ?_; apply jI; exact eI rfl; refine jT rfl rfl rfl ?_; apply jI; exact eI rfl; refine jT rfl rfl rfl ?_; refine jjh rfl rfl (by omega) ?_; refine jT rfl rfl rfl ?_; apply jI; exact eB rfl; refine jT rfl rfl rfl ?_; apply jI; exact eS rfl; refine jT rfl rfl rfl ?_; apply jI; exact eS rfl; refine jT rfl rfl rfl ?_)
      refine jjQ ((before_law8 ka (some ⟨pm, om, none⟩) kc ac x m _ (by omega) (by omega)).mono fun v _ _ h => h.trans (by rw [hbf])) rfl rfl ?_
      rintro _ w22 hS22 rfl
      (refine jT rfl rfl rfl ?_; refine jq rfl ?_; refine jT rfl rfl rfl ?_; apply jK rfl; exact eB rfl; refine jT rfl rfl rfl ?_; apply jL rfl; exact eB rfl; apply jK rfl; exact eB rfl; apply jJ; exact eB rfl; refine jz ?_; refine jjF ?_; refine jB rfl rfl ⟨inferInstance, ?_⟩)
      exact rfl
  (refine jjB ?_; refine jjB ?_; refine jjC ?_; apply jI; exact eI rfl; apply jI; exact eI rfl; refine jjZ rfl rfl (by omega) ?_; refine jz ?_; refine jjJ rfl ?_; refine jjG ?_; refine jjD ?_; refine jjB ?_; refine jjC ?_; apply jJ; exact eS rfl; refine jz ?_; refine jjB ?_; refine jjB ?_; refine jjC ?_; apply jI; exact eS rfl; refine jh rfl ?_; apply jI; exact eI rfl; refine jz ?_; refine jjD ?_)
  refine W.loop (169 :: 170 :: 171 :: 30 :: 172 :: 173 :: 174 :: 175 :: 176 :: 177 :: 178 :: 179 :: 180 :: 181 :: 182 :: 183 :: 184 :: 185 :: 186 :: 187 :: 188 :: 189 :: 190 :: 191 :: 28 :: 192 :: 168 :: []) (fun g s' V2 => ∃ (k : Nat) (v : Value), s' 168 = .int .i64 ((k : Nat) : Int) ∧ s' 28 = v ∧ OwnL V2 V.heap.size 3 false 1 v (((zs.take k).filter fun x => decide (now < x) && decide (x - now ≤ h) && decide (x ≤ en)).map intV) ∧ g = zs.length - k ∧ k ≤ zs.length) zs.length ⟨0, _, rfl, rfl, OwnL.nil _ _ _ _ _, rfl, by omega⟩ ?_
  rintro _ sd2 V2 hSV2 ⟨k, v2, h168, h28, hO3, rfl, hk⟩
  refine W.fix (d := 168) h168 (W.fix (d := 28) h28 ?_)
  clear h168 h28
  have hfl : ((zs.take k).filter fun x => decide (now < x) && decide (x - now ≤ h) && decide (x ≤ en)).length ≤ k := by
    have := List.length_filter_le (fun x => decide (now < x) && decide (x - now ≤ h) && decide (x ≤ en)) (zs.take k)
    rw [List.length_take] at this
    omega
  by_cases hk3 : k < zs.length
  · have hx := hzb k hk3
    have hsn := filt_snoc hk3 fun x => decide (now < x) && decide (x - now ≤ h) && decide (x ≤ en)
    by_cases hc : (now < zs[k] ∧ zs[k] - now ≤ h) ∧ zs[k] ≤ en
    · obtain ⟨⟨hc1, hc2⟩, hc3⟩ := hc
      rw [if_pos (by rw [decide_eq_true hc1, decide_eq_true hc2, decide_eq_true hc3]; rfl)] at hsn
      (refine jjB ?_; refine jjC ?_; refine jjZ rfl rfl (by omega) ?_; refine jz ?_; refine jjB ?_; refine jjJ rfl ?_; refine jjG ?_; refine jjB ?_; refine jjD ?_; refine jjB ?_; refine jjC ?_; refine jF rfl rfl rfl (map_get (by omega)) ?_; intro _ _ _; refine jQ rfl rfl ?_; apply jJ; exact eI rfl; refine jz ?_; refine jjB ?_; refine jjC ?_; apply jI; exact eI rfl; apply jI; exact eI rfl; refine jjd rfl rfl (by omega) ?_; apply jI; exact eB rfl; refine jT rfl rfl rfl ?_; apply jI; exact eI rfl; refine jT rfl rfl rfl ?_; apply jI; exact eI rfl; refine jT rfl rfl rfl ?_; refine jZ rfl rfl (by omega) ?_; refine jT rfl rfl rfl ?_; refine jm ?_; refine jn rfl ?_; refine jT rfl rfl rfl ?_; refine jN rfl rfl rfl ?_; refine jT rfl rfl rfl ?_; refine jjb rfl rfl (by omega) ?_; apply jK rfl; exact eB rfl; apply jI; exact eB rfl; refine jT rfl rfl rfl ?_; apply jI; exact eI rfl; refine jT rfl rfl rfl ?_; apply jI; exact eI rfl; refine jT rfl rfl rfl ?_; refine jjb rfl rfl (by omega) ?_; apply jK rfl; exact eB rfl; refine jz ?_; refine jjJ rfl ?_; refine jjC ?_; apply jI; exact rfl; apply jI; exact eI rfl)
      (refine jjP (v := .int _ _) rfl (by exact rfl) (by exact rfl) (by exact rfl) (by exact rfl) ?_; intro b11 w_b11 hb_b11 hs_b11 hS_b11 hk_b11; have hR_b11 := RowV.one (agg := false) (k := 1) rfl hk_b11)
      refine Ops.appendL (hO3.ext inferInstance) (Ext.size inferInstance) hR_b11 rfl rfl rfl rfl rfl ?_ ?_ ?_
      · simp only [List.length_map, List.length_cons, List.length_nil]; omega
      · simp only [List.length_map, List.length_cons, List.length_nil]; omega
      intro v4 w4 hA4 hO4 _ _
      have hE4 : Ext V w4 := hA4.ext inferInstance (Nat.le_refl _)
      (apply jJ; exact rfl; refine jz ?_; refine jjC ?_; refine jY rfl rfl (by omega) ?_; apply jI; exact eI rfl; refine jz ?_)
      refine ⟨rfl, by ((refine Same.upd rfl ?_; refine Same.upd rfl ?_; refine Same.upd rfl ?_; refine Same.upd rfl ?_; refine Same.upd rfl ?_; refine Same.upd rfl ?_; refine Same.upd rfl ?_; refine Same.upd rfl ?_; refine Same.upd rfl ?_; refine Same.upd rfl ?_; refine Same.upd rfl ?_; refine Same.upd rfl ?_; refine Same.upd rfl ?_; refine Same.upd rfl ?_; refine Same.upd rfl ?_; refine Same.upd rfl ?_; refine Same.upd rfl ?_; refine Same.upd rfl ?_; refine Same.upd rfl ?_; refine Same.upd rfl ?_; refine Same.upd rfl ?_; refine Same.upd rfl ?_; refine Same.upd rfl ?_; refine Same.upd rfl ?_; refine Same.upd rfl ?_; refine Same.upd rfl ?_; refine Same.upd rfl ?_; refine Same.upd rfl ?_; refine Same.upd rfl ?_; exact Same.ovN)), zs.length - (k + 1), by omega, hE4, k + 1, v4, congrArg (Value.int .i64) (by omega), rfl, ?_, rfl, by omega⟩
      rw [hsn, List.map_append]
      exact hO4
    · rw [if_neg (by rw [Bool.and_eq_true, Bool.and_eq_true, decide_eq_true_eq, decide_eq_true_eq, decide_eq_true_eq]; exact hc), List.append_nil] at hsn
      repeat' (first|((first|apply jI|apply jJ|apply jK rfl|apply jL rfl); (first|exact eI rfl|exact eB rfl|exact rfl))|(refine jM ?_; (first|refine jN rfl rfl rfl ?_|refine jQ rfl rfl ?_))|(refine jS ?_; (first|refine jT rfl rfl rfl ?_|refine jU rfl rfl rfl rfl ?_))|(refine jW ?_; (first|refine jX rfl rfl ?_|refine jY rfl rfl (by omega) ?_|refine jZ rfl rfl (by omega) ?_|refine jd rfl rfl ?_|refine je rfl rfl ?_))|(refine jm ?_; refine jn rfl ?_)|(refine jE ?_; (refine jF rfl rfl rfl (map_get (by omega)) ?_; intro _ _ _))|refine jz ?_|(refine jjA ?_; (first|refine jjB ?_|refine jjC ?_|refine jjD ?_|refine jjE ?_|refine jjG ?_|refine jjK rfl ?_))|(refine jS ?_; (refine jjL rfl rfl ?_ ?_ <;> intro _))|(refine jjA ?_; (refine jjN rfl ?_ ?_ <;> intro _)))
      all_goals (try (exfalso; omega))
      all_goals exact ⟨rfl, by (repeat' (first|exact Same.ovN|refine Same.upd rfl ?_)), zs.length - (k + 1), by omega, inferInstance, k + 1, v2, congrArg (Value.int .i64) (by omega), rfl, by rw [hsn]; exact hO3, rfl, by omega⟩
  obtain rfl : k = zs.length := by omega
  rw [List.take_length] at hO3 hfl
  have hO5 := hO.ext hSV2.ext
  have hmem : ∀ y ∈ zs.filter (fun x => decide (now < x) && decide (x - now ≤ h) && decide (x ≤ en)), mayR y 0 ys = true ∧ now < y ∧ y ≤ now + h ∧ y ≤ en := fun y hy => by
    obtain ⟨y1, y2⟩ := List.mem_filter.1 hy
    rw [Bool.and_eq_true, Bool.and_eq_true, decide_eq_true_eq, decide_eq_true_eq, decide_eq_true_eq] at y2
    exact ⟨(hzm y).1 y1, y2.1.1, by omega, y2.2⟩
  generalize zs.filter (fun x => decide (now < x) && decide (x - now ≤ h) && decide (x ≤ en)) = NX at *
  obtain ⟨na, nc, rfl⟩ := hO3.slice
  rw [List.length_map] at hO3 ⊢
  (refine jjB ?_; refine jjC ?_; refine jja rfl rfl (by omega) ?_; refine jz ?_; refine jjB ?_; refine jjK rfl ?_; refine jjE ?_; refine jjB ?_; refine jjB ?_; refine jjC ?_; apply jI; exact eS rfl; refine jh rfl ?_; refine jb rfl rfl ?_; refine jz ?_)
  refine jjA ?_
  refine jjN rfl ?_ ?_ <;> intro hN0
  · (refine jjB ?_; refine jjC ?_; apply jI; exact eB rfl; apply jJ; exact eB rfl; refine jz ?_; refine jjF ?_; refine jB rfl rfl ⟨inferInstance, ?_⟩)
    exact rfl
  have hpos2 : 0 < NX.length := by omega
  (refine jjG ?_; refine jjB ?_; refine jjC ?_; apply jI; exact eS rfl; apply jI; exact eS rfl; refine jh rfl ?_; refine jZ rfl rfl (by omega) ?_; apply jI; exact eS rfl; apply jI; exact eS rfl; refine jh rfl ?_)
  refine jjQ (choose_law8 oa oc ot q.length ho (by omega) _) rfl rfl ?_
  rintro _ w26 hS26 ⟨x, rfl, hx0, hx1⟩
  (apply jI; exact eS rfl; refine jh rfl ?_; refine jj rfl rfl ?_)
  refine Ops.rem rfl rfl (by omega) (by omega) ?_
  have hr1 := Int.emod_nonneg x (show min (NX.length : Int) 3 ≠ 0 by omega)
  have hr2 := Int.emod_lt_of_pos x (show 0 < min (NX.length : Int) 3 by omega)
  generalize x % min (NX.length : Int) 3 = r at *
  obtain ⟨j, hj⟩ : ∃ j : Nat, (NX.length : Int) - 1 - r = (j : Int) := ⟨((NX.length : Int) - 1 - r).toNat, by omega⟩
  have iN : RowI w26 (.slice na NX.length nc) false 1 (NX.map intV) := RowI.mk (hO3.row.ext hS26.ext)
  (refine jZ rfl rfl (by omega) ?_)
  rw [hj]
  have hjl : j < NX.length := by omega
  have hy := hmem NX[j] (List.getElem_mem hjl)
  generalize hyv : NX[j] = y at hy
  (refine jF rfl rfl rfl (map_get (by omega)) ?_; intro _ _ _; refine jQ rfl rfl ?_; apply jJ; exact eI rfl; refine jz ?_; refine jjC ?_; apply jI; exact eS rfl; apply jI; exact eI rfl)
  rw [hyv]
  (refine jjP (v := .int _ _) rfl (by exact rfl) (by exact rfl) (by exact rfl) (by exact rfl) ?_; intro b12 w_b12 hb_b12 hs_b12 hS_b12 hk_b12; have hR_b12 := RowV.one (agg := false) (k := 1) rfl hk_b12)
  refine Ops.appendL ((hO5.ext hS26.ext).ext inferInstance) (Ext.size inferInstance) hR_b12 rfl rfl rfl rfl rfl ?_ ?_ ?_
  · simp only [List.length_map, List.length_cons, List.length_nil]; omega
  · simp only [List.length_map, List.length_cons, List.length_nil]; omega
  intro v7 w27 hA7 hO7 _ _
  have hE7 : Ext w14 w27 := hA7.ext inferInstance (Nat.le_refl _)
  (apply jJ; exact rfl; refine jz ?_)
  refine ⟨rfl, by ((refine Same.upd rfl ?_; refine Same.upd rfl ?_; refine Same.upd rfl ?_; refine Same.upd rfl ?_; refine Same.upd rfl ?_; refine Same.upd rfl ?_; refine Same.upd rfl ?_; refine Same.upd rfl ?_; refine Same.upd rfl ?_; refine Same.upd rfl ?_; refine Same.upd rfl ?_; refine Same.upd rfl ?_; refine Same.upd rfl ?_; refine Same.upd rfl ?_; refine Same.upd rfl ?_; refine Same.upd rfl ?_; refine Same.upd rfl ?_; refine Same.upd rfl ?_; refine Same.upd rfl ?_; refine Same.upd rfl ?_; refine Same.upd rfl ?_; refine Same.upd rfl ?_; refine Same.upd rfl ?_; refine Same.upd rfl ?_; refine Same.upd rfl ?_; refine Same.upd rfl ?_; refine Same.upd rfl ?_; refine Same.ovN' rfl ?_; refine Same.upd rfl ?_; refine Same.upd rfl ?_; refine Same.upd rfl ?_; refine Same.upd rfl ?_; refine Same.upd rfl ?_; refine Same.upd rfl ?_; refine Same.upd rfl ?_; refine Same.upd rfl ?_; refine Same.upd rfl ?_; exact Same.ovN)), (en - y).toNat, by omega, y, p ++ [y], v7, hE7, rfl, rfl, ?_, hC.snoc1 hy.1 hy.2.1 hy.2.2.1, by omega, hy.2.2.2, rfl⟩
  rw [← List.append_assoc, hq, List.map_append]
  exact hO7
end
end Go.Proofs.YtfebegbjggoijaaGreatDoor
