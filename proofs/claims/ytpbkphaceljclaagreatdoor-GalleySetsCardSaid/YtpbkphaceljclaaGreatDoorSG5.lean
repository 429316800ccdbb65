/- Texts of the proof, part 5: Gs1, Eng31, Gs2, Gs3, Gal2, GalS, GalL1, Lib2, Gal3, Gal4, Gal5, Ref8a, Gs4, SameT, Tr4, RefI, Ref8e, LawGs. -/
import Derived.Laws.Cover1
import Derived.Laws.BitsAllLaws
import Derived.Test.YtpbkphaceljclaaGreatDoorSG4
/- galley: Set. -/
namespace Go.Proofs.YtpbkphaceljclaaGreatDoor
open Go.RowKit

theorem one_blk (b : Blk) : ([b].map encB).all (fun v => v.cells.toList.all (·.oneCell')) = true := rfl
section
variable (a : Option Addr) (c : Nat) (cs : List Ch) (wd side : Int) (w : World) [hrow : RowI w (.slice a cs.length c) true 2 (cs.map encCh)] [hT : TextI w cs] [hgs : At w 0 0 sidesC]
set_option maxHeartbeats 8000000 in
theorem Set_galley (hs : SmallT cs) (hd : 0 ≤ side ∧ side ≤ 255) (h : Int) : Ct Tryz.prog 9 [.agg #[.slice a cs.length c], encCut wd side, .int .i64 h] w fun v w' => ∃ ga gc, v = .tuple #[.agg #[.int .i64 (setR (txF cs) wd side h).1.1, .slice ga (setR (txF cs) wd side h).1.2.length gc], .int .i64 (setR (txF cs) wd side h).2] ∧ RowV w' true 2 (.slice ga (setR (txF cs) wd side h).1.2.length gc) ((setR (txF cs) wd side h).1.2.map encB) := by
  refine Ct.ofW (by simp) ?_
  (refine jjB ?_; refine jjC ?_)
  (refine jy rfl ?_; intro b3 w_b3 hb_b3 hs_b3 hS_b3 hk_b3; have hA_b3 := At.ofBlock hk_b3)
  skip
  (refine jy rfl ?_; intro b4 w_b4 hb_b4 hs_b4 hS_b4 hk_b4; have hA_b4 := At.ofBlock hk_b4)
  ((skip); refine jjY ?_; intro b6 w_b6 hb_b6 hs_b6 hS_b6 hk_b6; have hA_b6 := Bk.of hk_b6)
  (apply jJ; exact eI rfl; refine jz ?_; refine jjB ?_; refine jjC ?_; refine jO rfl rfl rfl rfl ?_; refine jO rfl rfl rfl rfl ?_)
  have hB6 : Bk w_b6 b6 [.int .i64 0, .slice none 0 0] 31 := hA_b6
  have z3 := hS_b3.size
  have z4 := hS_b4.size
  obtain ⟨e, he⟩ : ∃ e, askE (txF cs) wd side = e := ⟨_, rfl⟩
  refine jjQ ((All_slip a c cs wd side _ hs hd).mono fun v _ _ h => by rw [he] at h; exact h) rfl rfl ?_
  rintro _ w7 hS7 ⟨lv, rfl, hO⟩
  obtain ⟨la, lc, elv⟩ := hO.slice
  rw [List.length_map] at elv
  subst elv
  have hE7 : Ext w w7 := inferInstance
  have hB67 : Bk w7 b6 [.int .i64 0, .slice none 0 0] 31 := hB6.ext hS7.ext
  have h3in := askE_in (txF cs) wd side
  rw [he] at h3in
  by_cases h0 : e = 0
  rotate_left
  · rw [setR_ask (by rw [he]; exact h0), he]
    (apply jI; exact eU rfl; refine ju rfl rfl ?_; refine ju rfl rfl ?_; apply jJ; exact eS rfl; apply jJ; exact eI rfl; refine jz ?_; refine jjB ?_; refine jjB ?_; refine jjC ?_; apply jI; exact eI rfl; refine jjj rfl rfl (by omega) ?_; refine jz ?_; refine jjJ rfl ?_; refine jjB ?_; refine jjC ?_)
    (refine jjS (cells := [.int .i64 0, .slice none 0 0]) ?_ ?_; exact rfl)
    (apply jI; exact eI rfl)
    refine Ops.store rfl rfl rfl rfl rfl ?_
    intro V2 hp2
    have hA2 : At V2 b6 0 [.int .i64 0, .slice none 0 0] := Bk.toAt (h := Bk.of hp2.new)
    (apply jJ; exact eI rfl; refine jz ?_; refine jjF ?_)
    exact fin2C rfl rfl rfl rfl rfl rfl ⟨hp2.ext hE7 (by omega), none, 0, rfl, RowV.nilS _ _ _ _ _⟩
  obtain ⟨ht, hc⟩ := askE_zero (he.trans h0)
  have ha : askE (txF cs) wd side = 0 := he.trans h0
  rw [allR, if_pos ha] at hO ⊢
  obtain ⟨ls, hls⟩ : ∃ ls, allS (txF cs) side wd = ls := ⟨_, rfl⟩
  have hl6 : ls.length ≤ 600 := by rw [← hls]; exact allS_len ht
  rw [hls] at hO ⊢
  have iL7 : RowI w7 (.slice la ls.length lc) true 6 (ls.map encSl) := ⟨hO.row⟩
  (apply jI; exact eU rfl; refine ju rfl rfl ?_; refine ju rfl rfl ?_; apply jJ; exact eS rfl; apply jJ; exact eI rfl; refine jz ?_; refine jjB ?_; refine jjB ?_; refine jjC ?_; apply jI; exact eI rfl; refine jjk rfl rfl (by omega) ?_; refine jz ?_; refine jjK rfl ?_; refine jjG ?_; refine jjB ?_; refine jjB ?_; refine jjC ?_; apply jI; exact eI rfl)
  (refine jjP (v := .int _ _) rfl (by exact rfl) (by exact rfl) (by exact rfl) (by exact rfl) ?_; intro b29 w_b29 hb_b29 hs_b29 hS_b29 hk_b29; have hR_b29 := RowV.one (agg := false) (k := 1) rfl hk_b29)
  skip
  obtain ⟨B, hB⟩ : ∃ B, inB 4 40 h = B := ⟨_, rfl⟩
  refine jjQ ((in_galley 4 40 _ [h] _ hR_b29).mono fun v _ _ q => q.trans (by rw [all1, hB])) rfl rfl ?_
  rintro _ w8 hS8 rfl
  have hE8 : Ext w w8 := inferInstance
  have hB68 : Bk w8 b6 [.int .i64 0, .slice none 0 0] 31 := inferInstance
  cases B with
  | false =>
    rw [setR_high ha hB]
    (refine jq rfl ?_; refine jz ?_; refine jjJ rfl ?_; refine jjB ?_; refine jjC ?_)
    (refine jjS (cells := [.int .i64 0, .slice none 0 0]) ?_ ?_; exact rfl)
    skip
    refine Ops.store rfl rfl rfl rfl rfl ?_
    intro V2 hp2
    have hA2 : At V2 b6 0 [.int .i64 0, .slice none 0 0] := Bk.toAt (h := Bk.of hp2.new)
    (apply jJ; exact eI rfl; refine jz ?_; refine jjF ?_)
    exact fin2C rfl rfl rfl rfl rfl rfl ⟨hp2.ext hE8 (by omega), none, 0, rfl, RowV.nilS _ _ _ _ _⟩
  | true =>
  (refine jp rfl ?_; refine jz ?_; refine jjK rfl ?_; refine jjG ?_; refine jjB ?_; refine jjC ?_)
  refine Ops.makeMap Value.string ?_
  intro mb w9 hmb hs9 hS9 hM9
  (apply jJ; exact eM rfl; refine jz ?_; refine jjB ?_; refine jjB ?_; refine jjC ?_; apply jI; exact eS rfl; refine jh rfl ?_; apply jI; exact eI rfl; refine jz ?_; refine jjD ?_)
  have hE9 : Ext w w9 := inferInstance
  have zE8 := hE8.size
  have hwm : w.heap.size ≤ mb := by omega
  have hlt6 := hB68.lt
  have n6m : b6 ≠ mb := by omega
  have h3lt : b3 < b6 := by omega
  have y3 : At w9 b3 0 [.slice a cs.length c] := inferInstance
  have hB69 : Bk w9 b6 [.int .i64 0, .slice none 0 0] 31 := hB68.ext hS9.ext
  have iL9 : RowI w9 (.slice la ls.length lc) true 6 (ls.map encSl) := inferInstance
  refine W.keep0 [(2, .int .i64 h), (3, .pointer (some ⟨b3, 0, none⟩)), (6, .pointer (some ⟨b6, 0, none⟩)), (10, .map (some mb)), (34, .slice la ls.length lc), (35, .int .i64 (ls.length : Int)), (36, .int .i64 ((0 : Nat) : Int))] ⟨eI rfl, eP rfl, eP rfl, eM rfl, eS rfl, eI rfl, eI rfl, trivial⟩ fun s0 => ?_
  have hnl : (Value.slice la ls.length lc).ownBlock ≠ some mb := fun e => by
    have := (hO.block _ e).2
    have := (show Ext w7 w8 from inferInstance).size
    omega
  refine W.loopG (37 :: 38 :: 39 :: 12 :: 40 :: 41 :: 42 :: 43 :: 44 :: 45 :: 36 :: []) (fun g s' V => ∃ (k : Nat) (m : List (ByteArray × Value)), s' 36 = .int .i64 ((k : Nat) : Int) ∧ g = ls.length - k ∧ k ≤ ls.length ∧ Only mb w9 V ∧ MapE Value.string V mb m ∧ ∀ x, (mget m x).getD (.int .i64 0) = .int .i64 (cN (ls.take k) x : Int)) ls.length ⟨0, [], rfl, rfl, Nat.zero_le _, .ofExt (.refl _), hM9, fun x => by simp [mget, cN]⟩ ?_
  rintro _ sd V ⟨k, m, h36, rfl, hk, hOn, hM, hget⟩
  refine W.fix (d := 36) h36 ?_
  clear h36
  have hEV : Ext w V := hOn.ext hE9 hwm
  have iLV : RowI V (.slice la ls.length lc) true 6 (ls.map encSl) := ⟨hOn.row iL9.h hnl⟩
  have hB6V : Bk V b6 [.int .i64 0, .slice none 0 0] 31 := hOn.bk hB69 n6m
  have y3V : At V b3 0 [.slice a cs.length c] := hOn.at_ y3 (by omega)
  by_cases hkl : k < ls.length
  · have hgk := List.getElem?_eq_getElem hkl
    have hsn := cN_snoc hgk
    obtain ⟨u, hu⟩ : ∃ u, ls[k] = u := ⟨_, rfl⟩
    rw [hu] at hsn
    have hcn := cN_le (ls.take k) u.2.1
    rw [List.length_take] at hcn
    (refine jjB ?_; refine jjC ?_; refine jjZ rfl rfl (by omega) ?_; refine jz ?_; refine jjB ?_; refine jjJ rfl ?_; refine jjG ?_; refine jjB ?_; refine jjD ?_; refine jjB ?_; refine jjC ?_; refine jF rfl rfl rfl (map_get (by omega)) ?_; intro _ _ _; refine jQ rfl rfl ?_)
    rw [hu]
    (apply jjR rfl; (intro _; first|exact eI rfl|exact eB rfl|exact eP rfl|exact eS rfl|exact eT rfl|exact eA rfl|exact eU rfl|exact eF rfl|exact eM rfl|exact eN rfl|exact rfl); exact rfl; exact rfl; exact rfl; exact rfl; intro b12 w_b12 hb_b12 hs_b12 hS_b12 hk_b12; have hA_b12 := Bk.of hk_b12)
    have e12 := hS_b12.ext
    have hx12 : At w_b12 b12 0 [.int .i64 u.1.1, .int .i64 u.1.2.1, .int .i64 u.1.2.2, .string u.2.1, .string u.2.2.1, .string u.2.2.2] := Bk.toAt (h := hA_b12)
    (refine jz ?_; refine jjC ?_; apply jI; exact eM rfl; refine jm ?_; refine jn rfl ?_; refine jN rfl rfl rfl ?_)
    refine Ops.lookupV (k := u.2.1) (hget u.2.1) (hM.ext e12) rfl rfl ?_
    generalize hcv : cN (ls.take k) u.2.1 = cv at *
    (refine jY rfl rfl (by omega) ?_)
    refine Ops.mapUpdate (k := u.2.1) (v := .int .i64 ((cv : Int) + 1)) (hM.ext e12) rfl rfl rfl ?_
    intro V2 o2 hp2 hM2
    (refine jz ?_; refine jjC ?_; refine jY rfl rfl (by omega) ?_; apply jI; exact eI rfl; refine jz ?_)
    refine ⟨rfl, by ((refine Same.upd rfl ?_; refine Same.upd rfl ?_; refine Same.upd rfl ?_; refine Same.upd rfl ?_; refine Same.upd rfl ?_; refine Same.upd rfl ?_; refine Same.upd rfl ?_; refine Same.upd rfl ?_; refine Same.upd rfl ?_; refine Same.upd rfl ?_; refine Same.upd rfl ?_; refine Same.upd rfl ?_; exact Same.ovN)), ls.length - (k + 1), by omega, k + 1, _, congrArg (Value.int .i64) (by omega), rfl, by omega, (hOn.trans (.ofExt e12)).trans (.ofPut hp2), hM2, fun x => ?_⟩
    rw [hsn]
    by_cases e : x = u.2.1
    · subst e
      rw [mget_set_same, if_pos rfl, hcv]
      exact congrArg (Value.int .i64) (by omega)
    · rw [mget_set_other _ _ e, if_neg (fun h => e h.symm), Nat.add_zero]
      exact hget x
  obtain rfl : k = ls.length := by omega
  rw [List.take_length] at hget
  have hrV : RowI V (.slice a cs.length c) true 2 (cs.map encCh) := ⟨hrow.h.ext hEV⟩
  have hTV : TextI V cs := hT.ext hEV
  (refine jjB ?_; refine jjC ?_; refine jja rfl rfl (by omega) ?_; refine jz ?_; refine jjB ?_; refine jjK rfl ?_; refine jjE ?_; refine jjB ?_; refine jjC ?_; refine jO rfl rfl rfl rfl ?_)
  refine jjQ ((Vocabulary_leaf a c cs _ hs).mono fun v _ _ q => by rw [vocR, if_pos ht] at q; exact q) rfl rfl ?_
  rintro _ w10 hS10 ⟨wv, rfl, hOw⟩
  obtain ⟨ws, hws⟩ : ∃ ws, vocL (wsOf (txF cs)) = ws := ⟨_, rfl⟩
  simp only [hws] at hOw
  obtain ⟨wa, wc, ewv⟩ := hOw.slice
  rw [List.length_map] at ewv
  subst ewv
  have hwl : ws.length ≤ 600 := by
    rw [← hws]
    refine Nat.le_trans (voc_len _) ?_
    rw [wsOf, List.length_map]; exact allW_small ht
  have hww : ∀ x ∈ ws, wordB x = true := fun x hx => voc_word ht (by rw [hws]; exact hx)
  have iW : RowI w10 (.slice wa ws.length wc) false 1 (ws.map strV) := ⟨hOw.row⟩
  (apply jI; exact eU rfl; refine ju rfl rfl ?_; refine ju rfl rfl ?_; apply jJ; exact eS rfl; apply jJ; exact eI rfl; refine jz ?_; refine jjB ?_; refine jjC ?_; apply jI; exact eI rfl)
  (refine jjS (cells := [.int .i64 h, .slice none 0 0]) ?_ ?_; exact rfl)
  (apply jjR rfl; (intro _; first|exact eI rfl|exact eB rfl|exact eP rfl|exact eS rfl|exact eT rfl|exact eA rfl|exact eU rfl|exact eF rfl|exact eM rfl|exact eN rfl|exact rfl); exact rfl; exact rfl; exact rfl; exact rfl; intro b15 w_b15 hb_b15 hs_b15 hS_b15 hk_b15; have hA_b15 := Bk.of hk_b15)
  (refine jz ?_; refine jjB ?_; refine jjB ?_; refine jjC ?_; apply jI; exact eS rfl; refine jh rfl ?_; apply jI; exact eI rfl; refine jz ?_; refine jjD ?_)
  have e15 := hS10.ext.trans hS_b15.ext
  have hE15 : Ext w w_b15 := hEV.trans e15
  have zE15 := hE15.size
  have hM15 : MapE Value.string w_b15 mb m := hM.ext e15
  have hB615 : Bk w_b15 b6 [.int .i64 0, .slice none 0 0] 31 := hB6V.ext e15
  have hMl := hM.lt
  have z10 := hS10.size
  have n15 : b15 ≠ mb := by omega
  have hBv : b6 < V.heap.size := hB6V.lt
  have n615 : b6 ≠ b15 := by omega
  have iW15 : RowI w_b15 (.slice wa ws.length wc) false 1 (ws.map strV) := inferInstance
  have hnw : (Value.slice wa ws.length wc).ownBlock ≠ some b15 := fun e => by
    have := (hOw.block _ e).2
    omega
  refine W.keep0 [(6, .pointer (some ⟨b6, 0, none⟩)), (10, .map (some mb)), (15, .pointer (some ⟨b15, 0, none⟩)), (53, .slice wa ws.length wc), (54, .int .i64 (ws.length : Int)), (55, .int .i64 ((0 : Nat) : Int))] ⟨eP rfl, eM rfl, eP rfl, eS rfl, eI rfl, eI rfl, trivial⟩ fun s1 => ?_
  refine W.loopG (56 :: 57 :: 58 :: 17 :: 59 :: 60 :: 61 :: 62 :: 63 :: 64 :: 65 :: 66 :: 67 :: 68 :: 69 :: 70 :: 55 :: []) (fun g s' V2 => ∃ (k : Nat) (gv : Value), s' 55 = .int .i64 ((k : Nat) : Int) ∧ g = ws.length - k ∧ k ≤ ws.length ∧ Only b15 w_b15 V2 ∧ Bk V2 b15 [.int .i64 h, gv] 31 ∧ OwnL V2 w_b15.heap.size 72 true 2 gv ((blkL ls (ws.take k)).map encB)) ws.length ⟨0, _, rfl, rfl, Nat.zero_le _, .ofExt (.refl _), hA_b15, OwnL.nil _ _ _ _ _⟩ ?_
  rintro _ sd2 V2 ⟨k, gv, h55, rfl, hk, hOn2, hB2, hOg⟩
  refine W.fix (d := 55) h55 ?_
  clear h55
  have zOn2 := hOn2.size
  have hE2 : Ext w V2 := hOn2.ext hE15 (by omega)
  have hM2 : MapE Value.string V2 mb m := hOn2.map hM15 (fun e => n15 e.symm)
  have iW2 : RowI V2 (.slice wa ws.length wc) false 1 (ws.map strV) := ⟨hOn2.row iW15.h hnw⟩
  have hB62 : Bk V2 b6 [.int .i64 0, .slice none 0 0] 31 := hOn2.bk hB615 n615
  have hA15 : At V2 b15 0 [.int .i64 h, gv] := Bk.toAt (h := hB2)
  have hbl := blkL_len ls (ws.take k)
  have htk := List.length_take_le k ws
  by_cases hkl : k < ws.length
  · have hgk := List.getElem?_eq_getElem hkl
    have hsn := blkL_snoc (ls := ls) hgk
    obtain ⟨u, hu⟩ : ∃ u, ws[k] = u := ⟨_, rfl⟩
    rw [hu] at hsn
    have hcn := cN_le ls u
    obtain ⟨ga, gl, gc, rfl⟩ := hOg.slice3
    (refine jjB ?_; refine jjC ?_; refine jjZ rfl rfl (by omega) ?_; refine jz ?_; refine jjB ?_; refine jjJ rfl ?_; refine jjG ?_; refine jjB ?_; refine jjD ?_; refine jjB ?_; refine jjC ?_; refine jF rfl rfl rfl (map_get (by omega)) ?_; intro _ _ _; refine jQ rfl rfl ?_; apply jJ; exact eT rfl; refine jz ?_; refine jjC ?_; refine jm ?_; refine jn rfl ?_; refine jN rfl rfl rfl ?_; apply jI; exact eT rfl; apply jI; exact eM rfl; apply jI; exact eT rfl)
    rw [hu]
    skip
    refine Ops.lookupV (k := u) (hget u) hM2 rfl rfl ?_
    generalize hcv : cN ls u = cv at *
    (refine jY rfl rfl (by omega) ?_)
    (refine jjS (cells := [.string u, .int .i64 (1 + (cv : Int))]) ?_ ?_; exact rfl)
    skip
    (refine jjP (v := .agg _) rfl (by exact rfl) (by exact rfl) (by exact rfl) (by exact rfl) ?_; intro b67 w_b67 hb_b67 hs_b67 hS_b67 hk_b67; have hR_b67 := RowV.one (agg := true) (k := 2) rfl hk_b67)
    have e67 := hS_b67.ext
    have hR67 : RowV w_b67 true 2 (.slice (some ⟨b67, 0, none⟩) 1 1) ([(u, 1 + (cv : Int))].map encB) := hR_b67
    have z67 := e67.size
    skip
    refine Ops.appendL (hOg.ext e67) (by omega) hR67 rfl rfl rfl rfl (one_blk _) (by simp only [List.length_map, List.length_cons, List.length_nil]; omega) (by simp only [List.length_map, List.length_cons, List.length_nil]; omega) ?_
    intro v3 V3 hA3 hO3 _ hown3
    have hnb : ∀ b, b < w_b15.heap.size → (Value.slice ga gl gc).ownBlock ≠ some b := fun b h e => by have := (hOg.block _ e).1; omega
    have hl15 := hA_b15.lt
    have hB3 : Bk V3 b15 [.int .i64 h, .slice ga gl gc] 31 := hA3.bk (hB2.ext e67) (hnb _ hl15)
    obtain ⟨a3, l3, c3, rfl⟩ := hO3.slice3
    (refine jm ?_; refine jn rfl ?_)
    refine Ops.storeC (cs := [.int .i64 h, .slice ga gl gc]) (j := 1) (v := .slice a3 l3 c3) rfl rfl rfl rfl (show 1 < 2 by omega) ?_
    intro V4 hp4
    (refine jz ?_; refine jjC ?_; refine jY rfl rfl (by omega) ?_; apply jI; exact eI rfl; refine jz ?_)
    have hn3 : (Value.slice a3 l3 c3).ownBlock ≠ some b15 := fun e => by
      rcases hown3 with h | h
      · rw [h] at e; exact hnb _ hl15 e
      · rw [h] at e; cases e; omega
    rw [← List.map_append, ← hsn] at hO3
    exact ⟨rfl, by ((refine Same.upd rfl ?_; refine Same.upd rfl ?_; refine Same.upd rfl ?_; refine Same.upd rfl ?_; refine Same.upd rfl ?_; refine Same.upd rfl ?_; refine Same.upd rfl ?_; refine Same.upd rfl ?_; refine Same.upd rfl ?_; refine Same.upd rfl ?_; refine Same.upd rfl ?_; refine Same.upd rfl ?_; refine Same.upd rfl ?_; refine Same.upd rfl ?_; refine Same.upd rfl ?_; refine Same.upd rfl ?_; refine Same.upd rfl ?_; refine Same.upd rfl ?_; exact Same.ovN)), ws.length - (k + 1), by omega, k + 1, _, congrArg (Value.int .i64) (by omega), rfl, by omega, ((hOn2.trans (.ofExt e67)).app hA3 (Nat.le_refl _)).trans (.ofPut hp4), ⟨hp4.new⟩, hO3.put hp4 hn3⟩
  obtain rfl : k = ws.length := by omega
  rw [List.take_length] at hOg hbl
  obtain ⟨ga, gc, egv⟩ := hOg.slice
  rw [List.length_map] at egv
  subst egv
  obtain ⟨G, hG⟩ : ∃ G, galleyB h (blkL ls ws) = G := ⟨_, rfl⟩
  have hchk := (Check_galley h (.slice ga (blkL ls ws).length gc) (blkL ls ws) V2 hOg.row fun b hb => by
    obtain ⟨x, hx, rfl⟩ := List.mem_map.1 hb
    have := (word_size (hww x hx)).2
    show x.size ≤ _
    omega).mono (R' := fun v _ => v = .int .i64 (if G then 0 else 80)) fun v _ _ q => q.trans (by rw [gErr, hG])
  (refine jjB ?_; refine jjC ?_; refine jja rfl rfl (by omega) ?_; refine jz ?_; refine jjB ?_; refine jjK rfl ?_; refine jjE ?_; refine jjB ?_; refine jjB ?_; refine jjC ?_; refine jO rfl rfl rfl rfl ?_)
  refine jjQ hchk rfl rfl ?_
  rintro _ w11 hS11 rfl
  have hB611 : Bk w11 b6 [.int .i64 0, .slice none 0 0] 31 := hB62.ext hS11.ext
  have hE11 := hE2.trans hS11.ext
  have hB15' : At w11 b15 0 [.int .i64 h, .slice ga (blkL ls ws).length gc] := hA15.ext hS11.ext
  cases G with
  | false =>
    rw [setR_no ha hB (by rw [hls, hws]; exact hG)]
    (refine jc rfl rfl ?_; refine jz ?_; refine jjJ rfl ?_; refine jjB ?_; refine jjC ?_)
    (refine jjS (cells := [.int .i64 0, .slice none 0 0]) ?_ ?_; exact rfl)
    skip
    refine Ops.store rfl rfl rfl rfl rfl ?_
    intro V3 hp3
    have hA3 : At V3 b6 0 [.int .i64 0, .slice none 0 0] := Bk.toAt (h := Bk.of hp3.new)
    (apply jJ; exact eI rfl; refine jz ?_; refine jjF ?_)
    exact fin2C rfl rfl rfl rfl rfl rfl ⟨hp3.ext hE11 (by omega), none, 0, rfl, RowV.nilS _ _ _ _ _⟩
  | true =>
    rw [setR_yes ha hB (by rw [hls, hws]; exact hG), hls, hws]
    (refine jc rfl rfl ?_; refine jz ?_; refine jjK rfl ?_; refine jjG ?_; refine jjB ?_; refine jjC ?_; refine jO rfl rfl rfl rfl ?_)
    refine Ops.store rfl rfl rfl rfl rfl ?_
    intro V3 hp3
    have hA3 : At V3 b6 0 [.int .i64 h, .slice ga (blkL ls ws).length gc] := Bk.toAt (h := Bk.of hp3.new)
    (apply jJ; exact eI rfl; refine jz ?_; refine jjF ?_)
    have hOg3 := (hOg.ext hS11.ext).put hp3 (fun e => by have := (hOg.block _ e).1; omega)
    exact fin2C rfl rfl rfl rfl rfl rfl ⟨hp3.ext hE11 (by omega), ga, gc, rfl, hOg3.row⟩
end
end Go.Proofs.YtpbkphaceljclaaGreatDoor

/- The proof engine, part 31: min and max of three integers; integers of 16 bits. -/
namespace Go.Proofs.YtpbkphaceljclaaGreatDoor
open Go.RowKit
section rules
variable {P : Program} {ro : Option Nat} {n : Nat} {all rest : List Oper} {K : Sl → World → Prop} {s : Sl} {w : World} {d : Nat} {ty : Nat} {pos : String} {af : Array Edge}
variable {x y z : Operand} {at_ : Array Nat}
end rules
end Go.Proofs.YtpbkphaceljclaaGreatDoor

/- The reference: WordAt. -/
namespace Go.Proofs.YtpbkphaceljclaaGreatDoor
open Go.RowKit

section
variable (a : Option Addr) (c : Nat) (cs : List Ch) (w : World) [hrow : RowI w (.slice a cs.length c) true 2 (cs.map encCh)] [hT : TextI w cs]
set_option maxHeartbeats 4000000 in
theorem WordAt_ref1 (p : Pl) (hp : placeB (txF cs) p = true) : Ct Tryz.prog 70 [.agg #[.slice a cs.length c], encPl p] w fun v _ => v = .string (wordT (txF cs) p) := by
  obtain ⟨k, n, q, hk, hn, hq, rfl⟩ := placeB_get hp
  rw [wordT_at hk hn hq]
  have hk' : k < cs.length := by rwa [txF_len] at hk
  obtain ⟨x, hx⟩ : ∃ x, cs[k] = x := ⟨_, rfl⟩
  have e1 : (txF cs)[k] = txC x := by simp [txF, hx]
  have hxm : x ∈ cs := hx ▸ List.getElem_mem hk'
  have hl := hT.lines x hxm
  have hw := hT.words x hxm
  have hA := hrow.h
  have hz := hA.place' (map_get hk')
  rw [hx] at hz
  obtain ⟨ba, oa, rfl, hAk⟩ := hz
  obtain ⟨ci, la, lc, lns⟩ := x
  simp only [e1] at hn hq ⊢
  have hn' : n < lns.length := by simpa using hn
  obtain ⟨y, hy⟩ : ∃ y, lns[n] = y := ⟨_, rfl⟩
  have hym : y ∈ lns := hy ▸ List.getElem_mem hn'
  have hz := hl.place' (map_get hn')
  rw [hy] at hz
  obtain ⟨bl, ol, rfl, hAl⟩ := hz
  have hw' := hw y hym
  obtain ⟨wa, wc, wl⟩ := y
  have e2 : (lns.map (·.2.2))[n]'(by simpa using hn') = wl := by simp [hy]
  simp only [e2] at hq ⊢
  have hz := hw'.place' (map_get hq)
  obtain ⟨bw, ow, rfl, hAw⟩ := hz
  have hAk' : At w ba (oa + k * 2) [.int .i64 ci, .slice (some ⟨bl, ol, none⟩) lns.length lc] := hAk
  have hAl' : At w bl (ol + n * 1) [.slice (some ⟨bw, ow, none⟩) wl.length wc] := hAl
  have hAw' : At w bw (ow + q * 1) [.string wl[q]] := hAw
  rw [Nat.mul_one] at hAl' hAw'
  clear hAk hAl hAw
  refine Ct.ofW (by simp) ?_
  (refine jjB ?_; refine jjC ?_)
  (refine jy rfl ?_; intro b2 w_b2 hb_b2 hs_b2 hS_b2 hk_b2; have hA_b2 := At.ofBlock hk_b2)
  skip
  (refine jy rfl ?_; intro b3 w_b3 hb_b3 hs_b3 hS_b3 hk_b3; have hA_b3 := At.ofBlock hk_b3)
  have hx3 : At w_b3 b3 0 [.int .i64 (k : Int), .int .i64 (n : Int), .int .i64 (q : Int)] := hA_b3
  clear hA_b3
  (apply jJ; exact eT rfl; refine jz ?_; refine jjB ?_)
  refine W.draw (fun w' => Ext w_b3 w') ?_
  intro w1 hS1
  have hE1 : Ext w w_b3 := inferInstance
  refine jjV [0, 1, 2, 3, 4, 5, 6, 7, 8, 9] (by decide +kernel) hS1.ext ?_
  (((apply jjT; exact rfl; rintro w' hq'; have := hq'.toStep; refine jm ?_; refine jn rfl ?_; refine jz ?_; exact ⟨rfl, rfl⟩; apply jjT; exact rfl; rintro w' hq'; have := hq'.toStep; refine jN rfl rfl rfl ?_; refine jz ?_; exact ⟨rfl, rfl⟩; apply jjT; exact rfl; rintro w' hq'; have := hq'.toStep; refine jm ?_; refine jn rfl ?_; refine jz ?_; exact ⟨rfl, rfl⟩; apply jjT; exact rfl; rintro w' hq'; have := hq'.toStep; refine jN rfl rfl rfl ?_; refine jz ?_; exact ⟨rfl, rfl⟩; apply jjT; exact rfl; rintro w' hq'; have := hq'.toStep; refine jH _ rfl rfl rfl (by omega) ?_; refine jz ?_; exact ⟨rfl, rfl⟩; apply jjT; exact rfl; rintro w' hq'; have := hq'.toStep; refine jm ?_; refine jn rfl ?_; refine jz ?_; exact ⟨rfl, rfl⟩; apply jjT; exact rfl; rintro w' hq'; have := hq'.toStep; refine jP rfl rfl rfl ?_; refine jz ?_; exact ⟨rfl, rfl⟩; apply jjT; exact rfl; rintro w' hq'; have := hq'.toStep; refine jm ?_; refine jn rfl ?_; refine jz ?_; exact ⟨rfl, rfl⟩; apply jjT; exact rfl; rintro w' hq'; have := hq'.toStep; refine jN rfl rfl rfl ?_; refine jz ?_; exact ⟨rfl, rfl⟩; apply jjT; exact rfl; rintro w' hq'; have := hq'.toStep; refine jG rfl rfl rfl (by omega) ?_; refine jz ?_; exact ⟨rfl, rfl⟩; refine jjU ?_)))
  refine jjV [10] (by decide +kernel) hS1.ext (jjT (v := .slice (some ⟨bw, ow, none⟩) wl.length wc) rfl (fun w' q1 => ?_) (jjU ?_)); (refine jR ((hAl'.ext (hE1.trans q1)).get (i := 0) rfl) rfl rfl ?_; refine jz ?_; exact ⟨rfl, rfl⟩)
  refine jjV [11, 12, 13] (by decide +kernel) hS1.ext ?_
  (((apply jjT; exact rfl; rintro w' hq'; have := hq'.toStep; refine jm ?_; refine jn rfl ?_; refine jz ?_; exact ⟨rfl, rfl⟩; apply jjT; exact rfl; rintro w' hq'; have := hq'.toStep; refine jN rfl rfl rfl ?_; refine jz ?_; exact ⟨rfl, rfl⟩; apply jjT; exact rfl; rintro w' hq'; have := hq'.toStep; refine jG rfl rfl rfl (by omega) ?_; refine jz ?_; exact ⟨rfl, rfl⟩; refine jjU ?_)))
  refine jjV [14] (by decide +kernel) hS1.ext (jjT (v := .string wl[q]) rfl (fun w' q1 => ?_) (jjU ?_)); (refine jR ((hAw'.ext (hE1.trans q1)).get (i := 0) rfl) rfl rfl ?_; refine jz ?_; exact ⟨rfl, rfl⟩)
  (refine jjV [15] ?_ ?_ ?_; (decide +kernel); (exact hS1.ext); (((apply jjT; exact rfl; rintro w' hq'; apply jJ; exact eT rfl; refine jz ?_; exact ⟨rfl, rfl⟩; refine jjU ?_))))
  refine jjX (by decide +kernel) hS1.ext ?_
  (refine jjF ?_; refine jB rfl rfl ⟨inferInstance, ?_⟩)
  exact rfl
end
end Go.Proofs.YtpbkphaceljclaaGreatDoor

/- The reference: Vocabulary. -/
namespace Go.Proofs.YtpbkphaceljclaaGreatDoor
open Go.RowKit

/-- Where a word is put. -/
def posV (w : ByteArray) (l : List ByteArray) : Nat := (l.takeWhile fun x => decide (cmpS x w = -1)).length
theorem posV_le (w : ByteArray) (l : List ByteArray) : posV w l ≤ l.length := (List.takeWhile_sublist _).length_le
theorem posV_lt {w : ByteArray} : ∀ {l : List ByteArray} {j : Nat}, j < posV w l → ∃ (h : j < l.length), cmpS l[j] w = -1
  | [], j, h => by simp [posV] at h
  | x :: l, j, h => by
    by_cases e : cmpS x w = -1
    · have e1 : posV w (x :: l) = posV w l + 1 := by rw [posV, List.takeWhile_cons, if_pos (decide_eq_true e)]; rfl
      cases j with
      | zero => exact ⟨by simp, e⟩
      | succ j =>
        obtain ⟨h1, h2⟩ := posV_lt (w := w) (l := l) (j := j) (by omega)
        exact ⟨by simpa using h1, by simpa using h2⟩
    · have e1 : posV w (x :: l) = 0 := by rw [posV, List.takeWhile_cons, if_neg (by simp [e])]; rfl
      omega
theorem posV_at {w : ByteArray} {l : List ByteArray} (h : posV w l < l.length) : cmpS l[posV w l] w ≠ -1 := by
  intro hc
  have h2 : ∀ {l : List ByteArray} (h : (l.takeWhile fun x => decide (cmpS x w = -1)).length < l.length), decide (cmpS (l[(l.takeWhile fun x => decide (cmpS x w = -1)).length]) w = -1) = false := fun {l} => by
    induction l with
    | nil => intro h; simp at h
    | cons x l ih =>
      intro h
      by_cases e : cmpS x w = -1
      · have e1 : ((x :: l).takeWhile fun x => decide (cmpS x w = -1)) = x :: (l.takeWhile fun x => decide (cmpS x w = -1)) := by rw [List.takeWhile_cons, if_pos (decide_eq_true e)]
        simp only [e1, List.length_cons, List.getElem_cons_succ]
        exact ih (by rw [e1] at h; simpa using h)
      · have e1 : ((x :: l).takeWhile fun x => decide (cmpS x w = -1)) = [] := by rw [List.takeWhile_cons, if_neg (by simp [e])]
        simp only [e1, List.length_nil, List.getElem_cons_zero]
        exact decide_eq_false e
  have := h2 h
  rw [decide_eq_false_iff_not] at this
  exact this hc
section rules
variable {P : Program} {ro : Option Nat} {n : Nat} {all rest : List Oper} {K : Sl → World → Prop} {s : Sl} {w : World} {ty : Nat} {pos : String} {af : Array Edge} {x y : Operand}
theorem OpsS.store {B e b m c i t bytes : Nat} {l : List ByteArray} {u : ByteArray} {z : Value} (hO : OwnL w B e false 1 (.slice (some ⟨b, 0, none⟩) m c) (l.map strV)) (hi : i < l.length) (hx : ev n s x = .pointer (some ⟨b, 0 + i, none⟩)) (hy : ev n s y = .string u) [hz : TS P t z 1 bytes]
    (h : ∀ w' o, PutO w w' b o → OwnL w' B e false 1 (.slice (some ⟨b, 0, none⟩) m c) ((l.set i u).map strV) → Ops P ro n all rest K s w') : Ops P ro n all (⟨none, .store t x y, ty, pos, af, none⟩ :: rest) K s w := by
  rw [Nat.zero_add] at hx
  refine Ops.storeL (B := B) (e := e) (agg := false) (k := 1) (xs := l.map strV) (u := strV u) (X := strV l[i]) (X' := strV u) (j := i) (i := 0) (g := b) hO rfl (by simp [hi]) rfl rfl rfl (by rw [Nat.mul_one, Nat.add_zero]; exact hx) hy rfl rfl ?_
  intro w' o hp hO'
  refine h w' o hp ?_
  rw [List.map_set]; exact hO'
end rules
theorem OwnL.cellS {w : World} {B e b m c i : Nat} {l : List ByteArray} (hO : OwnL w B e false 1 (.slice (some ⟨b, 0, none⟩) m c) (l.map strV)) (hi : i < l.length) : w.cell? ⟨b, 0 + i, none⟩ = some (strV l[i]) := by
  obtain ⟨b', o, he, hA⟩ := RowV.place' (j := i) (x := strV l[i]) hO.row (by simp [hi])
  cases he
  have h0 := hA.h 0 (strV l[i]) rfl
  simpa using h0
theorem shiftV {l : List ByteArray} {y : ByteArray} {m : Nat} (h0 : 0 < m) (hm : m ≤ l.length) : (l.take m ++ y :: l.drop m).set m (l[m - 1]'(by omega)) = l.take (m - 1) ++ l[m - 1]'(by omega) :: l.drop (m - 1) := by
  rw [set_mid (by rw [List.length_take]; omega)]
  have e1 : l.take m = l.take (m - 1) ++ [l[m - 1]'(by omega)] := by
    conv => lhs; rw [show m = (m - 1) + 1 by omega]
    rw [List.take_add_one, List.getElem?_eq_getElem (by omega)]; rfl
  have e2 : l.drop (m - 1) = l[m - 1]'(by omega) :: l.drop m := by
    rw [List.drop_eq_getElem_cons (by omega)]
    congr 2; omega
  rw [e1, e2, List.append_assoc]; rfl
theorem put_at {l : List ByteArray} {y u : ByteArray} {m : Nat} (hm : m ≤ l.length) : (l.take m ++ y :: l.drop m).set m u = l.take m ++ u :: l.drop m := set_mid (by rw [List.length_take]; omega)
theorem word_place {t : Tx} {i : Nat} {p : Pl} {s : ByteArray} (h : (allW t t.length)[i]? = some (p, s)) : placeB t p = true ∧ wordT t p = s := by
  obtain ⟨k, n, q, hk, hn, hq, rfl, rfl⟩ := allW_word h
  exact ⟨placeB_yes hk hn hq, wordT_at hk hn hq⟩
section
variable (a : Option Addr) (c : Nat) (cs : List Ch) (w : World) [hrow : RowI w (.slice a cs.length c) true 2 (cs.map encCh)] [hT : TextI w cs]
set_option maxHeartbeats 8000000 in
theorem Vocabulary_ref1 (hs : SmallT cs) : Ct Tryz.prog 29 [.agg #[.slice a cs.length c]] w fun v w' => ∃ sv, v = .tuple #[sv, .int .i64 (vocR (txF cs)).2] ∧ OwnL w' w.heap.size 9 false 1 sv ((vocR (txF cs)).1.map strV) := by
  refine Ct.ofW (by simp) ?_
  (refine jjB ?_; refine jjC ?_)
  (refine jy rfl ?_; intro b1 w_b1 hb_b1 hs_b1 hS_b1 hk_b1; have hA_b1 := At.ofBlock hk_b1)
  (apply jJ; exact eS rfl; apply jJ; exact eI rfl; refine jz ?_; refine jjB ?_; refine jjB ?_; refine jjC ?_; refine jO rfl rfl rfl rfl ?_)
  obtain ⟨T, hTT⟩ : ∃ T, textB (txF cs) = T := ⟨_, rfl⟩
  refine jjQ ((Text_ref1 a c cs _ hs).mono fun v _ _ h => h.trans (by rw [hTT])) rfl rfl ?_
  rintro _ w4 hS4 rfl
  rw [vocR, hTT]
  cases T with
  | false =>
    (refine jq rfl ?_; refine jz ?_; refine jjJ rfl ?_; refine jjB ?_; refine jjC ?_; apply jJ; exact eS rfl; apply jJ; exact eI rfl; refine jz ?_; refine jjF ?_; refine jC rfl rfl rfl ⟨inferInstance, ?_⟩)
    exact ⟨_, rfl, OwnL.nil _ _ _ _ _⟩
  | true =>
  rw [if_pos rfl]
  have hal := allW_small hTT
  have hll := allW_len (txF cs) (txF cs).length
  (refine jp rfl ?_; refine jz ?_; refine jjK rfl ?_; refine jjG ?_; refine jjB ?_; refine jjC ?_; apply jJ; exact eS rfl; refine jz ?_; refine jjB ?_; refine jjC ?_; refine jO rfl rfl rfl rfl ?_)
  refine jjQ (All_ref1 a c cs _ hs) rfl rfl ?_
  rintro av w5 hS5 hOa
  have hfst := allW_fst (txF cs) (txF cs).length
  have hpl : ∀ i (hi : i < (allP (txF cs) (txF cs).length).length), ∃ s, (allW (txF cs) (txF cs).length)[i]? = some ((allP (txF cs) (txF cs).length)[i], s) := fun i hi => by
    have hi' : i < (allW (txF cs) (txF cs).length).length := by omega
    refine ⟨((allW (txF cs) (txF cs).length)[i]).2, ?_⟩
    rw [List.getElem?_eq_getElem hi']
    have : (allP (txF cs) (txF cs).length)[i] = ((allW (txF cs) (txF cs).length)[i]).1 := by
      have h2 := congrArg (·[i]?) hfst
      simp only [List.getElem?_map, List.getElem?_eq_getElem hi', List.getElem?_eq_getElem hi, Option.map_some] at h2
      exact (Option.some.inj h2).symm
    rw [this]
  obtain ⟨ps, hps⟩ : ∃ ps, allP (txF cs) (txF cs).length = ps := ⟨_, rfl⟩
  rw [hps] at hOa hll
  simp only [hps] at hpl
  have hwl : (wsOf (txF cs)).length = ps.length := by rw [wsOf, List.length_map, hll]
  obtain ⟨aa, ac, eav⟩ := hOa.slice
  rw [List.length_map] at eav
  subst eav
  have hE5 : Ext w w5 := inferInstance
  have zE5 := hE5.size
  have y1 : At w5 b1 0 [.slice a cs.length c] := inferInstance
  have i5 : RowI w5 (.slice aa ps.length ac) true 3 (ps.map encPl) := ⟨hOa.row⟩
  (apply jJ; exact eS rfl; refine jz ?_; refine jjB ?_; refine jjB ?_; refine jjC ?_; apply jJ; exact eI rfl; refine jz ?_; refine jjD ?_)
  refine W.keep0 [(1, .pointer (some ⟨b1, 0, none⟩)), (4, .slice none 0 0), (5, .slice aa ps.length ac), (6, .int .i64 ((0 : Nat) : Int))] ⟨eP rfl, eS rfl, eS rfl, eI rfl, trivial⟩ fun s0 => ?_
  refine W.loopG (15 :: 16 :: 17 :: 18 :: 21 :: 22 :: 23 :: 24 :: 25 :: 26 :: 7 :: 8 :: 27 :: 28 :: 29 :: 30 :: 31 :: 32 :: 33 :: 34 :: 35 :: 36 :: 37 :: 38 :: 39 :: 40 :: 41 :: 42 :: 43 :: 44 :: 45 :: 46 :: 47 :: 48 :: 49 :: 50 :: 51 :: 52 :: 53 :: 54 :: 55 :: 4 :: 56 :: 57 :: 58 :: 9 :: 59 :: 60 :: 61 :: 64 :: 65 :: 66 :: 67 :: 68 :: 69 :: 70 :: 71 :: 62 :: 63 :: 72 :: 73 :: 74 :: 75 :: 19 :: 20 :: 6 :: []) (fun g s' V => ∃ (i : Nat) (ov : Value), s' 6 = .int .i64 ((i : Nat) : Int) ∧ s' 4 = ov ∧ g = ps.length - i ∧ i ≤ ps.length ∧ Ext w5 V ∧ OwnL V w5.heap.size 9 false 1 ov ((vocL ((wsOf (txF cs)).take i)).map strV)) ps.length ⟨0, _, rfl, rfl, rfl, Nat.zero_le _, .refl _, OwnL.nil _ _ _ _ _⟩ ?_
  rintro _ sd V ⟨i, ov, h6, h4, rfl, hi, hEV, hO⟩
  obtain ⟨l, hl⟩ : ∃ l, vocL ((wsOf (txF cs)).take i) = l := ⟨_, rfl⟩
  rw [hl] at hO
  obtain ⟨va, vc, eov⟩ := hO.slice
  rw [List.length_map] at eov
  subst eov
  refine W.fix (d := 6) h6 (W.fix (d := 4) h4 ?_)
  clear h6 h4
  have hsV : Step w5 V := hEV.toStep
  by_cases hil : i < ps.length
  rotate_left
  · obtain rfl : i = ps.length := by omega
    rw [← hwl, List.take_length] at hl
    (refine jjB ?_; refine jjB ?_; refine jjC ?_; apply jI; exact eI rfl; apply jI; exact eS rfl; refine jh rfl ?_; refine jja rfl rfl (by omega) ?_; refine jz ?_; refine jjK rfl ?_; refine jjE ?_; refine jjB ?_; refine jjC ?_; apply jI; exact eS rfl; apply jJ; exact eS rfl; apply jJ; exact eI rfl; refine jz ?_; refine jjF ?_; refine jC rfl rfl rfl ⟨inferInstance, ?_⟩)
    rw [hl]
    exact ⟨_, rfl, hO.mono zE5⟩
  obtain ⟨u, hu⟩ := hpl i hil
  obtain ⟨hpb, hwt⟩ := word_place hu
  have hnext : vocL ((wsOf (txF cs)).take (i + 1)) = insV u l := by
    rw [List.take_add_one, wsOf_get hu]
    simp only [Option.toList_some]
    rw [vocL_snoc, hl]
  have hll6 : l.length ≤ 600 := by
    rw [← hl]
    refine Nat.le_trans (voc_len _) ?_
    rw [List.length_take]; omega
  (refine jjB ?_; refine jjB ?_; refine jjC ?_; apply jI; exact eI rfl; apply jI; exact eS rfl; refine jh rfl ?_; refine jjZ rfl rfl (by omega) ?_; refine jz ?_; refine jjJ rfl ?_; refine jjG ?_; refine jjB ?_; refine jjD ?_; refine jjB ?_)
  have hz := (i5.h.ext hEV).place' (map_get hil)
  obtain ⟨pb, po, rfl, hAp'⟩ := hz
  have hAp : At V pb (po + i * 3) (encPl ps[i]).cells.toList := hAp'
  have r6 : RowI V (.slice a cs.length c) true 2 (cs.map encCh) := ⟨hrow.h.ext (hE5.trans hEV)⟩
  have t6 : TextI V cs := hT.ext (hE5.trans hEV)
  refine W.draw (fun w' => Ext V w') ?_
  intro w6 hS6
  (refine jjV [0, 1, 2, 3, 4] ?_ ?_ ?_; (decide +kernel); (exact hS6.ext); (((apply jjT; exact rfl; rintro w' hq; have := hq.toStep; refine jO rfl rfl rfl rfl ?_; refine jz ?_; exact ⟨rfl, rfl⟩; apply jjT; exact rfl; rintro w' hq; have := hq.toStep; apply jI; exact eS rfl; refine jz ?_; exact ⟨rfl, rfl⟩; apply jjT; exact rfl; rintro w' hq; have := hq.toStep; apply jI; exact eI rfl; refine jz ?_; exact ⟨rfl, rfl⟩; apply jjT; exact rfl; rintro w' hq; have := hq.toStep; refine jH _ rfl rfl rfl (by omega) ?_; refine jz ?_; exact ⟨rfl, rfl⟩; apply jjT; exact rfl; rintro w' hq; have := hq.toStep; refine jQ rfl rfl ?_; refine jz ?_; exact ⟨rfl, rfl⟩; refine jjU ?_))))
  (apply jjW 5; (decide +kernel); exact rfl; (exact hS6.ext))
  refine jjQ ((WordAt_ref1 a c cs _ ps[i] hpb).mono fun v _ _ h => h.trans (by rw [hwt])) rfl rfl ?_
  rintro _ w7 hS7 rfl
  refine jz ?_
  have e7 : Ext V w7 := hS6.ext.trans hS7.ext
  (refine jjV [6] ?_ ?_ ?_; (decide +kernel); (exact e7); (((apply jjT; exact rfl; rintro w' hq; apply jJ; exact eT rfl; refine jz ?_; exact ⟨rfl, rfl⟩; refine jjU ?_))))
  refine jjX (by decide +kernel) e7 ?_
  have hO7 := hO.ext e7
  have hE57 : Ext w5 w7 := hEV.trans e7
  (refine jjB ?_; refine jjC ?_; apply jJ; exact eI rfl; refine jz ?_; refine jjB ?_; refine jjD ?_)
  refine W.keep [(1, .pointer (some ⟨b1, 0, none⟩)), (4, .slice va l.length vc), (5, .slice (some ⟨pb, po, none⟩) ps.length ac), (6, .int .i64 ((i : Nat) : Int)), (7, .string u), (8, .int .i64 ((0 : Nat) : Int))] (D := (15 :: 16 :: 17 :: 18 :: 21 :: 22 :: 23 :: 24 :: 25 :: 26 :: 7 :: 8 :: 27 :: 28 :: 29 :: 30 :: 31 :: 32 :: 33 :: 34 :: 35 :: 36 :: 37 :: 38 :: 39 :: 40 :: 41 :: 42 :: 43 :: 44 :: 45 :: 46 :: 47 :: 48 :: 49 :: 50 :: 51 :: 52 :: 53 :: 54 :: 55 :: 4 :: 56 :: 57 :: 58 :: 9 :: 59 :: 60 :: 61 :: 64 :: 65 :: 66 :: 67 :: 68 :: 69 :: 70 :: 71 :: 62 :: 63 :: 72 :: 73 :: 74 :: 75 :: 19 :: 20 :: 6 :: [])) (sO := upds s0 _) (by ((refine Same.upd rfl ?_; refine Same.upd rfl ?_; refine Same.upd rfl ?_; refine Same.upd rfl ?_; refine Same.upd rfl ?_; refine Same.upd rfl ?_; refine Same.upd rfl ?_; refine Same.upd rfl ?_; refine Same.upd rfl ?_; refine Same.upd rfl ?_; refine Same.upd rfl ?_; refine Same.upd rfl ?_; refine Same.upd rfl ?_; refine Same.upd rfl ?_; exact Same.ovN))) ⟨eP rfl, eS rfl, eS rfl, eI rfl, eT rfl, eI rfl, trivial⟩ fun s1 hs1' => ?_
  have hposl := posV_le u l
  have hposlt := fun j => posV_lt (w := u) (l := l) (j := j)
  have hposat := posV_at (w := u) (l := l)
  have hins : l[posV u l]? ≠ some u → insV u l = l.take (posV u l) ++ u :: l.drop (posV u l) := fun h => by
    rw [insV_split (w := u) (l := l) (i := posV u l) (fun j hj hjp => (hposlt j hjp).2) hposat hposl, if_neg h]
  have hinsE : l[posV u l]? = some u → insV u l = l := fun h => by
    rw [insV_split (w := u) (l := l) (i := posV u l) (fun j hj hjp => (hposlt j hjp).2) hposat hposl, if_pos h]
  generalize posV u l = pos at *
  have iL7 : RowI w7 (.slice va l.length vc) false 1 (l.map strV) := ⟨hO7.row⟩
  refine W.loop (27 :: 28 :: 29 :: 30 :: 31 :: 32 :: 33 :: 34 :: 35 :: 36 :: 37 :: 38 :: 39 :: 40 :: 8 :: []) (fun g s' V' => ∃ j : Nat, s' 8 = .int .i64 ((j : Nat) : Int) ∧ g = pos - j ∧ j ≤ pos) pos ⟨0, rfl, rfl, Nat.zero_le _⟩ ?_
  rintro _ sd2 V2 hS2 ⟨j, h8, rfl, hj⟩
  refine W.fix (d := 8) h8 ?_
  clear h8
  by_cases hjp : j < pos
  · obtain ⟨hjl, hlt⟩ := hposlt j hjp
    obtain ⟨x, hx⟩ : ∃ x, l[j] = x := ⟨_, rfl⟩
    rw [hx] at hlt
    (refine jjB ?_; refine jjB ?_; refine jjC ?_; apply jI; exact eI rfl; apply jI; exact eS rfl; refine jh rfl ?_; refine jjZ rfl rfl (by omega) ?_; apply jI; exact eB rfl; refine jT rfl rfl rfl ?_; apply jI; exact eS rfl; refine jT rfl rfl rfl ?_; apply jI; exact eI rfl; refine jT rfl rfl rfl ?_; refine jF rfl rfl rfl (map_get (by omega)) ?_; intro _ _ _; refine jT rfl rfl rfl ?_; refine jQ rfl rfl ?_; refine jT rfl rfl rfl ?_; apply jI; exact eT rfl; refine jT rfl rfl rfl ?_)
    rw [hx]
    skip
    refine Ops.lssS rfl rfl ?_
    rw [(cmpS_lt x u).1 hlt]
    (apply jK rfl; exact eB rfl; refine jz ?_; refine jjJ rfl ?_; refine jjG ?_; refine jjD ?_; refine jjC ?_; apply jI; exact eI rfl; refine jY rfl rfl (by omega) ?_; apply jJ; exact eI rfl; refine jz ?_)
    exact ⟨rfl, by ((refine Same.upd rfl ?_; refine Same.upd rfl ?_; refine Same.upd rfl ?_; refine Same.upd rfl ?_; refine Same.upd rfl ?_; refine Same.upd rfl ?_; refine Same.upd rfl ?_; refine Same.upd rfl ?_; refine Same.upd rfl ?_; refine Same.upd rfl ?_; refine Same.upd rfl ?_; refine Same.upd rfl ?_; refine Same.upd rfl ?_; refine Same.upd rfl ?_; refine Same.upd rfl ?_; refine Same.upd rfl ?_; exact Same.ovN)), pos - (j + 1), by omega, inferInstance, j + 1, congrArg (Value.int .i64) (by omega), rfl, by omega⟩
  obtain rfl : j = pos := by omega
  have hO2 := hO7.ext hS2.ext
  have hE2 : Ext w5 V2 := hE57.trans hS2.ext
  have hend : ∀ (V4 : World) (v4 : Value) (l4 : List ByteArray), insV u l = l4 → OwnL V4 w5.heap.size 9 false 1 v4 (l4.map strV) → OwnL V4 w5.heap.size 9 false 1 v4 ((vocL ((wsOf (txF cs)).take (i + 1))).map strV) := fun V4 v4 l4 h1 h2 => by rw [hnext, h1]; exact h2
  by_cases hjl : j < l.length
  case' neg =>
    have hni : insV u l = l.take j ++ u :: l.drop j := hins (by rw [List.getElem?_eq_none (by omega)]; simp)
    (refine jjB ?_; refine jjB ?_; refine jjC ?_; apply jI; exact eI rfl; apply jI; exact eS rfl; refine jh rfl ?_; refine jja rfl rfl (by omega) ?_; apply jI; exact eB rfl; refine jU rfl rfl rfl rfl ?_; refine jU rfl rfl rfl rfl ?_; refine jU rfl rfl rfl rfl ?_; refine jU rfl rfl rfl rfl ?_; refine jU rfl rfl rfl rfl ?_; refine jU rfl rfl rfl rfl ?_; apply jL rfl; exact eB rfl; refine jz ?_; refine jjK rfl ?_; refine jjE ?_; refine jjB ?_; refine jjC ?_; apply jI; exact eI rfl; apply jI; exact eS rfl; refine jh rfl ?_; refine jjh rfl rfl (by omega) ?_; apply jI; exact eB rfl; refine jU rfl rfl rfl rfl ?_; refine jU rfl rfl rfl rfl ?_; refine jU rfl rfl rfl rfl ?_; refine jU rfl rfl rfl rfl ?_; refine jU rfl rfl rfl rfl ?_; refine jU rfl rfl rfl rfl ?_; apply jK rfl; exact eB rfl; refine jz ?_; refine jjJ rfl ?_; refine jjB ?_; refine jjC ?_; apply jI; exact eS rfl)
  case' pos =>
    obtain ⟨x, hx⟩ : ∃ x, l[j] = x := ⟨_, rfl⟩
    have hge := hposat hjl
    rw [hx] at hge
    (refine jjB ?_; refine jjB ?_; refine jjC ?_; apply jI; exact eI rfl; apply jI; exact eS rfl; refine jh rfl ?_; refine jjZ rfl rfl (by omega) ?_; apply jI; exact eB rfl; refine jT rfl rfl rfl ?_; apply jI; exact eS rfl; refine jT rfl rfl rfl ?_; apply jI; exact eI rfl; refine jT rfl rfl rfl ?_; refine jF rfl rfl rfl (map_get (by omega)) ?_; intro _ _ _; refine jT rfl rfl rfl ?_; refine jQ rfl rfl ?_; refine jT rfl rfl rfl ?_; apply jI; exact eT rfl; refine jT rfl rfl rfl ?_)
    rw [hx]
    skip
    refine Ops.lssS rfl rfl ?_
    rw [show Op.bytesLess x.toList u.toList = false from by
      cases hb : Op.bytesLess x.toList u.toList with
      | false => rfl
      | true => exact absurd ((cmpS_lt x u).2 hb) hge]
    (apply jK rfl; exact eB rfl; refine jz ?_; refine jjK rfl ?_; refine jjE ?_; refine jjB ?_; refine jjC ?_; apply jI; exact eI rfl; apply jI; exact eS rfl; refine jh rfl ?_; refine jji rfl rfl (by omega) ?_; apply jI; exact eB rfl; refine jT rfl rfl rfl ?_; apply jI; exact eS rfl; refine jT rfl rfl rfl ?_; apply jI; exact eI rfl; refine jT rfl rfl rfl ?_; refine jF rfl rfl rfl (map_get (by omega)) ?_; intro _ _ _; refine jT rfl rfl rfl ?_; refine jQ rfl rfl ?_; refine jT rfl rfl rfl ?_; apply jI; exact eT rfl; refine jT rfl rfl rfl ?_)
    rw [hx]
    refine Ops.neqS rfl rfl ?_
    by_cases e : x = u
    · rw [decide_eq_false (p := ¬ x = u) (fun h => h e)]
      (apply jL rfl; exact eB rfl; refine jz ?_; refine jjK rfl ?_; refine jjG ?_; refine jjC ?_; apply jI; exact eI rfl; refine jY rfl rfl (by omega) ?_; apply jJ; exact eI rfl; refine jz ?_)
      exact ⟨rfl, by ((refine Same.upd rfl ?_; refine Same.upd rfl ?_; refine Same.upd rfl ?_; refine Same.upd rfl ?_; refine Same.upd rfl ?_; refine Same.upd rfl ?_; refine Same.upd rfl ?_; refine Same.upd rfl ?_; refine Same.upd rfl ?_; refine Same.upd rfl ?_; refine Same.upd rfl ?_; refine Same.upd rfl ?_; refine Same.upd rfl ?_; refine Same.upd rfl ?_; refine Same.upd rfl ?_; refine Same.upd rfl ?_; refine Same.upd rfl ?_; refine Same.upd rfl ?_; refine Same.upd rfl ?_; refine Same.upd rfl ?_; refine Same.upd rfl ?_; refine Same.upd rfl ?_; refine Same.upd rfl ?_; refine Same.upd rfl ?_; refine Same.upd rfl ?_; refine Same.upd rfl ?_; refine Same.upd rfl ?_; refine Same.upd rfl ?_; refine Same.ovN' rfl ?_; assumption)), ps.length - (i + 1), by omega, i + 1, _, congrArg (Value.int .i64) (by omega), rfl, rfl, by omega, hE2, hend _ _ _ (hinsE (by rw [List.getElem?_eq_getElem hjl, hx, e])) hO2⟩
    rw [decide_eq_true (p := ¬ x = u) e]
    have hni : insV u l = l.take j ++ u :: l.drop j := hins (by rw [List.getElem?_eq_getElem hjl, hx]; exact fun h => e (Option.some.inj h))
    (apply jL rfl; exact eB rfl; refine jz ?_; refine jjJ rfl ?_; refine jjB ?_; refine jjC ?_; apply jI; exact eS rfl)
  all_goals (
    (refine jjP (v := .string _) rfl (by exact rfl) (by exact rfl) (by exact rfl) (by exact rfl) ?_; intro b54 w_b54 hb_b54 hs_b54 hS_b54 hk_b54; have hR_b54 := RowV.one (agg := false) (k := 1) rfl hk_b54)
    have e54 := hS_b54.ext
    have hR54 : RowV w_b54 false 1 (.slice (some ⟨b54, 0, none⟩) 1 1) ([(⟨#[]⟩ : ByteArray)].map strV) := hR_b54
    have z54 := e54.size
    skip
    refine Ops.appendL (hO2.ext e54) (by have := hE2.size; omega) hR54 rfl rfl rfl rfl (str_one _) (by simp only [List.length_map, List.length_cons, List.length_nil]; omega) (by simp only [List.length_map, List.length_cons, List.length_nil]; omega) ?_
    intro v3 V3 hA3 hO3 _ _
    rw [← List.map_append] at hO3
    obtain ⟨a3, c3, ev3⟩ := hO3.slice
    rw [List.length_map] at ev3
    subst ev3
    obtain ⟨g3, rfl, hg3, hOg⟩ := hO3.self (by simp)
    have hE3 : Ext w5 V3 := hA3.ext (hE2.trans e54) (Nat.le_refl _)
    have hl3 : (l ++ [(⟨#[]⟩ : ByteArray)]).length = l.length + 1 := by simp
    repeat' (first|((first|apply jI|apply jJ); (first|exact eI rfl|exact eS rfl))|(refine jW ?_; refine jZ rfl rfl (by omega) ?_)|(refine jg ?_; refine jh rfl ?_)|refine jz ?_|(refine jjA ?_; (first|refine jjB ?_|refine jjC ?_|refine jjD ?_)))
    refine W.keep [(1, .pointer (some ⟨b1, 0, none⟩)), (4, .slice (some ⟨g3, 0, none⟩) (l ++ [(⟨#[]⟩ : ByteArray)]).length c3), (5, .slice (some ⟨pb, po, none⟩) ps.length ac), (6, .int .i64 ((i : Nat) : Int)), (7, .string u), (8, .int .i64 ((j : Nat) : Int)), (9, .int .i64 (((l ++ [(⟨#[]⟩ : ByteArray)]).length : Int) - 1))] (D := (15 :: 16 :: 17 :: 18 :: 21 :: 22 :: 23 :: 24 :: 25 :: 26 :: 7 :: 8 :: 27 :: 28 :: 29 :: 30 :: 31 :: 32 :: 33 :: 34 :: 35 :: 36 :: 37 :: 38 :: 39 :: 40 :: 41 :: 42 :: 43 :: 44 :: 45 :: 46 :: 47 :: 48 :: 49 :: 50 :: 51 :: 52 :: 53 :: 54 :: 55 :: 4 :: 56 :: 57 :: 58 :: 9 :: 59 :: 60 :: 61 :: 64 :: 65 :: 66 :: 67 :: 68 :: 69 :: 70 :: 71 :: 62 :: 63 :: 72 :: 73 :: 74 :: 75 :: 19 :: 20 :: 6 :: [])) (sO := upds s0 _) (by (repeat' (first|assumption|refine Same.upd rfl ?_|refine Same.ovN' rfl ?_))) ⟨eP rfl, eS rfl, eS rfl, eI rfl, eT rfl, eI rfl, eI rfl, trivial⟩ fun s2 hs2' => ?_
    refine W.loopG (59 :: 60 :: 61 :: 64 :: 65 :: 66 :: 67 :: 68 :: 69 :: 70 :: 71 :: 62 :: 63 :: 9 :: []) (fun g s' V' => ∃ (m : Nat) (y : ByteArray), s' 9 = .int .i64 ((m : Nat) : Int) ∧ g = m - j ∧ j ≤ m ∧ m ≤ l.length ∧ Ext w5 V' ∧ OwnL V' g3 9 false 1 (.slice (some ⟨g3, 0, none⟩) (l ++ [(⟨#[]⟩ : ByteArray)]).length c3) ((l.take m ++ y :: l.drop m).map strV)) (l.length - j) ⟨l.length, _, congrArg (Value.int .i64) (by rw [hl3]; omega), rfl, hposl, Nat.le_refl _, hE3, by rw [List.take_length, List.drop_length]; exact hOg⟩ ?_
    rintro _ sd3 V4 ⟨m, y, h9, rfl, hjm, hml, hE4, hO4⟩
    refine W.fix (d := 9) h9 ?_
    clear h9
    have hL4 : (l.take m ++ y :: l.drop m).length = l.length + 1 := by rw [List.length_append, List.length_take, List.length_cons, List.length_drop]; omega
    by_cases hmj : j < m
    · have hm1 : (m : Int) - 1 = ((m - 1 : Nat) : Int) := by omega
      have hc := hO4.cellS (i := m - 1) (by omega)
      rw [show (l.take m ++ y :: l.drop m)[m - 1]'(by omega) = l[m - 1]'(by omega) from by rw [List.getElem_append_left (by rw [List.length_take]; omega), List.getElem_take]] at hc
      repeat' (first|(refine jW ?_; refine jjd rfl rfl (by omega) ?_)|(apply jI; (first|exact eI rfl|exact eS rfl))|(refine jW ?_; refine jZ rfl rfl (by omega) ?_)|refine jz ?_|(refine jjA ?_; (first|refine jjB ?_|refine jjC ?_|refine jjD ?_|refine jjG ?_|refine jjJ rfl ?_)))
      refine jG (j := m - 1) rfl rfl hm1 (by omega) ?_
      repeat' (first|(refine jM ?_; refine jR (by assumption) rfl rfl ?_)|(refine jE ?_; refine jG rfl rfl rfl (by omega) ?_))
      refine OpsS.store (i := m) hO4 (by omega) rfl rfl ?_
      intro V5 o5 hp5 hO5
      rw [shiftV (by omega) hml] at hO5
      repeat' (first|((first|apply jI|apply jJ); exact eI rfl)|(refine jW ?_; refine jZ rfl rfl (by omega) ?_)|refine jz ?_|(refine jjA ?_; refine jjC ?_))
      exact ⟨rfl, by (repeat' (first|exact Same.ovN|refine Same.upd rfl ?_)), (m - 1) - j, by omega, m - 1, _, congrArg (Value.int .i64) hm1, rfl, by omega, by omega, hp5.ext hE4 hg3, hO5⟩
    obtain rfl : m = j := by omega
    repeat' (first|(refine jW ?_; refine jje rfl rfl (by omega) ?_)|(apply jI; (first|exact eI rfl|exact eS rfl|exact eT rfl))|(refine jE ?_; refine jG rfl rfl rfl (by omega) ?_)|refine jz ?_|(refine jjA ?_; (first|refine jjB ?_|refine jjC ?_|refine jjE ?_|refine jjK rfl ?_)))
    refine OpsS.store (i := m) hO4 (by omega) rfl rfl ?_
    intro V5 o5 hp5 hO5
    rw [put_at hml] at hO5
    repeat' (first|((first|apply jI|apply jJ); exact eI rfl)|(refine jW ?_; refine jY rfl rfl (by omega) ?_)|refine jz ?_|(refine jjA ?_; refine jjC ?_))
    exact ⟨rfl, by (repeat' (first|assumption|refine Same.upd rfl ?_|refine Same.ovN' rfl ?_)), ps.length - (i + 1), by omega, i + 1, _, congrArg (Value.int .i64) (by omega), rfl, rfl, by omega, hp5.ext hE4 hg3, hend _ _ _ hni (hO5.mono hg3)⟩)
end
end Go.Proofs.YtpbkphaceljclaaGreatDoor

/- galley: tears, places. -/
namespace Go.Proofs.YtpbkphaceljclaaGreatDoor
open Go.RowKit

end Go.Proofs.YtpbkphaceljclaaGreatDoor

/- galley: plain functions. -/
namespace Go.Proofs.YtpbkphaceljclaaGreatDoor
open Go.RowKit

end Go.Proofs.YtpbkphaceljclaaGreatDoor

/- galley, plain laws: where columns may end. -/
namespace Go.Proofs.YtpbkphaceljclaaGreatDoor
open Go.RowKit

end Go.Proofs.YtpbkphaceljclaaGreatDoor

/- slices.AppendSeq, slices.Collect (of int). -/
namespace Go.Proofs.YtpbkphaceljclaaGreatDoor
open Go.RowKit


end Go.Proofs.YtpbkphaceljclaaGreatDoor

/- galley: places. -/
namespace Go.Proofs.YtpbkphaceljclaaGreatDoor
open Go.RowKit

end Go.Proofs.YtpbkphaceljclaaGreatDoor

/- galley: opened. -/
namespace Go.Proofs.YtpbkphaceljclaaGreatDoor
open Go.RowKit

end Go.Proofs.YtpbkphaceljclaaGreatDoor

/- galley: open, Total, Ends, column. -/
namespace Go.Proofs.YtpbkphaceljclaaGreatDoor
open Go.RowKit

end Go.Proofs.YtpbkphaceljclaaGreatDoor

/- The reference of galley: Galley, total, may. -/
namespace Go.Proofs.YtpbkphaceljclaaGreatDoor
open Go.RowKit

end Go.Proofs.YtpbkphaceljclaaGreatDoor

/- The reference: the galley of a text. -/
namespace Go.Proofs.YtpbkphaceljclaaGreatDoor
open Go.RowKit

theorem place_fix {w : World} {agg : Bool} {k l c j b o : Nat} {xs : List Value} {x : Value} (h : RowV w agg k (.slice (some ⟨b, o, none⟩) l c) xs) (hj : xs[j]? = some x) : At w b (o + j * k) x.cells.toList := by
  obtain ⟨b', o', e, hA⟩ := h.place' hj
  cases e
  exact hA
section
variable (a : Option Addr) (c : Nat) (cs : List Ch) (wd side : Int) (w : World) [hrow : RowI w (.slice a cs.length c) true 2 (cs.map encCh)] [hT : TextI w cs]
set_option maxHeartbeats 8000000 in
theorem Set_ref8 (hs : SmallT cs) (hd : 0 ≤ side ∧ side ≤ 255) (h : Int) : Ct Tryz.prog 10 [.agg #[.slice a cs.length c], encCut wd side, .int .i64 h] w fun v w' => ∃ ga gc, v = .tuple #[.agg #[.int .i64 (setR (txF cs) wd side h).1.1, .slice ga (setR (txF cs) wd side h).1.2.length gc], .int .i64 (setR (txF cs) wd side h).2] ∧ RowV w' true 2 (.slice ga (setR (txF cs) wd side h).1.2.length gc) ((setR (txF cs) wd side h).1.2.map encB) := by
  refine Ct.ofW (by simp) ?_
  (refine jjB ?_; refine jjC ?_)
  (refine jy rfl ?_; intro b3 w_b3 hb_b3 hs_b3 hS_b3 hk_b3; have hA_b3 := At.ofBlock hk_b3)
  skip
  (refine jy rfl ?_; intro b4 w_b4 hb_b4 hs_b4 hS_b4 hk_b4; have hA_b4 := At.ofBlock hk_b4)
  ((skip); refine jjY ?_; intro b6 w_b6 hb_b6 hs_b6 hS_b6 hk_b6; have hA_b6 := Bk.of hk_b6)
  (apply jJ; exact eI rfl; refine jz ?_; refine jjB ?_; refine jjC ?_; refine jO rfl rfl rfl rfl ?_; refine jO rfl rfl rfl rfl ?_)
  have hB6 : Bk w_b6 b6 [.int .i64 0, .slice none 0 0] 31 := hA_b6
  have z3 := hS_b3.size
  have z4 := hS_b4.size
  obtain ⟨e, he⟩ : ∃ e, askE (txF cs) wd side = e := ⟨_, rfl⟩
  refine jjQ ((All_ref3 a c cs wd side _ hs hd).mono fun v _ _ h => by rw [he] at h; exact h) rfl rfl ?_
  rintro _ w7 hS7 ⟨lv, rfl, hO⟩
  obtain ⟨la, lc, elv⟩ := hO.slice
  rw [List.length_map] at elv
  subst elv
  have hE7 : Ext w w7 := inferInstance
  have hB67 : Bk w7 b6 [.int .i64 0, .slice none 0 0] 31 := hB6.ext hS7.ext
  have h3in := askE_in (txF cs) wd side
  rw [he] at h3in
  by_cases h0 : e = 0
  rotate_left
  · rw [setR_ask (by rw [he]; exact h0), he]
    (apply jI; exact eU rfl; refine ju rfl rfl ?_; refine ju rfl rfl ?_; apply jJ; exact eS rfl; apply jJ; exact eI rfl; refine jz ?_; refine jjB ?_; refine jjB ?_; refine jjC ?_; apply jI; exact eI rfl; refine jjj rfl rfl (by omega) ?_; refine jz ?_; refine jjJ rfl ?_; refine jjB ?_; refine jjC ?_)
    (refine jjS (cells := [.int .i64 0, .slice none 0 0]) ?_ ?_; exact rfl)
    (apply jI; exact eI rfl)
    refine Ops.store rfl rfl rfl rfl rfl ?_
    intro V2 hp2
    have hA2 : At V2 b6 0 [.int .i64 0, .slice none 0 0] := Bk.toAt (h := Bk.of hp2.new)
    (apply jJ; exact eI rfl; refine jz ?_; refine jjF ?_)
    exact fin2C rfl rfl rfl rfl rfl rfl ⟨hp2.ext hE7 (by omega), none, 0, rfl, RowV.nilS _ _ _ _ _⟩
  obtain ⟨ht, hc⟩ := askE_zero (he.trans h0)
  have ha : askE (txF cs) wd side = 0 := he.trans h0
  have hFa := allF ht hc
  rw [allR, if_pos ha] at hO ⊢
  obtain ⟨ls, hls⟩ : ∃ ls, allS (txF cs) side wd = ls := ⟨_, rfl⟩
  rw [hls] at hO hFa ⊢
  have hl6 := hFa.len
  have hl0 := hFa.pos
  (apply jI; exact eU rfl; refine ju rfl rfl ?_; refine ju rfl rfl ?_; apply jJ; exact eS rfl; apply jJ; exact eI rfl; refine jz ?_; refine jjB ?_; refine jjB ?_; refine jjC ?_; apply jI; exact eI rfl; refine jjk rfl rfl (by omega) ?_; refine jz ?_; refine jjK rfl ?_; refine jjG ?_; refine jjB ?_; refine jjB ?_; refine jjC ?_; apply jI; exact eI rfl)
  obtain ⟨B, hB⟩ : ∃ B, inB 4 40 h = B := ⟨_, rfl⟩
  refine jjQ ((within_postilref08 h 4 40 _).mono fun v _ _ q => q.trans (by rw [hB])) rfl rfl ?_
  rintro _ w8 hS8 rfl
  have hE8 : Ext w w8 := inferInstance
  have hB68 : Bk w8 b6 [.int .i64 0, .slice none 0 0] 31 := inferInstance
  cases B with
  | false =>
    rw [setR_high ha hB]
    (refine jq rfl ?_; refine jz ?_; refine jjJ rfl ?_; refine jjB ?_; refine jjC ?_)
    (refine jjS (cells := [.int .i64 0, .slice none 0 0]) ?_ ?_; exact rfl)
    skip
    refine Ops.store rfl rfl rfl rfl rfl ?_
    intro V2 hp2
    have hA2 : At V2 b6 0 [.int .i64 0, .slice none 0 0] := Bk.toAt (h := Bk.of hp2.new)
    (apply jJ; exact eI rfl; refine jz ?_; refine jjF ?_)
    exact fin2C rfl rfl rfl rfl rfl rfl ⟨hp2.ext hE8 (by omega), none, 0, rfl, RowV.nilS _ _ _ _ _⟩
  | true =>
  (refine jp rfl ?_; refine jz ?_; refine jjK rfl ?_; refine jjG ?_; refine jjB ?_; refine jjC ?_; refine jO rfl rfl rfl rfl ?_)
  refine jjQ ((Vocabulary_ref1 a c cs _ hs).mono fun v _ _ q => by rw [vocR, if_pos ht] at q; exact q) rfl rfl ?_
  rintro _ w10 hS10 ⟨wv, rfl, hOw⟩
  obtain ⟨ws, hws⟩ : ∃ ws, vocL (wsOf (txF cs)) = ws := ⟨_, rfl⟩
  simp only [hws] at hOw
  obtain ⟨wa, wc, ewv⟩ := hOw.slice
  rw [List.length_map] at ewv
  subst ewv
  have hwl : ws.length ≤ 600 := by
    rw [← hws]
    refine Nat.le_trans (voc_len _) ?_
    rw [wsOf, List.length_map]; exact allW_small ht
  have hw0 : 0 < ws.length := by rw [← hws]; exact voc_pos ht
  have hww : ∀ x ∈ ws, wordB x = true := fun x hx => voc_word ht (by rw [hws]; exact hx)
  have hfit := galley_fit (ls := ls) hB hww hw0
  have hz := hO.row.place' (map_get hl0)
  obtain ⟨bl, ol, rfl, -⟩ := hz
  have hz := hOw.row.place' (map_get hw0)
  obtain ⟨bw, ow, rfl, -⟩ := hz
  (apply jI; exact eU rfl; refine ju rfl rfl ?_; refine ju rfl rfl ?_; apply jJ; exact eS rfl; apply jJ; exact eI rfl; refine jz ?_; refine jjB ?_; refine jjC ?_; apply jI; exact eI rfl)
  (refine jjS (cells := [.int .i64 h, .slice none 0 0]) ?_ ?_; exact rfl)
  (apply jjR rfl; (intro _; first|exact eI rfl|exact eB rfl|exact eP rfl|exact eS rfl|exact eT rfl|exact eA rfl|exact eU rfl|exact eF rfl|exact eM rfl|exact eN rfl|exact rfl); exact rfl; exact rfl; exact rfl; exact rfl; intro b12 w_b12 hb_b12 hs_b12 hS_b12 hk_b12; have hA_b12 := Bk.of hk_b12)
  (refine jz ?_; refine jjB ?_; refine jjB ?_; refine jjC ?_; apply jJ; exact eI rfl; refine jz ?_; refine jjD ?_)
  have hE15 : Ext w w_b12 := inferInstance
  have zE15 := hE15.size
  have hB615 : Bk w_b12 b6 [.int .i64 0, .slice none 0 0] 31 := inferInstance
  have hlt6 := hB68.lt
  have z10 := hS10.size
  have n615 : b6 ≠ b12 := by omega
  have rL : RowV w_b12 true 6 (.slice (some ⟨bl, ol, none⟩) ls.length lc) (ls.map encSl) := hO.row.ext inferInstance
  have rW : RowV w_b12 false 1 (.slice (some ⟨bw, ow, none⟩) ws.length wc) (ws.map strV) := hOw.row.ext inferInstance
  have hbl := (hO.block bl rfl).2
  have hbw := (hOw.block bw rfl).2
  have nbl : bl ≠ b12 := by
    have := (show Ext w7 w10 from inferInstance).size
    omega
  have nbw : bw ≠ b12 := by omega
  refine W.keep0 [(6, .pointer (some ⟨b6, 0, none⟩)), (8, .slice (some ⟨bl, ol, none⟩) ls.length lc), (10, .slice (some ⟨bw, ow, none⟩) ws.length wc), (12, .pointer (some ⟨b12, 0, none⟩)), (13, .int .i64 ((0 : Nat) : Int))] ⟨eP rfl, eS rfl, eS rfl, eP rfl, eI rfl, trivial⟩ fun s1 => ?_
  refine W.loopG (37 :: 38 :: 39 :: 40 :: 14 :: 15 :: 43 :: 44 :: 45 :: 46 :: 49 :: 50 :: 51 :: 52 :: 53 :: 54 :: 55 :: 56 :: 57 :: 58 :: 59 :: 60 :: 47 :: 48 :: 61 :: 62 :: 63 :: 7 :: 64 :: 65 :: 66 :: 67 :: 68 :: 69 :: 70 :: 71 :: 72 :: 73 :: 74 :: 41 :: 42 :: 13 :: []) (fun g s' V2 => ∃ (i : Nat) (gv : Value), s' 13 = .int .i64 ((i : Nat) : Int) ∧ g = ws.length - i ∧ i ≤ ws.length ∧ Only b12 w_b12 V2 ∧ Bk V2 b12 [.int .i64 h, gv] 31 ∧ OwnL V2 w_b12.heap.size 72 true 2 gv ((blkL ls (ws.take i)).map encB) ∧ ∀ (j : Nat) (hj : j < ws.length), j < i → cN ls ws[j] ≤ 19) ws.length ⟨0, _, rfl, rfl, Nat.zero_le _, .ofExt (.refl _), hA_b12, OwnL.nil _ _ _ _ _, by intros; omega⟩ ?_
  rintro _ sd2 V2 ⟨i, gv, h13, rfl, hi, hOn2, hB2, hOg, hsmall⟩
  refine W.fix (d := 13) h13 ?_
  clear h13
  have zOn2 := hOn2.size
  have hE2 : Ext w V2 := hOn2.ext hE15 (by omega)
  have hB62 : Bk V2 b6 [.int .i64 0, .slice none 0 0] 31 := hOn2.bk hB615 n615
  have hA12 : At V2 b12 0 [.int .i64 h, gv] := Bk.toAt (h := hB2)
  have hbll := blkL_len ls (ws.take i)
  have htk := List.length_take_le i ws
  obtain ⟨ga, gc, egv⟩ := hOg.slice
  rw [List.length_map] at egv
  subst egv
  by_cases hil : i < ws.length
  rotate_left
  · obtain rfl : i = ws.length := by omega
    rw [List.take_length] at hOg hbll hA12
    have hall : (ws.all fun x => decide (cN ls x ≤ 19)) = true := by
      rw [List.all_eq_true]
      intro x hx
      obtain ⟨j, hj, rfl⟩ := List.mem_iff_getElem.1 hx
      exact decide_eq_true (hsmall j hj hj)
    rw [hall, Bool.and_true] at hfit
    by_cases h30 : ws.length ≤ 30
    · rw [decide_eq_true h30] at hfit
      rw [setR_yes ha hB (by rw [hls, hws]; exact hfit), hls, hws]
      (refine jjB ?_; refine jjB ?_; refine jjC ?_; apply jI; exact eI rfl; apply jI; exact eS rfl; refine jh rfl ?_; refine jja rfl rfl (by omega) ?_; refine jz ?_; refine jjK rfl ?_; refine jjE ?_; refine jjB ?_; refine jjB ?_; refine jjC ?_; refine jm ?_; refine jn rfl ?_; refine jN rfl rfl rfl ?_; refine jh rfl ?_; refine jje rfl rfl (by omega) ?_; refine jz ?_; refine jjK rfl ?_; refine jjG ?_; refine jjB ?_; refine jjC ?_; refine jO rfl rfl rfl rfl ?_)
      refine Ops.store rfl rfl rfl rfl rfl ?_
      intro V3 hp3
      have hA3 : At V3 b6 0 [.int .i64 h, .slice ga (blkL ls ws).length gc] := Bk.toAt (h := Bk.of hp3.new)
      (apply jJ; exact eI rfl; refine jz ?_; refine jjF ?_)
      have hOg3 := hOg.put hp3 (fun e => by have := (hOg.block _ e).1; omega)
      exact fin2C rfl rfl rfl rfl rfl rfl ⟨hp3.ext hE2 (by omega), ga, gc, rfl, hOg3.row⟩
    · rw [decide_eq_false h30] at hfit
      rw [setR_no ha hB (by rw [hls, hws]; exact hfit)]
      (refine jjB ?_; refine jjB ?_; refine jjC ?_; apply jI; exact eI rfl; apply jI; exact eS rfl; refine jh rfl ?_; refine jja rfl rfl (by omega) ?_; refine jz ?_; refine jjK rfl ?_; refine jjE ?_; refine jjB ?_; refine jjB ?_; refine jjC ?_; refine jm ?_; refine jn rfl ?_; refine jN rfl rfl rfl ?_; refine jh rfl ?_; refine jjd rfl rfl (by omega) ?_; refine jz ?_; refine jjJ rfl ?_; refine jjB ?_; refine jjC ?_)
      (refine jjS (cells := [.int .i64 0, .slice none 0 0]) ?_ ?_; exact rfl)
      skip
      refine Ops.store rfl rfl rfl rfl rfl ?_
      intro V3 hp3
      have hA3 : At V3 b6 0 [.int .i64 0, .slice none 0 0] := Bk.toAt (h := Bk.of hp3.new)
      (apply jJ; exact eI rfl; refine jz ?_; refine jjF ?_)
      exact fin2C rfl rfl rfl rfl rfl rfl ⟨hp3.ext hE2 (by omega), none, 0, rfl, RowV.nilS _ _ _ _ _⟩
  have hgk := List.getElem?_eq_getElem hil
  have hsn := blkL_snoc (ls := ls) hgk
  obtain ⟨u, hu⟩ : ∃ u, ws[i] = u := ⟨_, rfl⟩
  rw [hu] at hsn
  have hum : u ∈ ws := hu ▸ List.getElem_mem hil
  have rL2 : RowV V2 true 6 (.slice (some ⟨bl, ol, none⟩) ls.length lc) (ls.map encSl) := hOn2.row rL (by simp only [Value.ownBlock, ne_eq, Option.some.injEq]; exact nbl)
  have rW2 : RowV V2 false 1 (.slice (some ⟨bw, ow, none⟩) ws.length wc) (ws.map strV) := hOn2.row rW (by simp only [Value.ownBlock, ne_eq, Option.some.injEq]; exact nbw)
  have hAw := place_fix rW2 (map_get hil)
  rw [hu, Nat.mul_one] at hAw
  have hAw' : At V2 bw (ow + i) [.string u] := hAw
  (refine jjB ?_; refine jjB ?_; refine jjC ?_; apply jI; exact eI rfl; apply jI; exact eS rfl; refine jh rfl ?_; refine jjZ rfl rfl (by omega) ?_; refine jz ?_; refine jjJ rfl ?_; refine jjG ?_; refine jjB ?_; refine jjD ?_; refine jjB ?_; refine jjC ?_; apply jJ; exact eI rfl; refine jz ?_; refine jjB ?_; refine jjB ?_; refine jjC ?_; apply jJ; exact eI rfl; refine jz ?_; refine jjD ?_)
  refine W.keep [(6, .pointer (some ⟨b6, 0, none⟩)), (8, .slice (some ⟨bl, ol, none⟩) ls.length lc), (10, .slice (some ⟨bw, ow, none⟩) ws.length wc), (12, .pointer (some ⟨b12, 0, none⟩)), (13, .int .i64 ((i : Nat) : Int)), (14, .int .i64 1), (15, .int .i64 ((0 : Nat) : Int))] (D := (37 :: 38 :: 39 :: 40 :: 14 :: 15 :: 43 :: 44 :: 45 :: 46 :: 49 :: 50 :: 51 :: 52 :: 53 :: 54 :: 55 :: 56 :: 57 :: 58 :: 59 :: 60 :: 47 :: 48 :: 61 :: 62 :: 63 :: 7 :: 64 :: 65 :: 66 :: 67 :: 68 :: 69 :: 70 :: 71 :: 72 :: 73 :: 74 :: 41 :: 42 :: 13 :: [])) (sO := upds s1 _) (by ((refine Same.upd rfl ?_; refine Same.upd rfl ?_; refine Same.upd rfl ?_; refine Same.upd rfl ?_; refine Same.upd rfl ?_; refine Same.upd rfl ?_; refine Same.upd rfl ?_; exact Same.ovN))) ⟨eP rfl, eS rfl, eS rfl, eP rfl, eI rfl, eI rfl, eI rfl, trivial⟩ fun s2 hs2' => ?_
  refine W.loop (43 :: 44 :: 45 :: 46 :: 49 :: 50 :: 51 :: 52 :: 53 :: 54 :: 55 :: 56 :: 57 :: 58 :: 59 :: 60 :: 14 :: 47 :: 48 :: 15 :: []) (fun g s' V => ∃ k : Nat, s' 15 = .int .i64 ((k : Nat) : Int) ∧ g = ls.length - k ∧ k ≤ ls.length ∧ s' 14 = .int .i64 (1 + (cN (ls.take k) u : Int))) ls.length ⟨0, rfl, rfl, Nat.zero_le _, rfl⟩ ?_
  rintro _ sd3 V3 hS3 ⟨k, h15, rfl, hk, h14⟩
  refine W.fix (d := 15) h15 (W.fix (d := 14) h14 ?_)
  clear h15 h14
  by_cases hkl : k < ls.length
  · have hcs := cN_snoc (List.getElem?_eq_getElem hkl) u
    have hcn := cN_le (ls.take k) u
    rw [List.length_take] at hcn
    obtain ⟨z, hz⟩ : ∃ z, ls[k] = z := ⟨_, rfl⟩
    have hAl := place_fix rL2 (map_get hkl)
    rw [hz] at hAl hcs
    have hAl' : At V2 bl (ol + k * 6) [.int .i64 z.1.1, .int .i64 z.1.2.1, .int .i64 z.1.2.2, .string z.2.1, .string z.2.2.1, .string z.2.2.2] := hAl
    clear hAl
    generalize cN (ls.take k) u = cv at *
    (refine jjB ?_; refine jjB ?_; refine jjC ?_; apply jI; exact eI rfl; apply jI; exact eS rfl; refine jh rfl ?_; refine jjZ rfl rfl (by omega) ?_; refine jz ?_; refine jjJ rfl ?_; refine jjG ?_; refine jjB ?_; refine jjD ?_; refine jjB ?_)
    refine W.draw (fun w' => Ext V3 w') ?_
    intro w1 hS1
    (refine jjV [0, 1, 2, 3, 4, 5, 6, 7] ?_ ?_ ?_; (decide +kernel); (exact hS1.ext); (((apply jjT; exact rfl; rintro w' hq; have := hq.toStep; apply jI; exact eS rfl; refine jz ?_; exact ⟨rfl, rfl⟩; apply jjT; exact rfl; rintro w' hq; have := hq.toStep; apply jI; exact eI rfl; refine jz ?_; exact ⟨rfl, rfl⟩; apply jjT; exact rfl; rintro w' hq; have := hq.toStep; refine jH _ rfl rfl rfl (by omega) ?_; refine jz ?_; exact ⟨rfl, rfl⟩; apply jjT; exact rfl; rintro w' hq; have := hq.toStep; refine jm ?_; refine jn rfl ?_; refine jz ?_; exact ⟨rfl, rfl⟩; apply jjT; exact rfl; rintro w' hq; have := hq.toStep; refine jP rfl rfl rfl ?_; refine jz ?_; exact ⟨rfl, rfl⟩; apply jjT; exact rfl; rintro w' hq; have := hq.toStep; apply jI; exact eS rfl; refine jz ?_; exact ⟨rfl, rfl⟩; apply jjT; exact rfl; rintro w' hq; have := hq.toStep; apply jI; exact eI rfl; refine jz ?_; exact ⟨rfl, rfl⟩; apply jjT; exact rfl; rintro w' hq; have := hq.toStep; refine jG rfl rfl rfl (by omega) ?_; refine jz ?_; exact ⟨rfl, rfl⟩; refine jjU ?_))))
    refine jjV [8] (by decide +kernel) hS1.ext (jjT (v := .string u) rfl (fun w' q1 => ?_) (jjU ?_)); (refine jR (((hAw'.ext hS3.ext).ext q1).get (i := 0) rfl) rfl rfl ?_; refine jz ?_; exact ⟨rfl, rfl⟩)
    refine jjV [9] (by decide +kernel) hS1.ext (jjT (v := .bool (decide (z.2.1 = u))) rfl (fun w' q1 => ?_) (jjU ?_)); (refine Ops.eqlS rfl rfl ?_; refine jz ?_; exact ⟨rfl, rfl⟩)
    refine jjX (by decide +kernel) hS1.ext ?_
    by_cases hzu : z.2.1 = u
    · rw [decide_eq_true hzu]
      rw [if_pos hzu] at hcs
      (refine jjJ rfl ?_; refine jjC ?_; apply jI; exact eI rfl; refine jY rfl rfl (by omega) ?_; apply jJ; exact eI rfl; refine jz ?_; refine jjC ?_; apply jI; exact eI rfl; refine jY rfl rfl (by omega) ?_; apply jJ; exact eI rfl; refine jz ?_)
      exact ⟨rfl, by ((refine Same.upd rfl ?_; refine Same.upd rfl ?_; refine Same.upd rfl ?_; refine Same.upd rfl ?_; refine Same.upd rfl ?_; refine Same.upd rfl ?_; refine Same.upd rfl ?_; refine Same.upd rfl ?_; refine Same.upd rfl ?_; refine Same.upd rfl ?_; refine Same.upd rfl ?_; refine Same.upd rfl ?_; refine Same.upd rfl ?_; refine Same.upd rfl ?_; refine Same.upd rfl ?_; refine Same.upd rfl ?_; refine Same.upd rfl ?_; refine Same.upd rfl ?_; refine Same.upd rfl ?_; refine Same.upd rfl ?_; refine Same.upd rfl ?_; refine Same.upd rfl ?_; exact Same.ovN)), ls.length - (k + 1), by omega, hS3.ext.trans hS1.ext, k + 1, congrArg (Value.int .i64) (by omega), rfl, by omega, congrArg (Value.int .i64) (by omega)⟩
    · rw [decide_eq_false hzu]
      rw [if_neg hzu] at hcs
      (refine jjK rfl ?_; refine jjG ?_; refine jjC ?_; apply jI; exact eI rfl; refine jY rfl rfl (by omega) ?_; apply jJ; exact eI rfl; refine jz ?_)
      exact ⟨rfl, by ((refine Same.upd rfl ?_; refine Same.upd rfl ?_; refine Same.upd rfl ?_; refine Same.upd rfl ?_; refine Same.upd rfl ?_; refine Same.upd rfl ?_; refine Same.upd rfl ?_; refine Same.upd rfl ?_; refine Same.upd rfl ?_; refine Same.upd rfl ?_; refine Same.upd rfl ?_; refine Same.upd rfl ?_; refine Same.upd rfl ?_; refine Same.upd rfl ?_; refine Same.upd rfl ?_; refine Same.upd rfl ?_; refine Same.upd rfl ?_; refine Same.upd rfl ?_; refine Same.upd rfl ?_; exact Same.ovN)), ls.length - (k + 1), by omega, hS3.ext.trans hS1.ext, k + 1, congrArg (Value.int .i64) (by omega), rfl, by omega, congrArg (Value.int .i64) (by omega)⟩
  obtain rfl : k = ls.length := by omega
  rw [List.take_length]
  have hE3 : Ext w V3 := hE2.trans hS3.ext
  have hcn := cN_le ls u
  obtain ⟨cv, hcv⟩ : ∃ cv, cN ls u = cv := ⟨_, rfl⟩
  rw [hcv] at hsn hcn ⊢
  by_cases h20 : cv ≤ 19
  rotate_left
  · have hno : (ws.all fun x => decide (cN ls x ≤ 19)) = false := by
      rw [List.all_eq_false]
      exact ⟨u, hum, by rw [hcv]; simp; omega⟩
    rw [hno, Bool.and_false] at hfit
    rw [setR_no ha hB (by rw [hls, hws]; exact hfit)]
    have hB63 : Bk V3 b6 [.int .i64 0, .slice none 0 0] 31 := hB62.ext hS3.ext
    (refine jjB ?_; refine jjB ?_; refine jjC ?_; apply jI; exact eI rfl; apply jI; exact eS rfl; refine jh rfl ?_; refine jja rfl rfl (by omega) ?_; refine jz ?_; refine jjK rfl ?_; refine jjE ?_; refine jjB ?_; refine jjB ?_; refine jjC ?_; apply jI; exact eI rfl; refine jjd rfl rfl (by omega) ?_; refine jz ?_; refine jjJ rfl ?_; refine jjB ?_; refine jjC ?_)
    (refine jjS (cells := [.int .i64 0, .slice none 0 0]) ?_ ?_; exact rfl)
    skip
    refine Ops.store rfl rfl rfl rfl rfl ?_
    intro V4 hp4
    have hA4 : At V4 b6 0 [.int .i64 0, .slice none 0 0] := Bk.toAt (h := Bk.of hp4.new)
    (apply jJ; exact eI rfl; refine jz ?_; refine jjF ?_)
    exact fin2C rfl rfl rfl rfl rfl rfl ⟨hp4.ext hE3 (by omega), none, 0, rfl, RowV.nilS _ _ _ _ _⟩
  have x3 := hS3.ext
  have hB23 := hB2.ext x3
  have hOg3 := hOg.ext x3
  have hA123 := hA12.ext x3
  have hAw3 := hAw'.ext x3
  have z3' := x3.size
  (refine jjB ?_; refine jjB ?_; refine jjC ?_; apply jI; exact eI rfl; apply jI; exact eS rfl; refine jh rfl ?_; refine jja rfl rfl (by omega) ?_; refine jz ?_; refine jjK rfl ?_; refine jjE ?_; refine jjB ?_; refine jjB ?_; refine jjC ?_; apply jI; exact eI rfl; refine jje rfl rfl (by omega) ?_; refine jz ?_; refine jjK rfl ?_; refine jjG ?_)
  refine W.drawX 11 (fun w' => At w' b12 0 [.int .i64 h, .slice ga (blkL ls (ws.take i)).length gc] ∧ At w' bw (ow + i) [.string u]) ?_
  intro w1 hS1
  have x1 := hS1.ext
  have s1' := And.intro (hA123.ext x1) (hAw3.ext x1)
  refine AnyX.take [0, 1, 2, 3, 4] (by decide +kernel) s1' ?_
  (((apply jjT; exact rfl; rintro w' ⟨q1, q2⟩; refine jm ?_; refine jn rfl ?_; refine jz ?_; exact ⟨rfl, rfl⟩; apply jjT; exact rfl; rintro w' ⟨q1, q2⟩; refine jN rfl rfl rfl ?_; refine jz ?_; exact ⟨rfl, rfl⟩; apply jjT; exact rfl; rintro w' ⟨q1, q2⟩; apply jI; exact eS rfl; refine jz ?_; exact ⟨rfl, rfl⟩; apply jjT; exact rfl; rintro w' ⟨q1, q2⟩; apply jI; exact eI rfl; refine jz ?_; exact ⟨rfl, rfl⟩; apply jjT; exact rfl; rintro w' ⟨q1, q2⟩; refine jG rfl rfl rfl (by omega) ?_; refine jz ?_; exact ⟨rfl, rfl⟩; refine jjU ?_)))
  refine AnyX.take [5] (by decide +kernel) s1' (jjT (v := .string u) rfl (fun w' q1 => ?_) (jjU ?_)); (refine jR (q1.2.get (i := 0) rfl) rfl rfl ?_; refine jz ?_; exact ⟨rfl, rfl⟩)
  (refine AnyX.take [6] ?_ ?_ ?_; (decide +kernel); (exact s1'); (((apply jjT; exact rfl; rintro w' ⟨q1, q2⟩; apply jI; exact eI rfl; refine jz ?_; exact ⟨rfl, rfl⟩; refine jjU ?_))))
  refine AnyX.take [7] (by decide +kernel) s1' (jjT (v := encB (u, 1 + (cv : Int))) rfl (fun w' q1 => ?_) (jjU ?_)); ((refine jjS (cells := [.string u, .int .i64 (1 + (cv : Int))]) ?_ ?_; exact rfl); refine jz ?_; exact ⟨rfl, rfl⟩)
  (apply AnyX.one 8; (decide +kernel); exact rfl; (exact s1'))
  (refine jjP (v := .agg _) rfl (by exact rfl) (by exact rfl) (by exact rfl) (by exact rfl) ?_; intro b72 w_b72 hb_b72 hs_b72 hS_b72 hk_b72; have hR_b72 := RowV.one (agg := true) (k := 2) rfl hk_b72)
  refine jz ?_
  have e72 := x1.trans hS_b72.ext
  have hR72 : RowV w_b72 true 2 (.slice (some ⟨b72, 0, none⟩) 1 1) ([(u, 1 + (cv : Int))].map encB) := hR_b72
  have z72 := e72.size
  have s72 := And.intro (hA123.ext e72) (hAw3.ext e72)
  (apply AnyX.one 9; (decide +kernel); exact rfl; (exact s72))
  refine Ops.appendL (hOg3.ext e72) (by omega) hR72 rfl rfl rfl rfl (one_blk _) (by simp only [List.length_map, List.length_cons, List.length_nil]; omega) (by simp only [List.length_map, List.length_cons, List.length_nil]; omega) ?_
  intro v9 w9 hA9 hO9 _ hown9
  refine jz ?_
  have hnb : ∀ b, b < w_b12.heap.size → (Value.slice ga (blkL ls (ws.take i)).length gc).ownBlock ≠ some b := fun b h e => by have := (hOg.block _ e).1; omega
  have hl12 := hA_b12.lt
  have hlbw : bw < w_b12.heap.size := by have := (show Ext w10 w_b12 from inferInstance).size; omega
  have s9 := And.intro (hA9.at_ s72.1 (hnb _ hl12)) (hA9.at_ s72.2 (hnb _ hlbw))
  (refine AnyX.take [10] ?_ ?_ ?_; (decide +kernel); (exact s9); (((apply jjT; exact rfl; rintro w' ⟨q1, q2⟩; refine jm ?_; refine jn rfl ?_; refine jz ?_; exact ⟨rfl, rfl⟩; refine jjU ?_))))
  (apply AnyX.one 11; (decide +kernel); exact rfl; (exact s9))
  have hB9 : Bk w9 b12 [.int .i64 h, .slice ga (blkL ls (ws.take i)).length gc] 31 := hA9.bk (hB23.ext e72) (hnb _ hl12)
  obtain ⟨a9, l9, c9, rfl⟩ := hO9.slice3
  refine Ops.storeC (cs := [.int .i64 h, .slice ga (blkL ls (ws.take i)).length gc]) (j := 1) (v := .slice a9 l9 c9) rfl rfl rfl rfl (show 1 < 2 by omega) ?_
  intro wF hpF
  refine jz ?_
  refine AnyX.done (by decide +kernel) ?_
  have hn9 : (Value.slice a9 l9 c9).ownBlock ≠ some b12 := fun e => by
    rcases hown9 with h | h
    · rw [h] at e; exact hnb _ hl12 e
    · rw [h] at e; cases e; omega
  rw [← List.map_append, ← hsn] at hO9
  (refine jjC ?_; apply jI; exact eI rfl; refine jY rfl rfl (by omega) ?_; apply jJ; exact eI rfl; refine jz ?_)
  exact ⟨rfl, by ((refine Same.upd rfl ?_; refine Same.upd rfl ?_; refine Same.upd rfl ?_; refine Same.upd rfl ?_; refine Same.upd rfl ?_; refine Same.upd rfl ?_; refine Same.upd rfl ?_; refine Same.upd rfl ?_; refine Same.upd rfl ?_; refine Same.upd rfl ?_; refine Same.upd rfl ?_; refine Same.upd rfl ?_; refine Same.upd rfl ?_; refine Same.upd rfl ?_; refine Same.upd rfl ?_; refine Same.upd rfl ?_; refine Same.upd rfl ?_; refine Same.upd rfl ?_; refine Same.upd rfl ?_; refine Same.upd rfl ?_; refine Same.upd rfl ?_; refine Same.upd rfl ?_; refine Same.ovN' rfl ?_; assumption)), ws.length - (i + 1), by omega, i + 1, _, congrArg (Value.int .i64) (by omega), rfl, by omega, (((hOn2.trans (.ofExt x3)).trans (.ofExt e72)).app hA9 (Nat.le_refl _)).trans (.ofPut hpF), ⟨hpF.new⟩, hO9.put hpF hn9, fun j hj hji => by
    rcases Nat.lt_or_ge j i with h | h
    · exact hsmall j hj h
    · obtain rfl : j = i := by omega
      rw [hu, hcv]; exact h20⟩
end
end Go.Proofs.YtpbkphaceljclaaGreatDoor

/- Comparisons of lists, element by element. -/
namespace Go.Proofs.YtpbkphaceljclaaGreatDoor
open Go.RowKit

set_option maxHeartbeats 1000000 in
theorem same_words1 (a1 a2 : Option Addr) (c1 c2 n1 n2 : Nat) (xs ys : List ByteArray) (w : World) (h1 : xs.length = n1) (h2 : ys.length = n2) (hx : RowV w false 1 (.slice a1 n1 c1) (xs.map strV)) (hy : RowV w false 1 (.slice a2 n2 c2) (ys.map strV)) : Ct Tryz.prog 30 [.slice a1 n1 c1, .slice a2 n2 c2] w fun v _ => v = .bool (decide (xs = ys)) := by
  subst h1 h2
  have hlx := hx.len
  have hly := hy.len
  rw [List.length_map] at hlx hly
  refine Ct.ofW (by simp) ?_
  by_cases hl : xs.length = ys.length
  rotate_left
  · (refine jjB ?_; refine jjC ?_; apply jJ; exact eB rfl; refine jz ?_; refine jjB ?_; refine jjB ?_; refine jjC ?_; apply jI; exact eS rfl; refine jh rfl ?_; apply jI; exact eS rfl; refine jh rfl ?_; refine jjj rfl rfl (by omega) ?_; refine jz ?_; refine jjJ rfl ?_; refine jjB ?_; refine jjC ?_; apply jJ; exact eB rfl; refine jz ?_; refine jjF ?_; refine jB rfl rfl ⟨inferInstance, ?_⟩)
    rw [decide_eq_false (fun e => hl (by rw [e]))]; exact rfl
  (refine jjB ?_; refine jjC ?_; apply jJ; exact eB rfl; refine jz ?_; refine jjB ?_; refine jjB ?_; refine jjC ?_; apply jI; exact eS rfl; refine jh rfl ?_; apply jI; exact eS rfl; refine jh rfl ?_; refine jjk rfl rfl (by omega) ?_; refine jz ?_; refine jjK rfl ?_; refine jjG ?_; refine jjB ?_; refine jjB ?_; refine jjC ?_; apply jJ; exact eI rfl; refine jz ?_; refine jjD ?_)
  refine W.keep0 [(0, .slice a1 xs.length c1), (1, .slice a2 ys.length c2), (5, .int .i64 ((0 : Nat) : Int))] ⟨eS rfl, eS rfl, eI rfl, trivial⟩ fun s0 => ?_
  refine W.loop (11 :: 12 :: 13 :: 14 :: 17 :: 18 :: 19 :: 20 :: 21 :: 22 :: 23 :: 24 :: 25 :: 4 :: 15 :: 16 :: 5 :: []) (fun g s' V => ∃ k : Nat, s' 5 = .int .i64 ((k : Nat) : Int) ∧ g = xs.length - k ∧ k ≤ xs.length ∧ ∀ (j : Nat) (hj : j < xs.length), j < k → xs[j] = ys[j]'(by omega)) xs.length ⟨0, rfl, rfl, Nat.zero_le _, by intros; omega⟩ ?_
  rintro _ sd w1 hS1 ⟨k, h5, rfl, hk, hpre⟩
  refine W.fix h5 ?_
  clear h5
  by_cases hkl : k < xs.length
  rotate_left
  · have e : xs = ys := List.ext_getElem hl fun j hj _ => hpre j hj (by omega)
    (refine jjB ?_; refine jjB ?_; refine jjC ?_; apply jI; exact eI rfl; apply jI; exact eS rfl; refine jh rfl ?_; refine jja rfl rfl (by omega) ?_; refine jz ?_; refine jjK rfl ?_; refine jjE ?_; refine jjB ?_; refine jjC ?_; apply jJ; exact eB rfl; refine jz ?_; refine jjF ?_; refine jB rfl rfl ⟨inferInstance, ?_⟩)
    rw [decide_eq_true e]; exact rfl
  have hkl2 : k < ys.length := by omega
  obtain ⟨b1, o1, rfl, hA1⟩ := hx.place' (map_get hkl)
  obtain ⟨b2, o2, rfl, hA2⟩ := hy.place' (map_get hkl2)
  rw [Nat.mul_one] at hA1 hA2
  (refine jjB ?_; refine jjB ?_; refine jjC ?_; apply jI; exact eI rfl; apply jI; exact eS rfl; refine jh rfl ?_; refine jjZ rfl rfl (by omega) ?_; refine jz ?_; refine jjJ rfl ?_; refine jjG ?_; refine jjB ?_; refine jjD ?_; refine jjB ?_)
  refine W.draw (fun w' => Ext w w') ?_
  intro w2 hS2
  have hE2 : Ext w w2 := hS1.ext.trans hS2.ext
  (refine jjV [0, 1, 2, 3, 4, 5, 6, 7] ?_ ?_ ?_; (decide +kernel); (exact hE2); (((apply jjT; exact rfl; rintro w' hq; have := hq.toStep; apply jI; exact eS rfl; refine jz ?_; exact ⟨rfl, rfl⟩; apply jjT; exact rfl; rintro w' hq; have := hq.toStep; apply jI; exact eI rfl; refine jz ?_; exact ⟨rfl, rfl⟩; apply jjT; exact rfl; rintro w' hq; have := hq.toStep; refine jG rfl rfl rfl (by omega) ?_; refine jz ?_; exact ⟨rfl, rfl⟩; apply jjT; exact rfl; rintro w' hq; have := hq.toStep; refine jQ rfl rfl ?_; refine jz ?_; exact ⟨rfl, rfl⟩; apply jjT; exact rfl; rintro w' hq; have := hq.toStep; apply jI; exact eS rfl; refine jz ?_; exact ⟨rfl, rfl⟩; apply jjT; exact rfl; rintro w' hq; have := hq.toStep; apply jI; exact eI rfl; refine jz ?_; exact ⟨rfl, rfl⟩; apply jjT; exact rfl; rintro w' hq; have := hq.toStep; refine jG rfl rfl rfl (by omega) ?_; refine jz ?_; exact ⟨rfl, rfl⟩; apply jjT; exact rfl; rintro w' hq; have := hq.toStep; refine jQ rfl rfl ?_; refine jz ?_; exact ⟨rfl, rfl⟩; refine jjU ?_))))
  by_cases hkj : xs[k] = ys[k]
  · refine jjV [8] (by decide +kernel) hE2 (jjT (v := .bool false) rfl (fun w' q1 => ?_) (jjU ?_)); (refine Ops.neqS (a := xs[k]) (b := ys[k]) rfl rfl ?_; rw [decide_eq_false (by simp [hkj])]; refine jz ?_; exact ⟨rfl, rfl⟩)
    refine jjX (by decide +kernel) hE2 ?_
    (refine jjK rfl ?_; refine jjG ?_; refine jjC ?_; apply jI; exact eI rfl; refine jY rfl rfl (by omega) ?_; apply jJ; exact eI rfl; refine jz ?_)
    refine ⟨rfl, by ((refine Same.upd rfl ?_; refine Same.upd rfl ?_; refine Same.upd rfl ?_; refine Same.upd rfl ?_; refine Same.upd rfl ?_; refine Same.upd rfl ?_; refine Same.upd rfl ?_; refine Same.upd rfl ?_; refine Same.upd rfl ?_; refine Same.upd rfl ?_; refine Same.upd rfl ?_; refine Same.upd rfl ?_; refine Same.upd rfl ?_; refine Same.upd rfl ?_; refine Same.upd rfl ?_; refine Same.upd rfl ?_; refine Same.upd rfl ?_; exact Same.ovN)), xs.length - (k + 1), by omega, inferInstance, k + 1, congrArg (Value.int .i64) (by omega), rfl, by omega, fun j hj hjk => ?_⟩
    by_cases e : j = k
    · subst e; exact hkj
    · exact hpre j hj (by omega)
  · refine jjV [8] (by decide +kernel) hE2 (jjT (v := .bool true) rfl (fun w' q1 => ?_) (jjU ?_)); (refine Ops.neqS (a := xs[k]) (b := ys[k]) rfl rfl ?_; rw [decide_eq_true hkj]; refine jz ?_; exact ⟨rfl, rfl⟩)
    refine jjX (by decide +kernel) hE2 ?_
    (refine jjJ rfl ?_; refine jjB ?_; refine jjC ?_; apply jJ; exact eB rfl; refine jz ?_; refine jjF ?_; refine jB rfl rfl ⟨inferInstance, ?_⟩)
    rw [decide_eq_false (fun e => hkj (by simp only [e]))]; exact rfl

end Go.Proofs.YtpbkphaceljclaaGreatDoor

/- The reference: Same (texts). -/
namespace Go.Proofs.YtpbkphaceljclaaGreatDoor
open Go.RowKit

section
variable (a a' : Option Addr) (c c' : Nat) (cs ds : List Ch) (w : World) [hrow : RowI w (.slice a cs.length c) true 2 (cs.map encCh)] [hT : TextI w cs] [hrow' : RowI w (.slice a' ds.length c') true 2 (ds.map encCh)] [hT' : TextI w ds]
set_option maxHeartbeats 4000000 in
theorem Same_ref1 (hs : SmallT cs) : Ct Tryz.prog 12 [.agg #[.slice a cs.length c], .agg #[.slice a' ds.length c']] w fun v _ => v = .bool (decide (txF cs = txF ds)) := by
  have hs1 := hs.1
  refine Ct.ofW (by simp) ?_
  (refine jjB ?_; refine jjC ?_)
  (refine jy rfl ?_; intro b2 w_b2 hb_b2 hs_b2 hS_b2 hk_b2; have hA_b2 := At.ofBlock hk_b2)
  skip
  (refine jy rfl ?_; intro b3 w_b3 hb_b3 hs_b3 hS_b3 hk_b3; have hA_b3 := At.ofBlock hk_b3)
  by_cases hl : cs.length = ds.length
  rotate_left
  · (apply jJ; exact eB rfl; refine jz ?_; refine jjB ?_; refine jjB ?_; refine jjC ?_; refine jm ?_; refine jn rfl ?_; refine jN rfl rfl rfl ?_; refine jh rfl ?_; refine jm ?_; refine jn rfl ?_; refine jN rfl rfl rfl ?_; refine jh rfl ?_; refine jjj rfl rfl (by omega) ?_; refine jz ?_; refine jjJ rfl ?_; refine jjB ?_; refine jjC ?_; apply jJ; exact eB rfl; refine jz ?_; refine jjF ?_; refine jB rfl rfl ⟨inferInstance, ?_⟩)
    rw [decide_eq_false (fun e => hl (by have := congrArg List.length e; rwa [txF_len, txF_len] at this))]; exact rfl
  (apply jJ; exact eB rfl; refine jz ?_; refine jjB ?_; refine jjB ?_; refine jjC ?_; refine jm ?_; refine jn rfl ?_; refine jN rfl rfl rfl ?_; refine jh rfl ?_; refine jm ?_; refine jn rfl ?_; refine jN rfl rfl rfl ?_; refine jh rfl ?_; refine jjk rfl rfl (by omega) ?_; refine jz ?_; refine jjK rfl ?_; refine jjG ?_; refine jjB ?_; refine jjB ?_; refine jjC ?_; apply jJ; exact eI rfl; refine jz ?_; refine jjD ?_)
  refine W.keep0 [(2, .pointer (some ⟨b2, 0, none⟩)), (3, .pointer (some ⟨b3, 0, none⟩)), (5, .int .i64 ((0 : Nat) : Int))] ⟨eP rfl, eP rfl, eI rfl, trivial⟩ fun s0 => ?_
  refine W.loop (16 :: 17 :: 18 :: 19 :: 20 :: 23 :: 24 :: 25 :: 26 :: 27 :: 28 :: 29 :: 30 :: 31 :: 32 :: 6 :: 7 :: 33 :: 34 :: 35 :: 36 :: 37 :: 38 :: 39 :: 40 :: 41 :: 42 :: 43 :: 44 :: 45 :: 46 :: 4 :: 8 :: 47 :: 48 :: 49 :: 50 :: 51 :: 54 :: 55 :: 56 :: 57 :: 58 :: 59 :: 60 :: 61 :: 62 :: 63 :: 64 :: 65 :: 52 :: 53 :: 21 :: 22 :: 5 :: []) (fun g s' V => ∃ k : Nat, s' 5 = .int .i64 ((k : Nat) : Int) ∧ g = cs.length - k ∧ k ≤ cs.length ∧ ∀ (j : Nat) (hj : j < cs.length), j < k → txC cs[j] = txC (ds[j]'(by omega))) cs.length ⟨0, rfl, rfl, Nat.zero_le _, by intros; omega⟩ ?_
  rintro _ sd w1 hS1 ⟨k, h5, rfl, hk, hpre⟩
  refine W.fix h5 ?_
  clear h5
  by_cases hkc : k < cs.length
  rotate_left
  · have e : txF cs = txF ds := by
      refine List.ext_getElem (by rw [txF_len, txF_len]; exact hl) fun j hj _ => ?_
      rw [txF_len] at hj
      simpa [txF] using hpre j hj (by omega)
    (refine jjB ?_; refine jjB ?_; refine jjC ?_; apply jI; exact eI rfl; refine jm ?_; refine jn rfl ?_; refine jN rfl rfl rfl ?_; refine jh rfl ?_; refine jja rfl rfl (by omega) ?_; refine jz ?_; refine jjK rfl ?_; refine jjE ?_; refine jjB ?_; refine jjC ?_; apply jJ; exact eB rfl; refine jz ?_; refine jjF ?_; refine jB rfl rfl ⟨inferInstance, ?_⟩)
    rw [decide_eq_true e]; exact rfl
  have hkd : k < ds.length := by omega
  obtain ⟨ba, oa, rfl, hA⟩ := hrow.h.place' (map_get hkc)
  obtain ⟨bd, od, rfl, hD⟩ := hrow'.h.place' (map_get hkd)
  (refine jjB ?_; refine jjB ?_; refine jjC ?_; apply jI; exact eI rfl; refine jm ?_; refine jn rfl ?_; refine jN rfl rfl rfl ?_; refine jh rfl ?_; refine jjZ rfl rfl (by omega) ?_; refine jz ?_; refine jjJ rfl ?_; refine jjG ?_; refine jjB ?_; refine jjD ?_; refine jjB ?_)
  refine W.draw (fun w' => Ext w_b3 w') ?_
  intro w2 hS2
  have hE2 : Ext w_b3 w2 := hS1.ext.trans hS2.ext
  (refine jjV [0, 1, 2, 3, 4, 5, 6, 7, 8, 9] ?_ ?_ ?_; (decide +kernel); (exact hE2); (((apply jjT; exact rfl; rintro w' hq; have := hq.toStep; refine jm ?_; refine jn rfl ?_; refine jz ?_; exact ⟨rfl, rfl⟩; apply jjT; exact rfl; rintro w' hq; have := hq.toStep; refine jN rfl rfl rfl ?_; refine jz ?_; exact ⟨rfl, rfl⟩; apply jjT; exact rfl; rintro w' hq; have := hq.toStep; apply jI; exact eI rfl; refine jz ?_; exact ⟨rfl, rfl⟩; apply jjT; exact rfl; rintro w' hq; have := hq.toStep; refine jH _ rfl rfl rfl (by omega) ?_; refine jz ?_; exact ⟨rfl, rfl⟩; apply jjT; exact rfl; rintro w' hq; have := hq.toStep; refine jQ rfl rfl ?_; refine jz ?_; exact ⟨rfl, rfl⟩; apply jjT; exact rfl; rintro w' hq; have := hq.toStep; refine jm ?_; refine jn rfl ?_; refine jz ?_; exact ⟨rfl, rfl⟩; apply jjT; exact rfl; rintro w' hq; have := hq.toStep; refine jN rfl rfl rfl ?_; refine jz ?_; exact ⟨rfl, rfl⟩; apply jjT; exact rfl; rintro w' hq; have := hq.toStep; apply jI; exact eI rfl; refine jz ?_; exact ⟨rfl, rfl⟩; apply jjT; exact rfl; rintro w' hq; have := hq.toStep; refine jH _ rfl rfl rfl (by omega) ?_; refine jz ?_; exact ⟨rfl, rfl⟩; apply jjT; exact rfl; rintro w' hq; have := hq.toStep; refine jQ rfl rfl ?_; refine jz ?_; exact ⟨rfl, rfl⟩; refine jjU ?_))))
  have hl6 := hE2.size
  refine AnyS.mono (K' := fun s w' => s 2 = .pointer (some ⟨b2, 0, none⟩) ∧ s 3 = .pointer (some ⟨b3, 0, none⟩) ∧ s 5 = .int .i64 ((k : Nat) : Int) ∧ (∃ b6 b7, s 6 = .pointer (some ⟨b6, 0, none⟩) ∧ s 7 = .pointer (some ⟨b7, 0, none⟩) ∧ At w' b6 0 [.int .i64 cs[k].1, .slice cs[k].2.1 cs[k].2.2.2.length cs[k].2.2.1] ∧ At w' b7 0 [.int .i64 ds[k].1, .slice ds[k].2.1 ds[k].2.2.2.length ds[k].2.2.1]) ∧ Ext w_b3 w' ∧ Same (16 :: 17 :: 18 :: 19 :: 20 :: 23 :: 24 :: 25 :: 26 :: 27 :: 28 :: 29 :: 30 :: 31 :: 32 :: 6 :: 7 :: 33 :: 34 :: 35 :: 36 :: 37 :: 38 :: 39 :: 40 :: 41 :: 42 :: 43 :: 44 :: 45 :: 46 :: 4 :: 8 :: 47 :: 48 :: 49 :: 50 :: 51 :: 54 :: 55 :: 56 :: 57 :: 58 :: 59 :: 60 :: 61 :: 62 :: 63 :: 64 :: 65 :: 52 :: 53 :: 21 :: 22 :: 5 :: []) (upds s0 [(2, .pointer (some ⟨b2, 0, none⟩)), (3, .pointer (some ⟨b3, 0, none⟩)), (5, .int .i64 ((0 : Nat) : Int))]) s) ?_ ?_
  rotate_left
  · refine jjl 10 11 (by decide +kernel) rfl rfl hE2 ?_ ?_
    · refine jjY ?_
      intro b6 wa hb6 hs6 hS6 hk6
      have k6 := Bk.of hk6
      refine jz ?_
      (apply jjW 11; (decide +kernel); exact rfl; (exact hE2.trans hS6.ext))
      refine jjY ?_
      intro b7 wb hb7 hs7 hS7 hk7
      have k7 := Bk.of hk7
      have m6 := k6.ext hS7.ext
      refine jz ?_
      have eb := (hE2.trans hS6.ext).trans hS7.ext
      have zb := hE2.size
      (apply jjW 12; (decide +kernel); exact rfl; (exact eb))
      refine Ops.store rfl rfl rfl rfl rfl ?_
      intro wc hpc
      have m7 := hpc.bk (k7) (by omega)
      have m6 : Bk wc b6 [.int .i64 cs[k].1, .slice cs[k].2.1 cs[k].2.2.2.length cs[k].2.2.1] 63 := ⟨hpc.new⟩
      refine jz ?_
      have ec := hpc.ext eb (by omega)
      (apply jjW 13; (decide +kernel); exact rfl; (exact ec))
      refine Ops.store rfl rfl rfl rfl rfl ?_
      intro wd hpd
      have n6 := hpd.bk m6 (by omega)
      have n7 : Bk wd b7 [.int .i64 ds[k].1, .slice ds[k].2.1 ds[k].2.2.2.length ds[k].2.2.1] 63 := ⟨hpd.new⟩
      have ed := hpd.ext ec (by omega)
      refine jz ?_
      refine jjX (by decide +kernel) ed ?_
      exact ⟨rfl, rfl, rfl, ⟨b6, b7, rfl, rfl, Bk.toAt (h := n6), Bk.toAt (h := n7)⟩, ed, by ((refine Same.upd rfl ?_; refine Same.upd rfl ?_; refine Same.upd rfl ?_; refine Same.upd rfl ?_; refine Same.upd rfl ?_; refine Same.upd rfl ?_; refine Same.upd rfl ?_; refine Same.upd rfl ?_; refine Same.upd rfl ?_; refine Same.upd rfl ?_; refine Same.upd rfl ?_; refine Same.upd rfl ?_; refine Same.upd rfl ?_; refine Same.upd rfl ?_; refine Same.upd rfl ?_; refine Same.upd rfl ?_; refine Same.upd rfl ?_; refine Same.upd rfl ?_; exact Same.ovN))⟩
    · refine jjY ?_
      intro b7 wa hb7 hs7 hS7 hk7
      have k7 := Bk.of hk7
      refine jz ?_
      (apply jjW 10; (decide +kernel); exact rfl; (exact hE2.trans hS7.ext))
      refine jjY ?_
      intro b6 wb hb6 hs6 hS6 hk6
      have k6 := Bk.of hk6
      have m7 := k7.ext hS6.ext
      refine jz ?_
      have eb := (hE2.trans hS7.ext).trans hS6.ext
      have zb := hE2.size
      (apply jjW 12; (decide +kernel); exact rfl; (exact eb))
      refine Ops.store rfl rfl rfl rfl rfl ?_
      intro wc hpc
      have m7 := hpc.bk (m7) (by omega)
      have m6 : Bk wc b6 [.int .i64 cs[k].1, .slice cs[k].2.1 cs[k].2.2.2.length cs[k].2.2.1] 63 := ⟨hpc.new⟩
      refine jz ?_
      have ec := hpc.ext eb (by omega)
      (apply jjW 13; (decide +kernel); exact rfl; (exact ec))
      refine Ops.store rfl rfl rfl rfl rfl ?_
      intro wd hpd
      have n6 := hpd.bk m6 (by omega)
      have n7 : Bk wd b7 [.int .i64 ds[k].1, .slice ds[k].2.1 ds[k].2.2.2.length ds[k].2.2.1] 63 := ⟨hpd.new⟩
      have ed := hpd.ext ec (by omega)
      refine jz ?_
      refine jjX (by decide +kernel) ed ?_
      exact ⟨rfl, rfl, rfl, ⟨b6, b7, rfl, rfl, Bk.toAt (h := n6), Bk.toAt (h := n7)⟩, ed, by ((refine Same.upd rfl ?_; refine Same.upd rfl ?_; refine Same.upd rfl ?_; refine Same.upd rfl ?_; refine Same.upd rfl ?_; refine Same.upd rfl ?_; refine Same.upd rfl ?_; refine Same.upd rfl ?_; refine Same.upd rfl ?_; refine Same.upd rfl ?_; refine Same.upd rfl ?_; refine Same.upd rfl ?_; refine Same.upd rfl ?_; refine Same.upd rfl ?_; refine Same.upd rfl ?_; refine Same.upd rfl ?_; refine Same.upd rfl ?_; refine Same.upd rfl ?_; exact Same.ovN))⟩
  rintro s w3 ⟨h2, h3, h5, ⟨b6, b7, h6, h7, hA6, hA7⟩, hE3, hsm⟩
  clear hl6 hE2 hS2 w2
  have hS3 : Step w_b3 w3 := hE3.toStep
  have hsk := hs.2 _ (List.getElem_mem hkc)
  refine W.keep [(2, .pointer (some ⟨b2, 0, none⟩)), (3, .pointer (some ⟨b3, 0, none⟩)), (5, .int .i64 ((k : Nat) : Int)), (6, .pointer (some ⟨b6, 0, none⟩)), (7, .pointer (some ⟨b7, 0, none⟩))] (D := (16 :: 17 :: 18 :: 19 :: 20 :: 23 :: 24 :: 25 :: 26 :: 27 :: 28 :: 29 :: 30 :: 31 :: 32 :: 6 :: 7 :: 33 :: 34 :: 35 :: 36 :: 37 :: 38 :: 39 :: 40 :: 41 :: 42 :: 43 :: 44 :: 45 :: 46 :: 4 :: 8 :: 47 :: 48 :: 49 :: 50 :: 51 :: 54 :: 55 :: 56 :: 57 :: 58 :: 59 :: 60 :: 61 :: 62 :: 63 :: 64 :: 65 :: 52 :: 53 :: 21 :: 22 :: 5 :: [])) (sO := upds s0 _) hsm ⟨h2, h3, h5, h6, h7, trivial⟩ fun s1 hs1' => ?_
  clear h2 h3 h5 h6 h7 hsm
  have hno : txC cs[k] ≠ txC ds[k] → ¬ txF cs = txF ds := fun h e => h (by
    have h1 : (txF cs)[k]? = some (txC cs[k]) := by simp [txF, hkc]
    have h2 : (txF ds)[k]? = some (txC ds[k]) := by simp [txF, hkd]
    rw [e, h2] at h1
    exact (Option.some.inj h1).symm)
  by_cases hid : cs[k].1 = ds[k].1
  rotate_left
  · (refine jjB ?_; refine jjB ?_; refine jjC ?_; refine jm ?_; refine jn rfl ?_; refine jN rfl rfl rfl ?_; refine jm ?_; refine jn rfl ?_; refine jN rfl rfl rfl ?_; refine jjj rfl rfl (by omega) ?_; apply jI; exact eB rfl; refine jU rfl rfl rfl rfl ?_; refine jU rfl rfl rfl rfl ?_; refine jU rfl rfl rfl rfl ?_; refine jU rfl rfl rfl rfl ?_; refine jU rfl rfl rfl rfl ?_; refine jU rfl rfl rfl rfl ?_; refine jU rfl rfl rfl rfl ?_; apply jK rfl; exact eB rfl; refine jz ?_; refine jjJ rfl ?_; refine jjB ?_; refine jjC ?_; apply jJ; exact eB rfl; refine jz ?_; refine jjF ?_; refine jB rfl rfl ⟨inferInstance, ?_⟩)
    rw [decide_eq_false (hno fun e => hid (congrArg (fun x : Int × List (List ByteArray) => x.1) e))]; exact rfl
  by_cases hll : cs[k].2.2.2.length = ds[k].2.2.2.length
  rotate_left
  · (refine jjB ?_; refine jjB ?_; refine jjC ?_; refine jm ?_; refine jn rfl ?_; refine jN rfl rfl rfl ?_; refine jm ?_; refine jn rfl ?_; refine jN rfl rfl rfl ?_; refine jjk rfl rfl (by omega) ?_; apply jI; exact eB rfl; refine jT rfl rfl rfl ?_; refine jm ?_; refine jn rfl ?_; refine jT rfl rfl rfl ?_; refine jN rfl rfl rfl ?_; refine jT rfl rfl rfl ?_; refine jh rfl ?_; refine jT rfl rfl rfl ?_; refine jm ?_; refine jn rfl ?_; refine jT rfl rfl rfl ?_; refine jN rfl rfl rfl ?_; refine jT rfl rfl rfl ?_; refine jh rfl ?_; refine jT rfl rfl rfl ?_; refine jjj rfl rfl (by omega) ?_; apply jL rfl; exact eB rfl; refine jz ?_; refine jjJ rfl ?_; refine jjB ?_; refine jjC ?_; apply jJ; exact eB rfl; refine jz ?_; refine jjF ?_; refine jB rfl rfl ⟨inferInstance, ?_⟩)
    rw [decide_eq_false (hno fun e => hll (by have := congrArg (fun x : Int × List (List ByteArray) => x.2.length) e; simpa using this))]; exact rfl
  (refine jjB ?_; refine jjB ?_; refine jjC ?_; refine jm ?_; refine jn rfl ?_; refine jN rfl rfl rfl ?_; refine jm ?_; refine jn rfl ?_; refine jN rfl rfl rfl ?_; refine jjk rfl rfl (by omega) ?_; apply jI; exact eB rfl; refine jT rfl rfl rfl ?_; refine jm ?_; refine jn rfl ?_; refine jT rfl rfl rfl ?_; refine jN rfl rfl rfl ?_; refine jT rfl rfl rfl ?_; refine jh rfl ?_; refine jT rfl rfl rfl ?_; refine jm ?_; refine jn rfl ?_; refine jT rfl rfl rfl ?_; refine jN rfl rfl rfl ?_; refine jT rfl rfl rfl ?_; refine jh rfl ?_; refine jT rfl rfl rfl ?_; refine jjk rfl rfl (by omega) ?_; apply jL rfl; exact eB rfl; refine jz ?_; refine jjK rfl ?_; refine jjG ?_; refine jjB ?_; refine jjC ?_; apply jJ; exact eI rfl; refine jz ?_; refine jjD ?_)
  refine W.keep [(2, .pointer (some ⟨b2, 0, none⟩)), (3, .pointer (some ⟨b3, 0, none⟩)), (5, .int .i64 ((k : Nat) : Int)), (6, .pointer (some ⟨b6, 0, none⟩)), (7, .pointer (some ⟨b7, 0, none⟩)), (8, .int .i64 ((0 : Nat) : Int))] (D := (16 :: 17 :: 18 :: 19 :: 20 :: 23 :: 24 :: 25 :: 26 :: 27 :: 28 :: 29 :: 30 :: 31 :: 32 :: 6 :: 7 :: 33 :: 34 :: 35 :: 36 :: 37 :: 38 :: 39 :: 40 :: 41 :: 42 :: 43 :: 44 :: 45 :: 46 :: 4 :: 8 :: 47 :: 48 :: 49 :: 50 :: 51 :: 54 :: 55 :: 56 :: 57 :: 58 :: 59 :: 60 :: 61 :: 62 :: 63 :: 64 :: 65 :: 52 :: 53 :: 21 :: 22 :: 5 :: [])) (sO := upds s0 _) (by ((refine Same.upd rfl ?_; refine Same.upd rfl ?_; refine Same.upd rfl ?_; refine Same.upd rfl ?_; refine Same.upd rfl ?_; refine Same.upd rfl ?_; refine Same.upd rfl ?_; refine Same.upd rfl ?_; refine Same.upd rfl ?_; refine Same.upd rfl ?_; refine Same.upd rfl ?_; refine Same.upd rfl ?_; refine Same.upd rfl ?_; refine Same.upd rfl ?_; refine Same.upd rfl ?_; assumption))) ⟨eP rfl, eP rfl, eI rfl, eP rfl, eP rfl, eI rfl, trivial⟩ fun s2 hs2' => ?_
  refine W.loop (47 :: 48 :: 49 :: 50 :: 51 :: 54 :: 55 :: 56 :: 57 :: 58 :: 59 :: 60 :: 61 :: 62 :: 63 :: 64 :: 65 :: 4 :: 52 :: 53 :: 8 :: []) (fun g s' V => ∃ n : Nat, s' 8 = .int .i64 ((n : Nat) : Int) ∧ g = cs[k].2.2.2.length - n ∧ n ≤ cs[k].2.2.2.length ∧ ∀ (j : Nat) (hj : j < cs[k].2.2.2.length), j < n → cs[k].2.2.2[j].2.2 = (ds[k].2.2.2[j]'(by omega)).2.2) cs[k].2.2.2.length ⟨0, rfl, rfl, Nat.zero_le _, by intros; omega⟩ ?_
  rintro _ sd2 w4 hS4 ⟨n, h8, rfl, hn, hpre2⟩
  refine W.fix h8 ?_
  clear h8
  by_cases hnl : n < cs[k].2.2.2.length
  rotate_left
  · have e : txC cs[k] = txC ds[k] := by
      refine Prod.ext hid (List.ext_getElem (by simpa using hll) fun j hj _ => ?_)
      rw [List.length_map] at hj
      simpa using hpre2 j hj (by omega)
    (refine jjB ?_; refine jjB ?_; refine jjC ?_; apply jI; exact eI rfl; refine jm ?_; refine jn rfl ?_; refine jN rfl rfl rfl ?_; refine jh rfl ?_; refine jja rfl rfl (by omega) ?_; refine jz ?_; refine jjK rfl ?_; refine jjE ?_; refine jjC ?_; apply jI; exact eI rfl; refine jY rfl rfl (by omega) ?_; apply jJ; exact eI rfl; refine jz ?_)
    refine ⟨rfl, by ((refine Same.upd rfl ?_; refine Same.upd rfl ?_; refine Same.upd rfl ?_; refine Same.upd rfl ?_; refine Same.upd rfl ?_; refine Same.upd rfl ?_; refine Same.upd rfl ?_; refine Same.upd rfl ?_; refine Same.upd rfl ?_; refine Same.ovN' rfl ?_; assumption)), cs.length - (k + 1), by omega, inferInstance, k + 1, congrArg (Value.int .i64) (by omega), rfl, by omega, fun j hj hjk => ?_⟩
    by_cases ej : j = k
    · subst ej; exact e
    · exact hpre j hj (by omega)
  have hnl2 : n < ds[k].2.2.2.length := by omega
  obtain ⟨bl, ol, el, hAl⟩ := (hT.line hkc).h.place' (map_get hnl)
  obtain ⟨bm, om, em, hAm⟩ := (hT'.line hkd).h.place' (map_get hnl2)
  rw [Nat.mul_one] at hAl hAm
  have hE4 : Ext w w4 := inferInstance
  have k6 := hA6.ext hS4.ext
  have k7 := hA7.ext hS4.ext
  (refine jjB ?_; refine jjB ?_; refine jjC ?_; apply jI; exact eI rfl; refine jm ?_; refine jn rfl ?_; refine jN rfl rfl rfl ?_; refine jh rfl ?_; refine jjZ rfl rfl (by omega) ?_; refine jz ?_; refine jjJ rfl ?_; refine jjG ?_; refine jjB ?_; refine jjD ?_; refine jjB ?_)
  rw [el] at k6
  rw [em] at k7
  have hW1 := (hT.word hkc hnl).h
  have hW2 := (hT'.word hkd hnl2).h
  refine W.draw (fun w' => Ext w4 w') ?_
  intro w5 hS5
  (refine jjV [0, 1, 2, 3, 4, 5, 6, 7, 8, 9] ?_ ?_ ?_; (decide +kernel); (exact hS5.ext); (((apply jjT; exact rfl; rintro w' hq; have := hq.toStep; refine jm ?_; refine jn rfl ?_; refine jz ?_; exact ⟨rfl, rfl⟩; apply jjT; exact rfl; rintro w' hq; have := hq.toStep; refine jN rfl rfl rfl ?_; refine jz ?_; exact ⟨rfl, rfl⟩; apply jjT; exact rfl; rintro w' hq; have := hq.toStep; apply jI; exact eI rfl; refine jz ?_; exact ⟨rfl, rfl⟩; apply jjT; exact rfl; rintro w' hq; have := hq.toStep; refine jG rfl rfl rfl (by omega) ?_; refine jz ?_; exact ⟨rfl, rfl⟩; apply jjT; exact rfl; rintro w' hq; have := hq.toStep; refine jQ rfl rfl ?_; refine jz ?_; exact ⟨rfl, rfl⟩; apply jjT; exact rfl; rintro w' hq; have := hq.toStep; refine jm ?_; refine jn rfl ?_; refine jz ?_; exact ⟨rfl, rfl⟩; apply jjT; exact rfl; rintro w' hq; have := hq.toStep; refine jN rfl rfl rfl ?_; refine jz ?_; exact ⟨rfl, rfl⟩; apply jjT; exact rfl; rintro w' hq; have := hq.toStep; apply jI; exact eI rfl; refine jz ?_; exact ⟨rfl, rfl⟩; apply jjT; exact rfl; rintro w' hq; have := hq.toStep; refine jG rfl rfl rfl (by omega) ?_; refine jz ?_; exact ⟨rfl, rfl⟩; apply jjT; exact rfl; rintro w' hq; have := hq.toStep; refine jQ rfl rfl ?_; refine jz ?_; exact ⟨rfl, rfl⟩; refine jjU ?_))))
  (apply jjW 10; (decide +kernel); exact rfl; (exact hS5.ext))
  obtain ⟨B, hB⟩ : ∃ B, decide (cs[k].2.2.2[n].2.2 = ds[k].2.2.2[n].2.2) = B := ⟨_, rfl⟩
  refine jjQ ((same_words1 _ _ _ _ _ _ cs[k].2.2.2[n].2.2 ds[k].2.2.2[n].2.2 _ rfl rfl (hW1.ext (hE4.trans hS5.ext)) (hW2.ext (hE4.trans hS5.ext))).mono fun v _ _ h => h.trans (by rw [hB])) rfl rfl ?_
  rintro _ w6 hS6 rfl
  refine jz ?_
  have e6 := hS5.ext.trans hS6.ext
  cases B with
  | true =>
    have hBe := of_decide_eq_true hB
    (refine jjV [11] ?_ ?_ ?_; (decide +kernel); (exact e6); (((apply jjT; exact rfl; rintro w' hq; have := hq.toStep; refine jp rfl ?_; refine jz ?_; exact ⟨rfl, rfl⟩; refine jjU ?_))))
    refine jjX (by decide +kernel) e6 ?_
    (refine jjK rfl ?_; refine jjG ?_; refine jjC ?_; apply jI; exact eI rfl; refine jY rfl rfl (by omega) ?_; apply jJ; exact eI rfl; refine jz ?_)
    refine ⟨rfl, by ((refine Same.upd rfl ?_; refine Same.upd rfl ?_; refine Same.upd rfl ?_; refine Same.upd rfl ?_; refine Same.upd rfl ?_; refine Same.upd rfl ?_; refine Same.upd rfl ?_; refine Same.upd rfl ?_; refine Same.upd rfl ?_; refine Same.upd rfl ?_; refine Same.upd rfl ?_; refine Same.upd rfl ?_; refine Same.upd rfl ?_; refine Same.upd rfl ?_; refine Same.upd rfl ?_; refine Same.upd rfl ?_; refine Same.upd rfl ?_; refine Same.upd rfl ?_; refine Same.upd rfl ?_; refine Same.upd rfl ?_; refine Same.upd rfl ?_; exact Same.ovN)), cs[k].2.2.2.length - (n + 1), by omega, inferInstance, n + 1, congrArg (Value.int .i64) (by omega), rfl, by omega, fun j hj hjn => ?_⟩
    by_cases ej : j = n
    · subst ej; exact hBe
    · exact hpre2 j hj (by omega)
  | false =>
    have hBe := of_decide_eq_false hB
    (refine jjV [11] ?_ ?_ ?_; (decide +kernel); (exact e6); (((apply jjT; exact rfl; rintro w' hq; have := hq.toStep; refine jq rfl ?_; refine jz ?_; exact ⟨rfl, rfl⟩; refine jjU ?_))))
    refine jjX (by decide +kernel) e6 ?_
    (refine jjJ rfl ?_; refine jjB ?_; refine jjC ?_; apply jJ; exact eB rfl; refine jz ?_; refine jjF ?_; refine jB rfl rfl ⟨inferInstance, ?_⟩)
    rw [decide_eq_false (hno fun e => hBe (by
      have h1 : (txC cs[k]).2[n]? = some cs[k].2.2.2[n].2.2 := by simp [hnl]
      have h2 : (txC ds[k]).2[n]? = some ds[k].2.2.2[n].2.2 := by simp [hnl2]
      rw [e, h2] at h1
      exact (Option.some.inj h1).symm))]; exact rfl
end
end Go.Proofs.YtpbkphaceljclaaGreatDoor

/- The references: lists of numbers that are the same. -/
namespace Go.Proofs.YtpbkphaceljclaaGreatDoor
open Go.RowKit

theorem RowV.place {w : World} {agg : Bool} {k l c j : Nat} {a : Option Addr} {xs : List Value} {x : Value} (h : RowV w agg k (.slice a l c) xs) (hj : xs[j]? = some x) : ∃ b o, a = some ⟨b, o, none⟩ ∧ At w b (o + j * k) x.cells.toList := by
  rcases h.at_ with ⟨rfl, _⟩ | ⟨b, o, c', hv, hl, hc⟩
  · simp at hj
  · simp only [Value.slice.injEq] at hv
    exact ⟨b, o, hv.1, hc j x hj⟩
theorem list_ne_len {α : Type} {xs ys : List α} (h : xs.length ≠ ys.length) : xs ≠ ys := fun e => h (by rw [e])
theorem list_ne_get {α : Type} {xs ys : List α} {k : Nat} (hk : k < xs.length) (hk' : k < ys.length) (h : xs[k] ≠ ys[k]) : xs ≠ ys := fun e => by subst e; exact h rfl
theorem list_eq_get {α : Type} {xs ys : List α} (hl : xs.length = ys.length) (h : ∀ k (h1 : k < xs.length) (h2 : k < ys.length), xs[k] = ys[k]) : xs = ys := List.ext_getElem hl h

end Go.Proofs.YtpbkphaceljclaaGreatDoor

/- The reference of galley: SameInts, Same, Great, great. -/
namespace Go.Proofs.YtpbkphaceljclaaGreatDoor
open Go.RowKit

theorem Same_ref (h1' h2' : Int) (a1 a2 : Option Addr) (c1 c2 : Nat) (xs ys : List Blk) (w : World) [h1 : RowI w (.slice a1 xs.length c1) true 2 (xs.map encB)] [h2 : RowI w (.slice a2 ys.length c2) true 2 (ys.map encB)] :
    Ct Tryz.prog 11 [.agg #[.int .i64 h1', .slice a1 xs.length c1], .agg #[.int .i64 h2', .slice a2 ys.length c2]] w fun v _ => v = .bool (decide (h1' = h2' ∧ xs = ys)) := by
  have hl1 := h1.h.len
  simp only [List.length_map] at hl1
  refine Ct.ofW (by simp) ?_
  (refine jjB ?_; refine jjC ?_)
  (refine jy rfl ?_; intro b1 w_b1 hb_b1 hs_b1 hS_b1 hk_b1; have hA_b1 := At.ofBlock hk_b1)
  skip
  (refine jy rfl ?_; intro b2 w_b2 hb_b2 hs_b2 hS_b2 hk_b2; have hA_b2 := At.ofBlock hk_b2)
  repeat' (first|((first|apply jI|apply jJ|apply jK rfl|apply jL rfl); (first|exact eI rfl|exact eB rfl))|(refine jM ?_; refine jN rfl rfl rfl ?_)|(refine jS ?_; (first|refine jT rfl rfl rfl ?_|refine jU rfl rfl rfl rfl ?_))|(refine jW ?_; refine jc rfl rfl ?_)|(refine jg ?_; refine jh rfl ?_)|(refine jm ?_; refine jn rfl ?_)|refine jz ?_|(refine jjA ?_; (first|refine jjB ?_|refine jjC ?_|refine jjD ?_|refine jjF ?_|refine jjG ?_|refine jjJ rfl ?_))|(refine jS ?_; (refine jjL rfl rfl ?_ ?_ <;> intro _))|(refine jjA ?_; (refine jjN rfl ?_ ?_ <;> intro _))|refine jB rfl rfl ⟨inferInstance, ?_⟩)
  · exact congrArg Value.bool (decide_eq_false fun e => absurd e.1 ‹_›).symm
  · exact congrArg Value.bool (decide_eq_false fun e => list_ne_len (by omega) e.2).symm
  · refine W.loop (20 :: 21 :: 22 :: 23 :: 24 :: 27 :: 28 :: 29 :: 30 :: 31 :: 32 :: 33 :: 34 :: 35 :: 36 :: 37 :: 4 :: 25 :: 26 :: 5 :: []) (fun g s' _ => ∃ k : Nat, s' 5 = .int .i64 k ∧ g = xs.length - k ∧ k ≤ xs.length ∧ ∀ (j : Nat) (q1 : j < xs.length) (q2 : j < ys.length), j < k → xs[j] = ys[j]) xs.length ⟨0, rfl, rfl, by omega, by intros; omega⟩ ?_
    rintro _ d w' hS ⟨k, h5, rfl, hk, hpre⟩
    refine W.fix h5 ?_
    repeat' (first|((first|apply jI|apply jJ); (first|exact eI rfl|exact eB rfl))|(refine jM ?_; refine jN rfl rfl rfl ?_)|(refine jW ?_; refine jX rfl rfl ?_)|(refine jg ?_; refine jh rfl ?_)|(refine jm ?_; refine jn rfl ?_)|refine jz ?_|(refine jjA ?_; (first|refine jjB ?_|refine jjC ?_|refine jjD ?_|refine jjE ?_|refine jjF ?_|refine jjG ?_))|(refine jjA ?_; (refine jjN rfl ?_ ?_ <;> intro _))|refine jB rfl rfl ⟨inferInstance, ?_⟩)
    · have k1 : k < xs.length := by omega
      have k2 : k < ys.length := by omega
      refine W.draw (fun w'' => Ext w' w'') ?_
      intro V1 hS1
      obtain ⟨q1, o1, rfl, hA1⟩ := ((h1.h.ext (inferInstance : Ext w w_b2)).ext hS.ext).place (map_get k1)
      obtain ⟨q2, o2, rfl, hA2⟩ := ((h2.h.ext (inferInstance : Ext w w_b2)).ext hS.ext).place (map_get k2)
      refine jjV [0, 1, 2, 3, 4, 5, 6, 7, 8, 9] (by decide +kernel) hS1.ext ?_
      (((apply jjT; exact rfl; rintro w' hq; have := hq.toStep; refine jm ?_; refine jn rfl ?_; refine jz ?_; exact ⟨rfl, rfl⟩; apply jjT; exact rfl; rintro w' hq; have := hq.toStep; refine jN rfl rfl rfl ?_; refine jz ?_; exact ⟨rfl, rfl⟩; apply jjT; exact rfl; rintro w' hq; have := hq.toStep; apply jI; exact eI rfl; refine jz ?_; exact ⟨rfl, rfl⟩; apply jjT; exact rfl; rintro w' hq; have := hq.toStep; refine jH _ rfl rfl rfl (by omega) ?_; refine jz ?_; exact ⟨rfl, rfl⟩; apply jjT; exact rfl; rintro w' hq; have := hq.toStep; refine jQ rfl rfl ?_; refine jz ?_; exact ⟨rfl, rfl⟩; apply jjT; exact rfl; rintro w' hq; have := hq.toStep; refine jm ?_; refine jn rfl ?_; refine jz ?_; exact ⟨rfl, rfl⟩; apply jjT; exact rfl; rintro w' hq; have := hq.toStep; refine jN rfl rfl rfl ?_; refine jz ?_; exact ⟨rfl, rfl⟩; apply jjT; exact rfl; rintro w' hq; have := hq.toStep; apply jI; exact eI rfl; refine jz ?_; exact ⟨rfl, rfl⟩; apply jjT; exact rfl; rintro w' hq; have := hq.toStep; refine jH _ rfl rfl rfl (by omega) ?_; refine jz ?_; exact ⟨rfl, rfl⟩; apply jjT; exact rfl; rintro w' hq; have := hq.toStep; refine jQ rfl rfl ?_; refine jz ?_; exact ⟨rfl, rfl⟩; refine jjU ?_)))
      refine jjV [10] (by decide +kernel) hS1.ext ?_
      refine jjT rfl (v := .bool (decide (¬ xs[k] = ys[k]))) ?_ ?_
      · rintro w' hq
        refine Ops.neqT (enc := encSI) xs[k] ys[k] rfl rfl ?_
        refine jz ?_
        exact ⟨rfl, rfl⟩
      refine jjU ?_
      refine jjX (by decide +kernel) hS1.ext ?_
      repeat' (first|((first|apply jI|apply jJ); (first|exact eI rfl|exact eB rfl))|(refine jW ?_; refine jY rfl rfl (by omega) ?_)|refine jz ?_|(refine jjA ?_; (first|refine jjB ?_|refine jjC ?_|refine jjF ?_|refine jjG ?_))|(refine jjA ?_; (refine jjN rfl ?_ ?_ <;> intro _))|refine jB rfl rfl ⟨inferInstance, ?_⟩)
      · exact congrArg Value.bool (decide_eq_false fun e => list_ne_get k1 k2 ‹_› e.2).symm
      · refine ⟨rfl, by ((refine Same.upd rfl ?_; refine Same.upd rfl ?_; refine Same.upd rfl ?_; refine Same.upd rfl ?_; refine Same.upd rfl ?_; refine Same.upd rfl ?_; refine Same.upd rfl ?_; refine Same.upd rfl ?_; refine Same.upd rfl ?_; refine Same.upd rfl ?_; refine Same.upd rfl ?_; refine Same.upd rfl ?_; refine Same.upd rfl ?_; refine Same.upd rfl ?_; refine Same.upd rfl ?_; refine Same.upd rfl ?_; refine Same.upd rfl ?_; refine Same.upd rfl ?_; refine Same.upd rfl ?_; refine Same.upd rfl ?_; exact Same.ovN)), xs.length - (k + 1), by omega, inferInstance, k + 1, congrArg (Value.int .i64) (by omega), rfl, by omega, fun j q1 q2 hj => ?_⟩
        by_cases e : j = k
        · subst e; exact Decidable.not_not.1 ‹_›
        · exact hpre j q1 q2 (by omega)
    · exact congrArg Value.bool (decide_eq_true ⟨Decidable.not_not.1 ‹_›, list_eq_get (by omega) fun j q1 q2 => hpre j q1 q2 (by omega)⟩).symm

end Go.Proofs.YtpbkphaceljclaaGreatDoor

/- The law: the galley of a text. -/
namespace Go.Proofs.YtpbkphaceljclaaGreatDoor
open Go.RowKit

section
variable (a : Option Addr) (c : Nat) (cs : List Ch) (wd side : Int) (w : World) [hrow : RowI w (.slice a cs.length c) true 2 (cs.map encCh)] [hT : TextI w cs] [hgs : At w 0 0 sidesC]
set_option maxHeartbeats 8000000 in
theorem GalleySets_law (hd : 0 ≤ side ∧ side ≤ 255) (h : Int) : Ct Tryz.prog 3 [.agg #[.slice a cs.length c], encCut wd side, .int .i64 h] w fun v _ => v = .bool true := by
  refine Ct.ofW (by simp) ?_
  (refine jjB ?_; refine jjC ?_)
  (refine jy rfl ?_; intro b3 w_b3 hb_b3 hs_b3 hS_b3 hk_b3; have hA_b3 := At.ofBlock hk_b3)
  skip
  (refine jy rfl ?_; intro b4 w_b4 hb_b4 hs_b4 hS_b4 hk_b4; have hA_b4 := At.ofBlock hk_b4)
  (apply jJ; exact eB rfl; refine jz ?_; refine jjB ?_; refine jjB ?_; refine jjC ?_; refine jO rfl rfl rfl rfl ?_)
  obtain ⟨G, hG⟩ : ∃ G, greatT (txF cs) = G := ⟨_, rfl⟩
  refine jjQ ((Great_ref1 a c cs _).mono fun v _ _ h => h.trans (by rw [hG])) rfl rfl ?_
  rintro _ w2 hS2 rfl
  cases G with
  | true =>
    (refine jz ?_; refine jjJ rfl ?_; refine jjB ?_; refine jjC ?_; apply jJ; exact eB rfl; refine jz ?_; refine jjF ?_; refine jB rfl rfl ⟨inferInstance, ?_⟩)
    exact rfl
  | false =>
  have hs := small_of_great hG
  (refine jz ?_; refine jjK rfl ?_; refine jjG ?_; refine jjB ?_; refine jjC ?_; refine jO rfl rfl rfl rfl ?_)
  refine jjQ (Twin_ref1 a c cs _ hs) rfl rfl ?_
  rintro _ w3 hS3 ⟨a', c', ds, rfl, htx, hO⟩
  rw [List.length_map] at hO
  rw [List.length_map]
  have hsd := small_of_great (cs := ds) (by rw [htx]; exact hG)
  have i0 : RowI w3 (.slice a' ds.length c') true 2 (ds.map encCh) := ⟨hO.out.row⟩
  have i1 : TextI w3 ds := hO.text
  skip
  (apply jjR rfl; (intro _; first|exact eI rfl|exact eB rfl|exact eP rfl|exact eS rfl|exact eT rfl|exact eA rfl|exact eU rfl|exact eF rfl|exact eM rfl|exact eN rfl|exact rfl); exact rfl; exact rfl; exact rfl; exact rfl; intro b7 w_b7 hb_b7 hs_b7 hS_b7 hk_b7; have hA_b7 := Bk.of hk_b7)
  have hx7 : At w_b7 b7 0 [.slice a' ds.length c'] := Bk.toAt (h := hA_b7)
  obtain ⟨R, hR⟩ : ∃ R, setR (txF cs) wd side h = R := ⟨_, rfl⟩
  (refine jz ?_; refine jjB ?_; refine jjC ?_; refine jO rfl rfl rfl rfl ?_; refine jO rfl rfl rfl rfl ?_; apply jI; exact eI rfl)
  refine jjQ ((Set_galley a' c' ds wd side _ hsd hd h).mono fun v _ _ q => by rw [htx, hR] at q; exact q) rfl rfl ?_
  rintro _ w4 hS4 ⟨ga, gc, rfl, hg1⟩
  (apply jI; exact eU rfl; refine ju rfl rfl ?_; refine ju rfl rfl ?_)
  (apply jjR rfl; (intro _; first|exact eI rfl|exact eB rfl|exact eP rfl|exact eS rfl|exact eT rfl|exact eA rfl|exact eU rfl|exact eF rfl|exact eM rfl|exact eN rfl|exact rfl); exact rfl; exact rfl; exact rfl; exact rfl; intro b8 w_b8 hb_b8 hs_b8 hS_b8 hk_b8; have hA_b8 := Bk.of hk_b8)
  have hx8 : At w_b8 b8 0 [.int .i64 R.1.1, .slice ga R.1.2.length gc] := Bk.toAt (h := hA_b8)
  (apply jJ; exact eI rfl; refine jz ?_; refine jjB ?_; refine jjC ?_; refine jO rfl rfl rfl rfl ?_; refine jO rfl rfl rfl rfl ?_; apply jI; exact eI rfl)
  refine jjQ ((Set_ref8 a c cs wd side _ hs hd h).mono fun v _ _ q => by rw [hR] at q; exact q) rfl rfl ?_
  rintro _ w5 hS5 ⟨gb, gd, rfl, hg2⟩
  (apply jI; exact eU rfl; refine ju rfl rfl ?_; refine ju rfl rfl ?_)
  (apply jjR rfl; (intro _; first|exact eI rfl|exact eB rfl|exact eP rfl|exact eS rfl|exact eT rfl|exact eA rfl|exact eU rfl|exact eF rfl|exact eM rfl|exact eN rfl|exact rfl); exact rfl; exact rfl; exact rfl; exact rfl; intro b10 w_b10 hb_b10 hs_b10 hS_b10 hk_b10; have hA_b10 := Bk.of hk_b10)
  have hx10 : At w_b10 b10 0 [.int .i64 R.1.1, .slice gb R.1.2.length gd] := Bk.toAt (h := hA_b10)
  have r1 : RowI w_b10 (.slice ga R.1.2.length gc) true 2 (R.1.2.map encB) := ⟨hg1.ext inferInstance⟩
  have r2 : RowI w_b10 (.slice gb R.1.2.length gd) true 2 (R.1.2.map encB) := ⟨hg2.ext hS_b10.ext⟩
  (apply jJ; exact eI rfl; refine jz ?_; refine jjB ?_; refine jjC ?_; refine jO rfl rfl rfl rfl ?_; refine jO rfl rfl rfl rfl ?_)
  refine jjQ ((Same_ref R.1.1 R.1.1 ga gb gc gd R.1.2 R.1.2 _).mono fun v _ _ q => q.trans (by rw [decide_eq_true ⟨rfl, rfl⟩])) rfl rfl ?_
  rintro _ w6 hS6 rfl
  (apply jI; exact eB rfl; refine jT rfl rfl rfl ?_; apply jI; exact eI rfl; refine jT rfl rfl rfl ?_; apply jI; exact eI rfl; refine jT rfl rfl rfl ?_; refine jjh rfl rfl (by omega) ?_; apply jK rfl; exact eB rfl; apply jI; exact eB rfl; refine jT rfl rfl rfl ?_; refine jO rfl rfl rfl rfl ?_; refine jT rfl rfl rfl ?_; refine jO rfl rfl rfl rfl ?_; refine jT rfl rfl rfl ?_)
  refine jjQ ((Same_ref1 a' a c' c ds cs _ hsd).mono fun v _ _ q => q.trans (by rw [decide_eq_true htx])) rfl rfl ?_
  rintro _ w7 hS7 rfl
  (apply jK rfl; exact eB rfl; apply jJ; exact eB rfl; refine jz ?_; refine jjF ?_; refine jB rfl rfl ⟨inferInstance, ?_⟩)
  exact rfl
end
end Go.Proofs.YtpbkphaceljclaaGreatDoor
