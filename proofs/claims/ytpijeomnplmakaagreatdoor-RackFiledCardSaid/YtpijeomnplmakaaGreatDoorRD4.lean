/- Texts of the proof, part 4: Lib4, RkK, PkC, PkD, PkE, Eng24, SrW, SlS, SlX, Sl1, SlM, SlW, SlO, CmpL, SrO, PlO, PkF, ShC, PkH, RefI, Rb0, Eng28, Gk1, PkX, PlB, PlC, Sl2. -/
import Derived.Shelf.Small.Strs
import Derived.Sort.Grow
import Derived.Test.YtpijeomnplmakaaGreatDoorRD3
/- Go's library: slices.Delete, Insert, Index, Compare, BinarySearch (integers). -/
namespace Go.Proofs.YtpijeomnplmakaaGreatDoor
open Go.RowKit

theorem int_fit (l : List Int) : ∀ x ∈ l.map intV, fitsV false 1 x = true := fun x hx => by obtain ⟨y, _, rfl⟩ := List.mem_map.1 hx; rfl
theorem int_one {l : List Value} {m : List Int} (h : ∀ v ∈ l, v ∈ m.map intV) : ∀ v ∈ l, v.oneCell' = true := fun v hv => by obtain ⟨y, _, rfl⟩ := List.mem_map.1 (h v hv); rfl

theorem Index_int (a : Option Addr) (c : Nat) (l : List Int) (x : Int) (w : World) (hl : l.length ≤ 1000000) [hrow : RowI w (.slice a l.length c) false 1 (l.map intV)] {i : Nat} (hi : l[i]? = some x) (hfirst : ∀ (j : Nat), j < i → l[j]? ≠ some x) :
    Ct Tryz.prog 72 [.slice a l.length c, .int .i64 x] w fun v _ => v = .int .i64 (i : Int) := by
  have hil := (List.getElem?_eq_some_iff.1 hi).1
  refine Ct.ofW (by simp) ?_
  (refine jjB ?_; refine jjC ?_; apply jJ; exact eI rfl; refine jz ?_; refine jjB ?_; refine jjB ?_; refine jjC ?_; apply jI; exact eS rfl; refine jh rfl ?_; apply jI; exact eI rfl; refine jz ?_; refine jjD ?_)
  refine W.loop (9 :: 10 :: 5 :: 11 :: 12 :: 13 :: 14 :: 15 :: 16 :: 17 :: 4 :: 18 :: 8 :: []) (fun g s' _ => ∃ j : Nat, s' 8 = .int .i64 ((j : Nat) : Int) ∧ g = l.length - j ∧ j ≤ i) l.length ⟨0, rfl, rfl, Nat.zero_le _⟩ ?_
  rintro _ sd w1 hS1 ⟨j, h8, rfl, hj⟩
  refine W.fix h8 ?_
  clear h8
  have hjl : j < l.length := by omega
  (refine jjB ?_; refine jjC ?_; refine jjZ rfl rfl (by omega) ?_; refine jz ?_; refine jjB ?_; refine jjJ rfl ?_; refine jjG ?_; refine jjB ?_; refine jjD ?_; refine jjB ?_; refine jjC ?_; apply jI; exact eI rfl; apply jJ; exact eI rfl; refine jz ?_; refine jjB ?_; refine jjC ?_; apply jI; exact eI rfl; apply jI; exact eS rfl; apply jI; exact eI rfl; refine jF rfl rfl rfl (map_get (by omega)) ?_; intro _ _ _; refine jQ rfl rfl ?_; refine jb rfl rfl ?_; refine jz ?_)
  repeat' (first|((first|apply jI|apply jJ); exact eI rfl)|(refine jW ?_; refine jY rfl rfl (by omega) ?_)|refine jz ?_|(refine jjA ?_; (first|refine jjB ?_|refine jjC ?_|refine jjF ?_|refine jjG ?_))|(refine jjA ?_; (refine jjN rfl ?_ ?_ <;> intro _))|refine jB rfl rfl ⟨inferInstance, ?_⟩)
  · have he : x = l[j] := by assumption
    have : j = i := by
      rcases Nat.lt_or_ge j i with h | h
      · exact absurd (by rw [List.getElem?_eq_getElem hjl, he]) (hfirst j h)
      · omega
    subst this
    exact rfl
  · have he : ¬ x = l[j] := by assumption
    have : j ≠ i := by
      intro e
      subst e
      rw [List.getElem?_eq_getElem hjl] at hi
      exact he (Option.some.inj hi).symm
    exact ⟨rfl, by (((iterate 12 refine Same.upd rfl ?_); exact Same.ovN)), l.length - (j + 1), by omega, inferInstance, j + 1, congrArg (Value.int .i64) (by omega), rfl, by omega⟩

set_option maxHeartbeats 1000000 in
theorem Delete_int (g n c i : Nat) (l : List Int) (w : World) {B : Nat} (hO : OwnL w B 3 false 1 (.slice (some ⟨g, 0, none⟩) n c) (l.map intV)) (hi : i < n) (hn : n ≤ 1000000) :
    Calls Tryz.prog 63 [.slice (some ⟨g, 0, none⟩) n c, .int .i64 (i : Int), .int .i64 ((i : Int) + 1)].toArray w fun e w' => e = .returned (.slice (some ⟨g, 0, none⟩) (n - 1) c) ∧ Only g w w' ∧ OwnL w' B 3 false 1 (.slice (some ⟨g, 0, none⟩) (n - 1) c) ((l.eraseIdx i).map intV) := by
  obtain ⟨cs, hB, hcl, hnc, hcm, hll, htk, hBg⟩ := hO.cells
  have hi1 : (i : Int) + 1 = ((i + 1 : Nat) : Int) := by omega
  rw [hi1]
  rw [List.length_map] at hll
  have hcs : ∀ j, j < n → cs[j]? = (l.map intV)[j]? := fun j hj => by rw [← htk, List.getElem?_take, if_pos hj]
  refine Calls.ofW (by simp) ?_
  (refine jjB ?_; refine jjC ?_; apply jJ; exact eS rfl; refine jz ?_; refine jjB ?_; refine jjC ?_; apply jI; exact eS rfl; apply jI; exact eI rfl; apply jI; exact eI rfl; apply jI; exact eS rfl; refine jh rfl ?_)
  refine Ops.slice3 rfl rfl rfl rfl rfl rfl rfl (by omega) (by omega) (by omega) ?_
  intro v3
  (refine jz ?_; refine jjB ?_; refine jjB ?_; refine jjC ?_; apply jI; exact eI rfl; apply jI; exact eI rfl; refine jji rfl rfl (by omega) ?_; refine jz ?_; refine jjK rfl ?_; refine jjG ?_; refine jjB ?_; refine jjC ?_; apply jI; exact eS rfl; refine jh rfl ?_; apply jJ; exact eI rfl; refine jz ?_; refine jjB ?_)
  refine W.draw (fun w' => Only g w w') ?_
  intro w1 hS1
  have hO1 : Only g w w1 := .ofExt hS1.ext
  have hB1 : Bk w1 g cs 3 := hB.ext hS1.ext
  have hlen : ((l.map intV).drop (i + 1)).length = n - (i + 1) := by rw [List.length_drop, List.length_map]; omega
  have hsrc : ∀ (j : Nat) v, ((l.map intV).drop (i + 1))[j]? = some v → w1.cell? (Addr.add ⟨g, if c = i + 1 then 0 else 0 + (i + 1), none⟩ j) = some v := by
    intro j v hj
    have hjl := (List.getElem?_eq_some_iff.1 hj).1
    rw [hlen] at hjl
    rw [if_neg (by omega), Addr.add_lit]
    rw [List.getElem?_drop, ← hcs _ (by omega)] at hj
    have := hB1.cellO hj
    rwa [Nat.zero_add]
  have hone : ∀ v ∈ (l.map intV).drop (i + 1), v.oneCell' = true := int_one fun v hv => List.mem_of_mem_drop hv
  refine jjV [0, 1, 2, 3, 4, 5] (by decide +kernel) hO1 ?_
  ((repeat' (first|(apply jjT; exact rfl)|rintro w' hq|(apply jI; (first|exact eI rfl|exact eS rfl))|refine jz ?_|exact ⟨rfl, rfl⟩|refine jjU ?_)))
  · refine Ops.sliceXH (hi := i) rfl rfl rfl (by omega) ?_
    refine jz ?_
    exact ⟨rfl, rfl⟩
  · refine Ops.sliceXL (lo := i + 1) rfl rfl rfl (by omega) ?_
    refine jz ?_
    exact ⟨rfl, rfl⟩
  apply jjW 6 (by decide +kernel) rfl hO1
  refine Ops.appendRoom hB1 rfl rfl hlen hsrc hone (by omega) (by omega) ?_
  intro w2 hp2
  refine jz ?_
  have hO2 : Only g w w2 := hO1.trans (.ofPut hp2)
  have hB2 : Bk w2 g (cs.take i ++ (l.map intV).drop (i + 1) ++ cs.drop (i + (n - (i + 1)))) 3 := ⟨hp2.new⟩
  have ha : i + (n - (i + 1)) = n - 1 := by omega
  rw [ha] at hB2 ⊢
  have hti : cs.take i ++ (l.map intV).drop (i + 1) = (l.eraseIdx i).map intV := by
    rw [List.eraseIdx_eq_take_drop_succ, List.map_append, List.map_take, List.map_drop]
    congr 1
    rw [← htk, List.take_take, Nat.min_eq_left (by omega)]
  have hel : ((l.eraseIdx i).map intV).length = n - 1 := by rw [List.length_map, List.length_eraseIdx]; split <;> omega
  rw [hti] at hB2
  have hdl : (cs.drop (n - 1)).length = c - (n - 1) := by rw [List.length_drop]; omega
  refine jjV [7] (by decide +kernel) hO2 ?_
  (((apply jjT; exact rfl; rintro w' hq; apply jJ; exact eS rfl; refine jz ?_; exact ⟨rfl, rfl⟩; refine jjU ?_)))
  refine jjX (by decide +kernel) hO2 ?_
  (refine jjB ?_; refine jjC ?_; apply jI; exact eS rfl; apply jI; exact eS rfl; refine jh rfl ?_; apply jI; exact eI rfl)
  refine Ops.sliceXLH (lo := n - 1) (hi := n) rfl rfl rfl rfl rfl (by omega) (by omega) (by omega) ?_
  skip
  refine Ops.clearB hB2 rfl (by omega) (by rw [List.length_append, hel, hdl]; omega) rfl rfl ?_
  intro w3 hp3
  have hO3 : Only g w w3 := hO2.trans (.ofPut hp3)
  have hB3 : Bk w3 g _ 3 := ⟨hp3.new⟩
  (refine jz ?_; refine jjB ?_; refine jjC ?_; apply jI; exact eS rfl; apply jJ; exact eS rfl; refine jz ?_; refine jjF ?_)
  refine jB rfl rfl ⟨rfl, hO3, OwnL.ofCells hB3 ?_ (by omega) hcm ?_ (by omega) hBg (int_fit _)⟩
  · simp only [List.length_append, List.length_take, List.length_drop, List.length_replicate, hel, hdl]; omega
  · rw [List.append_assoc, List.take_append_of_le_length (by simp only [List.length_append, List.length_take, hel]; omega), List.take_take, Nat.zero_add, Nat.min_self, List.take_append_of_le_length (by omega), List.take_of_length_le (by omega)]

theorem overlaps_int (g b o n c : Nat) (w : World) (x : Int) {cs : List Value} (hB : Bk w g cs 3) (hb : Bk w b [intV x] 3) (hne : b ≠ g) (h0 : 0 < cs.length) :
    (callFunc 96 [.slice (some ⟨b, 0, none⟩) 1 1, .slice (some ⟨g, o, none⟩) n c].toArray).run Tryz.prog w = .ok (.value (.bool false)) w := by
  have hz : TS Tryz.prog 3 _ 1 _ := inferInstance
  have h1 : w.shape? b = some (3, 1) := by simp [World.shape?, hb.h]
  have h2 : w.shape? g = some (3, cs.length) := by simp [World.shape?, hB.h]
  have h3 : w.frozen? ⟨b, 0, none⟩ = false := by simp [World.frozen?, hb.h]
  have h4 : w.frozen? { block := b, off := 1 } = false := by simp [World.frozen?, hb.h]
  rw [run_callFunc_extern Tryz.func96 (by kernel_rfl) (by kernel_rfl) (by kernel_rfl) (e := Extern.SlicesOverlaps.overlaps #[ 26, 26 ] #[ 4 ]) (by kernel_rfl)]
  have := Lib.run_overlaps_apart (P := Tryz.prog) w 26 4 3 Tryz.underlying26 1 (fun w => run_sizeOf' w hz) ⟨b, 0, none⟩ ⟨g, o, none⟩ 1 1 n c hne 3 3 1 cs.length h1 h2 (by omega) h3 h4
  rw [show ([.slice (some ⟨b, 0, none⟩) 1 1, .slice (some ⟨g, o, none⟩) n c] : List Value).toArray = #[.slice (some ⟨b, 0, none⟩) 1 1, .slice (some ⟨g, o, none⟩) n c] from rfl, this]
  rfl

set_option maxHeartbeats 1000000 in
theorem Insert_int (g b n c i : Nat) (l : List Int) (x : Int) (w : World) {B : Nat} (hO : OwnL w B 3 false 1 (.slice (some ⟨g, 0, none⟩) n c) (l.map intV)) (hb : Bk w b [intV x] 3) (hne : b ≠ g) (hi : i ≤ n) (hnc : n + 1 ≤ c) (hn : n ≤ 1000000) :
    Calls Tryz.prog 62 [.slice (some ⟨g, 0, none⟩) n c, .int .i64 (i : Int), .slice (some ⟨b, 0, none⟩) 1 1].toArray w fun e w' => e = .returned (.slice (some ⟨g, 0, none⟩) (n + 1) c) ∧ Only g w w' ∧ OwnL w' B 3 false 1 (.slice (some ⟨g, 0, none⟩) (n + 1) c) ((l.take i ++ x :: l.drop i).map intV) := by
  obtain ⟨cs, hB, hcl, _, hcm, hll, htk, hBg⟩ := hO.cells
  rw [List.length_map] at hll
  have hcs : ∀ j, j < n → cs[j]? = (l.map intV)[j]? := fun j hj => by rw [← htk, List.getElem?_take, if_pos hj]
  have hm63 : maxLen = 9223372036854775807 := rfl
  have hvs : ∀ w' : World, Bk w' b [intV x] 3 → ∀ (j : Nat) v, [intV x][j]? = some v → w'.cell? (Addr.add ⟨b, 0, none⟩ j) = some v := fun w' h j v hj => by
    rw [Addr.add_lit, Nat.zero_add]; exact h.cellO hj
  have hone : ∀ v ∈ [intV x], v.oneCell' = true := by simp; rfl
  refine Calls.ofW (by simp) ?_
  (refine jjB ?_; refine jjC ?_; apply jJ; exact eS rfl; refine jz ?_; refine jjB ?_; refine jjC ?_; apply jI; exact eS rfl; apply jI; exact eI rfl)
  refine Ops.sliceXL (lo := i) rfl rfl rfl hi ?_
  by_cases hin : i = n
  · subst hin
    (refine jz ?_; refine jjB ?_; refine jjC ?_; apply jI; exact eS rfl; refine jh rfl ?_; apply jJ; exact eI rfl; refine jz ?_; refine jjB ?_; refine jjB ?_; refine jjC ?_; apply jI; exact eI rfl; refine jji rfl rfl (by omega) ?_; refine jz ?_; refine jjK rfl ?_; refine jjG ?_; refine jjB ?_; refine jjC ?_; apply jI; exact eS rfl; refine jh rfl ?_; apply jJ; exact eI rfl; refine jz ?_; refine jjB ?_; refine jjB ?_; refine jjC ?_; apply jI; exact eI rfl; apply jI; exact eI rfl; refine jjh rfl rfl (by omega) ?_; refine jz ?_; refine jjJ rfl ?_; refine jjB ?_; refine jjC ?_; apply jI; exact eS rfl; apply jI; exact eS rfl)
    refine Ops.appendRoom (us := [intV x]) hB rfl rfl rfl (hvs _ hb) hone hnc (by omega) ?_
    intro w2 hp2
    have hB2 : Bk w2 g _ 3 := ⟨hp2.new⟩
    (apply jJ; exact eS rfl; refine jz ?_; refine jjF ?_)
    refine jB rfl rfl ⟨rfl, .ofPut hp2, OwnL.ofCells hB2 ?_ hnc hcm ?_ (by omega) hBg (int_fit _)⟩
    · simp only [List.length_append, List.length_take, List.length_drop, List.length_cons, List.length_nil]; omega
    · rw [List.take_of_length_le (l := l) (by omega), List.drop_of_length_le (l := l) (by omega), htk, List.map_append]
      rw [List.take_append_of_le_length (by simp; omega), List.take_of_length_le (by simp; omega)]
      rfl
  · have hlt : i < n := by omega
    (refine jz ?_; refine jjB ?_; refine jjC ?_; apply jI; exact eS rfl; refine jh rfl ?_; apply jJ; exact eI rfl; refine jz ?_; refine jjB ?_; refine jjB ?_; refine jjC ?_; apply jI; exact eI rfl; refine jji rfl rfl (by omega) ?_; refine jz ?_; refine jjK rfl ?_; refine jjG ?_; refine jjB ?_; refine jjC ?_; apply jI; exact eS rfl; refine jh rfl ?_; apply jJ; exact eI rfl; refine jz ?_; refine jjB ?_; refine jjB ?_; refine jjC ?_; apply jI; exact eI rfl; apply jI; exact eI rfl; refine jji rfl rfl (by omega) ?_; refine jz ?_; refine jjK rfl ?_; refine jjG ?_; refine jjB ?_; refine jjB ?_; refine jjC ?_; apply jI; exact eI rfl; apply jI; exact eI rfl; refine jY rfl rfl (by omega) ?_; apply jI; exact eS rfl; refine jl rfl ?_; refine jje rfl rfl (by omega) ?_; refine jz ?_; refine jjK rfl ?_; refine jjG ?_; refine jjB ?_; refine jjC ?_; apply jI; exact eS rfl; apply jI; exact eI rfl; apply jI; exact eI rfl; refine jY rfl rfl (by omega) ?_)
    refine Ops.sliceXH (hi := n + 1) rfl rfl rfl hnc ?_
    (apply jJ; exact eS rfl; refine jz ?_; refine jjB ?_; refine jjB ?_; refine jjC ?_; apply jI; exact eS rfl; apply jI; exact eS rfl; apply jI; exact eI rfl; apply jI; exact eI rfl; refine jY rfl rfl (by omega) ?_)
    refine Ops.sliceXL2 (lo := i + 1) rfl rfl rfl (by omega) (by omega) ?_
    skip
    refine Ops.callX rfl rfl (overlaps_int g b _ _ _ w x hB hb hne (by omega)) ?_
    (refine jq rfl ?_; refine jz ?_; refine jjJ rfl ?_; refine jjB ?_)
    refine W.draw (fun w' => Only g w w') ?_
    intro w1 hS1
    have hO1 : Only g w w1 := .ofExt hS1.ext
    have hB1 : Bk w1 g cs 3 := hB.ext hS1.ext
    refine jjV [0, 1, 2, 3, 4, 5, 6, 7] (by decide +kernel) hO1 ?_
    ((repeat' (first|(apply jjT; exact rfl)|rintro w' hq|(apply jI; (first|exact eI rfl|exact eS rfl))|(refine jW ?_; refine jY rfl rfl (by omega) ?_)|refine jz ?_|exact ⟨rfl, rfl⟩|refine jjU ?_)))
    · refine Ops.sliceXL2 (lo := i + 1) rfl rfl rfl (by omega) (by omega) ?_
      refine jz ?_
      exact ⟨rfl, rfl⟩
    · refine Ops.sliceXL2 (lo := i) rfl rfl rfl (by omega) (by omega) ?_
      refine jz ?_
      exact ⟨rfl, rfl⟩
    have hdl : ((l.map intV).drop i).length = n - i := by rw [List.length_drop, List.length_map]; omega
    have hsrc : ∀ (j : Nat) v, ((l.map intV).drop i)[j]? = some v → w1.cell? (Addr.add ⟨g, 0 + i, none⟩ j) = some v := by
      intro j v hj
      have hjl := (List.getElem?_eq_some_iff.1 hj).1
      rw [hdl] at hjl
      rw [Addr.add_lit]
      rw [List.getElem?_drop, ← hcs _ (by omega)] at hj
      have := hB1.cellO hj
      rwa [Nat.zero_add]
    have hone2 : ∀ v ∈ (l.map intV).drop i, v.oneCell' = true := int_one fun v hv => List.mem_of_mem_drop hv
    apply jjW 8 (by decide +kernel) rfl hO1
    refine Ops.copyB (us := (l.map intV).drop i) hB1 rfl rfl (by rw [hdl]; omega) hsrc hone2 (by rw [hdl]; omega) ?_
    intro w2 hp2
    refine jz ?_
    have hO2 : Only g w w2 := hO1.trans (.ofPut hp2)
    have hB2 : Bk w2 g _ 3 := ⟨hp2.new⟩
    have hb2 : Bk w2 b [intV x] 3 := hp2.bk (hb.ext hS1.ext) hne
    refine jjX (by decide +kernel) hO2 ?_
    (refine jjB ?_; refine jjC ?_; apply jI; exact eS rfl; apply jI; exact eI rfl)
    refine Ops.sliceXL2 (lo := i) rfl rfl rfl (by omega) (by omega) ?_
    (apply jI; exact eS rfl)
    refine Ops.copyB (us := [intV x]) hB2 rfl rfl (by simp; omega) (hvs _ hb2) hone (by simp only [List.length_append, List.length_take, List.length_drop, List.length_cons, List.length_nil, hdl]; omega) ?_
    intro w3 hp3
    have hO3 : Only g w w3 := hO2.trans (.ofPut hp3)
    have hB3 : Bk w3 g _ 3 := ⟨hp3.new⟩
    (refine jz ?_; refine jjB ?_; refine jjC ?_; apply jI; exact eS rfl; apply jJ; exact eS rfl; refine jz ?_; refine jjF ?_)
    refine jB rfl rfl ⟨rfl, hO3, OwnL.ofCells hB3 ?_ hnc hcm ?_ (by omega) hBg (int_fit _)⟩
    · simp only [List.length_append, List.length_take, List.length_drop, List.length_cons, List.length_nil, List.length_map]; omega
    · have h1 : ((l.map intV).drop i).length = l.length - i := by rw [List.length_drop, List.length_map]
      rw [Nat.zero_add, Nat.zero_add]
      generalize hA : cs.take (i + 1) ++ (l.map intV).drop i ++ cs.drop (i + 1 + ((l.map intV).drop i).length) = A
      have hA1 : A.take i = cs.take i := by rw [← hA, List.append_assoc, List.take_append_of_le_length (by rw [List.length_take]; omega), List.take_take, Nat.min_eq_left (by omega)]
      have hA2 : (A.drop (i + 1)).take (n - i) = (l.map intV).drop i := by
        rw [← hA, List.append_assoc, List.drop_append_of_le_length (by rw [List.length_take]; omega), List.drop_of_length_le (by rw [List.length_take]; omega), List.nil_append, List.take_append_of_le_length (by omega), List.take_of_length_le (by omega)]
      have hA3 : cs.take i = (l.take i).map intV := by rw [List.map_take, ← htk, List.take_take, Nat.min_eq_left (by omega)]
      rw [hA1, hA3, List.map_append, List.map_cons, List.map_drop, ← hA2]
      have h2 : ((l.take i).map intV).length = i := by rw [List.length_map, List.length_take]; omega
      rw [List.append_assoc, List.take_append, h2, List.take_of_length_le (by omega)]
      congr 1
      have : n + 1 - i = (n - i) + 1 := by omega
      rw [this]
      rfl

theorem Less_int (x y : Int) (w : World) : Ct Tryz.prog 106 [.int .i64 x, .int .i64 y] w fun v _ => v = .bool (decide (x < y)) := by
  refine Ct.ofW (by simp) ?_
  (refine jjB ?_; refine jjC ?_; apply jJ; exact eB rfl; refine jz ?_; refine jjB ?_; refine jjC ?_; apply jI; exact eI rfl)
  refine jjQ (isNaN_cmp x _) rfl rfl ?_
  rintro _ w2 hS2 rfl
  (apply jI; exact eB rfl; refine jU rfl rfl rfl rfl ?_; refine jU rfl rfl rfl rfl ?_; refine jU rfl rfl rfl rfl ?_; apply jL rfl; exact eB rfl; apply jI; exact eB rfl; refine jT rfl rfl rfl ?_; apply jI; exact eI rfl; refine jT rfl rfl rfl ?_; apply jI; exact eI rfl; refine jT rfl rfl rfl ?_; refine jX rfl rfl ?_; apply jL rfl; exact eB rfl; apply jJ; exact eB rfl; refine jz ?_; refine jjF ?_; refine jB rfl rfl ⟨inferInstance, ?_⟩)
  exact rfl
theorem isNaN_slices (x : Int) (w : World) : Ct Tryz.prog 107 [.int .i64 x] w fun v _ => v = .bool false := by
  refine Ct.ofW (by simp) ?_
  (refine jjB ?_; refine jjC ?_; apply jJ; exact eB rfl; refine jz ?_; refine jjB ?_; refine jjC ?_; apply jI; exact eI rfl; apply jI; exact eI rfl; refine jc rfl rfl ?_; apply jJ; exact eB rfl; refine jz ?_; refine jjF ?_; refine jB rfl rfl ⟨inferInstance, ?_⟩)
  exact congrArg Value.bool (by simp)

set_option maxHeartbeats 1000000 in
theorem BinarySearch_int (a : Option Addr) (c : Nat) (l : List Int) (x : Int) (w : World) (hl : l.length ≤ 1000000) [hrow : RowI w (.slice a l.length c) false 1 (l.map intV)] (hs : ∀ (i j : Nat) (hi : i < l.length) (hj : j < l.length), i ≤ j → l[i] ≤ l[j]) :
    Ct Tryz.prog 75 [.slice a l.length c, .int .i64 x] w fun v _ => ∃ (p : Nat) (q : Bool), v = .tuple #[.int .i64 (p : Int), .bool q] ∧ p ≤ l.length ∧ (∀ (j : Nat) (hj : j < l.length), j < p → l[j] < x) ∧ ∀ (j : Nat) (hj : j < l.length), p ≤ j → x ≤ l[j] := by
  refine Ct.ofW (by simp) ?_
  (refine jjB ?_; refine jjC ?_; apply jJ; exact eI rfl; apply jJ; exact eB rfl; refine jz ?_; refine jjB ?_; refine jjC ?_; apply jI; exact eS rfl; refine jh rfl ?_; apply jJ; exact eI rfl; refine jz ?_; refine jjB ?_; refine jjC ?_; apply jI; exact eI rfl; apply jJ; exact eI rfl; apply jJ; exact eI rfl; refine jz ?_; refine jjB ?_; refine jjD ?_)
  refine W.loop (13 :: 14 :: 15 :: 16 :: 17 :: 18 :: 19 :: 20 :: 21 :: 9 :: 22 :: 23 :: 24 :: 25 :: 26 :: 27 :: 28 :: 29 :: 7 :: 30 :: 8 :: []) (fun g s' _ => ∃ p r : Nat, s' 7 = .int .i64 ((p : Nat) : Int) ∧ s' 8 = .int .i64 ((r : Nat) : Int) ∧ g = r - p ∧ p ≤ r ∧ r ≤ l.length ∧ (∀ (j : Nat) (hj : j < l.length), j < p → l[j] < x) ∧ ∀ (j : Nat) (hj : j < l.length), r ≤ j → x ≤ l[j]) l.length ⟨0, l.length, rfl, rfl, rfl, by omega, by omega, by intros; omega, by intros; omega⟩ ?_
  rintro _ sd w1 hS1 ⟨p, r, h7, h8, rfl, hpr, hrl, hlo, hhi⟩
  refine W.fix h7 (W.fix (d := 8) h8 ?_)
  clear h7 h8
  by_cases hlt : p < r
  · (refine jjB ?_; refine jjB ?_; refine jjC ?_; apply jI; exact eI rfl; apply jI; exact eI rfl; refine jjZ rfl rfl (by omega) ?_; refine jz ?_; refine jjJ rfl ?_; refine jjG ?_; refine jjD ?_; refine jjB ?_; refine jjC ?_; apply jI; exact eI rfl; apply jI; exact eI rfl; refine jY rfl rfl (by omega) ?_)
    refine Ops.convI rfl rfl (wrap64 (by omega) (by omega)) ?_
    refine Ops.half (a := p + r) rfl (by omega) rfl ?_
    refine Ops.convI rfl rfl (wrapi (by omega) (by omega)) ?_
    obtain ⟨q, hq⟩ : ∃ q, (p + r) / 2 = q := ⟨_, rfl⟩
    have hq1 : p ≤ q := by omega
    have hq2 : q < r := by omega
    refine Ops.fix (d := 21) (v := .int .i64 ((q : Nat) : Int)) (congrArg (Value.int .i64) (congrArg Nat.cast hq)) ?_
    clear hq
    have hql : q < l.length := by omega
    (apply jJ; exact eI rfl; refine jz ?_; refine jjB ?_; refine jjC ?_; apply jI; exact eS rfl; apply jI; exact eI rfl; refine jF rfl rfl rfl (map_get (by omega)) ?_; intro _ _ _; refine jQ rfl rfl ?_; apply jI; exact eI rfl)
    refine jjQ (Less_int l[q] x _) rfl rfl ?_
    rintro _ w2 hS2 rfl
    repeat' (first|((first|apply jI|apply jJ); exact eI rfl)|(refine jW ?_; refine jY rfl rfl (by omega) ?_)|refine jz ?_|(refine jjA ?_; refine jjC ?_)|(refine jjA ?_; (refine jjN rfl ?_ ?_ <;> intro _)))
    · have hlx : l[q] < x := by assumption
      refine ⟨rfl, by (((iterate 22 refine Same.upd rfl ?_); exact Same.ovN)), r - (q + 1), by omega, inferInstance, q + 1, r, congrArg (Value.int .i64) (by omega), rfl, rfl, by omega, hrl, fun j hj hjq => ?_, hhi⟩
      have := hs j q hj hql (by omega)
      omega
    · have hlx : ¬ l[q] < x := by assumption
      refine ⟨rfl, by (((iterate 21 refine Same.upd rfl ?_); exact Same.ovN)), q - p, by omega, inferInstance, p, q, rfl, rfl, rfl, by omega, by omega, hlo, fun j hj hjq => ?_⟩
      have := hs q j hql hj (by omega)
      omega
  · obtain rfl : p = r := by omega
    by_cases hpl : p < l.length
    · by_cases hx : l[p] = x
      · (refine jjB ?_; refine jjB ?_; refine jjC ?_; apply jI; exact eI rfl; apply jI; exact eI rfl; refine jja rfl rfl (by omega) ?_; refine jz ?_; refine jjK rfl ?_; refine jjE ?_; refine jjB ?_; refine jjC ?_; apply jI; exact eI rfl; apply jI; exact eI rfl; apply jI; exact eI rfl; refine jjZ rfl rfl (by omega) ?_; apply jI; exact eB rfl; refine jT rfl rfl rfl ?_; apply jI; exact eS rfl; refine jT rfl rfl rfl ?_; apply jI; exact eI rfl; refine jT rfl rfl rfl ?_; refine jF rfl rfl rfl (map_get (by omega)) ?_; intro _ _ _; refine jT rfl rfl rfl ?_; refine jQ rfl rfl ?_; refine jT rfl rfl rfl ?_; apply jI; exact eI rfl; refine jT rfl rfl rfl ?_; refine jjh rfl rfl (by omega) ?_; refine jT rfl rfl rfl ?_; apply jI; exact eB rfl; refine jU rfl rfl rfl rfl ?_; refine jU rfl rfl rfl rfl ?_; refine jU rfl rfl rfl rfl ?_; refine jU rfl rfl rfl rfl ?_; refine jU rfl rfl rfl rfl ?_; refine jU rfl rfl rfl rfl ?_; refine jV rfl rfl ?_; refine jV rfl rfl ?_; refine jU rfl rfl rfl rfl ?_; refine jT rfl rfl rfl ?_; apply jK rfl; exact eB rfl; apply jK rfl; exact eB rfl; apply jJ; exact eI rfl; apply jJ; exact eB rfl; refine jz ?_; refine jjF ?_; refine jC rfl rfl rfl ⟨inferInstance, ?_⟩)
        exact ⟨p, true, rfl, hrl, hlo, hhi⟩
      · (refine jjB ?_; refine jjB ?_; refine jjC ?_; apply jI; exact eI rfl; apply jI; exact eI rfl; refine jja rfl rfl (by omega) ?_; refine jz ?_; refine jjK rfl ?_; refine jjE ?_; refine jjB ?_; refine jjC ?_; apply jI; exact eI rfl; apply jI; exact eI rfl; apply jI; exact eI rfl; refine jjZ rfl rfl (by omega) ?_; apply jI; exact eB rfl; refine jT rfl rfl rfl ?_; apply jI; exact eS rfl; refine jT rfl rfl rfl ?_; apply jI; exact eI rfl; refine jT rfl rfl rfl ?_; refine jF rfl rfl rfl (map_get (by omega)) ?_; intro _ _ _; refine jT rfl rfl rfl ?_; refine jQ rfl rfl ?_; refine jT rfl rfl rfl ?_; apply jI; exact eI rfl; refine jT rfl rfl rfl ?_; refine jji rfl rfl (by omega) ?_; refine jT rfl rfl rfl ?_; apply jI; exact eB rfl; refine jT rfl rfl rfl ?_; apply jI; exact eS rfl; refine jT rfl rfl rfl ?_; apply jI; exact eI rfl; refine jT rfl rfl rfl ?_; refine jF rfl rfl rfl (map_get (by omega)) ?_; intro _ _ _; refine jT rfl rfl rfl ?_; refine jQ rfl rfl ?_; refine jT rfl rfl rfl ?_)
        refine jjQ (isNaN_slices l[p] _) rfl rfl ?_
        rintro _ w2 hS2 rfl
        (refine jT rfl rfl rfl ?_; apply jI; exact eB rfl; refine jU rfl rfl rfl rfl ?_; refine jU rfl rfl rfl rfl ?_; refine jT rfl rfl rfl ?_; apply jL rfl; exact eB rfl; refine jT rfl rfl rfl ?_; apply jL rfl; exact eB rfl; apply jK rfl; exact eB rfl; apply jJ; exact eI rfl; apply jJ; exact eB rfl; refine jz ?_; refine jjF ?_; refine jC rfl rfl rfl ⟨inferInstance, ?_⟩)
        exact ⟨p, _, rfl, hrl, hlo, hhi⟩
    · (refine jjB ?_; refine jjB ?_; refine jjC ?_; apply jI; exact eI rfl; apply jI; exact eI rfl; refine jja rfl rfl (by omega) ?_; refine jz ?_; refine jjK rfl ?_; refine jjE ?_; refine jjB ?_; refine jjC ?_; apply jI; exact eI rfl; apply jI; exact eI rfl; apply jI; exact eI rfl; refine jja rfl rfl (by omega) ?_; apply jI; exact eB rfl; refine jU rfl rfl rfl rfl ?_; refine jU rfl rfl rfl rfl ?_; refine jU rfl rfl rfl rfl ?_; refine jU rfl rfl rfl rfl ?_; refine jU rfl rfl rfl rfl ?_; refine jU rfl rfl rfl rfl ?_; refine jU rfl rfl rfl rfl ?_; refine jV rfl rfl ?_; refine jV rfl rfl ?_; refine jV rfl rfl ?_; refine jV rfl rfl ?_; refine jV rfl rfl ?_; refine jV rfl rfl ?_; refine jV rfl rfl ?_; refine jV rfl rfl ?_; refine jV rfl rfl ?_; refine jU rfl rfl rfl rfl ?_; apply jL rfl; exact eB rfl; apply jJ; exact eI rfl; apply jJ; exact eB rfl; refine jz ?_; refine jjF ?_; refine jC rfl rfl rfl ⟨inferInstance, ?_⟩)
      exact ⟨p, _, rfl, hrl, hlo, hhi⟩

/-- How two rows of numbers compare. -/
def lexC : List Int → List Int → Int
  | [], [] => 0
  | [], _ :: _ => -1
  | _ :: _, [] => 1
  | x :: xs, y :: ys => if x < y then -1 else if y < x then 1 else lexC xs ys
theorem lexC_drop {l m : List Int} {j : Nat} (h1 : j < l.length) (h2 : j < m.length) : lexC (l.drop j) (m.drop j) = if l[j] < m[j] then -1 else if m[j] < l[j] then 1 else lexC (l.drop (j + 1)) (m.drop (j + 1)) := by
  rw [List.drop_eq_getElem_cons h1, List.drop_eq_getElem_cons h2, lexC]
theorem lexC_end1 {l m : List Int} {j : Nat} (h1 : l.length ≤ j) (h2 : j < m.length) : lexC (l.drop j) (m.drop j) = -1 := by
  rw [List.drop_of_length_le h1, List.drop_eq_getElem_cons h2, lexC]
theorem lexC_end2 {l m : List Int} {j : Nat} (h1 : j < l.length) (h2 : m.length ≤ j) : lexC (l.drop j) (m.drop j) = 1 := by
  rw [List.drop_of_length_le h2, List.drop_eq_getElem_cons h1, lexC]
theorem lexC_end3 {l m : List Int} {j : Nat} (h1 : l.length ≤ j) (h2 : m.length ≤ j) : lexC (l.drop j) (m.drop j) = 0 := by
  rw [List.drop_of_length_le h2, List.drop_of_length_le h1, lexC]

set_option maxHeartbeats 1000000 in
theorem CompareS_int (a b : Option Addr) (c e : Nat) (l m : List Int) (w : World) (hl : l.length ≤ 1000000) [h1 : RowI w (.slice a l.length c) false 1 (l.map intV)] [h2 : RowI w (.slice b m.length e) false 1 (m.map intV)] :
    Ct Tryz.prog 103 [.slice a l.length c, .slice b m.length e] w fun v _ => v = .int .i64 (lexC l m) := by
  refine Ct.ofW (by simp) ?_
  (refine jjB ?_; refine jjC ?_; apply jJ; exact eI rfl; refine jz ?_; refine jjB ?_; refine jjB ?_; refine jjC ?_; apply jI; exact eS rfl; refine jh rfl ?_; apply jI; exact eI rfl; refine jz ?_; refine jjD ?_)
  refine W.loop (12 :: 13 :: 14 :: 15 :: 5 :: 6 :: 16 :: 17 :: 18 :: 19 :: 4 :: 20 :: 21 :: 22 :: 23 :: 7 :: 24 :: 25 :: 26 :: 8 :: 27 :: 28 :: 29 :: 30 :: 11 :: []) (fun g s' _ => ∃ j : Nat, s' 11 = .int .i64 ((j : Nat) : Int) ∧ g = l.length - j ∧ j ≤ l.length ∧ j ≤ m.length ∧ lexC l m = lexC (l.drop j) (m.drop j)) l.length ⟨0, rfl, rfl, by omega, by omega, rfl⟩ ?_
  rintro _ sd w1 hS1 ⟨j, h11, rfl, hj, hjm, he⟩
  refine W.fix h11 ?_
  clear h11
  rw [he]
  by_cases hjl : j < l.length
  · by_cases hm : j < m.length
    · rw [lexC_drop hjl hm]
      by_cases c1 : l[j] < m[j]
      · rw [if_pos c1]
        (refine jjB ?_; refine jjC ?_; refine jjZ rfl rfl (by omega) ?_; refine jz ?_; refine jjB ?_; refine jjJ rfl ?_; refine jjG ?_; refine jjB ?_; refine jjD ?_; refine jjB ?_; refine jjC ?_; apply jI; exact eI rfl; refine jF rfl rfl rfl (map_get (by omega)) ?_; intro _ _ _; refine jQ rfl rfl ?_; apply jJ; exact eI rfl; apply jJ; exact eI rfl; refine jz ?_; refine jjB ?_; refine jjB ?_; refine jjC ?_; apply jI; exact eI rfl; apply jI; exact eS rfl; refine jh rfl ?_; refine jjg rfl rfl (by omega) ?_; refine jz ?_; refine jjK rfl ?_; refine jjG ?_; refine jjB ?_; refine jjC ?_; apply jI; exact eS rfl; apply jI; exact eI rfl; refine jF rfl rfl rfl (map_get (by omega)) ?_; intro _ _ _; refine jQ rfl rfl ?_; apply jJ; exact eI rfl; refine jz ?_; refine jjB ?_; refine jjC ?_; apply jI; exact eI rfl; apply jI; exact eI rfl)
        refine jjQ ((Compare_int l[j] m[j] _).mono fun v _ _ e' => e'.trans (by rw [if_pos c1])) rfl rfl ?_
        rintro _ w2 hS2 rfl
        (apply jJ; exact eI rfl; refine jz ?_; refine jjB ?_; refine jjC ?_; apply jI; exact eI rfl; refine jjj rfl rfl (by omega) ?_; refine jz ?_; refine jjJ rfl ?_; refine jjB ?_; refine jjC ?_; apply jI; exact eI rfl; apply jJ; exact eI rfl; refine jz ?_; refine jjF ?_; refine jB rfl rfl ⟨inferInstance, ?_⟩)
        exact rfl
      · rw [if_neg c1]
        by_cases c2 : m[j] < l[j]
        · rw [if_pos c2]
          (refine jjB ?_; refine jjC ?_; refine jjZ rfl rfl (by omega) ?_; refine jz ?_; refine jjB ?_; refine jjJ rfl ?_; refine jjG ?_; refine jjB ?_; refine jjD ?_; refine jjB ?_; refine jjC ?_; apply jI; exact eI rfl; refine jF rfl rfl rfl (map_get (by omega)) ?_; intro _ _ _; refine jQ rfl rfl ?_; apply jJ; exact eI rfl; apply jJ; exact eI rfl; refine jz ?_; refine jjB ?_; refine jjB ?_; refine jjC ?_; apply jI; exact eI rfl; apply jI; exact eS rfl; refine jh rfl ?_; refine jjg rfl rfl (by omega) ?_; refine jz ?_; refine jjK rfl ?_; refine jjG ?_; refine jjB ?_; refine jjC ?_; apply jI; exact eS rfl; apply jI; exact eI rfl; refine jF rfl rfl rfl (map_get (by omega)) ?_; intro _ _ _; refine jQ rfl rfl ?_; apply jJ; exact eI rfl; refine jz ?_; refine jjB ?_; refine jjC ?_; apply jI; exact eI rfl; apply jI; exact eI rfl)
          refine jjQ ((Compare_int l[j] m[j] _).mono fun v _ _ e' => e'.trans (by rw [if_neg c1, if_pos c2])) rfl rfl ?_
          rintro _ w2 hS2 rfl
          (apply jJ; exact eI rfl; refine jz ?_; refine jjB ?_; refine jjC ?_; apply jI; exact eI rfl; refine jjj rfl rfl (by omega) ?_; refine jz ?_; refine jjJ rfl ?_; refine jjB ?_; refine jjC ?_; apply jI; exact eI rfl; apply jJ; exact eI rfl; refine jz ?_; refine jjF ?_; refine jB rfl rfl ⟨inferInstance, ?_⟩)
          exact rfl
        · rw [if_neg c2]
          (refine jjB ?_; refine jjC ?_; refine jjZ rfl rfl (by omega) ?_; refine jz ?_; refine jjB ?_; refine jjJ rfl ?_; refine jjG ?_; refine jjB ?_; refine jjD ?_; refine jjB ?_; refine jjC ?_; apply jI; exact eI rfl; refine jF rfl rfl rfl (map_get (by omega)) ?_; intro _ _ _; refine jQ rfl rfl ?_; apply jJ; exact eI rfl; apply jJ; exact eI rfl; refine jz ?_; refine jjB ?_; refine jjB ?_; refine jjC ?_; apply jI; exact eI rfl; apply jI; exact eS rfl; refine jh rfl ?_; refine jjg rfl rfl (by omega) ?_; refine jz ?_; refine jjK rfl ?_; refine jjG ?_; refine jjB ?_; refine jjC ?_; apply jI; exact eS rfl; apply jI; exact eI rfl; refine jF rfl rfl rfl (map_get (by omega)) ?_; intro _ _ _; refine jQ rfl rfl ?_; apply jJ; exact eI rfl; refine jz ?_; refine jjB ?_; refine jjC ?_; apply jI; exact eI rfl; apply jI; exact eI rfl)
          refine jjQ ((Compare_int l[j] m[j] _).mono fun v _ _ e' => e'.trans (by rw [if_neg c1, if_neg c2])) rfl rfl ?_
          rintro _ w2 hS2 rfl
          (apply jJ; exact eI rfl; refine jz ?_; refine jjB ?_; refine jjC ?_; apply jI; exact eI rfl; refine jjk rfl rfl (by omega) ?_; refine jz ?_; refine jjK rfl ?_; refine jjG ?_; refine jjC ?_; refine jY rfl rfl (by omega) ?_; apply jI; exact eI rfl; refine jz ?_)
          refine ⟨rfl, by (((iterate 24 refine Same.upd rfl ?_); exact Same.ovN)), l.length - (j + 1), by omega, inferInstance, j + 1, congrArg (Value.int .i64) (by omega), rfl, by omega, by omega, ?_⟩
          rfl
    · rw [lexC_end2 hjl (by omega)]
      (refine jjB ?_; refine jjC ?_; refine jjZ rfl rfl (by omega) ?_; refine jz ?_; refine jjB ?_; refine jjJ rfl ?_; refine jjG ?_; refine jjB ?_; refine jjD ?_; refine jjB ?_; refine jjC ?_; apply jI; exact eI rfl; refine jF rfl rfl rfl (map_get (by omega)) ?_; intro _ _ _; refine jQ rfl rfl ?_; apply jJ; exact eI rfl; apply jJ; exact eI rfl; refine jz ?_; refine jjB ?_; refine jjB ?_; refine jjC ?_; apply jI; exact eI rfl; apply jI; exact eS rfl; refine jh rfl ?_; refine jjf rfl rfl (by omega) ?_; refine jz ?_; refine jjJ rfl ?_; refine jjB ?_; refine jjC ?_; apply jJ; exact eI rfl; refine jz ?_; refine jjF ?_; refine jB rfl rfl ⟨inferInstance, ?_⟩)
      exact rfl
  · by_cases hm : j < m.length
    · rw [lexC_end1 (by omega) hm]
      (refine jjB ?_; refine jjC ?_; refine jja rfl rfl (by omega) ?_; refine jz ?_; refine jjB ?_; refine jjK rfl ?_; refine jjE ?_; refine jjB ?_; refine jjB ?_; refine jjC ?_; apply jI; exact eS rfl; refine jh rfl ?_; apply jI; exact eS rfl; refine jh rfl ?_; refine jjZ rfl rfl (by omega) ?_; refine jz ?_; refine jjJ rfl ?_; refine jjB ?_; refine jjC ?_; apply jJ; exact eI rfl; refine jz ?_; refine jjF ?_; refine jB rfl rfl ⟨inferInstance, ?_⟩)
      exact rfl
    · rw [lexC_end3 (by omega) (by omega)]
      (refine jjB ?_; refine jjC ?_; refine jja rfl rfl (by omega) ?_; refine jz ?_; refine jjB ?_; refine jjK rfl ?_; refine jjE ?_; refine jjB ?_; refine jjB ?_; refine jjC ?_; apply jI; exact eS rfl; refine jh rfl ?_; apply jI; exact eS rfl; refine jh rfl ?_; refine jja rfl rfl (by omega) ?_; refine jz ?_; refine jjK rfl ?_; refine jjG ?_; refine jjB ?_; refine jjC ?_; apply jJ; exact eI rfl; refine jz ?_; refine jjF ?_; refine jB rfl rfl ⟨inferInstance, ?_⟩)
      exact rfl

/-- How many slips whose ranks do not fall begin with each one, at most. -/
structure BegR (d C : List Int) : Prop where
  len : C.length = d.length
  pos : ∀ i, i < d.length → 1 ≤ gd C i
  up : ∀ i k, i < k → k < d.length → gd d i ≤ gd d k → gd C k + 1 ≤ gd C i
  ex : ∀ i, i < d.length → gd C i = 1 ∨ ∃ k, i < k ∧ k < d.length ∧ gd d i ≤ gd d k ∧ gd C i = gd C k + 1
theorem BegR.uniq {d C C' : List Int} (h : BegR d C) (g : BegR d C') : C = C' := by
  refine ext_gd (h.len.trans g.len.symm) fun i hi => ?_
  rw [h.len] at hi
  obtain ⟨m, hm⟩ : ∃ m, m = d.length - i := ⟨_, rfl⟩
  induction m using Nat.strongRecOn generalizing i with
  | ind m ih =>
    have h1 : gd C i ≤ gd C' i := by
      rcases h.ex i hi with e | ⟨k, hk, hk2, hd, e⟩
      · have := g.pos i hi; omega
      · have := g.up i k hk hk2 hd
        have := ih (d.length - k) (by omega) k hk2 rfl; omega
    have h2 : gd C' i ≤ gd C i := by
      rcases g.ex i hi with e | ⟨k, hk, hk2, hd, e⟩
      · have := h.pos i hi; omega
      · have := h.up i k hk hk2 hd
        have := ih (d.length - k) (by omega) k hk2 rfl; omega
    omega
theorem BegR.le {d C : List Int} (h : BegR d C) : ∀ i, i < d.length → gd C i ≤ d.length - i := by
  intro i hi
  obtain ⟨m, hm⟩ : ∃ m, m = d.length - i := ⟨_, rfl⟩
  induction m using Nat.strongRecOn generalizing i with
  | ind m ih =>
    rcases h.ex i hi with e | ⟨k, hk, hk2, hd, e⟩
    · omega
    · have := ih (d.length - k) (by omega) k hk2 rfl; omega

/-- The numbers from i to before n. -/
abbrev upR (i n : Nat) : List Nat := List.range' i (n - i)
theorem upR_nil {i n : Nat} (h : n ≤ i) : upR i n = [] := by rw [upR, Nat.sub_eq_zero_of_le h]; rfl
theorem upR_mem {i n k : Nat} : k ∈ upR i n ↔ i ≤ k ∧ k < n := by rw [upR, List.mem_range'_1]; omega
/-- Slip k comes behind slip i, of as many as are left. -/
def nxB (d C : List Int) (last : Option Nat) (left : Int) (k : Nat) : Bool := decide (gd C k = left) && (match last with | none => true | some j => decide (gd d j ≤ gd d k))
def nextK (d C : List Int) (i : Nat) : Option Nat := (upR (i + 1) d.length).find? (nxB d C (some i) (gd C i - 1))
theorem nextK_some {d C : List Int} {i k : Nat} (h : nextK d C i = some k) : i < k ∧ k < d.length ∧ gd C k = gd C i - 1 ∧ gd d i ≤ gd d k := by
  have h1 := upR_mem.1 (List.mem_of_find?_eq_some h)
  have h2 := List.find?_some h
  simp only [nxB, Bool.and_eq_true, decide_eq_true_eq] at h2
  exact ⟨by omega, h1.2, h2.1, h2.2⟩
def pathF (d C : List Int) : Nat → Nat → List Int
  | 0, _ => []
  | f + 1, i => (i : Int) :: (match nextK d C i with | none => [] | some k => pathF d C f k)
theorem pathF_stable (d C : List Int) : ∀ (m i f g : Nat), d.length - i = m → m ≤ f → m ≤ g → i < d.length → pathF d C f i = pathF d C g i := by
  intro m
  induction m using Nat.strongRecOn with
  | ind m ih =>
    intro i f g hm hf hg hi
    obtain ⟨f', rfl⟩ : ∃ f', f = f' + 1 := ⟨f - 1, by omega⟩
    obtain ⟨g', rfl⟩ : ∃ g', g = g' + 1 := ⟨g - 1, by omega⟩
    rw [pathF, pathF]
    cases hk : nextK d C i with
    | none => rfl
    | some k =>
      have := nextK_some hk
      simp only
      rw [ih (d.length - k) (by omega) k f' g' rfl (by omega) (by omega) this.2.1]
/-- The best slips that begin with slip i. -/
def pathK (d C : List Int) (i : Nat) : List Int := pathF d C d.length i
theorem pathK_eq {d C : List Int} {i : Nat} (hi : i < d.length) : pathK d C i = (i : Int) :: ((nextK d C i).map (pathK d C)).getD [] := by
  obtain ⟨n, hn⟩ : ∃ n, d.length = n + 1 := ⟨d.length - 1, by omega⟩
  rw [pathK, hn, pathF]
  cases hk : nextK d C i with
  | none => rfl
  | some k =>
    have := nextK_some hk
    simp only [Option.map_some, Option.getD_some]
    rw [pathK, pathF_stable d C (d.length - k) k n d.length rfl (by omega) (by omega) this.2.1]
theorem find_none {p : Nat → Bool} {i n : Nat} (h : (upR i n).find? p = none) : ∀ k, i ≤ k → k < n → p k = false := by
  intro k h1 h2
  rw [List.find?_eq_none] at h
  simpa using h k (upR_mem.2 ⟨h1, h2⟩)
theorem nextK_none {d C : List Int} (h : BegR d C) {i : Nat} (hi : i < d.length) (hn : nextK d C i = none) : gd C i = 1 := by
  rcases h.ex i hi with e | ⟨k, hk, hk2, hd, e⟩
  · exact e
  · have := find_none hn k (by omega) hk2
    simp only [nxB, Bool.and_eq_false_iff, decide_eq_false_iff_not] at this
    rcases this with this | this
    · omega
    · exact absurd hd this
theorem pathK_len {d C : List Int} (h : BegR d C) : ∀ i, i < d.length → ((pathK d C i).length : Int) = gd C i := by
  intro i hi
  obtain ⟨m, hm⟩ : ∃ m, m = d.length - i := ⟨_, rfl⟩
  induction m using Nat.strongRecOn generalizing i with
  | ind m ih =>
    rw [pathK_eq hi]
    cases hk : nextK d C i with
    | none => rw [nextK_none h hi hk]; rfl
    | some k =>
      have h1 := nextK_some hk
      have := ih (d.length - k) (by omega) k h1.2.1 rfl
      simp only [Option.map_some, Option.getD_some, List.length_cons]
      omega

/-- A row is better: longer, or as long and lower. -/
def longB (a b : List Int) : Bool := decide (b.length < a.length) || (decide (a.length = b.length) && decide (lexC a b < 0))
def betS (b x : List Int) : List Int := if longB x b then x else b
/-- The first one of rows of which none is better. -/
def firstF : List (List Int) → List Int
  | [] => []
  | x :: xs => xs.foldl betS x
theorem longB_longer {a b : List Int} (h : b.length < a.length) : longB a b = true := by simp [longB, h]
theorem longB_shorter {a b : List Int} (h : a.length < b.length) : longB a b = false := by
  simp only [longB, Bool.or_eq_false_iff, decide_eq_false_iff_not, Bool.and_eq_false_iff]
  exact ⟨by omega, .inl (by omega)⟩
theorem longB_first {a b : List Int} {x y : Int} (h : a.length = b.length) (hxy : y < x) : longB (x :: a) (y :: b) = false := by
  simp only [longB, Bool.or_eq_false_iff, decide_eq_false_iff_not, Bool.and_eq_false_iff, List.length_cons]
  refine ⟨by omega, .inr ?_⟩
  rw [lexC, if_neg (by omega), if_pos hxy]; omega

section
variable {d C : List Int} (h : BegR d C)
include h
theorem fold_low {T : Nat} : ∀ (ks : List Nat) (b : List Int), (∀ k ∈ ks, k < d.length ∧ gd C k < T) → b.length < T → ((ks.map (pathK d C)).foldl betS b).length < T := by
  intro ks
  induction ks with
  | nil => intro b _ hb; exact hb
  | cons k ks ih =>
    intro b hk hb
    rw [List.map_cons, List.foldl_cons]
    refine ih _ (fun x hx => hk x (List.mem_cons_of_mem _ hx)) ?_
    have h1 := hk k List.mem_cons_self
    have := pathK_len h k h1.1
    rw [betS]
    split <;> omega
theorem fold_top {T : Nat} {m : Nat} (hm : m < d.length) (hT : gd C m = T) : ∀ (ks : List Nat), (∀ k ∈ ks, m < k ∧ k < d.length ∧ gd C k ≤ T) → (ks.map (pathK d C)).foldl betS (pathK d C m) = pathK d C m := by
  intro ks
  induction ks with
  | nil => intro _; rfl
  | cons k ks ih =>
    intro hk
    rw [List.map_cons, List.foldl_cons]
    have h1 := hk k List.mem_cons_self
    have e1 := pathK_len h k h1.2.1
    have e2 := pathK_len h m hm
    have hb : longB (pathK d C k) (pathK d C m) = false := by
      rcases Int.lt_or_eq_of_le h1.2.2 with h2 | h2
      · exact longB_shorter (by omega)
      · rw [pathK_eq h1.2.1] at e1 ⊢
        rw [pathK_eq hm] at e2 ⊢
        simp only [List.length_cons] at e1 e2
        exact longB_first (by omega) (by omega)
    rw [betS, hb]
    exact ih fun x hx => hk x (List.mem_cons_of_mem _ hx)
/-- The best one of several is the first one of the longest. -/
theorem first_find {T : Nat} (hT : 1 ≤ T) {i n : Nat} (hn : n ≤ d.length) {p : Nat → Bool} {m : Nat} (hle : ∀ k, i ≤ k → k < n → p k = true → gd C k ≤ T) (hf : (upR i n).find? (fun k => p k && decide (gd C k = T)) = some m) :
    firstF ([] :: ((upR i n).filter p).map (pathK d C)) = pathK d C m := by
  have hf' : ((upR i n).filter p).find? (fun k => decide (gd C k = T)) = some m := by
    rw [List.find?_filter, ← hf]
    congr 1
    funext k
    cases p k <;> simp
  rw [List.find?_eq_some_iff_append] at hf'
  obtain ⟨h1, us, vs, h2, h3⟩ := hf'
  rw [firstF, h2, List.map_append, List.foldl_append, List.map_cons, List.foldl_cons]
  have hmem : ∀ k, k ∈ us ++ m :: vs → i ≤ k ∧ k < n ∧ p k = true := fun k hk => by
    rw [← h2, List.mem_filter, upR_mem] at hk
    exact ⟨hk.1.1, hk.1.2, hk.2⟩
  have hsort : (us ++ m :: vs).Pairwise (· < ·) := by
    rw [← h2]
    exact (List.pairwise_lt_range' (s := i) (n := n - i)).filter _
  rw [List.pairwise_append, List.pairwise_cons] at hsort
  have hm := hmem m (by simp)
  simp only [decide_eq_true_eq] at h1
  have hlow := fold_low h (T := T) us [] (fun k hk => by
    have := hmem k (by simp [hk])
    have h4 := h3 k hk
    simp only [Bool.not_eq_true', decide_eq_false_iff_not] at h4
    have := hle k this.1 this.2.1 this.2.2
    exact ⟨by omega, by omega⟩) (by simp; omega)
  have e2 := pathK_len h m (by omega)
  rw [betS, longB_longer (by omega), if_pos rfl]
  exact fold_top h (by omega) h1 vs fun k hk => by
    have := hmem k (by simp [hk])
    have := hle k this.1 this.2.1 this.2.2
    exact ⟨hsort.2.1.1 k hk, by omega, this⟩
/-- What the recursion makes. -/
theorem pathK_first {i : Nat} (hi : i < d.length) : pathK d C i = (i : Int) :: firstF ([] :: ((upR (i + 1) d.length).filter fun k => decide (gd d i ≤ gd d k)).map (pathK d C)) := by
  rw [pathK_eq hi]
  congr 1
  cases hk : nextK d C i with
  | none =>
    have h1 := nextK_none h hi hk
    have : (upR (i + 1) d.length).filter (fun k => decide (gd d i ≤ gd d k)) = [] := by
      rw [List.filter_eq_nil_iff]
      intro k hk
      rw [upR_mem] at hk
      simp only [decide_eq_true_eq]
      intro hd
      have := h.up i k (by omega) hk.2 hd
      have := h.pos k hk.2
      omega
    rw [this]; rfl
  | some m =>
    have h1 := nextK_some hk
    have hp := h.pos m h1.2.1
    obtain ⟨T, hT⟩ : ∃ T : Nat, gd C i - 1 = (T : Int) := ⟨(gd C i - 1).toNat, by omega⟩
    refine (first_find h (T := T) (by omega) (Nat.le_refl _) (fun k h2 h3 h4 => ?_) ?_).symm
    · simp only [decide_eq_true_eq] at h4
      have := h.up i k (by omega) h3 h4
      omega
    · rw [← hk, nextK]
      congr 1
      funext k
      simp only [nxB, ← hT]
      rw [Bool.and_comm]
end
theorem firstF_snoc {l : List (List Int)} (h : l ≠ []) (y : List Int) : firstF (l ++ [y]) = betS (firstF l) y := by
  cases l with
  | nil => exact absurd rfl h
  | cons x l => simp [firstF]
theorem upR_snoc {i k : Nat} (h : i ≤ k) : upR i (k + 1) = upR i k ++ [k] := by
  rw [upR, upR, show k + 1 - i = (k - i) + 1 by omega, List.range'_concat]
  congr 2; omega
/-- What is kept. -/
def keepK (d C : List Int) : List Int := firstF ([] :: (upR 0 d.length).map (pathK d C))
def maxC (C : List Int) : Int := C.foldl max 0
theorem maxC_ge (C : List Int) : 0 ≤ maxC C ∧ ∀ x ∈ C, x ≤ maxC C := by
  suffices h : ∀ (C : List Int) (m : Int), m ≤ C.foldl max m ∧ ∀ x ∈ C, x ≤ C.foldl max m from h C 0
  intro C
  induction C with
  | nil => intro m; simp
  | cons y C ih =>
    intro m
    have := ih (max m y)
    simp only [List.foldl_cons, List.mem_cons]
    refine ⟨by omega, fun x hx => ?_⟩
    rcases hx with rfl | hx
    · omega
    · exact this.2 x hx
theorem maxC_mem (C : List Int) : maxC C = 0 ∨ maxC C ∈ C := by
  suffices h : ∀ (C : List Int) (m : Int), C.foldl max m = m ∨ C.foldl max m ∈ C from h C 0
  intro C
  induction C with
  | nil => intro m; simp
  | cons y C ih =>
    intro m
    simp only [List.foldl_cons, List.mem_cons]
    rcases ih (max m y) with e | e
    · rw [e]
      rcases Int.le_total m y with h | h
      · rw [Int.max_eq_right h]; exact .inr (.inl rfl)
      · rw [Int.max_eq_left h]; exact .inl rfl
    · exact .inr (.inr e)
/-- What comes yet. -/
def restK (d C : List Int) (last : Option Nat) (left : Int) (i : Nat) : List Int := (((upR i d.length).find? (nxB d C last left)).map (pathK d C)).getD []
theorem restK_end (d C : List Int) (last : Option Nat) (left : Int) {i : Nat} (hi : d.length ≤ i) : restK d C last left i = [] := by rw [restK, upR_nil hi]; rfl
section
variable {d C : List Int} (h : BegR d C)
include h
theorem keepK_rest : keepK d C = restK d C none (maxC C) 0 := by
  have hmem : ∀ k, k < d.length → gd C k ∈ C := fun k hk => by rw [gd_lt (by rw [h.len]; exact hk)]; exact List.getElem_mem _
  rcases Nat.eq_zero_or_pos d.length with h0 | h0
  · rw [restK_end d C none _ (by omega), keepK, upR_nil (by omega)]; rfl
  · have h1 := h.pos 0 h0
    have h2 := (maxC_ge C).2 _ (hmem 0 h0)
    obtain ⟨T, hT⟩ : ∃ T : Nat, maxC C = (T : Int) := ⟨(maxC C).toNat, by omega⟩
    have hex : ∃ m, (upR 0 d.length).find? (nxB d C none (maxC C)) = some m := by
      cases hf : (upR 0 d.length).find? (nxB d C none (maxC C)) with
      | some m => exact ⟨m, rfl⟩
      | none =>
        exfalso
        rcases maxC_mem C with e | e
        · omega
        · obtain ⟨k, hk, e2⟩ := List.mem_iff_getElem.1 e
          have := find_none hf k (Nat.zero_le _) (by rw [← h.len]; exact hk)
          simp only [nxB, Bool.and_true, decide_eq_false_iff_not] at this
          rw [gd_lt hk] at this
          exact this e2
    obtain ⟨m, hm⟩ := hex
    rw [restK, hm, keepK]
    have hfi : (upR 0 d.length).filter (fun _ => true) = upR 0 d.length := by simp
    rw [← hfi]
    refine first_find h (T := T) (by omega) (Nat.le_refl _) (p := fun _ => true) (fun k _ hk _ => ?_) ?_
    · rw [← hT]; exact (maxC_ge C).2 _ (hmem k hk)
    · rw [← hm]
      congr 1
      funext k
      simp only [nxB, hT, Bool.true_and, Bool.and_true]
end

/-! ### Passes -/
theorem PassR.zero {b m p : Nat} (h : PassR b m p) : p = 0 ↔ m = 0 := by
  constructor
  · intro e; subst e; have := h.1; simpa using this
  · intro e
    refine Decidable.by_contra fun hp => ?_
    have := h.2 0 (by omega)
    simp at this; omega
theorem PassR.one {b m p : Nat} (h : PassR b m p) (hm : 0 < m) : p = 1 ↔ m < b := by
  have hz := h.zero
  constructor
  · intro e; subst e; have := h.1; simpa using this
  · intro hlt
    refine Decidable.by_contra fun hp => ?_
    have := h.2 1 (by omega)
    simp at this; omega
theorem PassR.more {b b' m p p' : Nat} (h : PassR b m p) (g : PassR b' m p') (hb : b ≤ b') : p' ≤ p := by
  refine Decidable.by_contra fun hc => ?_
  have h1 := g.2 p (by omega)
  have h2 : b ^ p ≤ b' ^ p := Nat.pow_le_pow_left hb _
  have := h.1
  omega
/-! ### One more slip behind all others -/
section
variable {d : List Int} {r : Int} (hr : ∀ x ∈ d, x ≤ r)
include hr
end

theorem key_nat {d : List Int} {x : Int} (_h : 0 ≤ x) : keyD d x = gd d x.toNat := rfl
/-! ### Moves -/
/-! ### The moves that put a deck right -/

/-! ### A part of a deck that lay right -/
/-- Ranks that do not fall, but for those from a to b, which lie between the others. -/
def FellI (d : List Int) (a b : Nat) : Prop := ∀ i j, i < j → j < d.length → (i < a ∨ b < i ∨ j < a ∨ b < j) → gd d i ≤ gd d j
/-- Two ranks of the part change their places. -/
theorem FellI.swap {d : List Int} {a b i k : Nat} (hf : FellI d a b) (hi : a ≤ i ∧ i ≤ b) (hk : a ≤ k ∧ k ≤ b) (hb : b < d.length) : FellI ((d.set i (gd d k)).set k (gd d i)) a b := by
  intro x y hxy hy ho
  have hl : ((d.set i (gd d k)).set k (gd d i)).length = d.length := by simp
  rw [hl] at hy
  have g : ∀ z, gd ((d.set i (gd d k)).set k (gd d i)) z = if z = k then gd d i else if z = i then gd d k else gd d z := fun z => by
    rw [gd_set, gd_set, List.length_set]
    by_cases e1 : z = k
    · rw [if_pos ⟨e1, by omega⟩, if_pos e1]
    · rw [if_neg (fun h => e1 h.1), if_neg e1]
      by_cases e2 : z = i
      · rw [if_pos ⟨e2, by omega⟩, if_pos e2]
      · rw [if_neg (fun h => e2 h.1), if_neg e2]
  rw [g, g]
  have key : ∀ z, ∃ z', gd d z' = (if z = k then gd d i else if z = i then gd d k else gd d z) ∧ ((z < a ∨ b < z) → z' = z) ∧ ((a ≤ z ∧ z ≤ b) → a ≤ z' ∧ z' ≤ b) := fun z => by
    by_cases e1 : z = k
    · exact ⟨i, by rw [if_pos e1], by omega, by omega⟩
    · by_cases e2 : z = i
      · exact ⟨k, by rw [if_neg e1, if_pos e2], by omega, by omega⟩
      · exact ⟨z, by rw [if_neg e1, if_neg e2], fun _ => rfl, fun h => h⟩
  obtain ⟨x', x1, x2, x3⟩ := key x
  obtain ⟨y', y1, y2, y3⟩ := key y
  rw [← x1, ← y1]
  refine hf x' y' ?_ ?_ ?_ <;> omega

section rules
variable {P : Program} {ro : Option Nat} {n : Nat} {all rest : List Oper} {K : Sl → World → Prop} {s : Sl} {w : World} {d : Nat} {ty : Nat} {pos : String} {af : Array Edge}
variable {x y : Operand} {t t' e : Nat}
theorem Ops.sliceStr {lo hi : Nat} {b : ByteArray} {i j : Int} {k1 k2 : IntKind} {xl xh : Operand} (hx : ev n s x = .string b) (hl : ev n s xl = .int k1 i) (hh : ev n s xh = .int k2 j) (hi' : i = (lo : Int)) (hj' : j = (hi : Int)) (h1 : lo ≤ hi) (h2 : hi ≤ b.size) [ht : TU P t .string]
    (h : Ops P ro n all rest K (upd s d (.string (b.extract lo hi))) w) : Ops P ro n all (⟨some d, .slice t x (some xl) (some xh) none, ty, pos, af, none⟩ :: rest) K s w := by
  subst hi' hj'
  refine Ops.ofRun (v := .string (b.extract lo hi)) (w' := w) rfl ?_ h
  simp [execOp, Instr.sliceAt, Instr.slice, Instr.sliceBounds, Instr.sliceBound, hx, hl, hh, run_underlying ht.h, asIntOf, h1, h2]
theorem flatMap_take {k : Nat} : ∀ {xs : List Value} (m : Nat), (∀ x ∈ xs, x.cells.toList.length = k) → (xs.take m).flatMap (·.cells.toList) = (xs.flatMap (·.cells.toList)).take (m * k)
  | [], m, _ => by simp
  | y :: xs, 0, _ => by simp
  | y :: xs, m + 1, h => by
    have hy := h y List.mem_cons_self
    rw [List.take_succ_cons, List.flatMap_cons, List.flatMap_cons, flatMap_take m fun x hx => h x (List.mem_cons_of_mem _ hx), List.take_append, hy, Nat.add_mul, Nat.one_mul, Nat.add_sub_cancel]
    rw [List.take_of_length_le (l := y.cells.toList) (by omega)]
/-- The first m elements of a slice of the call's own. -/
theorem OwnL.cut {w : World} {B e k l c : Nat} {agg : Bool} {a : Option Addr} {xs : List Value} (h : OwnL w B e agg k (.slice a l c) xs) {m : Nat} (hm : m ≤ xs.length) (h0 : 0 < c) : OwnL w B e agg k (.slice a m c) (xs.take m) := by
  have hl : (xs.take m).length = m := by rw [List.length_take]; omega
  have hf : ∀ x ∈ xs.take m, fitsV agg k x = true := fun x hx => h.fit x (List.mem_of_mem_take hx)
  have hlen := h.len
  refine ⟨⟨?_, ?_⟩, hf, by omega⟩
  · rw [flatMap_take (k := k) m fun x hx => by rw [Array.length_toList]; exact fitsV_cells (h.fit x hx)]
    rw [List.length_take, hl, flat_len (k := k) (xs := xs) fun y hy => fitsV_cells (h.fit y hy)]
    exact Nat.min_eq_left (Nat.mul_le_mul_right _ hm)
  · rcases h.own.2 with ⟨e0, _⟩ | ⟨g, cap, cur, e0, hB, hh, hn, hm', hs, ht⟩
    · simp only [Value.slice.injEq] at e0; omega
    · simp only [Value.slice.injEq] at e0
      obtain ⟨rfl, _, rfl⟩ := e0
      refine .inr ⟨g, c, cur, by rw [hl], hB, hh, by omega, hm', hs, ?_⟩
      rw [hl, flatMap_take (k := k) m fun x hx => by rw [Array.length_toList]; exact fitsV_cells (h.fit x hx), ← ht, List.take_take, Nat.min_eq_left (Nat.mul_le_mul_right _ hm)]
theorem Ops.sliceXHv {l c hi k bytes : Nat} {j : Int} {k2 : IntKind} {xh : Operand} {a : Option Addr} {z : Value} (hx : ev n s x = .slice a l c) (hh : ev n s xh = .int k2 j) (hj : j = (hi : Int)) (h2 : hi ≤ c) (h0 : 0 < c) [ht : TSl P t e] [hz : TS P e z k bytes]
    (h : Ops P ro n all rest K (upd s d (.slice a hi c)) w) : Ops P ro n all (⟨some d, .slice t x none (some xh) none, ty, pos, af, none⟩ :: rest) K s w := by
  subst hj
  refine Ops.ofRun rfl ?_ h
  have hc : ¬ c = 0 := by omega
  cases a <;> simp [execOp, Instr.sliceAt, Instr.slice, Instr.sliceBounds, Instr.sliceBound, hx, hh, run_underlying ht.h, asIntOf, h2, run_sizeOf' w hz, hc, Addr.add]
end rules

/-- The words of the first letters of a text. -/
def splT (s : ByteArray) (i : Nat) : List ByteArray := (spl (s.data.toList.take i)).map bytesL
theorem splT_all (s : ByteArray) : splT s s.size = splB s := by
  rw [splT, List.take_of_length_le (by rw [Array.length_toList]; exact Nat.le_refl _)]; rfl
theorem splT_len (s : ByteArray) (i : Nat) : 0 < (splT s i).length ∧ (splT s i).length ≤ i + 1 := by
  rw [splT, List.length_map]
  refine ⟨spl_len _, Nat.le_trans (spl_bound _).1 ?_⟩
  have := List.length_take_le i s.data.toList
  omega
theorem splT_size (s : ByteArray) (i : Nat) : ∀ x ∈ splT s i, x.size ≤ i := fun x hx => by
  obtain ⟨y, hy, rfl⟩ := List.mem_map.1 hx
  have h := (spl_bound _).2 y hy
  have h2 := List.length_take_le i s.data.toList
  have e2 : (bytesL y).size = y.length := List.size_toArray
  omega
theorem take_byte {s : ByteArray} {i : Nat} (hi : i < s.size) : s.data.toList.take (i + 1) = s.data.toList.take i ++ [s[i]] := by
  have h : s.data.toList[i]? = some s[i] := by
    have hi' : i < s.data.size := hi
    rw [Array.getElem?_toList, Array.getElem?_eq_getElem hi']; rfl
  exact take_snoc_get h
theorem splT_sp {s : ByteArray} {i : Nat} (hi : i < s.size) (h : s[i] = 32) : splT s (i + 1) = splT s i ++ [⟨#[]⟩] := by
  rw [splT, take_byte hi, spl_snoc, if_pos h, List.map_append]; rfl
theorem last_set {α : Type} {l : List α} {x y : α} (h : l[l.length - 1]? = some x) : l.dropLast ++ [y] = l.set (l.length - 1) y ∧ l.getLastD y = x := by
  rcases List.eq_nil_or_concat l with rfl | ⟨i, z, rfl⟩
  · simp at h
  · rw [List.concat_eq_append] at *
    have e : (i ++ [z]).length - 1 = i.length := by simp
    rw [e] at h ⊢
    constructor
    · simp
    · simpa using h
theorem splT_ch {s : ByteArray} {i : Nat} (hi : i < s.size) (h : s[i] ≠ 32) {x : ByteArray} (hx : (splT s i)[(splT s i).length - 1]? = some x) : splT s (i + 1) = (splT s i).set ((splT s i).length - 1) (x ++ s.extract i (i + 1)) := by
  have hl : (splT s i).length = (spl (s.data.toList.take i)).length := by rw [splT, List.length_map]
  rw [hl] at hx ⊢
  rw [splT, take_byte hi, spl_snoc, if_neg h]
  rw [splT, List.getElem?_map] at hx
  obtain ⟨y, hy, rfl⟩ := Option.map_eq_some_iff.1 hx
  obtain ⟨h1, h2⟩ := last_set (y := []) hy
  rw [h2]
  obtain ⟨h3, _⟩ := last_set (y := y ++ [s[i]]) hy
  rw [h3, List.map_set, splT]
  congr 1
  apply ByteArray.ext
  have hi' : i < s.data.size := hi
  rw [ByteArray.data_append, ByteArray.data_extract]
  apply Array.ext'
  simp only [Array.toList_append, Array.toList_extract, List.extract_eq_take_drop, List.append_cancel_left_eq]
  rw [show i + 1 - i = 1 by omega, List.take_one, List.head?_drop, Array.getElem?_toList, Array.getElem?_eq_getElem hi']; rfl
theorem splT_last (s : ByteArray) (i : Nat) : ∃ x, (splT s i)[(splT s i).length - 1]? = some x := ⟨_, List.getElem?_eq_getElem (by have := (splT_len s i).1; omega)⟩
theorem wordsB_yes {s : ByteArray} (h0 : s.size ≠ 0) (h80 : s.size ≤ 80) (h : ∀ (j : Nat) (hj : j < (splB s).length), wordB (splB s)[j] = true) : wordsB s = true := by
  have : (splB s).all wordB = true := all_yes h
  simp [wordsB, h0, h80, this]
theorem wordsB_no {s : ByteArray} (h0 : s.size ≠ 0) {j : Nat} (hj : j < (splB s).length) (h : wordB (splB s)[j] = false) : wordsB s = false := by
  have : (splB s).all wordB = false := all_no hj h
  simp [wordsB, h0, this]

set_option maxHeartbeats 2000000 in
theorem parts_ref3 (s : ByteArray) (w : World) (hs : s.size ≤ 1000) : Ct Tryz.prog 146 [.string s] w fun v w' => ∃ sv, v = .tuple #[sv, .bool (wordsB s)] ∧ (wordsB s = true → OwnL w' w.heap.size 9 false 1 sv ((wordsL s).map strV)) := by
  refine Ct.ofW (by simp) ?_
  (refine jjB ?_; refine jjC ?_; apply jJ; exact eS rfl; apply jJ; exact eB rfl; refine jz ?_; refine jjB ?_; refine jjB ?_; refine jjC ?_; apply jI; exact eT rfl)
  refine Ops.eqlS rfl rfl ?_
  by_cases h0 : s.size = 0
  · have e0 := str_nil.2 h0
    subst e0
    rw [decide_eq_true rfl]
    (refine jz ?_; refine jjJ rfl ?_; refine jjB ?_; refine jjC ?_; apply jJ; exact eS rfl; apply jJ; exact eB rfl; refine jz ?_; refine jjF ?_; refine jC rfl rfl rfl ⟨inferInstance, ?_⟩)
    exact ⟨_, rfl, fun _ => OwnL.nil _ _ _ _ _⟩
  have hne : ¬ s = ⟨#[]⟩ := fun e => h0 (str_nil.1 e)
  rw [decide_eq_false hne]
  have hL : wordsL s = splB s := by rw [wordsL, if_neg h0]
  by_cases h80 : s.size ≤ 80
  rotate_left
  · have hwb : wordsB s = false := by simp [wordsB, h0, h80]
    (refine jz ?_; refine jjK rfl ?_; refine jjG ?_; refine jjB ?_; refine jjB ?_; refine jjC ?_; apply jI; exact eT rfl; refine ji rfl ?_; refine jjd rfl rfl (by omega) ?_; refine jz ?_; refine jjJ rfl ?_; refine jjB ?_; refine jjC ?_; apply jJ; exact eS rfl; apply jJ; exact eB rfl; refine jz ?_; refine jjF ?_; refine jC rfl rfl rfl ⟨inferInstance, ?_⟩)
    exact ⟨_, congrArg (fun b => Value.tuple #[.slice none 0 0, .bool b]) hwb.symm, fun e => by rw [hwb] at e; cases e⟩
  (refine jz ?_; refine jjK rfl ?_; refine jjG ?_; refine jjB ?_; refine jjB ?_; refine jjC ?_; apply jI; exact eT rfl; refine ji rfl ?_; refine jje rfl rfl (by omega) ?_; refine jz ?_; refine jjK rfl ?_; refine jjG ?_; refine jjB ?_; refine jjC ?_)
  (refine jjP (v := .string _) rfl (by exact rfl) (by exact rfl) (by exact rfl) (by exact rfl) ?_; intro b4 w_b4 hb_b4 hs_b4 hS_b4 hk_b4; have hR_b4 := RowV.one (agg := false) (k := 1) rfl hk_b4)
  have hE4 : Ext w w_b4 := inferInstance
  have hO4 : OwnL w_b4 w.heap.size 9 false 1 (.slice (some ⟨b4, 0, none⟩) 1 1) ((splT s 0).map strV) := OwnL.one rfl (by have := hE4.size; omega) hk_b4
  (apply jJ; exact eS rfl; refine jz ?_; refine jjB ?_; refine jjB ?_; refine jjC ?_; apply jJ; exact eI rfl; refine jz ?_; refine jjD ?_)
  refine W.keep0 [(0, .string s), (5, .int .i64 ((0 : Nat) : Int)), (4, .slice (some ⟨b4, 0, none⟩) 1 1)] ⟨eT rfl, eI rfl, eS rfl, trivial⟩ fun s0 => ?_
  refine W.loopG (13 :: 14 :: 15 :: 16 :: 19 :: 20 :: 21 :: 22 :: 23 :: 24 :: 25 :: 4 :: 26 :: 27 :: 28 :: 29 :: 30 :: 31 :: 32 :: 33 :: 34 :: 35 :: 36 :: 37 :: 38 :: 17 :: 18 :: 5 :: []) (fun g s' V => ∃ (k n c b : Nat), s' 5 = .int .i64 ((k : Nat) : Int) ∧ s' 4 = .slice (some ⟨b, 0, none⟩) n c ∧ g = s.size - k ∧ k ≤ s.size ∧ n = (splT s k).length ∧ Ext w V ∧ OwnL V w.heap.size 9 false 1 (.slice (some ⟨b, 0, none⟩) n c) ((splT s k).map strV)) s.size ⟨0, 1, 1, b4, rfl, rfl, rfl, Nat.zero_le _, rfl, hE4, hO4⟩ ?_
  rintro _ sd V ⟨k, n, c, b, h5, h4, rfl, hk, hn, hE, hO⟩
  refine W.fix h5 (W.fix (d := 4) h4 ?_)
  clear h5 h4
  have hlen := splT_len s k
  by_cases hkc : k < s.size
  rotate_left
  · obtain rfl : k = s.size := by omega
    rw [splT_all] at hO hn
    subst hn
    have i1 : RowI V (.slice (some ⟨b, 0, none⟩) (splB s).length c) false 1 ((splB s).map strV) := ⟨hO.row⟩
    have hbd := splB_bound s
    (refine jjB ?_; refine jjB ?_; refine jjC ?_; apply jI; exact eI rfl; apply jI; exact eT rfl; refine ji rfl ?_; refine jja rfl rfl (by omega) ?_; refine jz ?_; refine jjK rfl ?_; refine jjE ?_; refine jjB ?_; refine jjB ?_; refine jjC ?_; apply jJ; exact eI rfl; refine jz ?_; refine jjD ?_)
    refine W.keep0 [(0, .string s), (6, .int .i64 ((0 : Nat) : Int)), (4, .slice (some ⟨b, 0, none⟩) (splB s).length c)] ⟨eT rfl, eI rfl, eS rfl, trivial⟩ fun s1 => ?_
    refine W.loop (39 :: 40 :: 41 :: 42 :: 45 :: 46 :: 47 :: 48 :: 49 :: 50 :: 2 :: 3 :: 43 :: 44 :: 6 :: []) (fun g s' V2 => ∃ k : Nat, s' 6 = .int .i64 ((k : Nat) : Int) ∧ g = (splB s).length - k ∧ k ≤ (splB s).length ∧ ∀ (j : Nat) (hj : j < (splB s).length), j < k → wordB (splB s)[j] = true) (splB s).length ⟨0, rfl, rfl, Nat.zero_le _, by intros; omega⟩ ?_
    rintro _ sd2 V2 hS2 ⟨q, h6, rfl, hq, hpre⟩
    refine W.fix h6 ?_
    clear h6
    by_cases hql : q < (splB s).length
    rotate_left
    · have hwb := wordsB_yes h0 h80 fun j hj => hpre j hj (by omega)
      (refine jjB ?_; refine jjB ?_; refine jjC ?_; apply jI; exact eI rfl; apply jI; exact eS rfl; refine jh rfl ?_; refine jja rfl rfl (by omega) ?_; refine jz ?_; refine jjK rfl ?_; refine jjE ?_; refine jjB ?_; refine jjC ?_; apply jI; exact eS rfl; apply jJ; exact eS rfl; apply jJ; exact eB rfl; refine jz ?_; refine jjF ?_; refine jC rfl rfl rfl ⟨inferInstance, ?_⟩)
      have := hE.toStep
      skip
      rw [hwb, hL]
      exact ⟨_, rfl, fun _ => hO.ext hS2.ext⟩
    have hsz := hbd.2 _ (List.getElem_mem hql)
    have := hE.toStep
    obtain ⟨B, hB⟩ : ∃ B, wordB (splB s)[q] = B := ⟨_, rfl⟩
    (refine jjB ?_; refine jjB ?_; refine jjC ?_; apply jI; exact eI rfl; apply jI; exact eS rfl; refine jh rfl ?_; refine jjZ rfl rfl (by omega) ?_; refine jz ?_; refine jjJ rfl ?_; refine jjG ?_; refine jjB ?_; refine jjD ?_; refine jjB ?_; refine jjC ?_; apply jI; exact eS rfl; apply jI; exact eI rfl; refine jF rfl rfl rfl (map_get (by omega)) ?_; intro _ _ _; refine jQ rfl rfl ?_)
    refine jjQ ((Word_ref (splB s)[q] _ (by omega)).mono fun v _ _ e => e.trans (by rw [hB])) rfl rfl ?_
    rintro _ w4 hS4 rfl
    cases B
    · have hwb := wordsB_no h0 hql hB
      (refine jq rfl ?_; refine jz ?_; refine jjJ rfl ?_; refine jjB ?_; refine jjC ?_; apply jJ; exact eS rfl; apply jJ; exact eB rfl; refine jz ?_; refine jjF ?_; refine jC rfl rfl rfl ⟨inferInstance, ?_⟩)
      exact ⟨_, congrArg (fun b => Value.tuple #[.slice none 0 0, .bool b]) hwb.symm, fun e => by rw [hwb] at e; cases e⟩
    · (refine jp rfl ?_; refine jz ?_; refine jjK rfl ?_; refine jjG ?_; refine jjC ?_; apply jI; exact eI rfl; refine jY rfl rfl (by omega) ?_; apply jJ; exact eI rfl; refine jz ?_)
      refine ⟨rfl, by (((iterate 14 refine Same.upd rfl ?_); exact Same.ovN)), (splB s).length - (q + 1), by omega, inferInstance, q + 1, congrArg (Value.int .i64) (by omega), rfl, by omega, fun j hj hjk => ?_⟩
      by_cases e : j = q
      · subst e; exact hB
      · exact hpre j hj (by omega)
  subst hn
  by_cases hsp : s[k] = 32
  · have hi : ((s[k].toNat : Nat) : Int) = 32 := by rw [hsp]; rfl
    (refine jjB ?_; refine jjB ?_; refine jjC ?_; apply jI; exact eI rfl; apply jI; exact eT rfl; refine ji rfl ?_; refine jjZ rfl rfl (by omega) ?_; refine jz ?_; refine jjJ rfl ?_; refine jjG ?_; refine jjB ?_; refine jjD ?_; refine jjB ?_; refine jjC ?_; apply jI; exact eT rfl; apply jI; exact eI rfl; refine jt rfl rfl rfl (by omega) ?_; refine jjh rfl rfl (by omega) ?_; refine jz ?_; refine jjJ rfl ?_; refine jjC ?_; apply jI; exact eS rfl)
    (refine jjP (v := .string _) rfl (by exact rfl) (by exact rfl) (by exact rfl) (by exact rfl) ?_; intro b5 w_b5 hb_b5 hs_b5 hS_b5 hk_b5; have hR_b5 := RowV.one (agg := false) (k := 1) rfl hk_b5)
    have hz := hE.size
    refine Ops.appendL (hO.ext hS_b5.ext) (by have := hS_b5.size; omega) hR_b5 rfl rfl rfl rfl rfl ?_ ?_ ?_
    · rw [List.length_map]; simp only [List.length_cons, List.length_nil]; omega
    · rw [List.length_map]; simp only [List.length_cons, List.length_nil]; omega
    intro v2 V4 hA hO4 _ _
    have e1 : (splT s k).map strV ++ [.string ⟨#[]⟩] = (splT s (k + 1)).map strV := by rw [splT_sp hkc hsp, List.map_append]; rfl
    rw [e1] at hO4
    obtain ⟨a4, c4, rfl⟩ := hO4.slice
    obtain ⟨g4, rfl, hg4, _⟩ := hO4.self (by rw [List.length_map]; exact (splT_len s (k + 1)).1)
    rw [List.length_map] at hO4 ⊢
    (apply jJ; exact eS rfl; refine jz ?_; refine jjC ?_; apply jI; exact eI rfl; refine jY rfl rfl (by omega) ?_; apply jJ; exact eI rfl; refine jz ?_)
    exact ⟨rfl, by (((iterate 17 refine Same.upd rfl ?_); exact Same.ovN)), s.size - (k + 1), by omega, k + 1, _, c4, g4, congrArg (Value.int .i64) (by omega), rfl, rfl, by omega, rfl, hA.ext (hE.trans hS_b5.ext) (Nat.le_refl _), hO4⟩
  · have hi : ¬ ((s[k].toNat : Nat) : Int) = 32 := fun e => hsp (by
      have : s[k].toNat = 32 := by omega
      exact UInt8.toNat_inj.1 this)
    obtain ⟨x, hx⟩ := splT_last s k
    have hxs : x.size ≤ k := splT_size s k x (List.mem_of_getElem? hx)
    have hj : ((((splT s k).length : Nat) : Int) - 1) = (((splT s k).length - 1 : Nat) : Int) := by omega
    obtain ⟨cs, hB, hcl, hnc, hcm, hll, htk, hBg⟩ := hO.cells
    have hcell : ∀ w', Ext V w' → w'.cell? ⟨b, 0 + ((splT s k).length - 1), none⟩ = some (.string x) := fun w' e => by
      have h1 : cs[(splT s k).length - 1]? = some (.string x) := by
        have h2 : (cs.take (splT s k).length)[(splT s k).length - 1]? = some (.string x) := by rw [htk, List.getElem?_map, hx]; rfl
        rwa [List.getElem?_take, if_pos (by omega)] at h2
      have h3 := (hB.ext e).cellO h1
      rwa [Nat.zero_add]
    (refine jjB ?_; refine jjB ?_; refine jjC ?_; apply jI; exact eI rfl; apply jI; exact eT rfl; refine ji rfl ?_; refine jjZ rfl rfl (by omega) ?_; refine jz ?_; refine jjJ rfl ?_; refine jjG ?_; refine jjB ?_; refine jjD ?_; refine jjB ?_; refine jjC ?_; apply jI; exact eT rfl; apply jI; exact eI rfl; refine jt rfl rfl rfl (by omega) ?_; refine jji rfl rfl (by omega) ?_; refine jz ?_; refine jjK rfl ?_)
    refine W.drawX 13 (fun w' => Ext V w') ?_
    intro w1 hS1
    (refine AnyX.take [0, 1, 2, 3, 4] ?_ ?_ ?_; (decide +kernel); (exact hS1.ext); (((apply jjT; exact rfl; rintro w' hq; apply jI; exact eS rfl; refine jz ?_; exact ⟨rfl, rfl⟩; apply jjT; exact rfl; rintro w' hq; apply jI; exact eS rfl; refine jz ?_; exact ⟨rfl, rfl⟩; apply jjT; exact rfl; rintro w' hq; refine jh rfl ?_; refine jz ?_; exact ⟨rfl, rfl⟩; apply jjT; exact rfl; rintro w' hq; refine jZ rfl rfl (by omega) ?_; refine jz ?_; exact ⟨rfl, rfl⟩; apply jjT; exact rfl; rintro w' hq; refine jG rfl rfl (by assumption) (by omega) ?_; refine jz ?_; exact ⟨rfl, rfl⟩; refine jjU ?_))))
    refine AnyX.take [5] (by decide +kernel) hS1.ext (jjT (v := .string x) rfl (fun w' q1 => ?_) (jjU ?_)); (refine jR (hcell _ q1) rfl rfl ?_; refine jz ?_; exact ⟨rfl, rfl⟩)
    (refine AnyX.take [6, 7, 8, 9] ?_ ?_ ?_; (decide +kernel); (exact hS1.ext); (((apply jjT; exact rfl; rintro w' hq; apply jI; exact eT rfl; refine jz ?_; exact ⟨rfl, rfl⟩; apply jjT; exact rfl; rintro w' hq; apply jI; exact eI rfl; refine jz ?_; exact ⟨rfl, rfl⟩; apply jjT; exact rfl; rintro w' hq; apply jI; exact eI rfl; refine jz ?_; exact ⟨rfl, rfl⟩; apply jjT; exact rfl; rintro w' hq; refine jY rfl rfl (by omega) ?_; refine jz ?_; exact ⟨rfl, rfl⟩; refine jjU ?_))))
    refine AnyX.take [10] (by decide +kernel) hS1.ext (jjT (v := .string (s.extract k (k + 1))) rfl (fun w' q1 => ?_) (jjU ?_)); (refine Ops.sliceStr (lo := k) (hi := k + 1) rfl rfl rfl rfl rfl (by omega) (by omega) ?_; refine jz ?_; exact ⟨rfl, rfl⟩)
    refine AnyX.take [11] (by decide +kernel) hS1.ext (jjT (v := .string (x ++ s.extract k (k + 1))) rfl (fun w' q1 => ?_) (jjU ?_)); (refine Ops.cat rfl rfl (by rw [ByteArray.size_extract]; omega) ?_; refine jz ?_; exact ⟨rfl, rfl⟩)
    (refine AnyX.take [12] ?_ ?_ ?_; (decide +kernel); (exact hS1.ext); (((apply jjT; exact rfl; rintro w' hq; refine jG rfl rfl (by assumption) (by omega) ?_; refine jz ?_; exact ⟨rfl, rfl⟩; refine jjU ?_))))
    (apply AnyX.one 13; (decide +kernel); exact rfl; (exact hS1.ext))
    refine Ops.storeL (j := (splT s k).length - 1) (i := 0) (X := .string x) (X' := .string (x ++ s.extract k (k + 1))) (u := .string (x ++ s.extract k (k + 1))) (hO.ext hS1.ext) rfl (by rw [List.getElem?_map, hx]; rfl) rfl rfl rfl (by exact congrArg (fun o => Value.pointer (some ⟨b, o, none⟩)) (by omega)) rfl rfl rfl ?_
    intro w2 o2 hp2 hO2
    refine jz ?_
    refine AnyX.done (by decide +kernel) ?_
    have e1 : ((splT s k).map strV).set ((splT s k).length - 1) (.string (x ++ s.extract k (k + 1))) = (splT s (k + 1)).map strV := by rw [splT_ch hkc hsp hx, List.map_set]
    rw [e1] at hO2
    have e2 : (splT s (k + 1)).length = (splT s k).length := by rw [splT_ch hkc hsp hx, List.length_set]
    (refine jjC ?_; apply jI; exact eI rfl; refine jY rfl rfl (by omega) ?_; apply jJ; exact eI rfl; refine jz ?_)
    exact ⟨rfl, by (((iterate 26 refine Same.upd rfl ?_); exact Same.ovN)), s.size - (k + 1), by omega, k + 1, _, c, b, congrArg (Value.int .i64) (by omega), rfl, rfl, by omega, e2.symm, hp2.ext (hE.trans hS1.ext) (by omega), hO2⟩

/-! ### Words and places of a chapter -/
def lnP (k n : Nat) (q : Nat) : List Pl := (List.range q).map fun (w : Nat) => ((k : Int), (n : Int), (w : Int))
def runAn (k : Nat) (x : List (List ByteArray)) (n : Nat) : List Pl := (List.range n).flatMap fun i => lnP k i (x.getD i []).length
def runA (k : Nat) (x : List (List ByteArray)) : List Pl := runAn k x x.length
theorem lnP_succ (k n q : Nat) : lnP k n (q + 1) = lnP k n q ++ [((k : Int), (n : Int), (q : Int))] := by simp [lnP, List.range_succ]
theorem lnP_len (k n q : Nat) : (lnP k n q).length = q := by simp [lnP]
theorem runAn_succ (k : Nat) {x : List (List ByteArray)} {n : Nat} {y : List ByteArray} (h : x[n]? = some y) : runAn k x (n + 1) = runAn k x n ++ lnP k n y.length := by
  simp [runAn, List.range_succ, List.getD_eq_getElem?_getD, h]
theorem runAn_len (k : Nat) {x : List (List ByteArray)} : ∀ {n : Nat}, n ≤ x.length → (runAn k x n).length = (x.take n).flatten.length
  | 0, _ => by simp [runAn]
  | n + 1, h => by
    have hg : x[n]? = some x[n] := List.getElem?_eq_getElem (by omega)
    rw [runAn_succ k hg, take_snoc_get hg, List.length_append, runAn_len k (by omega), lnP_len, List.flatten_append, List.length_append, List.flatten_singleton]
theorem runA_len (k : Nat) (x : List (List ByteArray)) : (runA k x).length = x.flatten.length := by
  rw [runA, runAn_len k (Nat.le_refl _), List.take_length]
theorem flatW_len {m : Nat} : ∀ {x : List (List ByteArray)}, (∀ y ∈ x, y.length ≤ m) → x.flatten.length ≤ x.length * m
  | [], _ => by simp
  | y :: x, h => by
    have := flatW_len (x := x) fun z hz => h z (by simp [hz])
    have := h y (by simp)
    rw [List.flatten_cons, List.length_append, List.length_cons, Nat.add_mul]
    omega
theorem flat_take {m n : Nat} {x : List (List ByteArray)} (h : ∀ y ∈ x, y.length ≤ m) (hn : n ≤ 1000) : (x.take n).flatten.length ≤ 1000 * m := by
  have h1 := flatW_len (x := x.take n) (m := m) fun y hy => h y (List.mem_of_mem_take hy)
  have h2 : (x.take n).length ≤ 1000 := by rw [List.length_take]; omega
  exact Nat.le_trans h1 (Nat.mul_le_mul_right _ h2)
theorem flat_step {x : List (List ByteArray)} {n q : Nat} {y : List ByteArray} {s : ByteArray} (h : y[q]? = some s) : ((x.take n).flatten ++ y.take q) ++ [s] = (x.take n).flatten ++ y.take (q + 1) := by
  rw [take_snoc_get h, List.append_assoc]
theorem flat_next {x : List (List ByteArray)} {n : Nat} {y : List ByteArray} (h : x[n]? = some y) : (x.take n).flatten ++ y = (x.take (n + 1)).flatten := by
  rw [take_snoc_get h]; simp

/-! ### Lengths -/
abbrev Cx := Nat × Nat
def preW (ws : List ByteArray) (k : Nat) : Nat := ((ws.take k).map fun s => s.size + 1).sum
theorem preW_succ {ws : List ByteArray} {k : Nat} (h : k < ws.length) : preW ws (k + 1) = preW ws k + ws[k].size + 1 := by
  rw [preW, preW, take_snoc_get (List.getElem?_eq_getElem h), List.map_append, List.sum_append]; simp only [List.map_cons, List.map_nil, List.sum_cons, List.sum_nil]; omega
theorem preW_mono {ws : List ByteArray} {a b : Nat} (h : a ≤ b) (hb : b ≤ ws.length) : preW ws a + (b - a) ≤ preW ws b := by
  obtain ⟨d, rfl⟩ : ∃ d, b = a + d := ⟨b - a, by omega⟩
  induction d with
  | zero => simp
  | succ d ih =>
    have := ih (by omega) (by omega)
    rw [← Nat.add_assoc, preW_succ (by omega)]
    omega
theorem preW_le {ws : List ByteArray} {m : Nat} (h : ∀ s ∈ ws, s.size ≤ m) : ∀ {k : Nat}, k ≤ ws.length → preW ws k ≤ k * (m + 1)
  | 0, _ => by simp [preW]
  | k + 1, hk => by
    rw [preW_succ hk, Nat.add_mul]
    have := preW_le h (k := k) (by omega)
    have := h _ (List.getElem_mem hk)
    omega
/-- The length of the words from one to another one, with spaces. -/
def lenX (ws : List ByteArray) (x : Cx) : Int := (preW ws (x.2 + 1) : Int) - preW ws x.1 - 1
theorem lenX_to {ws : List ByteArray} {a b : Nat} (h : b + 1 < ws.length) : lenX ws (a, b + 1) = lenX ws (a, b) + (ws[b + 1].size + 1) := by
  simp only [lenX]; rw [preW_succ h]; omega
theorem lenX_from {ws : List ByteArray} {a b : Nat} (h : a < ws.length) : lenX ws (a, b) = lenX ws (a + 1, b) + (ws[a].size + 1) := by
  simp only [lenX]; rw [preW_succ h]; omega
theorem lenX_self {ws : List ByteArray} {a : Nat} (h : a < ws.length) : lenX ws (a, a) = ws[a].size := by
  simp only [lenX]; rw [preW_succ h]; omega
theorem lenX_mono {ws : List ByteArray} {a b a' b' : Nat} (ha : a' ≤ a) (hb : b ≤ b') (hl : b' < ws.length) (hab : a ≤ b) : lenX ws (a, b) ≤ lenX ws (a', b') := by
  simp only [lenX]
  have := preW_mono (ws := ws) ha (by omega)
  have := preW_mono (ws := ws) (a := b + 1) (b := b' + 1) (by omega) (by omega)
  omega
theorem lenX_inj {ws : List ByteArray} {a b b' : Nat} (hb : b < ws.length) (hb' : b' < ws.length) (h : lenX ws (a, b) = lenX ws (a, b')) : b = b' := by
  simp only [lenX] at h
  rcases Nat.lt_trichotomy b b' with hl | he | hl
  · have := preW_mono (ws := ws) (a := b + 1) (b := b' + 1) (by omega) (by omega); omega
  · exact he
  · have := preW_mono (ws := ws) (a := b' + 1) (b := b + 1) (by omega) (by omega); omega
theorem lenX_bound {ws : List ByteArray} {a b : Nat} (hs : ∀ s ∈ ws, s.size ≤ 1000) (hn : ws.length ≤ 1000000) (hab : a ≤ b) (hb : b < ws.length) : 0 ≤ lenX ws (a, b) ∧ lenX ws (a, b) ≤ 1001000000 := by
  have h1 := preW_le hs (k := b + 1) (by omega)
  have h2 := preW_mono (ws := ws) (a := a) (b := b + 1) (by omega) (by omega)
  simp only [lenX]
  have : (b + 1) * 1001 ≤ 1000000 * 1001 := Nat.mul_le_mul_right _ (by omega)
  omega

/-! ### The order of contexts -/
def unE (i : Nat) (x : Cx) : Int := max ((i : Int) - x.1 - ((x.2 : Int) - i)) (-((i : Int) - x.1 - ((x.2 : Int) - i)))
def sdI (side : Int) (i : Nat) (x y : Cx) : Int := if side = 1 then (x.1 : Int) - y.1 else if side = 2 then (y.1 : Int) - x.1 else orF [unE i x - unE i y, (y.1 : Int) - x.1]
def ordI (ws : List ByteArray) (side : Int) (i : Nat) (x y : Cx) : Int := orF [lenX ws y - lenX ws x, sdI side i x y]
theorem orF_1 (a : Int) : orF [a] = a := by unfold orF orF; split <;> omega
theorem orF_2 (a b : Int) : orF [a, b] = if a = 0 then b else a := by rw [orF, orF_1]
theorem ordI_lt (ws : List ByteArray) (side : Int) (i : Nat) (x y : Cx) : ordI ws side i x y < 0 ↔ lenX ws y < lenX ws x ∨ lenX ws y = lenX ws x ∧ sdI side i x y < 0 := by
  rw [ordI, orF_2]; split <;> omega
theorem sdI_lt (side : Int) (i : Nat) (x y : Cx) : sdI side i x y < 0 ↔ (side = 1 ∧ x.1 < y.1) ∨ (side ≠ 1 ∧ side = 2 ∧ y.1 < x.1) ∨ (side ≠ 1 ∧ side ≠ 2 ∧ (unE i x < unE i y ∨ unE i x = unE i y ∧ y.1 < x.1)) := by
  unfold sdI
  split
  · omega
  · split
    · omega
    · rw [orF_2]; split <;> omega
theorem ordI_trans {ws : List ByteArray} {side : Int} {i : Nat} {x y z : Cx} (h1 : ordI ws side i x y < 0) (h2 : ordI ws side i y z < 0) : ordI ws side i x z < 0 := by
  rw [ordI_lt, sdI_lt] at *
  omega
theorem ordI_asymm {ws : List ByteArray} {side : Int} {i : Nat} {x y : Cx} (h1 : ordI ws side i x y < 0) (h2 : ordI ws side i y x < 0) : False := by
  rw [ordI_lt, sdI_lt] at *
  omega
theorem ordI_total {ws : List ByteArray} {side : Int} {i : Nat} {x y : Cx} (hx : x.2 < ws.length) (hy : y.2 < ws.length) (hne : x ≠ y) : ordI ws side i x y < 0 ∨ ordI ws side i y x < 0 := by
  by_cases he : x.1 = y.1
  · have : lenX ws x ≠ lenX ws y := fun h => by
      obtain ⟨a, b⟩ := x
      obtain ⟨a', b'⟩ := y
      simp only at he
      subst he
      exact hne (congrArg _ (lenX_inj hx hy h))
    rw [ordI_lt, ordI_lt]; omega
  · rw [ordI_lt, ordI_lt, sdI_lt, sdI_lt]
    omega

/-! ### The first of a list -/
def bestS (o : Cx → Cx → Int) (b : Option Cx) (x : Cx) : Option Cx := match b with
  | none => some x
  | some y => if o x y < 0 then some x else some y
def fstF (o : Cx → Cx → Int) (l : List Cx) : Option Cx := l.foldl (bestS o) none
def bestR (o : Cx → Cx → Int) (b x : Cx) : Cx := if o x b < 0 then x else b
theorem foldl_some (o : Cx → Cx → Int) : ∀ (l : List Cx) (b : Cx), l.foldl (bestS o) (some b) = some (l.foldl (bestR o) b)
  | [], _ => rfl
  | x :: l, b => by
    rw [List.foldl_cons, List.foldl_cons]
    have : bestS o (some b) x = some (bestR o b x) := by simp only [bestS, bestR]; split <;> rfl
    rw [this, foldl_some o l]
def IsMin (o : Cx → Cx → Int) (l : List Cx) (m : Cx) : Prop := m ∈ l ∧ ∀ y ∈ l, y = m ∨ o m y < 0
theorem foldl_min (o : Cx → Cx → Int) (ht : ∀ x y z, o x y < 0 → o y z < 0 → o x z < 0) : ∀ (l : List Cx) (b : Cx), (∀ x ∈ b :: l, ∀ y ∈ b :: l, x ≠ y → o x y < 0 ∨ o y x < 0) → IsMin o (b :: l) (l.foldl (bestR o) b)
  | [], b, _ => ⟨by simp, fun y hy => by simp at hy; exact .inl hy⟩
  | x :: l, b, hT => by
    rw [List.foldl_cons]
    have hsub : ∀ z, z ∈ bestR o b x :: l → z ∈ b :: x :: l := fun z hz => by
      rcases List.mem_cons.1 hz with rfl | hz
      · unfold bestR; split <;> simp
      · simp [hz]
    obtain ⟨h1, h2⟩ := foldl_min o ht l (bestR o b x) fun u hu v hv => hT u (hsub u hu) v (hsub v hv)
    generalize l.foldl (bestR o) (bestR o b x) = m at h1 h2
    refine ⟨hsub _ h1, fun y hy => ?_⟩
    have hb : bestR o b x = m ∨ o m (bestR o b x) < 0 := h2 _ (by simp)
    have key : y = bestR o b x ∨ o (bestR o b x) y < 0 ∨ y ∈ l := by
      rcases List.mem_cons.1 hy with rfl | hy
      · by_cases e : x = y
        · subst e; left; unfold bestR; split <;> rfl
        · unfold bestR
          split
          · exact .inr (.inl ‹_›)
          · exact .inl rfl
      · rcases List.mem_cons.1 hy with rfl | hy
        · by_cases e : y = b
          · subst e; left; unfold bestR; split <;> rfl
          · unfold bestR
            split
            · exact .inl rfl
            · rename_i hn
              rcases hT y (by simp) b (by simp) e with h | h
              · exact absurd h hn
              · exact .inr (.inl h)
        · exact .inr (.inr hy)
    rcases key with rfl | h | h
    · rcases hb with e | h
      · exact .inl e
      · exact .inr h
    · rcases hb with e | h'
      · rw [← e]; exact .inr h
      · exact .inr (ht _ _ _ h' h)
    · exact h2 _ (by simp [h])
theorem min_unique {o : Cx → Cx → Int} (ha : ∀ x y, o x y < 0 → o y x < 0 → False) {l l' : List Cx} {m m' : Cx} (h : IsMin o l m) (h' : IsMin o l' m') (e : ∀ x, x ∈ l ↔ x ∈ l') : m = m' := by
  rcases h.2 m' ((e _).2 h'.1) with h1 | h1
  · exact h1.symm
  · rcases h'.2 m ((e _).1 h.1) with h2 | h2
    · exact h2
    · exact (ha _ _ h1 h2).elim

/-! ### Contexts -/
def okX (ws : List ByteArray) (W : Int) (x : Cx) : Bool := decide (lenX ws x ≤ W)
def ctxTo (ws : List ByteArray) (i : Nat) (W : Int) (a m : Nat) : List Cx := ((List.range m).map fun t => (a, i + t)).filter (okX ws W)
def ctxN (ws : List ByteArray) (i : Nat) (W : Int) (f : Nat) : List Cx := (List.range f).flatMap fun j => ctxTo ws i W (i - j) (ws.length - i)
def ctxA (ws : List ByteArray) (i : Nat) (W : Int) : List Cx := ctxN ws i W (i + 1)
theorem range_split {j m : Nat} (h : j < m) : ∃ r, List.range m = List.range j ++ j :: r := by
  refine ⟨(List.range m).drop (j + 1), ?_⟩
  have h1 := List.take_append_drop j (List.range m)
  rw [List.take_range, Nat.min_eq_left (by omega)] at h1
  rw [List.drop_eq_getElem_cons (by simpa using h), List.getElem_range] at h1
  exact h1.symm
theorem ctxTo_succ (ws : List ByteArray) (i : Nat) (W : Int) (a t : Nat) : ctxTo ws i W a (t + 1) = ctxTo ws i W a t ++ (if okX ws W (a, i + t) then [(a, i + t)] else []) := by
  simp only [ctxTo, List.range_succ, List.map_append, List.filter_append, List.map_cons, List.map_nil]
  congr 1
  by_cases h : okX ws W (a, i + t) = true
  · rw [if_pos h]; simp [h]
  · rw [if_neg h]; simp [h]
theorem ctxTo_split (ws : List ByteArray) (i : Nat) (W : Int) (a : Nat) {t m : Nat} (h : t < m) (hok : okX ws W (a, i + t) = true) : ∃ r, ctxTo ws i W a m = ctxTo ws i W a t ++ (a, i + t) :: r := by
  obtain ⟨r, hr⟩ := range_split h
  refine ⟨(r.map fun t => (a, i + t)).filter (okX ws W), ?_⟩
  rw [ctxTo, hr, List.map_append, List.filter_append, List.map_cons, List.filter_cons_of_pos hok]; rfl
theorem ctx_get {ws : List ByteArray} {i : Nat} {W : Int} {j t : Nat} (hj : j ≤ i) (ht : i + t < ws.length) (hok : lenX ws (i - j, i + t) ≤ W) :
    (ctxA ws i W)[(ctxN ws i W j ++ ctxTo ws i W (i - j) t).length]? = some (i - j, i + t) := by
  obtain ⟨r, hr⟩ := range_split (j := j) (m := i + 1) (by omega)
  obtain ⟨q, hq⟩ := ctxTo_split ws i W (i - j) (t := t) (m := ws.length - i) (by omega) (decide_eq_true hok)
  have : ctxA ws i W = (ctxN ws i W j ++ ctxTo ws i W (i - j) t) ++ (i - j, i + t) :: (q ++ r.flatMap fun j => ctxTo ws i W (i - j) (ws.length - i)) := by
    rw [ctxA, ctxN, hr, List.flatMap_append, List.flatMap_cons, hq]
    simp [ctxN]
  rw [this]
  simp
theorem ctxTo_stop {ws : List ByteArray} {i : Nat} {W : Int} {a : Nat} (hai : a ≤ i) {t m : Nat} (hm : i + m ≤ ws.length) (htm : t ≤ m) (h : W < lenX ws (a, i + t)) : ctxTo ws i W a m = ctxTo ws i W a t := by
  obtain ⟨d, rfl⟩ : ∃ d, m = t + d := ⟨m - t, by omega⟩
  induction d with
  | zero => rfl
  | succ d ih =>
    rw [← Nat.add_assoc, ctxTo_succ, ih (by omega) (by omega), if_neg, List.append_nil]
    have := lenX_mono (ws := ws) (a := a) (a' := a) (b := i + t) (b' := i + (t + d)) (Nat.le_refl _) (by omega) (by omega) (by omega)
    simp only [okX, decide_eq_true_eq]; omega
theorem ctxN_succ (ws : List ByteArray) (i : Nat) (W : Int) (j : Nat) : ctxN ws i W (j + 1) = ctxN ws i W j ++ ctxTo ws i W (i - j) (ws.length - i) := by
  simp [ctxN, List.range_succ]
theorem ctxN_stop {ws : List ByteArray} {i : Nat} {W : Int} {j m : Nat} (hi : i < ws.length) (hjm : j ≤ m) (h : W < lenX ws (i - j, i)) : ctxN ws i W m = ctxN ws i W j := by
  obtain ⟨d, rfl⟩ : ∃ d, m = j + d := ⟨m - j, by omega⟩
  induction d with
  | zero => rfl
  | succ d ih =>
    have h0 : ctxTo ws i W (i - (j + d)) (ws.length - i) = ctxTo ws i W (i - (j + d)) 0 := by
      refine ctxTo_stop (by omega) (by omega) (by omega) ?_
      have := lenX_mono (ws := ws) (a := i - j) (a' := i - (j + d)) (b := i) (b' := i) (by omega) (Nat.le_refl _) hi (by omega)
      rw [Nat.add_zero]; omega
    rw [← Nat.add_assoc, ctxN_succ, ih (by omega), h0]
    simp [ctxTo]
theorem mem_ctxTo {ws : List ByteArray} {i : Nat} {W : Int} {a m : Nat} {x : Cx} : x ∈ ctxTo ws i W a m ↔ x.1 = a ∧ i ≤ x.2 ∧ x.2 < i + m ∧ lenX ws x ≤ W := by
  simp only [ctxTo, List.mem_filter, List.mem_map, List.mem_range, okX, decide_eq_true_eq]
  constructor
  · rintro ⟨⟨t, ht, rfl⟩, h⟩; exact ⟨rfl, by simp, by simp; omega, h⟩
  · rintro ⟨rfl, h1, h2, h3⟩
    exact ⟨⟨x.2 - i, by omega, by ext <;> simp; omega⟩, h3⟩
theorem mem_ctxA {ws : List ByteArray} {i : Nat} {W : Int} {x : Cx} (hi : i < ws.length) : x ∈ ctxA ws i W ↔ x.1 ≤ i ∧ i ≤ x.2 ∧ x.2 < ws.length ∧ lenX ws x ≤ W := by
  simp only [ctxA, ctxN, List.mem_flatMap, List.mem_range, mem_ctxTo]
  constructor
  · rintro ⟨j, hj, h1, h2, h3, h4⟩; exact ⟨by omega, h2, by omega, h4⟩
  · rintro ⟨h1, h2, h3, h4⟩; exact ⟨i - x.1, by omega, by omega, h2, by omega, h4⟩
/-- The reference's contexts, in its order. -/
def refN (ws : List ByteArray) (i : Nat) (W : Int) (f : Nat) : List Cx := (List.range f).flatMap fun a => ctxTo ws i W a (ws.length - i)
def refA (ws : List ByteArray) (i : Nat) (W : Int) : List Cx := refN ws i W (i + 1)
theorem mem_refA {ws : List ByteArray} {i : Nat} {W : Int} {x : Cx} (hi : i < ws.length) : x ∈ refA ws i W ↔ x.1 ≤ i ∧ i ≤ x.2 ∧ x.2 < ws.length ∧ lenX ws x ≤ W := by
  simp only [refA, refN, List.mem_flatMap, List.mem_range, mem_ctxTo]
  constructor
  · rintro ⟨j, hj, h1, h2, h3, h4⟩; exact ⟨by omega, h2, by omega, h4⟩
  · rintro ⟨h1, h2, h3, h4⟩; exact ⟨x.1, by omega, rfl, h2, by omega, h4⟩
def bestA (ws : List ByteArray) (side W : Int) (i : Nat) : Cx := (refA ws i W).foldl (bestR (ordI ws side i)) (i, i)
/-- The law: the first of the code's contexts is the reference's. -/
theorem fst_best {ws : List ByteArray} {side W : Int} {i : Nat} (hi : i < ws.length) (hW : (ws[i].size : Int) ≤ W) : fstF (ordI ws side i) (ctxA ws i W) = some (bestA ws side W i) := by
  have hself : lenX ws (i, i) ≤ W := by rw [lenX_self hi]; exact hW
  have hne : ctxA ws i W ≠ [] := fun h => by
    have : (i, i) ∈ ctxA ws i W := (mem_ctxA hi).2 ⟨Nat.le_refl _, Nat.le_refl _, hi, hself⟩
    rw [h] at this; cases this
  obtain ⟨c, cs, hc⟩ := List.exists_cons_of_ne_nil hne
  rw [fstF, hc, List.foldl_cons, show bestS (ordI ws side i) none c = some c from rfl, foldl_some]
  congr 1
  have ht : ∀ x y z, ordI ws side i x y < 0 → ordI ws side i y z < 0 → ordI ws side i x z < 0 := fun _ _ _ => ordI_trans
  have m1 := foldl_min (ordI ws side i) ht cs c fun x hx y hy hne => by
    rw [← hc, mem_ctxA hi] at hx hy
    exact ordI_total hx.2.2.1 hy.2.2.1 hne
  have hin : ∀ x, x ∈ (i, i) :: refA ws i W ↔ x ∈ ctxA ws i W := fun x => by
    rw [List.mem_cons, mem_refA hi, mem_ctxA hi]
    constructor
    · rintro (rfl | h)
      · exact ⟨Nat.le_refl _, Nat.le_refl _, hi, hself⟩
      · exact h
    · exact .inr
  have m2 := foldl_min (ordI ws side i) ht (refA ws i W) (i, i) fun x hx y hy hne => by
    rw [hin, mem_ctxA hi] at hx hy
    exact ordI_total hx.2.2.1 hy.2.2.1 hne
  refine min_unique (fun _ _ => ordI_asymm) m1 m2 fun x => ?_
  rw [← hc, hin]

theorem runA_nodup (k : Nat) (x : List (List ByteArray)) : (runA k x).Nodup := by
  unfold runA runAn List.Nodup
  rw [List.pairwise_flatMap]
  refine ⟨fun i _ => ?_, ?_⟩
  · refine List.pairwise_map.2 (List.Pairwise.imp (R := (· < ·)) ?_ List.pairwise_lt_range)
    intro a b h e
    simp only [Prod.mk.injEq] at e
    omega
  · refine List.Pairwise.imp (R := (· < ·)) ?_ List.pairwise_lt_range
    intro a b h p hp q hq e
    simp only [lnP, List.mem_map] at hp hq
    obtain ⟨_, _, rfl⟩ := hp
    obtain ⟨_, _, rfl⟩ := hq
    simp only [Prod.mk.injEq] at e
    omega
theorem nodup_inj {α : Type} {l : List α} (h : l.Nodup) {i j : Nat} {x : α} (hi : l[i]? = some x) (hj : l[j]? = some x) : i = j := by
  obtain ⟨hi1, hi2⟩ := List.getElem?_eq_some_iff.1 hi
  obtain ⟨hj1, hj2⟩ := List.getElem?_eq_some_iff.1 hj
  rcases Nat.lt_trichotomy i j with hl | he | hl
  · exact absurd (hi2.trans hj2.symm) (List.pairwise_iff_getElem.1 h i j hi1 hj1 hl)
  · exact he
  · exact absurd (hj2.trans hi2.symm) (List.pairwise_iff_getElem.1 h j i hj1 hi1 hl)
/-- The slip of the word i of a run, at place p. -/
def slipX (ws : List ByteArray) (side W : Int) (i : Nat) (p : Pl) : Slp :=
  (p, ws.getD i ⟨#[]⟩, joinB ((ws.take i).drop (bestA ws side W i).1), joinB ((ws.take ((bestA ws side W i).2 + 1)).drop (i + 1)))
/-- The state of the reference's search. -/
def stA (ws : List ByteArray) (side W : Int) (i a : Nat) : Cx := (refN ws i W a).foldl (bestR (ordI ws side i)) (i, i)
def stB (ws : List ByteArray) (side W : Int) (i a m : Nat) : Cx := (ctxTo ws i W a m).foldl (bestR (ordI ws side i)) (stA ws side W i a)
theorem stA_end (ws : List ByteArray) (side W : Int) (i : Nat) : stA ws side W i (i + 1) = bestA ws side W i := rfl
theorem stB_zero (ws : List ByteArray) (side W : Int) (i a : Nat) : stB ws side W i a 0 = stA ws side W i a := rfl
theorem foldl_inv {α β : Type} (P : β → Prop) (f : β → α → β) : ∀ (l : List α) (b : β), P b → (∀ b x, x ∈ l → P b → P (f b x)) → P (l.foldl f b)
  | [], _, h, _ => h
  | x :: l, b, h, hf => foldl_inv P f l (f b x) (hf b x (by simp) h) fun b y hy => hf b y (by simp [hy])
theorem stB_in {ws : List ByteArray} {side W : Int} {i a m : Nat} (hi : i < ws.length) (ha : a ≤ i + 1) (hm : i + m ≤ ws.length) (ham : a ≤ i ∨ m = 0) : (stB ws side W i a m).1 ≤ i ∧ i ≤ (stB ws side W i a m).2 ∧ (stB ws side W i a m).2 < ws.length := by
  have h1 : ∀ (b x : Cx), (x.1 ≤ i ∧ i ≤ x.2 ∧ x.2 < ws.length) → (b.1 ≤ i ∧ i ≤ b.2 ∧ b.2 < ws.length) → ((bestR (ordI ws side i) b x).1 ≤ i ∧ i ≤ (bestR (ordI ws side i) b x).2 ∧ (bestR (ordI ws side i) b x).2 < ws.length) := fun b x hx hb => by
    unfold bestR; split
    · exact hx
    · exact hb
  refine foldl_inv (fun y : Cx => y.1 ≤ i ∧ i ≤ y.2 ∧ y.2 < ws.length) _ _ _ (foldl_inv (fun y : Cx => y.1 ≤ i ∧ i ≤ y.2 ∧ y.2 < ws.length) _ _ _ ⟨Nat.le_refl _, Nat.le_refl _, hi⟩ ?_) ?_
  · intro b x hx hb
    simp only [refN, List.mem_flatMap, List.mem_range, mem_ctxTo] at hx
    obtain ⟨j, hj, h2, h3, h4, _⟩ := hx
    exact h1 b x ⟨by omega, h3, by omega⟩ hb
  · intro b x hx hb
    rw [mem_ctxTo] at hx
    exact h1 b x ⟨by omega, hx.2.1, by omega⟩ hb

abbrev chW (x : Ch) : List (List ByteArray) := x.2.2.2.map (·.2.2)
/-- The words of a chapter. -/
abbrev rnW (x : Ch) : List ByteArray := (chW x).flatten
theorem one_str (s : ByteArray) : [strV s].all (fun v => v.cells.toList.all (·.oneCell')) = true := rfl
theorem one_pl (p : Pl) : [encPl p].all (fun v => v.cells.toList.all (·.oneCell')) = true := rfl
theorem chW_get {x : Ch} {n : Nat} (h : n < x.2.2.2.length) : (chW x)[n]? = some x.2.2.2[n].2.2 := by simp [chW, h]
theorem chW_small {x : Ch} (h : ∀ y ∈ x.2.2.2, y.2.2.length ≤ 1000) : ∀ y ∈ chW x, y.length ≤ 1000 := fun y hy => by
  obtain ⟨l, hl, rfl⟩ := List.mem_map.1 hy
  exact h l hl

section
variable (a : Option Addr) (c : Nat) (cs : List Ch) (w : World) [hrow : RowI w (.slice a cs.length c) true 2 (cs.map encCh)] [hT : TextI w cs]
set_option maxHeartbeats 4000000 in
theorem runs_slip (hs : SmallT cs) (width side : Int) (k : Nat) (hk : k < cs.length) : Ct Tryz.prog 141 [.agg #[.slice a cs.length c], .agg #[.int .i64 width, .int .u8 side], .int .i64 (k : Int)] w fun v w' =>
    ∃ wv av, v = .agg #[.int .i64 width, .int .u8 side, wv, av] ∧ OwnL w' w.heap.size 9 false 1 wv ((rnW cs[k]).map strV) ∧ OwnL w' w.heap.size 47 true 3 av ((runA k (chW cs[k])).map encPl) := by
  have hs1 := hs.1
  have hsk := hs.2 _ (List.getElem_mem hk)
  have hsl := hsk.1
  have hsm := chW_small fun y hy => (hsk.2 y hy).1
  have hcl : (chW cs[k]).length = cs[k].2.2.2.length := by simp [chW]
  refine Ct.ofW (by simp) ?_
  (refine jjB ?_; refine jjC ?_)
  (refine jy rfl ?_; intro b3 w_b3 hb_b3 hs_b3 hS_b3 hk_b3; have hA_b3 := At.ofBlock hk_b3)
  skip
  (refine jy rfl ?_; intro b4 w_b4 hb_b4 hs_b4 hS_b4 hk_b4; have hA_b4 := At.ofBlock hk_b4)
  ((skip); refine jjY ?_; intro b6 w_b6 hb_b6 hs_b6 hS_b6 hk_b6; have hA_b6 := Bk.of hk_b6)
  (refine jz ?_; refine jjB ?_; refine jjC ?_; refine jO rfl rfl rfl rfl ?_)
  (refine jjS (cells := [.int .i64 width, .int .u8 side, .slice none 0 0, .slice none 0 0]) ?_ ?_; exact rfl)
  (apply jjR rfl; (intro _; first|exact eI rfl|exact eB rfl|exact eP rfl|exact eS rfl|exact eT rfl|exact eA rfl|exact eU rfl|exact eF rfl|exact eM rfl|exact eN rfl|exact rfl); exact rfl; exact rfl; exact rfl; exact rfl; intro b7 w_b7 hb_b7 hs_b7 hS_b7 hk_b7; have hA_b7 := Bk.of hk_b7)
  have hgk := List.getElem?_eq_getElem hk
  (refine jz ?_; refine jjB ?_; refine jjB ?_; refine jjC ?_; refine jm ?_; refine jn rfl ?_; refine jN rfl rfl rfl ?_; apply jI; exact eI rfl; refine jF rfl rfl rfl (map_get (by omega)) ?_; intro _ _ _; refine jm ?_; refine jn rfl ?_; refine jP rfl rfl rfl ?_; refine jh rfl ?_; apply jI; exact eI rfl; refine jz ?_; refine jjD ?_)
  have z7 := hS_b7.size
  have z6 := hS_b6.size
  have hE7 : Ext w w_b7 := inferInstance
  have i1 := hT.line hk
  have hB6 : Bk w_b7 b6 [.int .i64 0, .int .u8 0, .slice none 0 0, .slice none 0 0] 196 := hA_b6.ext hS_b7.ext
  refine W.keep0 [(2, .int .i64 ((k : Nat) : Int)), (6, .pointer (some ⟨b6, 0, none⟩)), (7, .pointer (some ⟨b7, 0, none⟩)), (18, .slice cs[k].2.1 cs[k].2.2.2.length cs[k].2.2.1), (19, .int .i64 ((cs[k].2.2.2.length : Nat) : Int)), (20, .int .i64 ((0 : Nat) : Int))] ⟨eI rfl, eP rfl, eP rfl, eS rfl, eI rfl, eI rfl, trivial⟩ fun s0 => ?_
  refine W.loopG (21 :: 22 :: 23 :: 24 :: 8 :: 9 :: 25 :: 26 :: 27 :: 28 :: 29 :: 10 :: 30 :: 31 :: 32 :: 33 :: 34 :: 35 :: 36 :: 37 :: 38 :: 39 :: 40 :: 41 :: 42 :: 43 :: 44 :: 45 :: 46 :: 47 :: 48 :: 49 :: 20 :: []) (fun g s' V => ∃ (n : Nat) (wv av : Value), s' 20 = .int .i64 ((n : Nat) : Int) ∧ g = cs[k].2.2.2.length - n ∧ n ≤ cs[k].2.2.2.length ∧ Ext w V ∧ w_b7.heap.size ≤ V.heap.size ∧ Bk V b6 [.int .i64 0, .int .u8 0, .slice none 0 0, .slice none 0 0] 196 ∧ Bk V b7 [.int .i64 width, .int .u8 side, wv, av] 196 ∧ OwnL V w_b7.heap.size 9 false 1 wv (((chW cs[k]).take n).flatten.map strV) ∧ OwnL V w_b7.heap.size 47 true 3 av ((runAn k (chW cs[k]) n).map encPl)) cs[k].2.2.2.length ⟨0, _, _, rfl, rfl, Nat.zero_le _, hE7, Nat.le_refl _, hB6, hA_b7, OwnL.nil _ _ _ _ _, OwnL.nil _ _ _ _ _⟩ ?_
  rintro _ sd V ⟨n, wv, av, h20, rfl, hn, hE, hz, hV6, hV7, hOw, hOa⟩
  refine W.fix h20 ?_
  clear h20
  by_cases hnl : n < cs[k].2.2.2.length
  rotate_left
  · obtain rfl : n = cs[k].2.2.2.length := by omega
    rw [← hcl, List.take_length] at hOw
    rw [← hcl] at hOa
    obtain ⟨wa, wc, rfl⟩ := hOw.slice
    obtain ⟨aa, ac, rfl⟩ := hOa.slice
    have := Bk.toAt (h := hV7)
    (refine jjB ?_; refine jjC ?_; refine jja rfl rfl (by omega) ?_; refine jz ?_; refine jjB ?_; refine jjK rfl ?_; refine jjE ?_; refine jjB ?_; refine jjC ?_; refine jO rfl rfl rfl rfl ?_)
    refine Ops.store rfl rfl rfl rfl rfl ?_
    intro V2 hp2
    have hA2 : At V2 b6 0 [.int .i64 width, .int .u8 side, .slice wa _ wc, .slice aa _ ac] := Bk.toAt (h := ⟨hp2.new⟩)
    (refine jz ?_; refine jjF ?_)
    refine fin1C rfl rfl rfl rfl rfl ⟨hp2.ext hE (by omega), _, _, rfl, ?_, ?_⟩
    · exact (hOw.put hp2 fun e => by have := (hOw.block _ e).1; omega).mono (by omega)
    · exact (hOa.put hp2 fun e => by have := (hOa.block _ e).1; omega).mono (by omega)
  have hsn := hsk.2 _ (List.getElem_mem hnl)
  have hgn := chW_get hnl
  have hTV : TextI V cs := hT.ext hE
  have i2 := hTV.line hk
  (refine jjB ?_; refine jjC ?_; refine jjZ rfl rfl (by omega) ?_; refine jz ?_; refine jjB ?_; refine jjJ rfl ?_; refine jjG ?_; refine jjB ?_; refine jjD ?_; refine jjB ?_; refine jjC ?_; apply jI; exact eI rfl; refine jF rfl rfl rfl (map_get (by omega)) ?_; intro _ _ _; refine jQ rfl rfl ?_; apply jJ; exact eI rfl; apply jJ; exact eS rfl; refine jz ?_; refine jjB ?_; refine jjC ?_; apply jI; exact eS rfl; refine jh rfl ?_; apply jI; exact eI rfl; refine jz ?_; refine jjD ?_)
  refine W.keep [(2, .int .i64 ((k : Nat) : Int)), (6, .pointer (some ⟨b6, 0, none⟩)), (7, .pointer (some ⟨b7, 0, none⟩)), (18, .slice cs[k].2.1 cs[k].2.2.2.length cs[k].2.2.1), (19, .int .i64 ((cs[k].2.2.2.length : Nat) : Int)), (20, .int .i64 ((n : Nat) : Int)), (8, .int .i64 ((n : Nat) : Int)), (9, .slice cs[k].2.2.2[n].1 cs[k].2.2.2[n].2.2.length cs[k].2.2.2[n].2.1), (26, .int .i64 ((cs[k].2.2.2[n].2.2.length : Nat) : Int)), (27, .int .i64 ((0 : Nat) : Int))] (D := (21 :: 22 :: 23 :: 24 :: 8 :: 9 :: 25 :: 26 :: 27 :: 28 :: 29 :: 10 :: 30 :: 31 :: 32 :: 33 :: 34 :: 35 :: 36 :: 37 :: 38 :: 39 :: 40 :: 41 :: 42 :: 43 :: 44 :: 45 :: 46 :: 47 :: 48 :: 49 :: 20 :: [])) (sO := upds s0 _) (by (((iterate 10 refine Same.upd rfl ?_); exact Same.ovN))) ⟨eI rfl, eP rfl, eP rfl, eS rfl, eI rfl, eI rfl, eI rfl, eS rfl, eI rfl, eI rfl, trivial⟩ fun s1 hs1' => ?_
  refine W.loopG (28 :: 29 :: 10 :: 30 :: 31 :: 32 :: 33 :: 34 :: 35 :: 36 :: 37 :: 38 :: 39 :: 40 :: 41 :: 42 :: 43 :: 44 :: 45 :: 46 :: 47 :: 48 :: 27 :: []) (fun g s' V => ∃ (q : Nat) (wv av : Value), s' 27 = .int .i64 ((q : Nat) : Int) ∧ g = cs[k].2.2.2[n].2.2.length - q ∧ q ≤ cs[k].2.2.2[n].2.2.length ∧ Ext w V ∧ w_b7.heap.size ≤ V.heap.size ∧ Bk V b6 [.int .i64 0, .int .u8 0, .slice none 0 0, .slice none 0 0] 196 ∧ Bk V b7 [.int .i64 width, .int .u8 side, wv, av] 196 ∧ OwnL V w_b7.heap.size 9 false 1 wv ((((chW cs[k]).take n).flatten ++ cs[k].2.2.2[n].2.2.take q).map strV) ∧ OwnL V w_b7.heap.size 47 true 3 av ((runAn k (chW cs[k]) n ++ lnP k n q).map encPl)) cs[k].2.2.2[n].2.2.length ⟨0, wv, av, rfl, rfl, Nat.zero_le _, hE, hz, hV6, hV7, by simpa using hOw, by simpa [lnP] using hOa⟩ ?_
  rintro _ sd2 V2 ⟨q, wv, av, h27, rfl, hq, hE, hz, hV6, hV7, hOw, hOa⟩
  refine W.fix h27 ?_
  clear h27
  by_cases hql : q < cs[k].2.2.2[n].2.2.length
  rotate_left
  · obtain rfl : q = cs[k].2.2.2[n].2.2.length := by omega
    rw [List.take_length, flat_next hgn] at hOw
    rw [← runAn_succ k hgn] at hOa
    (refine jjB ?_; refine jjC ?_; refine jja rfl rfl (by omega) ?_; refine jz ?_; refine jjB ?_; refine jjK rfl ?_; refine jjE ?_; refine jjC ?_; refine jY rfl rfl (by omega) ?_; apply jI; exact eI rfl; refine jz ?_)
    exact ⟨rfl, by (((iterate 4 refine Same.upd rfl ?_); refine Same.ovN' rfl ?_; assumption)), cs[k].2.2.2.length - (n + 1), by omega, n + 1, wv, av, congrArg (Value.int .i64) (by omega), rfl, by omega, hE, hz, hV6, hV7, hOw, hOa⟩
  have hTV2 : TextI V2 cs := hT.ext hE
  obtain ⟨bl, ol, el, hAl⟩ := (hT.word hk hnl).h.place' (map_get hql)
  rw [Nat.mul_one] at hAl
  have hl1 : (((chW cs[k]).take n).flatten ++ cs[k].2.2.2[n].2.2.take q).length ≤ 1001000 := by
    have := flat_take hsm (n := n) (by omega)
    rw [List.length_append, List.length_take]; omega
  have hl2 : (runAn k (chW cs[k]) n ++ lnP k n q).length ≤ 1001000 := by
    have := flat_take hsm (n := n) (by omega)
    rw [List.length_append, lnP_len, runAn_len k (by omega)]; omega
  (refine jjB ?_; refine jjC ?_; refine jjZ rfl rfl (by omega) ?_; refine jz ?_; refine jjB ?_; refine jjJ rfl ?_; refine jjG ?_; refine jjB ?_; refine jjD ?_; refine jjB ?_; refine jjC ?_; apply jI; exact eI rfl; apply jJ; exact eI rfl; refine jz ?_; refine jjB ?_)
  refine W.draw (fun w' => Ext w w') ?_
  intro w1 hS1
  (refine jjV [0, 2, 3] ?_ ?_ ?_; (decide +kernel); (exact hE.trans hS1.ext); (((apply jjT; exact rfl; rintro w' q1; have := q1.toStep; refine jm ?_; refine jn rfl ?_; refine jz ?_; exact ⟨rfl, rfl⟩; apply jjT; exact rfl; rintro w' q1; have := q1.toStep; apply jI; exact eS rfl; refine jz ?_; exact ⟨rfl, rfl⟩; apply jjT; exact rfl; rintro w' q1; have := q1.toStep; apply jI; exact eI rfl; refine jz ?_; exact ⟨rfl, rfl⟩; refine jjU ?_))))
  refine jjV [4] (by decide +kernel) (hE.trans hS1.ext) (jjT (v := .pointer (some ⟨bl, ol + q, none⟩)) rfl (fun w' q1 => ?_) (jjU ?_))
  · refine jG (b := bl) (o := ol) (j := q) (by rw [← el]; exact rfl) rfl rfl hql ?_
    refine jz ?_
    exact ⟨rfl, rfl⟩
  (refine jjV [5] ?_ ?_ ?_; (decide +kernel); (exact hE.trans hS1.ext); (((apply jjT; exact rfl; rintro w' q1; have := q1.toStep; refine jQ rfl rfl ?_; refine jz ?_; exact ⟨rfl, rfl⟩; refine jjU ?_))))
  have h71 : Bk w1 b7 [.int .i64 width, .int .u8 side, wv, av] 196 := hV7.ext hS1.ext
  refine jjl 1 6 (by decide +kernel) rfl rfl (hE.trans hS1.ext) ?b1 ?b2
  case b1 =>
    have := Bk.toAt (h := h71)
    (refine jN rfl rfl rfl ?_)
    refine jz ?_
    (apply jjW 6; (decide +kernel); exact rfl; (exact hE.trans hS1.ext))
    (refine jjP (v := .string _) rfl (by exact rfl) (by exact rfl) (by exact rfl) (by exact rfl) ?_; intro b36 w_b36 hb_b36 hs_b36 hS_b36 hk_b36; have hR_b36 := RowV.one (agg := false) (k := 1) rfl hk_b36)
    refine jz ?_
    have hE36 : Ext V2 w_b36 := hS1.ext.trans hS_b36.ext
    have z36 := hE36.size
    (apply jjW 7; (decide +kernel); exact rfl; (exact hE.trans hE36))
    refine Ops.appendL (hOw.ext hE36) (by omega) hR_b36 rfl rfl rfl rfl (one_str _) ?_ ?_ ?_
    · rw [List.length_map]; simp only [List.length_cons, List.length_nil]; omega
    · rw [List.length_map]; simp only [List.length_cons, List.length_nil]; omega
    intro wv2 w37 hA37 hO37 _ hown37
    have hn7 : wv.ownBlock ≠ some b7 := fun e => by have := (hOw.block _ e).1; omega
    have hE37 : Ext w w37 := hA37.ext (hE.trans hE36) (by omega)
    have h37 : Bk w37 b7 [.int .i64 width, .int .u8 side, wv, av] 196 := hA37.bk (hV7.ext hE36) hn7
    refine jz ?_
    (refine jjV [8] ?_ ?_ ?_; (decide +kernel); (exact hE37); (((apply jjT; exact rfl; rintro w' q1; have := q1.toStep; refine jm ?_; refine jn rfl ?_; refine jz ?_; exact ⟨rfl, rfl⟩; refine jjU ?_))))
    (apply jjW 9; (decide +kernel); exact rfl; (exact hE37))
    rw [← List.map_singleton, ← List.map_append, flat_step (List.getElem?_eq_getElem hql)] at hO37
    obtain ⟨wa2, wc2, rfl⟩ := hO37.slice
    refine Ops.storeC (cs := [.int .i64 width, .int .u8 side, wv, av]) (j := 2) (v := .slice wa2 _ wc2) rfl rfl rfl rfl (show 2 < 4 by omega) ?_
    intro w38 hp38
    refine jz ?_
    have hE38 : Ext w w38 := hp38.ext hE37 (by omega)
    have hn7' : (Value.slice wa2 (List.map strV (((chW cs[k]).take n).flatten ++ cs[k].2.2.2[n].2.2.take (q + 1))).length wc2).ownBlock ≠ some b7 := fun e => by have := (hO37.block _ e).1; omega
    have h38 : Bk w38 b7 [.int .i64 width, .int .u8 side, .slice wa2 _ wc2, av] 196 := ⟨hp38.new⟩
    have z37 := hA37.g.size
    have z38 := hp38.size
    have hO38 := hO37.put hp38 hn7'
    have hna : av.ownBlock ≠ some b7 := fun e => by have := (hOa.block _ e).1; omega
    have hOa38 : OwnL w38 w_b7.heap.size 47 true 3 av ((runAn k (chW cs[k]) n ++ lnP k n q).map encPl) := ((hOa.ext hE36).app hA37 (OwnL.ne (hOa.ext hE36) (hOw.ext hE36) (by decide))).put hp38 hna
    refine jjX (by decide +kernel) hE38 ?_
    have h6a : Bk w38 b6 _ _ := hp38.bk (hA37.bk (hV6.ext hE36) fun e => by have := (hOw.block _ e).1; omega) (show b6 ≠ b7 by omega)
    (refine jjC ?_; refine jm ?_; refine jn rfl ?_; refine jN rfl rfl rfl ?_; apply jI; exact eI rfl; apply jI; exact eI rfl; apply jI; exact eI rfl)
    (refine jjS (cells := [.int .i64 (k : Int), .int .i64 (n : Int), .int .i64 (q : Int)]) ?_ ?_; exact rfl)
    skip
    (refine jjP (v := .agg _) rfl (by exact rfl) (by exact rfl) (by exact rfl) (by exact rfl) ?_; intro b45 w_b45 hb_b45 hs_b45 hS_b45 hk_b45; have hR_b45 := RowV.one (agg := true) (k := 3) rfl hk_b45)
    skip
    refine Ops.appendL (hOa38.ext hS_b45.ext) (by have := hS_b45.size; omega) hR_b45 rfl rfl rfl rfl (one_pl ((k : Int), (n : Int), (q : Int))) ?_ ?_ ?_
    · rw [List.length_map]; simp only [List.length_cons, List.length_nil]; omega
    · rw [List.length_map]; simp only [List.length_cons, List.length_nil]; omega
    intro av2 w46 hA46 hO46 _ hown46
    have z45 := hS_b45.size
    have z46 := hA46.g.size
    have hE46 : Ext w w46 := hA46.ext (hE38.trans hS_b45.ext) (by omega)
    have h46 : Bk w46 b7 _ _ := hA46.bk (h38.ext hS_b45.ext) hna
    have e46 : (runAn k (chW cs[k]) n ++ lnP k n q).map encPl ++ [encPl ((k : Int), (n : Int), (q : Int))] = (runAn k (chW cs[k]) n ++ lnP k n (q + 1)).map encPl := by rw [lnP_succ]; simp
    rw [e46] at hO46
    obtain ⟨aa2, ac2, rfl⟩ := hO46.slice
    have hna' : (Value.slice aa2 (List.map encPl (runAn k (chW cs[k]) n ++ lnP k n (q + 1))).length ac2).ownBlock ≠ some b7 := fun e => by have := (hO46.block _ e).1; omega
    (refine jm ?_; refine jn rfl ?_)
    refine Ops.storeC (cs := [.int .i64 width, .int .u8 side, .slice wa2 _ wc2, av]) (j := 3) (v := .slice aa2 _ ac2) rfl rfl rfl rfl (show 3 < 4 by omega) ?_
    intro w47 hp47
    have z47 := hp47.size
    (refine jz ?_; refine jjC ?_; refine jY rfl rfl (by omega) ?_; apply jI; exact eI rfl; refine jz ?_)
    refine ⟨rfl, by (((iterate 24 refine Same.upd rfl ?_); exact Same.ovN)), cs[k].2.2.2[n].2.2.length - (q + 1), by omega, q + 1, _, _, congrArg (Value.int .i64) (by omega), rfl, by omega, hp47.ext hE46 (by omega), by omega, ?_, ⟨hp47.new⟩, ?_, hO46.put hp47 hna'⟩
    · exact hp47.bk (hA46.bk (h6a.ext hS_b45.ext) fun e => by have := (hOa.block _ e).1; omega) (show b6 ≠ b7 by omega)
    · exact ((hO38.ext hS_b45.ext).app hA46 (OwnL.ne (hO38.ext hS_b45.ext) (hOa38.ext hS_b45.ext) (by decide))).put hp47 hn7'
  case b2 =>
    (refine jjP (v := .string _) rfl (by exact rfl) (by exact rfl) (by exact rfl) (by exact rfl) ?_; intro b36 w_b36 hb_b36 hs_b36 hS_b36 hk_b36; have hR_b36 := RowV.one (agg := false) (k := 1) rfl hk_b36)
    refine jz ?_
    have hE36 : Ext V2 w_b36 := hS1.ext.trans hS_b36.ext
    have z36 := hE36.size
    (apply jjW 1; (decide +kernel); exact rfl; (exact hE.trans hE36))
    have := Bk.toAt (h := hV7.ext hE36)
    (refine jN rfl rfl rfl ?_)
    refine jz ?_
    (apply jjW 7; (decide +kernel); exact rfl; (exact hE.trans hE36))
    refine Ops.appendL (hOw.ext hE36) (by omega) hR_b36 rfl rfl rfl rfl (one_str _) ?_ ?_ ?_
    · rw [List.length_map]; simp only [List.length_cons, List.length_nil]; omega
    · rw [List.length_map]; simp only [List.length_cons, List.length_nil]; omega
    intro wv2 w37 hA37 hO37 _ hown37
    have hn7 : wv.ownBlock ≠ some b7 := fun e => by have := (hOw.block _ e).1; omega
    have hE37 : Ext w w37 := hA37.ext (hE.trans hE36) (by omega)
    have h37 : Bk w37 b7 [.int .i64 width, .int .u8 side, wv, av] 196 := hA37.bk (hV7.ext hE36) hn7
    refine jz ?_
    (refine jjV [8] ?_ ?_ ?_; (decide +kernel); (exact hE37); (((apply jjT; exact rfl; rintro w' q1; have := q1.toStep; refine jm ?_; refine jn rfl ?_; refine jz ?_; exact ⟨rfl, rfl⟩; refine jjU ?_))))
    (apply jjW 9; (decide +kernel); exact rfl; (exact hE37))
    rw [← List.map_singleton, ← List.map_append, flat_step (List.getElem?_eq_getElem hql)] at hO37
    obtain ⟨wa2, wc2, rfl⟩ := hO37.slice
    refine Ops.storeC (cs := [.int .i64 width, .int .u8 side, wv, av]) (j := 2) (v := .slice wa2 _ wc2) rfl rfl rfl rfl (show 2 < 4 by omega) ?_
    intro w38 hp38
    refine jz ?_
    have hE38 : Ext w w38 := hp38.ext hE37 (by omega)
    have hn7' : (Value.slice wa2 (List.map strV (((chW cs[k]).take n).flatten ++ cs[k].2.2.2[n].2.2.take (q + 1))).length wc2).ownBlock ≠ some b7 := fun e => by have := (hO37.block _ e).1; omega
    have h38 : Bk w38 b7 [.int .i64 width, .int .u8 side, .slice wa2 _ wc2, av] 196 := ⟨hp38.new⟩
    have z37 := hA37.g.size
    have z38 := hp38.size
    have hO38 := hO37.put hp38 hn7'
    have hna : av.ownBlock ≠ some b7 := fun e => by have := (hOa.block _ e).1; omega
    have hOa38 : OwnL w38 w_b7.heap.size 47 true 3 av ((runAn k (chW cs[k]) n ++ lnP k n q).map encPl) := ((hOa.ext hE36).app hA37 (OwnL.ne (hOa.ext hE36) (hOw.ext hE36) (by decide))).put hp38 hna
    refine jjX (by decide +kernel) hE38 ?_
    have h6a : Bk w38 b6 _ _ := hp38.bk (hA37.bk (hV6.ext hE36) fun e => by have := (hOw.block _ e).1; omega) (show b6 ≠ b7 by omega)
    (refine jjC ?_; refine jm ?_; refine jn rfl ?_; refine jN rfl rfl rfl ?_; apply jI; exact eI rfl; apply jI; exact eI rfl; apply jI; exact eI rfl)
    (refine jjS (cells := [.int .i64 (k : Int), .int .i64 (n : Int), .int .i64 (q : Int)]) ?_ ?_; exact rfl)
    skip
    (refine jjP (v := .agg _) rfl (by exact rfl) (by exact rfl) (by exact rfl) (by exact rfl) ?_; intro b45 w_b45 hb_b45 hs_b45 hS_b45 hk_b45; have hR_b45 := RowV.one (agg := true) (k := 3) rfl hk_b45)
    skip
    refine Ops.appendL (hOa38.ext hS_b45.ext) (by have := hS_b45.size; omega) hR_b45 rfl rfl rfl rfl (one_pl ((k : Int), (n : Int), (q : Int))) ?_ ?_ ?_
    · rw [List.length_map]; simp only [List.length_cons, List.length_nil]; omega
    · rw [List.length_map]; simp only [List.length_cons, List.length_nil]; omega
    intro av2 w46 hA46 hO46 _ hown46
    have z45 := hS_b45.size
    have z46 := hA46.g.size
    have hE46 : Ext w w46 := hA46.ext (hE38.trans hS_b45.ext) (by omega)
    have h46 : Bk w46 b7 _ _ := hA46.bk (h38.ext hS_b45.ext) hna
    have e46 : (runAn k (chW cs[k]) n ++ lnP k n q).map encPl ++ [encPl ((k : Int), (n : Int), (q : Int))] = (runAn k (chW cs[k]) n ++ lnP k n (q + 1)).map encPl := by rw [lnP_succ]; simp
    rw [e46] at hO46
    obtain ⟨aa2, ac2, rfl⟩ := hO46.slice
    have hna' : (Value.slice aa2 (List.map encPl (runAn k (chW cs[k]) n ++ lnP k n (q + 1))).length ac2).ownBlock ≠ some b7 := fun e => by have := (hO46.block _ e).1; omega
    (refine jm ?_; refine jn rfl ?_)
    refine Ops.storeC (cs := [.int .i64 width, .int .u8 side, .slice wa2 _ wc2, av]) (j := 3) (v := .slice aa2 _ ac2) rfl rfl rfl rfl (show 3 < 4 by omega) ?_
    intro w47 hp47
    have z47 := hp47.size
    (refine jz ?_; refine jjC ?_; refine jY rfl rfl (by omega) ?_; apply jI; exact eI rfl; refine jz ?_)
    refine ⟨rfl, by (((iterate 24 refine Same.upd rfl ?_); exact Same.ovN)), cs[k].2.2.2[n].2.2.length - (q + 1), by omega, q + 1, _, _, congrArg (Value.int .i64) (by omega), rfl, by omega, hp47.ext hE46 (by omega), by omega, ?_, ⟨hp47.new⟩, ?_, hO46.put hp47 hna'⟩
    · exact hp47.bk (hA46.bk (h6a.ext hS_b45.ext) fun e => by have := (hOa.block _ e).1; omega) (show b6 ≠ b7 by omega)
    · exact ((hO38.ext hS_b45.ext).app hA46 (OwnL.ne (hO38.ext hS_b45.ext) (hOa38.ext hS_b45.ext) (by decide))).put hp47 hn7'
end

def wsT (t : Tx) (k : Nat) : List (List ByteArray) := (t.getD k (0, [])).2
theorem wsT_get {cs : List Ch} {k : Nat} (hk : k < cs.length) : wsT (txF cs) k = chW cs[k] := by
  simp [wsT, txF, hk, chW]
/-- Where a place is in a list. -/
noncomputable def idP (l : List Pl) (p : Pl) : Option Nat := open Classical in if h : ∃ i, l[i]? = some p then some (Classical.choose h) else none
theorem idP_some {l : List Pl} {p : Pl} {i : Nat} (hn : l.Nodup) (h : l[i]? = some p) : idP l p = some i := by
  have hx : ∃ i, l[i]? = some p := ⟨i, h⟩
  rw [idP, dif_pos hx, nodup_inj hn (Classical.choose_spec hx) h]
theorem idP_get {l : List Pl} {p : Pl} {i : Nat} (h : idP l p = some i) : l[i]? = some p := by
  unfold idP at h
  split at h
  · rename_i hx
    cases h
    exact Classical.choose_spec hx
  · cases h
theorem mem_runA {k : Nat} {x : List (List ByteArray)} {p : Pl} : p ∈ runA k x ↔ ∃ (n q : Nat) (hn : n < x.length), q < x[n].length ∧ p = ((k : Int), (n : Int), (q : Int)) := by
  simp only [runA, runAn, lnP, List.mem_flatMap, List.mem_range, List.mem_map]
  constructor
  · rintro ⟨n, hn, q, hq, rfl⟩
    refine ⟨n, q, hn, ?_, rfl⟩
    rwa [List.getD_eq_getElem?_getD, List.getElem?_eq_getElem hn, Option.getD_some] at hq
  · rintro ⟨n, q, hn, hq, rfl⟩
    refine ⟨n, hn, q, ?_, rfl⟩
    rwa [List.getD_eq_getElem?_getD, List.getElem?_eq_getElem hn, Option.getD_some]
theorem runA_fst {k : Nat} {x : List (List ByteArray)} {p : Pl} (h : p ∈ runA k x) : p.1 = (k : Int) := by
  obtain ⟨n, q, _, _, rfl⟩ := mem_runA.1 h
  rfl
/-- The slip of the word i of a chapter. -/
def slK (side W : Int) (k : Nat) (x : List (List ByteArray)) (i : Nat) : Slp := slipX x.flatten side W i ((runA k x).getD i (0, 0, 0))
theorem slK_eq {side W : Int} {k : Nat} {x : List (List ByteArray)} {i : Nat} {p : Pl} (h : (runA k x)[i]? = some p) : slK side W k x i = slipX x.flatten side W i p := by
  rw [slK, List.getD_eq_getElem?_getD, h, Option.getD_some]
/-- The slip of a place, if it is one of a text. -/
noncomputable def makeF (t : Tx) (side W : Int) (p : Pl) : Option Slp := if 0 ≤ p.1 ∧ p.1 < t.length then (idP (runA p.1.toNat (wsT t p.1.toNat)) p).map (slK side W p.1.toNat (wsT t p.1.toNat)) else none
theorem makeF_in {t : Tx} {side W : Int} {p : Pl} {k : Nat} (hk : k < t.length) (hp : p.1 = (k : Int)) : makeF t side W p = (idP (runA k (wsT t k)) p).map (slK side W k (wsT t k)) := by
  rw [makeF, if_pos (by omega), hp, Int.toNat_natCast]
theorem makeF_yes {t : Tx} {side W : Int} {p : Pl} {k i : Nat} (hk : k < t.length) (h : (runA k (wsT t k))[i]? = some p) : makeF t side W p = some (slipX (wsT t k).flatten side W i p) := by
  rw [makeF_in hk (runA_fst (List.mem_of_getElem? h)), idP_some (runA_nodup _ _) h, Option.map_some, slK_eq h]
theorem makeF_some {t : Tx} {side W : Int} {p : Pl} {s : Slp} (h : makeF t side W p = some s) : ∃ k i, k < t.length ∧ (runA k (wsT t k))[i]? = some p ∧ s = slipX (wsT t k).flatten side W i p := by
  unfold makeF at h
  split at h
  · rename_i hc
    obtain ⟨i, hi, e⟩ := Option.map_eq_some_iff.1 h
    have hg := idP_get hi
    exact ⟨p.1.toNat, i, by omega, hg, by rw [← e, slK_eq hg]⟩
  · cases h
theorem makeF_at {t : Tx} {side W : Int} {p : Pl} {s : Slp} (h : makeF t side W p = some s) : s.1 = p := by
  obtain ⟨_, _, _, _, rfl⟩ := makeF_some h; rfl
/-- All places of a text, of its first n chapters. -/
def allP (t : Tx) (n : Nat) : List Pl := (List.range n).flatMap fun k => runA k (wsT t k)
theorem allP_succ (t : Tx) (n : Nat) : allP t (n + 1) = allP t n ++ runA n (wsT t n) := by simp [allP, List.range_succ, List.flatMap_append]
noncomputable def slP (t : Tx) (side W : Int) (p : Pl) : Slp := (makeF t side W p).getD (p, ⟨#[]⟩, ⟨#[]⟩, ⟨#[]⟩)
theorem slP_at (t : Tx) (side W : Int) (p : Pl) : (slP t side W p).1 = p := by
  rw [slP]
  cases h : makeF t side W p with
  | none => rfl
  | some s => exact makeF_at h
theorem slP_eq {t : Tx} {side W : Int} {p : Pl} {k i : Nat} (hk : k < t.length) (h : (runA k (wsT t k))[i]? = some p) : slP t side W p = slipX (wsT t k).flatten side W i p := by
  rw [slP, makeF_yes hk h, Option.getD_some]
/-- All slips of a text. -/
noncomputable def allS (t : Tx) (side W : Int) : List Slp := (allP t t.length).map (slP t side W)
noncomputable def slA (t : Tx) (side W : Int) (n : Nat) : List Slp := (allP t n).map (slP t side W)
noncomputable def slsN (t : Tx) (side W : Int) (k i : Nat) : List Slp := ((runA k (wsT t k)).take i).map (slP t side W)
theorem slA_succ (t : Tx) (side W : Int) (n : Nat) : slA t side W (n + 1) = slA t side W n ++ slsN t side W n (wsT t n).flatten.length := by
  rw [slA, allP_succ, List.map_append, ← slA, slsN, ← runA_len n, List.take_length]
theorem slA_get {t : Tx} {side W : Int} {k i n : Nat} {p : Pl} (hk : k < n) (h : (runA k (wsT t k))[i]? = some p) : (slA t side W n)[(slA t side W k).length + i]? = some (slP t side W p) := by
  have : ∀ d, (slA t side W (k + 1 + d))[(slA t side W k).length + i]? = some (slP t side W p) := by
    intro d
    induction d with
    | zero =>
      have hi := (List.getElem?_eq_some_iff.1 h).1
      rw [Nat.add_zero, slA_succ, List.getElem?_append_right (by omega), Nat.add_sub_cancel_left, slsN, ← runA_len k, List.take_length, List.getElem?_map, h, Option.map_some]
    | succ d ih =>
      rw [← Nat.add_assoc, slA_succ]
      have hl := (List.getElem?_eq_some_iff.1 ih).1
      rw [List.getElem?_append_left hl, ih]
  have := this (n - (k + 1))
  rwa [show k + 1 + (n - (k + 1)) = n by omega] at this
theorem slA_end (t : Tx) (side W : Int) : slA t side W t.length = allS t side W := rfl
theorem slsN_len {t : Tx} {side W : Int} {k i : Nat} (h : i ≤ (wsT t k).flatten.length) : (slsN t side W k i).length = i := by
  rw [slsN, List.length_map, List.length_take, runA_len]; omega
theorem mem_allP {t : Tx} {n : Nat} {p : Pl} : p ∈ allP t n ↔ ∃ k, k < n ∧ p ∈ runA k (wsT t k) := by
  simp [allP]
/-! Words of a valid text are short. -/
theorem word_short {t : Tx} {k : Nat} (h : textB t = true) {s : ByteArray} (hk : k < t.length) (hs : s ∈ (wsT t k).flatten) : s.size ≤ 12 := by
  simp only [textB, Bool.and_eq_true, List.all_eq_true] at h
  have hm : t.getD k (0, []) ∈ t := by rw [List.getD_eq_getElem?_getD, List.getElem?_eq_getElem hk, Option.getD_some]; exact List.getElem_mem hk
  have h1 := h.1.2 _ hm
  simp only [chapB, Bool.and_eq_true, List.all_eq_true] at h1
  obtain ⟨y, hy, hsy⟩ := List.mem_flatten.1 hs
  have h2 := h1.2 y hy
  simp only [lineB, Bool.and_eq_true, List.all_eq_true] at h2
  have h3 := h2.2 s hsy
  simp only [wordB, Bool.and_eq_true, decide_eq_true_eq] at h3
  omega
theorem cutB_width {W side : Int} (h : (inB 12 80 W && inB 1 3 side) = true) : 12 ≤ W ∧ W ≤ 80 ∧ 1 ≤ side ∧ side ≤ 3 := by
  simp only [inB, Bool.and_eq_true, decide_eq_true_eq] at h
  omega
theorem rnW_small {cs : List Ch} (hs : SmallT cs) {k : Nat} (hk : k < cs.length) : (rnW cs[k]).length ≤ 1000000 ∧ ∀ s ∈ rnW cs[k], s.size ≤ 1000 := by
  have h1 := hs.2 _ (List.getElem_mem hk)
  refine ⟨?_, fun s h => ?_⟩
  · have := flatW_len (x := chW cs[k]) (m := 1000) (chW_small fun y hy => (h1.2 y hy).1)
    have h2 : (chW cs[k]).length ≤ 1000 := by simp [chW]; exact h1.1
    have := Nat.mul_le_mul_right 1000 h2
    show (chW cs[k]).flatten.length ≤ _
    omega
  · obtain ⟨y, hy, hs'⟩ := List.mem_flatten.1 h
    obtain ⟨l, hl, rfl⟩ := List.mem_map.1 hy
    exact (h1.2 l hl).2 s hs'

theorem wordsB_len {s : ByteArray} (h0 : s.size ≠ 0) (h : ¬ s.size ≤ 80) : wordsB s = false := by simp [wordsB, h0, h]
theorem wordsB_all {s : ByteArray} (h0 : s.size ≠ 0) (h : s.size ≤ 80) : wordsB s = (splB s).all wordB := by simp [wordsB, h0, h]
section
variable (w : World) [hm : MxI w]
set_option maxHeartbeats 1000000 in
theorem words_slip (s : ByteArray) (hs : s.size ≤ 1000) : Ct Tryz.prog 113 [.string s] w fun v w' => ∃ sv, v = .tuple #[sv, .bool (wordsB s)] ∧ OwnL w' w.heap.size 9 false 1 sv ((wordsL s).map strV) := by
  refine Ct.ofW (by simp) ?_
  (refine jjB ?_; refine jjC ?_; apply jJ; exact eS rfl; apply jJ; exact eB rfl; refine jz ?_; refine jjH ?_; refine jjB ?_; refine jjB ?_; refine jjC ?_; apply jI; exact eT rfl)
  refine Ops.eqlS rfl rfl ?_
  by_cases h0 : s.size = 0
  · have e0 := str_nil.2 h0
    subst e0
    rw [decide_eq_true rfl]
    (refine jz ?_; refine jjJ rfl ?_; refine jjB ?_; refine jjC ?_; apply jJ; exact eS rfl; apply jJ; exact eB rfl; refine jz ?_; refine jjF ?_; refine jC rfl rfl rfl ⟨inferInstance, ?_⟩)
    exact ⟨_, rfl, OwnL.nil _ _ _ _ _⟩
  have hne : ¬ s = ⟨#[]⟩ := fun e => h0 (str_nil.1 e)
  rw [decide_eq_false hne]
  have hb := splB_bound s
  (refine jz ?_; refine jjK rfl ?_; refine jjG ?_; refine jjB ?_; refine jjC ?_; apply jI; exact eT rfl)
  refine jjQ (Split_str s _ (by omega)) rfl rfl ?_
  rintro _ w2 hS2 ⟨sv, rfl, hO⟩
  obtain ⟨a, c, rfl⟩ := hO.slice
  rw [List.length_map] at hO ⊢
  have hE2 : Ext w w2 := inferInstance
  have hL : wordsL s = splB s := by rw [wordsL, if_neg h0]
  rw [hL]
  by_cases h80 : s.size ≤ 80
  · have hwb := wordsB_all h0 h80
    (apply jJ; exact eS rfl; refine jz ?_; refine jjB ?_; refine jjC ?_; apply jI; exact eT rfl; refine ji rfl ?_; refine jjb rfl rfl (by omega) ?_; apply jJ; exact eB rfl; refine jz ?_; refine jjB ?_; refine jjI ?_; refine jjB ?_; refine jjB ?_; refine jjC ?_; apply jI; exact eS rfl; refine jh rfl ?_; apply jI; exact eI rfl; refine jz ?_; refine jjD ?_)
    refine W.keep0 [(4, .slice a (splB s).length c), (5, .bool true), (15, .slice a (splB s).length c), (16, .int .i64 (((splB s).length : Nat) : Int)), (17, .int .i64 ((0 : Nat) : Int))] ⟨eS rfl, eB rfl, eS rfl, eI rfl, eI rfl, trivial⟩ fun s0 => ?_
    refine W.loop (18 :: 19 :: 20 :: 7 :: 21 :: 22 :: 23 :: 5 :: 24 :: 17 :: []) (fun g s' V => ∃ k : Nat, s' 17 = .int .i64 ((k : Nat) : Int) ∧ s' 5 = .bool true ∧ g = (splB s).length - k ∧ k ≤ (splB s).length ∧ ∀ (j : Nat) (hj : j < (splB s).length), j < k → wordB (splB s)[j] = true) (splB s).length ⟨0, rfl, rfl, rfl, Nat.zero_le _, by intros; omega⟩ ?_
    rintro _ sd w3 hS3 ⟨k, h17, h5, rfl, hk, hpre⟩
    refine W.fix h17 (W.fix (d := 5) h5 ?_)
    clear h17 h5
    by_cases hkl : k < (splB s).length
    rotate_left
    · have hall : (splB s).all wordB = true := all_yes fun j hj => hpre j hj (by omega)
      (refine jjB ?_; refine jjC ?_; refine jja rfl rfl (by omega) ?_; refine jz ?_; refine jjB ?_; refine jjK rfl ?_; refine jjE ?_; refine jjB ?_; refine jjC ?_; apply jI; exact eS rfl; apply jI; exact eB rfl; apply jJ; exact eS rfl; apply jJ; exact eB rfl; refine jz ?_; refine jjF ?_; refine jC rfl rfl rfl ⟨inferInstance, ?_⟩)
      rw [hwb, hall]
      exact ⟨_, rfl, (hO.ext hS3.ext)⟩
    have hsz := hb.2 _ (List.getElem_mem hkl)
    have i3 : RowI w3 (.slice a (splB s).length c) false 1 ((splB s).map strV) := ⟨(hO.ext hS3.ext).row⟩
    obtain ⟨B, hB⟩ : ∃ B, wordB (splB s)[k] = B := ⟨_, rfl⟩
    (refine jjB ?_; refine jjC ?_; refine jjZ rfl rfl (by omega) ?_; refine jz ?_; refine jjB ?_; refine jjJ rfl ?_; refine jjG ?_; refine jjB ?_; refine jjD ?_; refine jjB ?_; refine jjC ?_; refine jF rfl rfl rfl (map_get (by omega)) ?_; intro _ _ _; refine jQ rfl rfl ?_; apply jJ; exact eT rfl; refine jz ?_; refine jjB ?_; refine jjC ?_; apply jI; exact eT rfl)
    refine jjQ ((word_slip (splB s)[k] _ (by omega)).mono fun v _ _ e => e.trans (by rw [hB])) rfl rfl ?_
    rintro _ w4 hS4 rfl
    cases B
    · have hall : (splB s).all wordB = false := all_no hkl hB
      (refine jq rfl ?_; refine jz ?_; refine jjJ rfl ?_; refine jjB ?_; refine jjC ?_; apply jJ; exact eB rfl; refine jz ?_; refine jjE ?_; refine jjB ?_; refine jjC ?_; apply jI; exact eS rfl; apply jI; exact eB rfl; apply jJ; exact eS rfl; apply jJ; exact eB rfl; refine jz ?_; refine jjF ?_; refine jC rfl rfl rfl ⟨inferInstance, ?_⟩)
      rw [hwb, hall]
      exact ⟨_, rfl, hO.ext (hS3.ext.trans hS4.ext)⟩
    · (refine jp rfl ?_; refine jz ?_; refine jjK rfl ?_; refine jjG ?_; refine jjC ?_; refine jY rfl rfl (by omega) ?_; apply jI; exact eI rfl; refine jz ?_)
      refine ⟨rfl, by (((iterate 11 refine Same.upd rfl ?_); exact Same.ovN)), (splB s).length - (k + 1), by omega, inferInstance, k + 1, congrArg (Value.int .i64) (by omega), rfl, rfl, by omega, fun j hj hjk => ?_⟩
      by_cases e : j = k
      · subst e; exact hB
      · exact hpre j hj (by omega)
  · have hwb := wordsB_len h0 h80
    (apply jJ; exact eS rfl; refine jz ?_; refine jjB ?_; refine jjC ?_; apply jI; exact eT rfl; refine ji rfl ?_; refine jjc rfl rfl (by omega) ?_; apply jJ; exact eB rfl; refine jz ?_; refine jjB ?_; refine jjI ?_; refine jjB ?_; refine jjB ?_; refine jjC ?_; apply jI; exact eS rfl; refine jh rfl ?_; apply jI; exact eI rfl; refine jz ?_; refine jjD ?_)
    refine W.keep0 [(4, .slice a (splB s).length c), (5, .bool false), (15, .slice a (splB s).length c), (16, .int .i64 (((splB s).length : Nat) : Int)), (17, .int .i64 ((0 : Nat) : Int))] ⟨eS rfl, eB rfl, eS rfl, eI rfl, eI rfl, trivial⟩ fun s0 => ?_
    refine W.loop (18 :: 19 :: 20 :: 7 :: 21 :: 22 :: 23 :: 5 :: 24 :: 17 :: []) (fun g s' V => ∃ k : Nat, s' 17 = .int .i64 ((k : Nat) : Int) ∧ s' 5 = .bool false ∧ g = (splB s).length - k ∧ k ≤ (splB s).length) (splB s).length ⟨0, rfl, rfl, rfl, Nat.zero_le _⟩ ?_
    rintro _ sd w3 hS3 ⟨k, h17, h5, rfl, hk⟩
    refine W.fix h17 (W.fix (d := 5) h5 ?_)
    clear h17 h5
    by_cases hkl : k < (splB s).length
    rotate_left
    · (refine jjB ?_; refine jjC ?_; refine jja rfl rfl (by omega) ?_; refine jz ?_; refine jjB ?_; refine jjK rfl ?_; refine jjE ?_; refine jjB ?_; refine jjC ?_; apply jI; exact eS rfl; apply jI; exact eB rfl; apply jJ; exact eS rfl; apply jJ; exact eB rfl; refine jz ?_; refine jjF ?_; refine jC rfl rfl rfl ⟨inferInstance, ?_⟩)
      rw [hwb]
      exact ⟨_, rfl, (hO.ext hS3.ext)⟩
    have hsz := hb.2 _ (List.getElem_mem hkl)
    have i3 : RowI w3 (.slice a (splB s).length c) false 1 ((splB s).map strV) := ⟨(hO.ext hS3.ext).row⟩
    obtain ⟨B, hB⟩ : ∃ B, wordB (splB s)[k] = B := ⟨_, rfl⟩
    (refine jjB ?_; refine jjC ?_; refine jjZ rfl rfl (by omega) ?_; refine jz ?_; refine jjB ?_; refine jjJ rfl ?_; refine jjG ?_; refine jjB ?_; refine jjD ?_; refine jjB ?_; refine jjC ?_; refine jF rfl rfl rfl (map_get (by omega)) ?_; intro _ _ _; refine jQ rfl rfl ?_; apply jJ; exact eT rfl; refine jz ?_; refine jjB ?_; refine jjC ?_; apply jI; exact eT rfl)
    refine jjQ ((word_slip (splB s)[k] _ (by omega)).mono fun v _ _ e => e.trans (by rw [hB])) rfl rfl ?_
    rintro _ w4 hS4 rfl
    cases B
    · (refine jq rfl ?_; refine jz ?_; refine jjJ rfl ?_; refine jjB ?_; refine jjC ?_; apply jJ; exact eB rfl; refine jz ?_; refine jjE ?_; refine jjB ?_; refine jjC ?_; apply jI; exact eS rfl; apply jI; exact eB rfl; apply jJ; exact eS rfl; apply jJ; exact eB rfl; refine jz ?_; refine jjF ?_; refine jC rfl rfl rfl ⟨inferInstance, ?_⟩)
      rw [hwb]
      exact ⟨_, rfl, hO.ext (hS3.ext.trans hS4.ext)⟩
    · (refine jp rfl ?_; refine jz ?_; refine jjK rfl ?_; refine jjG ?_; refine jjC ?_; refine jY rfl rfl (by omega) ?_; apply jI; exact eI rfl; refine jz ?_)
      exact ⟨rfl, by (((iterate 11 refine Same.upd rfl ?_); exact Same.ovN)), (splB s).length - (k + 1), by omega, inferInstance, k + 1, congrArg (Value.int .i64) (by omega), rfl, rfl, by omega⟩
end

/-- The order of two texts. -/
def cmpS (x y : ByteArray) : Int := if Op.bytesLess x.toList y.toList then -1 else if x = y then 0 else 1
def slipB (x : Slp) : Bool := wordsB x.2.2.1 && (wordsB x.2.2.2 && wordB x.2.1)
def SmallS (x : Slp) : Prop := x.2.1.size ≤ 1000 ∧ x.2.2.1.size ≤ 1000 ∧ x.2.2.2.size ≤ 1000
/-- The order of two slips. -/
def ordS (a b : Slp) : Int := orF [cmpS a.2.1 b.2.1, cmpP a.1 b.1, cmpS a.2.2.2 b.2.2.2, cmpS a.2.2.1 b.2.2.1]
def ordR (a b : Slp) : Int × Int := if slipB a && slipB b then (ordS a b, 0) else (0, 31)

theorem isNaN_str (x : ByteArray) (w : World) : Ct Tryz.prog 115 [.string x] w fun v _ => v = .bool false := by
  refine Ct.ofW (by simp) ?_
  (refine jjB ?_; refine jjC ?_; apply jJ; exact eB rfl; refine jz ?_; refine jjB ?_; refine jjC ?_; apply jI; exact eT rfl; apply jI; exact eT rfl)
  refine Ops.neqS rfl rfl ?_
  (apply jJ; exact eB rfl; refine jz ?_; refine jjF ?_; refine jB rfl rfl ⟨inferInstance, ?_⟩)
  exact congrArg Value.bool (by simp)
theorem Compare_str (x y : ByteArray) (w : World) : Ct Tryz.prog 81 [.string x, .string y] w fun v _ => v = .int .i64 (cmpS x y) := by
  refine Ct.ofW (by simp) ?_
  (refine jjB ?_; refine jjC ?_; apply jJ; exact eI rfl; refine jz ?_; refine jjB ?_; refine jjC ?_; apply jI; exact eT rfl)
  refine jjQ (isNaN_str x _) rfl rfl ?_
  rintro _ w2 hS2 rfl
  (apply jJ; exact eB rfl; refine jz ?_; refine jjB ?_; refine jjC ?_; apply jI; exact eT rfl)
  refine jjQ (isNaN_str y _) rfl rfl ?_
  rintro _ w3 hS3 rfl
  (apply jJ; exact eB rfl; refine jz ?_; refine jjB ?_; refine jjB ?_; refine jjC ?_; apply jI; exact eB rfl; refine jz ?_; refine jjK rfl ?_; refine jjG ?_; refine jjB ?_; refine jjB ?_; refine jjC ?_; apply jI; exact eB rfl; refine jz ?_; refine jjK rfl ?_; refine jjG ?_; refine jjB ?_; refine jjB ?_; refine jjC ?_; apply jI; exact eT rfl; apply jI; exact eT rfl)
  refine Ops.lssS rfl rfl ?_
  obtain ⟨B, hB⟩ : ∃ B, Op.bytesLess x.toList y.toList = B := ⟨_, rfl⟩
  rw [cmpS, hB]
  cases B
  · (refine jz ?_; refine jjK rfl ?_; refine jjG ?_; refine jjB ?_; refine jjB ?_; refine jjC ?_; apply jI; exact eT rfl; apply jI; exact eT rfl)
    refine Ops.gtrS rfl rfl ?_
    rw [hB, beqS, Bool.false_or]
    by_cases e : x = y
    · rw [decide_eq_true e, if_pos e]
      (refine jz ?_; refine jjK rfl ?_; refine jjG ?_; refine jjB ?_; refine jjC ?_; apply jJ; exact eI rfl; refine jz ?_; refine jjF ?_; refine jB rfl rfl ⟨inferInstance, ?_⟩)
      exact rfl
    · rw [decide_eq_false e, if_neg e]
      (refine jz ?_; refine jjJ rfl ?_; refine jjB ?_; refine jjC ?_; apply jJ; exact eI rfl; refine jz ?_; refine jjF ?_; refine jB rfl rfl ⟨inferInstance, ?_⟩)
      exact rfl
  · (refine jz ?_; refine jjJ rfl ?_; refine jjB ?_; refine jjC ?_; apply jJ; exact eI rfl; refine jz ?_; refine jjF ?_; refine jB rfl rfl ⟨inferInstance, ?_⟩)
    exact rfl

section
variable (w : World) [hm : MxI w]
set_option maxHeartbeats 1000000 in
theorem right_slip (x : Slp) (hx : SmallS x) : Ct Tryz.prog 79 [encSl x] w fun v _ => v = .bool (slipB x) := by
  obtain ⟨h1, h2, h3⟩ := hx
  refine Ct.ofW (by simp) ?_
  (refine jjB ?_; refine jjC ?_)
  (refine jy rfl ?_; intro b1 w_b1 hb_b1 hs_b1 hS_b1 hk_b1; have hA_b1 := At.ofBlock hk_b1)
  (apply jJ; exact eB rfl; refine jz ?_; refine jjB ?_; refine jjC ?_; refine jm ?_; refine jn rfl ?_; refine jN rfl rfl rfl ?_)
  obtain ⟨B1, e1⟩ : ∃ B, wordsB x.2.2.1 = B := ⟨_, rfl⟩
  obtain ⟨B2, e2⟩ : ∃ B, wordsB x.2.2.2 = B := ⟨_, rfl⟩
  obtain ⟨B3, e3⟩ : ∃ B, wordB x.2.1 = B := ⟨_, rfl⟩
  refine jjQ ((words_slip _ x.2.2.1 h2).mono fun v _ _ h => by rw [e1] at h; exact h) rfl rfl ?_
  rintro _ w2 hS2 ⟨sv, rfl, -⟩
  (apply jI; exact eU rfl; refine ju rfl rfl ?_; refine ju rfl rfl ?_; apply jJ; exact rfl; apply jJ; exact eB rfl; refine jz ?_; refine jjB ?_; refine jjC ?_; refine jm ?_; refine jn rfl ?_; refine jN rfl rfl rfl ?_)
  refine jjQ ((words_slip _ x.2.2.2 h3).mono fun v _ _ h => by rw [e2] at h; exact h) rfl rfl ?_
  rintro _ w3 hS3 ⟨sv2, rfl, -⟩
  rw [slipB, e1, e2, e3]
  cases B1
  · (apply jI; exact eU rfl; refine ju rfl rfl ?_; refine ju rfl rfl ?_; apply jJ; exact rfl; apply jJ; exact eB rfl; refine jz ?_; refine jjB ?_; refine jjC ?_; apply jI; exact eB rfl; apply jI; exact eB rfl; refine jU rfl rfl rfl rfl ?_; apply jL rfl; exact eB rfl; apply jI; exact eB rfl; refine jU rfl rfl rfl rfl ?_; refine jU rfl rfl rfl rfl ?_; refine jU rfl rfl rfl rfl ?_; apply jL rfl; exact eB rfl; apply jJ; exact eB rfl; refine jz ?_; refine jjF ?_; refine jB rfl rfl ⟨inferInstance, ?_⟩)
    exact rfl
  cases B2
  · (apply jI; exact eU rfl; refine ju rfl rfl ?_; refine ju rfl rfl ?_; apply jJ; exact rfl; apply jJ; exact eB rfl; refine jz ?_; refine jjB ?_; refine jjC ?_; apply jI; exact eB rfl; apply jI; exact eB rfl; refine jT rfl rfl rfl ?_; apply jI; exact eB rfl; apply jK rfl; exact eB rfl; apply jI; exact eB rfl; refine jU rfl rfl rfl rfl ?_; refine jU rfl rfl rfl rfl ?_; refine jU rfl rfl rfl rfl ?_; apply jL rfl; exact eB rfl; apply jJ; exact eB rfl; refine jz ?_; refine jjF ?_; refine jB rfl rfl ⟨inferInstance, ?_⟩)
    exact rfl
  (apply jI; exact eU rfl; refine ju rfl rfl ?_; refine ju rfl rfl ?_; apply jJ; exact rfl; apply jJ; exact eB rfl; refine jz ?_; refine jjB ?_; refine jjC ?_; apply jI; exact eB rfl; apply jI; exact eB rfl; refine jT rfl rfl rfl ?_; apply jI; exact eB rfl; apply jK rfl; exact eB rfl; apply jI; exact eB rfl; refine jT rfl rfl rfl ?_; refine jm ?_; refine jn rfl ?_; refine jT rfl rfl rfl ?_; refine jN rfl rfl rfl ?_; refine jT rfl rfl rfl ?_)
  refine jjQ ((word_slip x.2.1 _ (by omega)).mono fun v _ _ h => h.trans (by rw [e3])) rfl rfl ?_
  rintro _ w4 hS4 rfl
  (apply jK rfl; exact eB rfl; apply jJ; exact eB rfl; refine jz ?_; refine jjF ?_; refine jB rfl rfl ⟨inferInstance, ?_⟩)
  exact rfl
set_option maxHeartbeats 2000000 in
theorem Order_slip (x y : Slp) (hx : SmallS x) (hy : SmallS y) : Ct Tryz.prog 46 [encSl x, encSl y] w fun v _ => v = .tuple #[.int .i64 (ordR x y).1, .int .i64 (ordR x y).2] := by
  refine Ct.ofW (by simp) ?_
  (refine jjB ?_; refine jjC ?_)
  (refine jy rfl ?_; intro b2 w_b2 hb_b2 hs_b2 hS_b2 hk_b2; have hA_b2 := At.ofBlock hk_b2)
  skip
  (refine jy rfl ?_; intro b3 w_b3 hb_b3 hs_b3 hS_b3 hk_b3; have hA_b3 := At.ofBlock hk_b3)
  obtain ⟨B1, e1⟩ : ∃ B, slipB x = B := ⟨_, rfl⟩
  obtain ⟨B2, e2⟩ : ∃ B, slipB y = B := ⟨_, rfl⟩
  (apply jJ; exact eI rfl; apply jJ; exact eI rfl; refine jz ?_; refine jjB ?_; refine jjB ?_; refine jjC ?_; refine jO rfl rfl rfl rfl ?_)
  refine jjQ ((right_slip _ x hx).mono fun v _ _ h => h.trans (by rw [e1])) rfl rfl ?_
  rintro _ w2 hS2 rfl
  rw [ordR, e1, e2]
  cases B1
  · (refine jq rfl ?_; apply jI; exact eB rfl; refine jU rfl rfl rfl rfl ?_; refine jU rfl rfl rfl rfl ?_; refine jU rfl rfl rfl rfl ?_; apply jK rfl; exact eB rfl; refine jz ?_; refine jjJ rfl ?_; refine jjB ?_; refine jjC ?_; apply jJ; exact eI rfl; apply jJ; exact eI rfl; refine jz ?_; refine jjF ?_; refine jC rfl rfl rfl ⟨inferInstance, ?_⟩)
    exact rfl
  (refine jp rfl ?_; apply jI; exact eB rfl; refine jT rfl rfl rfl ?_; refine jO rfl rfl rfl rfl ?_; refine jT rfl rfl rfl ?_)
  refine jjQ ((right_slip _ y hy).mono fun v _ _ h => h.trans (by rw [e2])) rfl rfl ?_
  rintro _ w3 hS3 rfl
  cases B2
  · (refine jT rfl rfl rfl ?_; refine jq rfl ?_; apply jL rfl; exact eB rfl; refine jz ?_; refine jjJ rfl ?_; refine jjB ?_; refine jjC ?_; apply jJ; exact eI rfl; apply jJ; exact eI rfl; refine jz ?_; refine jjF ?_; refine jC rfl rfl rfl ⟨inferInstance, ?_⟩)
    exact rfl
  (refine jT rfl rfl rfl ?_; refine jp rfl ?_; apply jL rfl; exact eB rfl; refine jz ?_; refine jjK rfl ?_; refine jjG ?_; refine jjB ?_)
  refine W.draw (fun w' => Ext w3 w') ?_
  intro w1 hS1
  have x1 := hS1.ext
  (refine jjV [0, 1, 2, 3, 5, 6, 7, 8, 10, 11, 12, 13, 15, 16, 17, 18] ?_ ?_ ?_; (decide +kernel); (exact x1); (((apply jjT; exact rfl; rintro w' hq; have := hq.toStep; refine jm ?_; refine jn rfl ?_; refine jz ?_; exact ⟨rfl, rfl⟩; apply jjT; exact rfl; rintro w' hq; have := hq.toStep; refine jN rfl rfl rfl ?_; refine jz ?_; exact ⟨rfl, rfl⟩; apply jjT; exact rfl; rintro w' hq; have := hq.toStep; refine jm ?_; refine jn rfl ?_; refine jz ?_; exact ⟨rfl, rfl⟩; apply jjT; exact rfl; rintro w' hq; have := hq.toStep; refine jN rfl rfl rfl ?_; refine jz ?_; exact ⟨rfl, rfl⟩; apply jjT; exact rfl; rintro w' hq; have := hq.toStep; refine jm ?_; refine jn rfl ?_; refine jz ?_; exact ⟨rfl, rfl⟩; apply jjT; exact rfl; rintro w' hq; have := hq.toStep; refine jO rfl rfl rfl rfl ?_; refine jz ?_; exact ⟨rfl, rfl⟩; apply jjT; exact rfl; rintro w' hq; have := hq.toStep; refine jm ?_; refine jn rfl ?_; refine jz ?_; exact ⟨rfl, rfl⟩; apply jjT; exact rfl; rintro w' hq; have := hq.toStep; refine jO rfl rfl rfl rfl ?_; refine jz ?_; exact ⟨rfl, rfl⟩; apply jjT; exact rfl; rintro w' hq; have := hq.toStep; refine jm ?_; refine jn rfl ?_; refine jz ?_; exact ⟨rfl, rfl⟩; apply jjT; exact rfl; rintro w' hq; have := hq.toStep; refine jN rfl rfl rfl ?_; refine jz ?_; exact ⟨rfl, rfl⟩; apply jjT; exact rfl; rintro w' hq; have := hq.toStep; refine jm ?_; refine jn rfl ?_; refine jz ?_; exact ⟨rfl, rfl⟩; apply jjT; exact rfl; rintro w' hq; have := hq.toStep; refine jN rfl rfl rfl ?_; refine jz ?_; exact ⟨rfl, rfl⟩; apply jjT; exact rfl; rintro w' hq; have := hq.toStep; refine jm ?_; refine jn rfl ?_; refine jz ?_; exact ⟨rfl, rfl⟩; apply jjT; exact rfl; rintro w' hq; have := hq.toStep; refine jN rfl rfl rfl ?_; refine jz ?_; exact ⟨rfl, rfl⟩; apply jjT; exact rfl; rintro w' hq; have := hq.toStep; refine jm ?_; refine jn rfl ?_; refine jz ?_; exact ⟨rfl, rfl⟩; apply jjT; exact rfl; rintro w' hq; have := hq.toStep; refine jN rfl rfl rfl ?_; refine jz ?_; exact ⟨rfl, rfl⟩; refine jjU ?_))))
  (apply jjW 4; (decide +kernel); exact rfl; (exact x1))
  refine jjQ (Compare_str _ _ _) rfl rfl ?_
  rintro _ w4 hS4 rfl
  refine jz ?_
  have x2 := x1.trans hS4.ext
  (apply jjW 9; (decide +kernel); exact rfl; (exact x2))
  refine jjQ (places_slip x.1 y.1 _) rfl rfl ?_
  rintro _ w5 hS5 rfl
  refine jz ?_
  have x3 := x2.trans hS5.ext
  (apply jjW 14; (decide +kernel); exact rfl; (exact x3))
  refine jjQ (Compare_str _ _ _) rfl rfl ?_
  rintro _ w6 hS6 rfl
  refine jz ?_
  have x4 := x3.trans hS6.ext
  (apply jjW 19; (decide +kernel); exact rfl; (exact x4))
  refine jjQ (Compare_str _ _ _) rfl rfl ?_
  rintro _ w7 hS7 rfl
  refine jz ?_
  have x5 := x4.trans hS7.ext
  (apply jjW 20; (decide +kernel); exact rfl; (exact x5))
  refine Ops.buildSlice4 (v1 := .int .i64 (cmpS x.2.1 y.2.1)) (v2 := .int .i64 (cmpP x.1 y.1)) (v3 := .int .i64 (cmpS x.2.2.2 y.2.2.2)) (v4 := .int .i64 (cmpS x.2.2.1 y.2.2.1)) rfl rfl rfl rfl rfl rfl rfl rfl rfl ?_
  intro b8 w8 hb8 hs8 hS8 hk8
  refine jz ?_
  have x6 := x5.trans hS8.ext
  (apply jjW 21; (decide +kernel); exact rfl; (exact x6))
  have hr8 : RowV w8 false 1 (.slice (some ⟨b8, 0, none⟩) 4 4) ([cmpS x.2.1 y.2.1, cmpP x.1 y.1, cmpS x.2.2.2 y.2.2.2, cmpS x.2.2.1 y.2.2.1].map intV) := hk8.row (fun x hx => by simp at hx; rcases hx with rfl | rfl | rfl | rfl <;> rfl) (by simp)
  refine jjQ (Or_int _ _ _ [cmpS x.2.1 y.2.1, cmpP x.1 y.1, cmpS x.2.2.2 y.2.2.2, cmpS x.2.2.1 y.2.2.1] _ rfl hr8) rfl rfl ?_
  rintro _ w9 hS9 rfl
  refine jz ?_
  have x7 := x6.trans hS9.ext
  (refine jjV [22, 23] ?_ ?_ ?_; (decide +kernel); (exact x7); (((apply jjT; exact rfl; rintro w' hq; apply jJ; exact eI rfl; refine jz ?_; exact ⟨rfl, rfl⟩; apply jjT; exact rfl; rintro w' hq; apply jJ; exact eI rfl; refine jz ?_; exact ⟨rfl, rfl⟩; refine jjU ?_))))
  refine jjX (by decide +kernel) x7 ?_
  have := x7.toStep
  (refine jjF ?_; refine jC rfl rfl rfl ⟨inferInstance, ?_⟩)
  exact rfl
end

theorem cmpP_self (a : Pl) : cmpP a a = 0 := by simp [cmpP, cmp1, orF]
theorem cmpP_lt {a b : Pl} (h : befP a b = true) : cmpP a b = -1 := by
  unfold cmpP orF orF orF orF cmp1
  rw [befP_iff] at h
  repeat' split
  all_goals omega
theorem cmpP_gt {a b : Pl} (h : befP a b = false) (hne : a ≠ b) : cmpP a b = 1 := by
  have h2 : befP b a = true := by
    rcases befP_tri a b with h3 | h3 | h3
    · rw [h] at h3; cases h3
    · exact absurd h3 hne
    · exact h3
  unfold cmpP orF orF orF orF cmp1
  rw [befP_iff] at h2
  repeat' split
  all_goals omega

theorem texts_ref3 (x y : ByteArray) (w : World) : Ct Tryz.prog 117 [.string x, .string y] w fun v _ => v = .int .i64 (cmpS x y) := by
  refine Ct.ofW (by simp) ?_
  (refine jjB ?_; refine jjC ?_; apply jJ; exact eI rfl; refine jz ?_; refine jjB ?_; refine jjD ?_; refine jjB ?_; refine jjC ?_; apply jI; exact eT rfl; apply jI; exact eT rfl)
  refine Ops.lssS rfl rfl ?_
  obtain ⟨B, hB⟩ : ∃ B, Op.bytesLess x.toList y.toList = B := ⟨_, rfl⟩
  rw [cmpS, hB]
  cases B
  · (apply jJ; exact eB rfl; refine jz ?_; refine jjK rfl ?_; refine jjB ?_; refine jjC ?_; apply jI; exact eT rfl; apply jI; exact eT rfl)
    refine Ops.gtrS rfl rfl ?_
    rw [hB, beqS, Bool.false_or]
    by_cases e : x = y
    · rw [decide_eq_true e, if_pos e]
      (apply jJ; exact eB rfl; refine jz ?_; refine jjK rfl ?_; refine jjG ?_; refine jjB ?_; refine jjC ?_; apply jJ; exact eI rfl; refine jz ?_; refine jjF ?_; refine jB rfl rfl ⟨inferInstance, ?_⟩)
      exact rfl
    · rw [decide_eq_false e, if_neg e]
      (apply jJ; exact eB rfl; refine jz ?_; refine jjJ rfl ?_; refine jjB ?_; refine jjC ?_; apply jJ; exact eI rfl; refine jz ?_; refine jjF ?_; refine jB rfl rfl ⟨inferInstance, ?_⟩)
      exact rfl
  · (apply jJ; exact eB rfl; refine jz ?_; refine jjJ rfl ?_; refine jjB ?_; refine jjC ?_; apply jJ; exact eI rfl; refine jz ?_; refine jjF ?_; refine jB rfl rfl ⟨inferInstance, ?_⟩)
    exact rfl
set_option maxHeartbeats 1000000 in
theorem Slip_ref3 (x : Slp) (w : World) (hx : SmallS x) : Ct Tryz.prog 116 [encSl x] w fun v _ => v = .bool (slipB x) := by
  obtain ⟨h1, h2, h3⟩ := hx
  refine Ct.ofW (by simp) ?_
  (refine jjB ?_; refine jjC ?_)
  (refine jy rfl ?_; intro b1 w_b1 hb_b1 hs_b1 hS_b1 hk_b1; have hA_b1 := At.ofBlock hk_b1)
  (apply jJ; exact eB rfl; refine jz ?_; refine jjB ?_; refine jjC ?_; refine jm ?_; refine jn rfl ?_; refine jN rfl rfl rfl ?_)
  obtain ⟨B1, e1⟩ : ∃ B, wordsB x.2.2.1 = B := ⟨_, rfl⟩
  obtain ⟨B2, e2⟩ : ∃ B, wordsB x.2.2.2 = B := ⟨_, rfl⟩
  obtain ⟨B3, e3⟩ : ∃ B, wordB x.2.1 = B := ⟨_, rfl⟩
  refine jjQ ((parts_ref3 x.2.2.1 _ h2).mono fun v _ _ h => by rw [e1] at h; exact h) rfl rfl ?_
  rintro _ w2 hS2 ⟨sv, rfl, -⟩
  (apply jI; exact eU rfl; refine ju rfl rfl ?_; refine ju rfl rfl ?_; apply jJ; exact rfl; apply jJ; exact eB rfl; refine jz ?_; refine jjB ?_; refine jjC ?_; refine jm ?_; refine jn rfl ?_; refine jN rfl rfl rfl ?_)
  refine jjQ ((parts_ref3 x.2.2.2 _ h3).mono fun v _ _ h => by rw [e2] at h; exact h) rfl rfl ?_
  rintro _ w3 hS3 ⟨sv2, rfl, -⟩
  rw [slipB, e1, e2, e3]
  cases B1
  · (apply jI; exact eU rfl; refine ju rfl rfl ?_; refine ju rfl rfl ?_; apply jJ; exact rfl; apply jJ; exact eB rfl; refine jz ?_; refine jjB ?_; refine jjC ?_; apply jI; exact eB rfl; apply jI; exact eB rfl; refine jU rfl rfl rfl rfl ?_; apply jL rfl; exact eB rfl; apply jI; exact eB rfl; refine jU rfl rfl rfl rfl ?_; refine jU rfl rfl rfl rfl ?_; refine jU rfl rfl rfl rfl ?_; apply jL rfl; exact eB rfl; apply jJ; exact eB rfl; refine jz ?_; refine jjF ?_; refine jB rfl rfl ⟨inferInstance, ?_⟩)
    exact rfl
  cases B2
  · (apply jI; exact eU rfl; refine ju rfl rfl ?_; refine ju rfl rfl ?_; apply jJ; exact rfl; apply jJ; exact eB rfl; refine jz ?_; refine jjB ?_; refine jjC ?_; apply jI; exact eB rfl; apply jI; exact eB rfl; refine jT rfl rfl rfl ?_; apply jI; exact eB rfl; apply jK rfl; exact eB rfl; apply jI; exact eB rfl; refine jU rfl rfl rfl rfl ?_; refine jU rfl rfl rfl rfl ?_; refine jU rfl rfl rfl rfl ?_; apply jL rfl; exact eB rfl; apply jJ; exact eB rfl; refine jz ?_; refine jjF ?_; refine jB rfl rfl ⟨inferInstance, ?_⟩)
    exact rfl
  (apply jI; exact eU rfl; refine ju rfl rfl ?_; refine ju rfl rfl ?_; apply jJ; exact rfl; apply jJ; exact eB rfl; refine jz ?_; refine jjB ?_; refine jjC ?_; apply jI; exact eB rfl; apply jI; exact eB rfl; refine jT rfl rfl rfl ?_; apply jI; exact eB rfl; apply jK rfl; exact eB rfl; apply jI; exact eB rfl; refine jT rfl rfl rfl ?_; refine jm ?_; refine jn rfl ?_; refine jT rfl rfl rfl ?_; refine jN rfl rfl rfl ?_; refine jT rfl rfl rfl ?_)
  refine jjQ ((Word_ref x.2.1 _ (by omega)).mono fun v _ _ h => h.trans (by rw [e3])) rfl rfl ?_
  rintro _ w4 hS4 rfl
  (apply jK rfl; exact eB rfl; apply jJ; exact eB rfl; refine jz ?_; refine jjF ?_; refine jB rfl rfl ⟨inferInstance, ?_⟩)
  exact rfl
theorem bytesLess_irr : ∀ l : List UInt8, Op.bytesLess l l = false
  | [] => rfl
  | c :: l => by simp [Op.bytesLess, bytesLess_irr l]
theorem cmpS_self (x : ByteArray) : cmpS x x = 0 := by rw [cmpS, bytesLess_irr]; simp
theorem cmpS_ne {x y : ByteArray} (h : x ≠ y) : cmpS x y ≠ 0 := by
  unfold cmpS
  repeat' split
  all_goals (first | decide | (exfalso; exact h ‹_›))
set_option maxHeartbeats 2000000 in
theorem Order_ref3 (x y : Slp) (w : World) (hx : SmallS x) (hy : SmallS y) : Ct Tryz.prog 83 [encSl x, encSl y] w fun v _ => v = .tuple #[.int .i64 (ordR x y).1, .int .i64 (ordR x y).2] := by
  refine Ct.ofW (by simp) ?_
  (refine jjB ?_; refine jjC ?_)
  (refine jy rfl ?_; intro b2 w_b2 hb_b2 hs_b2 hS_b2 hk_b2; have hA_b2 := At.ofBlock hk_b2)
  skip
  (refine jy rfl ?_; intro b3 w_b3 hb_b3 hs_b3 hS_b3 hk_b3; have hA_b3 := At.ofBlock hk_b3)
  obtain ⟨B1, e1⟩ : ∃ B, slipB x = B := ⟨_, rfl⟩
  obtain ⟨B2, e2⟩ : ∃ B, slipB y = B := ⟨_, rfl⟩
  (apply jJ; exact eI rfl; apply jJ; exact eI rfl; refine jz ?_; refine jjB ?_; refine jjB ?_; refine jjC ?_; refine jO rfl rfl rfl rfl ?_)
  refine jjQ ((Slip_ref3 x _ hx).mono fun v _ _ h => h.trans (by rw [e1])) rfl rfl ?_
  rintro _ w2 hS2 rfl
  rw [ordR, e1, e2]
  cases B1
  · (refine jq rfl ?_; apply jI; exact eB rfl; refine jU rfl rfl rfl rfl ?_; refine jU rfl rfl rfl rfl ?_; refine jU rfl rfl rfl rfl ?_; apply jK rfl; exact eB rfl; refine jz ?_; refine jjJ rfl ?_; refine jjB ?_; refine jjC ?_; apply jJ; exact eI rfl; apply jJ; exact eI rfl; refine jz ?_; refine jjF ?_; refine jC rfl rfl rfl ⟨inferInstance, ?_⟩)
    exact rfl
  (refine jp rfl ?_; apply jI; exact eB rfl; refine jT rfl rfl rfl ?_; refine jO rfl rfl rfl rfl ?_; refine jT rfl rfl rfl ?_)
  refine jjQ ((Slip_ref3 y _ hy).mono fun v _ _ h => h.trans (by rw [e2])) rfl rfl ?_
  rintro _ w3 hS3 rfl
  cases B2
  · (refine jT rfl rfl rfl ?_; refine jq rfl ?_; apply jL rfl; exact eB rfl; refine jz ?_; refine jjJ rfl ?_; refine jjB ?_; refine jjC ?_; apply jJ; exact eI rfl; apply jJ; exact eI rfl; refine jz ?_; refine jjF ?_; refine jC rfl rfl rfl ⟨inferInstance, ?_⟩)
    exact rfl
  rw [show (if (true && true) = true then (ordS x y, (0 : Int)) else (0, 31)) = (ordS x y, 0) from rfl]
  (refine jT rfl rfl rfl ?_; refine jp rfl ?_; apply jL rfl; exact eB rfl; refine jz ?_; refine jjK rfl ?_; refine jjG ?_; refine jjB ?_; refine jjD ?_; refine jjB ?_; refine jjC ?_; refine jm ?_; refine jn rfl ?_; refine jN rfl rfl rfl ?_; refine jm ?_; refine jn rfl ?_; refine jN rfl rfl rfl ?_)
  refine Ops.neqS rfl rfl ?_
  by_cases c1 : x.2.1 = y.2.1
  rotate_left
  · rw [decide_eq_true c1]
    (apply jJ; exact eB rfl; refine jz ?_; refine jjJ rfl ?_; refine jjB ?_; refine jjC ?_; refine jm ?_; refine jn rfl ?_; refine jN rfl rfl rfl ?_; refine jm ?_; refine jn rfl ?_; refine jN rfl rfl rfl ?_)
    refine jjQ (texts_ref3 _ _ _) rfl rfl ?_
    rintro _ w4 hS4 rfl
    (apply jJ; exact eI rfl; apply jJ; exact eI rfl; refine jz ?_; refine jjF ?_; refine jC rfl rfl rfl ⟨inferInstance, ?_⟩)
    rw [ordS, orF, if_neg (cmpS_ne c1)]; exact rfl
  rw [decide_eq_false (fun h => h c1)]
  have o1 : ordS x y = orF [cmpP x.1 y.1, cmpS x.2.2.2 y.2.2.2, cmpS x.2.2.1 y.2.2.1] := by rw [ordS, orF, c1, cmpS_self, if_pos rfl]
  (apply jJ; exact eB rfl; refine jz ?_; refine jjK rfl ?_; refine jjB ?_; refine jjC ?_; refine jm ?_; refine jn rfl ?_; refine jO rfl rfl rfl rfl ?_; refine jm ?_; refine jn rfl ?_; refine jO rfl rfl rfl rfl ?_)
  refine Ops.neqT (enc := encPl) x.1 y.1 rfl rfl ?_
  by_cases c2 : x.1 = y.1
  rotate_left
  · rw [decide_eq_true c2]
    (apply jJ; exact eB rfl; refine jz ?_; refine jjJ rfl ?_; refine jjB ?_; refine jjB ?_; refine jjC ?_; refine jm ?_; refine jn rfl ?_; refine jO rfl rfl rfl rfl ?_; refine jm ?_; refine jn rfl ?_; refine jO rfl rfl rfl rfl ?_)
    obtain ⟨B, hB⟩ : ∃ B, befP x.1 y.1 = B := ⟨_, rfl⟩
    refine jjQ ((Before_ref1 x.1 y.1 _).mono fun v _ _ h => h.trans (by rw [hB])) rfl rfl ?_
    rintro _ w4 hS4 rfl
    cases B
    · (refine jz ?_; refine jjK rfl ?_; refine jjG ?_; refine jjB ?_; refine jjC ?_; apply jJ; exact eI rfl; apply jJ; exact eI rfl; refine jz ?_; refine jjF ?_; refine jC rfl rfl rfl ⟨inferInstance, ?_⟩)
      rw [o1, cmpP_gt hB c2]; exact rfl
    · (refine jz ?_; refine jjJ rfl ?_; refine jjB ?_; refine jjC ?_; apply jJ; exact eI rfl; apply jJ; exact eI rfl; refine jz ?_; refine jjF ?_; refine jC rfl rfl rfl ⟨inferInstance, ?_⟩)
      rw [o1, cmpP_lt hB]; exact rfl
  rw [decide_eq_false (fun h => h c2)]
  have o2 : ordS x y = orF [cmpS x.2.2.2 y.2.2.2, cmpS x.2.2.1 y.2.2.1] := by rw [o1, orF, c2, cmpP_self, if_pos rfl]
  (apply jJ; exact eB rfl; refine jz ?_; refine jjK rfl ?_; refine jjB ?_; refine jjC ?_; refine jm ?_; refine jn rfl ?_; refine jN rfl rfl rfl ?_; refine jm ?_; refine jn rfl ?_; refine jN rfl rfl rfl ?_)
  refine Ops.neqS rfl rfl ?_
  by_cases c3 : x.2.2.2 = y.2.2.2
  rotate_left
  · rw [decide_eq_true c3]
    (apply jJ; exact eB rfl; refine jz ?_; refine jjJ rfl ?_; refine jjB ?_; refine jjC ?_; refine jm ?_; refine jn rfl ?_; refine jN rfl rfl rfl ?_; refine jm ?_; refine jn rfl ?_; refine jN rfl rfl rfl ?_)
    refine jjQ (texts_ref3 _ _ _) rfl rfl ?_
    rintro _ w4 hS4 rfl
    (apply jJ; exact eI rfl; apply jJ; exact eI rfl; refine jz ?_; refine jjF ?_; refine jC rfl rfl rfl ⟨inferInstance, ?_⟩)
    rw [o2, orF, if_neg (cmpS_ne c3)]; exact rfl
  rw [decide_eq_false (fun h => h c3)]
  have o3 : ordS x y = cmpS x.2.2.1 y.2.2.1 := by
    rw [o2, orF, c3, cmpS_self, if_pos rfl, orF, orF]
    split
    · exact Eq.symm ‹_›
    · rfl
  (apply jJ; exact eB rfl; refine jz ?_; refine jjK rfl ?_; refine jjG ?_; refine jjB ?_; refine jjC ?_; refine jm ?_; refine jn rfl ?_; refine jN rfl rfl rfl ?_; refine jm ?_; refine jn rfl ?_; refine jN rfl rfl rfl ?_)
  refine jjQ (texts_ref3 _ _ _) rfl rfl ?_
  rintro _ w4 hS4 rfl
  (apply jJ; exact eI rfl; apply jJ; exact eI rfl; refine jz ?_; refine jjF ?_; refine jC rfl rfl rfl ⟨inferInstance, ?_⟩)
  rw [o3]; exact rfl

/-- Three answers; turned round the other way; zero for equals alone; one behind the other. -/
structure Ord3 {α : Type} (f : α → α → Int) : Prop where
  r : ∀ a b, f a b = -1 ∨ f a b = 0 ∨ f a b = 1
  anti : ∀ a b, f a b = - f b a
  z : ∀ a b, f a b = 0 ↔ a = b
  tr : ∀ a b c, f a b = -1 → f b c = -1 → f a c = -1
theorem Ord3.lex {α β : Type} {f : α → α → Int} {g : β → β → Int} (hf : Ord3 f) (hg : Ord3 g) : Ord3 (fun (x y : α × β) => if f x.1 y.1 = 0 then g x.2 y.2 else f x.1 y.1) where
  r a b := by
    split
    · exact hg.r _ _
    · exact hf.r _ _
  anti a b := by
    have h1 := hf.anti a.1 b.1
    have h2 := hg.anti a.2 b.2
    split <;> split <;> omega
  z a b := by
    have h1 := hf.z a.1 b.1
    have h2 := hg.z a.2 b.2
    split
    · rename_i h
      rw [h2, Prod.ext_iff]
      exact ⟨fun e => ⟨h1.1 h, e⟩, fun e => e.2⟩
    · rename_i h
      exact ⟨fun e => absurd e h, fun e => absurd (h1.2 (by rw [e])) h⟩
  tr a b c := by
    intro h1 h2
    by_cases e1 : f a.1 b.1 = 0
    · rw [if_pos e1] at h1
      have q1 := (hf.z _ _).1 e1
      by_cases e2 : f b.1 c.1 = 0
      · rw [if_pos e2] at h2
        have q2 := (hf.z _ _).1 e2
        rw [if_pos ((hf.z _ _).2 (q1.trans q2))]
        exact hg.tr _ _ _ h1 h2
      · rw [if_neg e2] at h2
        rw [q1, if_neg e2]; exact h2
    · rw [if_neg e1] at h1
      by_cases e2 : f b.1 c.1 = 0
      · have q2 := (hf.z _ _).1 e2
        rw [← q2, if_neg e1]; exact h1
      · rw [if_neg e2] at h2
        have := hf.tr _ _ _ h1 h2
        rw [if_neg (by omega)]; exact this
theorem Ord3.map {α β : Type} {f : α → α → Int} (hf : Ord3 f) (k : β → α) (hk : ∀ x y, k x = k y → x = y) : Ord3 (fun x y => f (k x) (k y)) where
  r _ _ := hf.r _ _
  anti _ _ := hf.anti _ _
  z a b := by rw [hf.z]; exact ⟨hk a b, fun e => by rw [e]⟩
  tr _ _ _ := hf.tr _ _ _
theorem ord_cmp1 : Ord3 cmp1 where
  r a b := by unfold cmp1; split <;> (try split) <;> omega
  anti a b := by unfold cmp1; repeat' split
                 all_goals omega
  z a b := by unfold cmp1; repeat' split
              all_goals omega
  tr a b c := by unfold cmp1; repeat' split
                 all_goals omega
theorem bytesLess_asymm : ∀ a b : List UInt8, Op.bytesLess a b = true → Op.bytesLess b a = false
  | _, [], h => by cases h' : (‹List UInt8›) <;> simp_all [Op.bytesLess]
  | [], _ :: _, _ => rfl
  | x :: a, y :: b, h => by
    simp only [Op.bytesLess, Bool.or_eq_true, Bool.and_eq_true, decide_eq_true_eq, beq_iff_eq, Bool.or_eq_false_iff, Bool.and_eq_false_iff, decide_eq_false_iff_not] at h ⊢
    rcases h with h | ⟨rfl, h⟩
    · have h1 : x.toNat < y.toNat := UInt8.lt_iff_toNat_lt.1 h
      refine ⟨fun h2 => ?_, ?_⟩
      · have := UInt8.lt_iff_toNat_lt.1 h2; omega
      · left
        cases hb : (y == x)
        · rfl
        · have := eq_of_beq hb; subst this; omega
    · refine ⟨fun h2 => ?_, .inr (bytesLess_asymm a b h)⟩
      have := UInt8.lt_iff_toNat_lt.1 h2; omega
theorem bytesLess_tri : ∀ a b : List UInt8, Op.bytesLess a b = true ∨ a = b ∨ Op.bytesLess b a = true
  | [], [] => .inr (.inl rfl)
  | [], _ :: _ => .inl rfl
  | _ :: _, [] => .inr (.inr rfl)
  | x :: a, y :: b => by
    simp only [Op.bytesLess, Bool.or_eq_true, Bool.and_eq_true, decide_eq_true_eq, beq_iff_eq]
    rcases Nat.lt_trichotomy x.toNat y.toNat with h | h | h
    · exact .inl (.inl (UInt8.lt_iff_toNat_lt.2 h))
    · have e : x = y := UInt8.toNat_inj.1 h
      subst e
      rcases bytesLess_tri a b with h1 | h1 | h1
      · exact .inl (.inr ⟨rfl, h1⟩)
      · exact .inr (.inl (by rw [h1]))
      · exact .inr (.inr (.inr ⟨rfl, h1⟩))
    · exact .inr (.inr (.inl (UInt8.lt_iff_toNat_lt.2 h)))
theorem bytesLess_trans : ∀ a b c : List UInt8, Op.bytesLess a b = true → Op.bytesLess b c = true → Op.bytesLess a c = true
  | _, _, [], _, h => by cases ‹List UInt8› <;> simp [Op.bytesLess] at h
  | [], _, _ :: _, _, _ => rfl
  | _ :: _, [], _ :: _, h, _ => by simp [Op.bytesLess] at h
  | x :: a, y :: b, z :: c, h1, h2 => by
    simp only [Op.bytesLess, Bool.or_eq_true, Bool.and_eq_true, decide_eq_true_eq, beq_iff_eq] at h1 h2 ⊢
    rcases h1 with h1 | ⟨rfl, h1⟩
    · rcases h2 with h2 | ⟨rfl, h2⟩
      · left; have := UInt8.lt_iff_toNat_lt.1 h1; have := UInt8.lt_iff_toNat_lt.1 h2; exact UInt8.lt_iff_toNat_lt.2 (by omega)
      · exact .inl h1
    · rcases h2 with h2 | ⟨rfl, h2⟩
      · exact .inl h2
      · exact .inr ⟨rfl, bytesLess_trans a b c h1 h2⟩
theorem toList_inj {a b : ByteArray} (h : a.toList = b.toList) : a = b := by
  have := beqS a b
  rw [h, beq_self_eq_true] at this
  exact of_decide_eq_true this.symm
theorem ord_cmpS : Ord3 cmpS where
  r a b := by unfold cmpS; split <;> (try split) <;> omega
  anti a b := by
    unfold cmpS
    rcases bytesLess_tri a.toList b.toList with h | h | h
    · have h2 := bytesLess_asymm _ _ h
      have hne : ¬ b = a := fun e => by subst e; rw [h] at h2; cases h2
      rw [if_pos h, if_neg (by rw [h2]; simp), if_neg hne]
    · have e := toList_inj h
      subst e
      rw [bytesLess_irr]; simp
    · have h2 := bytesLess_asymm _ _ h
      have hne : ¬ a = b := fun e => by subst e; rw [h] at h2; cases h2
      rw [if_pos h, if_neg (by rw [h2]; simp), if_neg hne]; rfl
  z a b := by
    refine ⟨fun h => ?_, fun e => by subst e; exact cmpS_self _⟩
    refine Decidable.by_contra fun hne => cmpS_ne hne h
  tr a b c := by
    unfold cmpS
    intro h1 h2
    have q1 : Op.bytesLess a.toList b.toList = true := by
      cases h : Op.bytesLess a.toList b.toList
      · rw [h] at h1; simp at h1; split at h1 <;> omega
      · rfl
    have q2 : Op.bytesLess b.toList c.toList = true := by
      cases h : Op.bytesLess b.toList c.toList
      · rw [h] at h2; simp at h2; split at h2 <;> omega
      · rfl
    rw [if_pos (bytesLess_trans _ _ _ q1 q2)]
theorem ord_cmpP : Ord3 cmpP := by
  have h := (ord_cmp1.lex (ord_cmp1.lex ord_cmp1))
  have e : cmpP = fun (x y : Int × Int × Int) => if cmp1 x.1 y.1 = 0 then (if cmp1 x.2.1 y.2.1 = 0 then cmp1 x.2.2 y.2.2 else cmp1 x.2.1 y.2.1) else cmp1 x.1 y.1 := by
    funext x y
    simp only [cmpP, orF]
    repeat' split
    all_goals omega
  rw [e]; exact h
theorem ord_slip : Ord3 ordS := by
  have h := (ord_cmpS.lex (ord_cmpP.lex (ord_cmpS.lex ord_cmpS))).map (fun x : Slp => (x.2.1, x.1, x.2.2.2, x.2.2.1)) (fun x y e => by
    simp only [Prod.mk.injEq] at e
    exact Prod.ext e.2.1 (Prod.ext e.1 (Prod.ext e.2.2.2 e.2.2.1)))
  have e : ordS = fun (x y : Slp) => if cmpS x.2.1 y.2.1 = 0 then (if cmpP x.1 y.1 = 0 then (if cmpS x.2.2.2 y.2.2.2 = 0 then cmpS x.2.2.1 y.2.2.1 else cmpS x.2.2.2 y.2.2.2) else cmpP x.1 y.1) else cmpS x.2.1 y.2.1 := by
    funext x y
    simp only [ordS, orF]
    repeat' split
    all_goals omega
  rw [e]; exact h

/-- An order by a part of a thing: what is equal compares alike. -/
structure Pre3 {α : Type} (f : α → α → Int) : Prop where
  r : ∀ a b, f a b = -1 ∨ f a b = 0 ∨ f a b = 1
  anti : ∀ a b, f a b = - f b a
  tr : ∀ a b c, f a b = -1 → f b c = -1 → f a c = -1
  eql : ∀ a b c, f a b = 0 → f a c = f b c
theorem Ord3.pre {α β : Type} {f : α → α → Int} (h : Ord3 f) (k : β → α) : Pre3 (fun x y => f (k x) (k y)) where
  r _ _ := h.r _ _
  anti _ _ := h.anti _ _
  tr _ _ _ := h.tr _ _ _
  eql a b c e := by
    have := (h.z (k a) (k b)).1 e
    simp only [this]
def cmpBy (n : Int) (x y : Slp) : Int := if n = 1 then ordS x y else if n = 2 then cmpS x.2.1 y.2.1 else if n = 3 then cmpS x.2.2.1 y.2.2.1 else cmpS x.2.2.2 y.2.2.2
theorem pre_by (n : Int) : Pre3 (cmpBy n) := by
  by_cases h1 : n = 1
  · have e : cmpBy n = fun x y => ordS x y := by funext x y; rw [cmpBy, if_pos h1]
    rw [e]; exact ord_slip.pre id
  by_cases h2 : n = 2
  · have e : cmpBy n = fun x y => cmpS x.2.1 y.2.1 := by funext x y; rw [cmpBy, if_neg h1, if_pos h2]
    rw [e]; exact ord_cmpS.pre fun x : Slp => x.2.1
  by_cases h3 : n = 3
  · have e : cmpBy n = fun x y => cmpS x.2.2.1 y.2.2.1 := by funext x y; rw [cmpBy, if_neg h1, if_neg h2, if_pos h3]
    rw [e]; exact ord_cmpS.pre fun x : Slp => x.2.2.1
  · have e : cmpBy n = fun x y => cmpS x.2.2.2 y.2.2.2 := by funext x y; rw [cmpBy, if_neg h1, if_neg h2, if_neg h3]
    rw [e]; exact ord_cmpS.pre fun x : Slp => x.2.2.2
section
variable {α : Type} {f : α → α → Int} (hf : Pre3 f)
include hf
theorem Pre3.refl (a : α) : f a a = 0 := by have := hf.anti a a; omega
theorem Pre3.sym {a b : α} (h : f a b = 0) : f b a = 0 := by have := hf.anti a b; omega
theorem reps_le : ∀ (A B : List α), A.Pairwise (fun a b => f a b ≠ 0) → (∀ a ∈ A, ∃ b ∈ B, f a b = 0) → A.length ≤ B.length
  | [], _, _, _ => Nat.zero_le _
  | a :: A, B, hp, hm => by
    obtain ⟨b, hb, e⟩ := hm a (by simp)
    rw [List.pairwise_cons] at hp
    have ih := reps_le A (B.filter fun y => decide (f a y ≠ 0)) hp.2 fun a' ha' => by
      obtain ⟨b', hb', e'⟩ := hm a' (by simp [ha'])
      refine ⟨b', List.mem_filter.2 ⟨hb', decide_eq_true fun h => hp.1 a' ha' ?_⟩, e'⟩
      have h1 := hf.eql a' b' a e'
      have h2 := hf.sym h
      exact hf.sym (h1.trans h2)
    have hlt : (B.filter fun y => decide (f a y ≠ 0)).length < B.length := by
      rw [List.length_filter_lt_length_iff_exists]
      exact ⟨b, hb, by rw [decide_eq_true_eq]; exact fun h => h e⟩
    rw [List.length_cons]
    omega
end
/-- Whether the k-th one counts: it is less, and none before it is its equal. -/
def isFst {α : Type} (f : α → α → Int) (l : List α) (s : α) (k : Nat) : Bool :=
  decide (f (l.getD k s) s < 0) && (l.take k).all fun y => decide (f y (l.getD k s) ≠ 0)
/-- How many different ones are less. -/
def rankF {α : Type} (f : α → α → Int) (l : List α) (s : α) : Nat := ((List.range l.length).filter (isFst f l s)).length
section
variable {α : Type} {f : α → α → Int} (hf : Pre3 f)
include hf
omit hf in
theorem fst_of (l : List α) (x s : α) : ∀ {n : Nat}, n ≤ l.length → (∃ k, k < n ∧ f (l.getD k s) x = 0) → ∃ k, k < n ∧ f (l.getD k s) x = 0 ∧ ∀ j, j < k → f (l.getD j s) x ≠ 0
  | 0, _, ⟨k, h, _⟩ => absurd h (Nat.not_lt_zero _)
  | n + 1, hn, ⟨k, h, e⟩ => by
    by_cases c : ∃ k, k < n ∧ f (l.getD k s) x = 0
    · obtain ⟨k, h1, h2, h3⟩ := fst_of l x s (by omega) c
      exact ⟨k, by omega, h2, h3⟩
    · have hk : k = n := by
        refine Decidable.by_contra fun hne => c ⟨k, by omega, e⟩
      exact ⟨k, h, e, fun j hj h0 => c ⟨j, by omega, h0⟩⟩
theorem rank_reps {l C : List α} {s : α} (hC : C.Pairwise (fun a b => f a b ≠ 0)) (h1 : ∀ x ∈ l, ∃ c ∈ C, f c x = 0) (h2 : ∀ c ∈ C, ∃ x ∈ l, f c x = 0) : rankF f l s = (C.filter fun c => decide (f c s < 0)).length := by
  have hA : rankF f l s = (((List.range l.length).filter (isFst f l s)).map fun k => l.getD k s).length := by rw [List.length_map]; rfl
  rw [hA]
  refine Nat.le_antisymm (reps_le hf _ _ ?_ ?_) (reps_le hf _ _ (hC.filter _) ?_)
  · rw [List.pairwise_map]
    refine List.Pairwise.imp_of_mem ?_ ((List.pairwise_lt_range (n := l.length)).filter _)
    intro i j hi hj hij
    obtain ⟨hj1, hj2⟩ := List.mem_filter.1 hj
    rw [List.mem_range] at hj1
    rw [isFst, Bool.and_eq_true, List.all_eq_true] at hj2
    have hm : l.getD i s ∈ l.take j := by
      rw [List.getD_eq_getElem?_getD, List.getElem?_eq_getElem (by omega), Option.getD_some]
      exact List.mem_take_iff_getElem.2 ⟨i, by omega, rfl⟩
    exact of_decide_eq_true (hj2.2 _ hm)
  · intro a ha
    obtain ⟨k, hk, rfl⟩ := List.mem_map.1 ha
    obtain ⟨hk1, hk2⟩ := List.mem_filter.1 hk
    rw [List.mem_range] at hk1
    rw [isFst, Bool.and_eq_true, decide_eq_true_eq] at hk2
    have hm : l.getD k s ∈ l := by
      rw [List.getD_eq_getElem?_getD, List.getElem?_eq_getElem hk1, Option.getD_some]; exact List.getElem_mem hk1
    obtain ⟨c, hc, e⟩ := h1 _ hm
    exact ⟨c, List.mem_filter.2 ⟨hc, decide_eq_true (by rw [hf.eql _ _ s e]; exact hk2.1)⟩, hf.sym e⟩
  · intro c hc
    obtain ⟨hc1, hc2⟩ := List.mem_filter.1 hc
    rw [decide_eq_true_eq] at hc2
    obtain ⟨x, hx, e⟩ := h2 c hc1
    obtain ⟨i, hi, rfl⟩ := List.getElem_of_mem hx
    have hgi : l.getD i s = l[i] := by rw [List.getD_eq_getElem?_getD, List.getElem?_eq_getElem hi, Option.getD_some]
    obtain ⟨k, hk, e2, e3⟩ := fst_of l l[i] s (Nat.le_refl _) ⟨i, hi, by rw [hgi]; exact hf.refl _⟩
    have e4 : f c (l.getD k s) = 0 := by rw [hf.eql _ _ _ e]; exact hf.sym e2
    refine ⟨_, List.mem_map.2 ⟨k, List.mem_filter.2 ⟨List.mem_range.2 hk, ?_⟩, rfl⟩, e4⟩
    rw [isFst, Bool.and_eq_true, decide_eq_true_eq, List.all_eq_true]
    refine ⟨by rw [← hf.eql _ _ s e4]; exact hc2, fun y hy => decide_eq_true fun h0 => ?_⟩
    obtain ⟨j, hj, rfl⟩ := List.mem_take_iff_getElem.1 hy
    have hgj : l.getD j s = l[j] := by rw [List.getD_eq_getElem?_getD, List.getElem?_eq_getElem (by omega), Option.getD_some]
    refine e3 j (by omega) ?_
    rw [hgj, hf.eql _ _ _ h0]
    exact e2
/-! ### One of each, out of a sorted list -/
end
def cptGo {α : Type} (f : α → α → Int) (p : α) : List α → List α
  | [] => []
  | y :: r => if f y p = 0 then cptGo f y r else y :: cptGo f y r
def cptL {α : Type} (f : α → α → Int) : List α → List α
  | [] => []
  | x :: r => x :: cptGo f x r
section
variable {α : Type} {f : α → α → Int} (hf : Pre3 f)
include hf
theorem cptGo_facts : ∀ (r : List α) (p : α), (p :: r).Pairwise (fun a b => f b a ≠ -1) → (∀ c ∈ cptGo f p r, f p c = -1 ∧ c ∈ r) ∧ (cptGo f p r).Pairwise (fun a b => f a b = -1) ∧ ∀ x ∈ r, f p x = 0 ∨ ∃ c ∈ cptGo f p r, f c x = 0
  | [], p, _ => ⟨fun c hc => by simp [cptGo] at hc, List.Pairwise.nil, fun x hx => by simp at hx⟩
  | y :: r, p, hs => by
    rw [List.pairwise_cons] at hs
    obtain ⟨i1, i2, i3⟩ := cptGo_facts r y hs.2
    have hyp := hs.1 y (by simp)
    by_cases e : f y p = 0
    · have e' := hf.sym e
      rw [cptGo, if_pos e]
      refine ⟨fun c hc => ⟨by rw [hf.eql _ _ c e']; exact (i1 c hc).1, by simp [(i1 c hc).2]⟩, i2, fun x hx => ?_⟩
      rcases List.mem_cons.1 hx with rfl | hx
      · exact .inl e'
      · rcases i3 x hx with h | h
        · exact .inl (by rw [hf.eql _ _ x e']; exact h)
        · exact .inr h
    · have e' : f p y = -1 := by have := hf.r y p; have := hf.anti p y; omega
      rw [cptGo, if_neg e]
      refine ⟨fun c hc => ?_, List.pairwise_cons.2 ⟨fun c hc => (i1 c hc).1, i2⟩, fun x hx => ?_⟩
      · rcases List.mem_cons.1 hc with rfl | hc
        · exact ⟨e', by simp⟩
        · exact ⟨hf.tr _ _ _ e' (i1 c hc).1, by simp [(i1 c hc).2]⟩
      · rcases List.mem_cons.1 hx with rfl | hx
        · exact .inr ⟨x, by simp, hf.refl x⟩
        · rcases i3 x hx with h | ⟨c, hc, h⟩
          · exact .inr ⟨y, by simp, h⟩
          · exact .inr ⟨c, by simp [hc], h⟩
theorem cpt_facts {S : List α} (hs : S.Pairwise (fun a b => f b a ≠ -1)) : (∀ c ∈ cptL f S, c ∈ S) ∧ (cptL f S).Pairwise (fun a b => f a b = -1) ∧ ∀ x ∈ S, ∃ c ∈ cptL f S, f c x = 0 := by
  cases S with
  | nil => exact ⟨fun c hc => hc, List.Pairwise.nil, fun x hx => by simp at hx⟩
  | cons p r =>
    obtain ⟨i1, i2, i3⟩ := cptGo_facts hf r p hs
    refine ⟨fun c hc => ?_, List.pairwise_cons.2 ⟨fun c hc => (i1 c hc).1, i2⟩, fun x hx => ?_⟩
    · rcases List.mem_cons.1 hc with rfl | hc
      · simp
      · simp [(i1 c hc).2]
    · rcases List.mem_cons.1 hx with rfl | hx
      · exact ⟨x, by simp [cptL], hf.refl x⟩
      · rcases i3 x hx with h | ⟨c, hc, h⟩
        · exact ⟨p, by simp [cptL], h⟩
        · exact ⟨c, by simp [cptL, hc], h⟩
/-- Where a slip stands among the different ones: its rank. -/
theorem rank_cpt {l S : List α} {s : α} (hp : S.Perm l) (hs : S.Pairwise (fun a b => f b a ≠ -1)) : rankF f l s = ((cptL f S).filter fun c => decide (f c s < 0)).length := by
  obtain ⟨h1, h2, h3⟩ := cpt_facts hf hs
  refine rank_reps hf (h2.imp fun h => by omega) (fun x hx => h3 x (hp.mem_iff.2 hx)) fun c hc => ⟨c, hp.mem_iff.1 (h1 c hc), hf.refl c⟩
theorem less_mono {C : List α} {s : α} (hC : C.Pairwise (fun a b => f a b = -1)) {i j : Nat} (hij : i < j) (hj : j < C.length) (h : f C[j] s < 0) : f (C[i]'(by omega)) s < 0 := by
  have h1 := List.pairwise_iff_getElem.1 hC i j (by omega) hj hij
  have h2 := hf.r C[j] s
  have := hf.tr _ _ _ h1 (show f C[j] s = -1 by omega)
  omega
end
theorem filt_upto {α : Type} (p : α → Bool) : ∀ (l : List α) (n : Nat), n ≤ l.length → (∀ i (h : i < l.length), i < n → p l[i] = true) → (∀ i (h : i < l.length), n ≤ i → p l[i] = false) → (l.filter p).length = n
  | [], n, h, _, _ => by simp at h ⊢; omega
  | x :: l, 0, _, _, h2 => by
    rw [List.filter_eq_nil_iff.2 fun a ha => ?_]
    · rfl
    · obtain ⟨i, hi, rfl⟩ := List.getElem_of_mem ha
      rw [h2 i hi (Nat.zero_le _)]; simp
  | x :: l, n + 1, h, h1, h2 => by
    have h0 := h1 0 (by simp) (Nat.succ_pos _)
    rw [List.getElem_cons_zero] at h0
    rw [List.filter_cons, if_pos h0, List.length_cons, filt_upto p l n (by simpa using h) (fun i hi hin => by have := h1 (i + 1) (by simpa using hi) (by omega); simpa using this) (fun i hi hin => by have := h2 (i + 1) (by simpa using hi) (by omega); simpa using this)]
end Go.Proofs.YtpijeomnplmakaaGreatDoor

/- The comparators that slips are ranked by. -/
namespace Go.Proofs.YtpijeomnplmakaaGreatDoor
open Go.Shelf Go.RowKit Go.Lib Go.Sort
def sh_lays106_ren : Go.Shelf.Ren := ⟨fun | 106 => 226 | 213 => 229 | 265 => 230 | n => n, fun | 9 => 9 | 3 => 3 | n => n, fun | n => n⟩

theorem sh_lays106 : Go.Proofs.Lays.n106 Tryz.prog sh_lays106_ren := {
  mixed := by kernel_rfl
  f106 := Tryz.func226.trans (congrArg some (by kernel_rfl))
  f213 := Tryz.func229.trans (congrArg some (by kernel_rfl))
  f265 := Tryz.func230.trans (congrArg some (by kernel_rfl))
  t3 := Tryz.underlying3
  a3 := Tryz.isAgg3
  z3 := Tryz.sizeOf3
  v3 := Tryz.zeroValue3
  t9 := Tryz.underlying9
  a9 := Tryz.isAgg9
  z9 := Tryz.sizeOf9
  v9 := Tryz.zeroValue9 }

theorem sh_strings_Compare (a b : ByteArray) (w : World) :
    Calls Tryz.prog 226 #[.string a, .string b] w fun e w' => e = .returned (.int .i64 (Lib.compareBytes a.data.toList b.data.toList)) ∧ w' = w := Any.strings_Compare sh_lays106 a b w

theorem compareBytes_if : ∀ a b : List UInt8, Lib.compareBytes a b = if Op.bytesLess a b then -1 else if a = b then 0 else 1
  | [], [] => rfl
  | [], _ :: _ => rfl
  | _ :: _, [] => rfl
  | x :: a, y :: b => by
    have ih := compareBytes_if a b
    rw [Lib.compareBytes, Op.bytesLess]
    by_cases h1 : x < y
    · have h1' : x.toNat < y.toNat := UInt8.lt_iff_toNat_lt.1 h1
      rw [if_pos h1]
      simp [h1]
    · rw [if_neg h1]
      by_cases h2 : y < x
      · have h2' : y.toNat < x.toNat := UInt8.lt_iff_toNat_lt.1 h2
        have hne : x ≠ y := by rintro rfl; omega
        rw [if_pos h2]
        simp [h1, hne]
      · have h1' := mt UInt8.lt_iff_toNat_lt.2 h1
        have h2' := mt UInt8.lt_iff_toNat_lt.2 h2
        obtain rfl : x = y := UInt8.toNat_inj.1 (by omega)
        rw [if_neg h2, ih]
        simp
theorem Ops.boxE {P : Program} {ro : Option Nat} {n : Nat} {all rest : List Oper} {K : Sl → World → Prop} {s : Sl} {w : World} {d : Nat} {ty : Nat} {pos : String} {af : Array Edge} {x : Operand} {t : Nat} {v : Value} (hx : ev n s x = v)
    (h : ∀ b w', w' = w.alloc (.cells v.cells t) → b = w.heap.size → w'.heap.size = w.heap.size + 1 → Step w w' → w'.heap[b]? = some (.cells v.cells t (0, 0)) → Ops P ro n all rest K (upd s d (.pointer (some ⟨b, 0, none⟩))) w') :
    Ops P ro n all (⟨some d, .box t x, ty, pos, af, none⟩ :: rest) K s w := by
  refine Ops.ofRun (w' := w.alloc (.cells v.cells t)) rfl (by simp [execOp, hx, Instr.box, newVar, newRow]) (h w.heap.size _ rfl rfl (by simp) ⟨(Below.refl _ w).alloc (Nat.le_refl _) _⟩ (World.alloc_heap_new w _))
theorem strings_cmp (a b : ByteArray) (w : World) : Calls Tryz.prog 226 [Value.string a, Value.string b].toArray w fun e w' => e = .returned (.int .i64 (cmpS a b)) ∧ w' = w := by
  have h := sh_strings_Compare a b w
  refine Calls.mono h fun e w' ⟨h1, h2⟩ => ⟨?_, h2⟩
  rw [h1, compareBytes_if, cmpS, ← ByteArray.toList_eq, ← ByteArray.toList_eq]
  have e : (a.toList = b.toList) = (a = b) := propext ⟨toList_inj, fun h => by rw [h]⟩
  simp only [e]
/-- A slip that may be ordered. -/
def GdS (x : Slp) : Prop := slipB x = true ∧ SmallS x
/-- A comparator of slips. -/
def CmpQ (q : Nat) (cf : Slp → Slp → Int) : Prop := ∀ (x y : Slp) (w : World), MxI w → GdS x → GdS y → Calls Tryz.prog q [encSl x, encSl y].toArray w fun e w' => e = .returned (.int .i64 (cf x y)) ∧ Ext w w' ∧ w.drawn ≤ w'.drawn
theorem by2_slip : CmpQ 225 (cmpBy 2) := fun x y w _ _ _ => by
  refine Calls.ofW (by simp) ?_
  (refine jjB ?_; refine jjC ?_)
  refine Ops.boxE rfl ?_
  intro b1 w1 hw1 hb1 hs1 hS1 hk1
  have hA1 := At.ofBlock hk1
  refine Ops.boxE rfl ?_
  intro b2 w2 hw2 hb2 hs2 hS2 hk2
  have hA2 := At.ofBlock hk2
  (apply jJ; exact eI rfl; refine jz ?_; refine jjB ?_; refine jjC ?_; refine jm ?_; refine jn rfl ?_; refine jN rfl rfl rfl ?_; refine jm ?_; refine jn rfl ?_; refine jN rfl rfl rfl ?_)
  refine Ops.callR rfl (Enters.h (P := Tryz.prog) (g := 226)) rfl (strings_cmp _ _ _) ?_
  rintro e w3 ⟨rfl, rfl⟩
  refine ⟨_, rfl, ?_⟩
  (apply jJ; exact eI rfl; refine jz ?_; refine jjF ?_)
  exact jB rfl rfl ⟨rfl, inferInstance, by rw [hw2, hw1]; exact Nat.le_refl _⟩
theorem by3_slip : CmpQ 227 (cmpBy 3) := fun x y w _ _ _ => by
  refine Calls.ofW (by simp) ?_
  (refine jjB ?_; refine jjC ?_)
  refine Ops.boxE rfl ?_
  intro b1 w1 hw1 hb1 hs1 hS1 hk1
  have hA1 := At.ofBlock hk1
  refine Ops.boxE rfl ?_
  intro b2 w2 hw2 hb2 hs2 hS2 hk2
  have hA2 := At.ofBlock hk2
  (apply jJ; exact eI rfl; refine jz ?_; refine jjB ?_; refine jjC ?_; refine jm ?_; refine jn rfl ?_; refine jN rfl rfl rfl ?_; refine jm ?_; refine jn rfl ?_; refine jN rfl rfl rfl ?_)
  refine Ops.callR rfl (Enters.h (P := Tryz.prog) (g := 226)) rfl (strings_cmp _ _ _) ?_
  rintro e w3 ⟨rfl, rfl⟩
  refine ⟨_, rfl, ?_⟩
  (apply jJ; exact eI rfl; refine jz ?_; refine jjF ?_)
  exact jB rfl rfl ⟨rfl, inferInstance, by rw [hw2, hw1]; exact Nat.le_refl _⟩
theorem by4_slip : CmpQ 228 (cmpBy 4) := fun x y w _ _ _ => by
  refine Calls.ofW (by simp) ?_
  (refine jjB ?_; refine jjC ?_)
  refine Ops.boxE rfl ?_
  intro b1 w1 hw1 hb1 hs1 hS1 hk1
  have hA1 := At.ofBlock hk1
  refine Ops.boxE rfl ?_
  intro b2 w2 hw2 hb2 hs2 hS2 hk2
  have hA2 := At.ofBlock hk2
  (apply jJ; exact eI rfl; refine jz ?_; refine jjB ?_; refine jjC ?_; refine jm ?_; refine jn rfl ?_; refine jN rfl rfl rfl ?_; refine jm ?_; refine jn rfl ?_; refine jN rfl rfl rfl ?_)
  refine Ops.callR rfl (Enters.h (P := Tryz.prog) (g := 226)) rfl (strings_cmp _ _ _) ?_
  rintro e w3 ⟨rfl, rfl⟩
  refine ⟨_, rfl, ?_⟩
  (apply jJ; exact eI rfl; refine jz ?_; refine jjF ?_)
  exact jB rfl rfl ⟨rfl, inferInstance, by rw [hw2, hw1]; exact Nat.le_refl _⟩
end Go.Proofs.YtpijeomnplmakaaGreatDoor
namespace Go.Proofs.YtpijeomnplmakaaGreatDoor
open Go.RowKit

def ranksR (l : List Slp) (n : Int) : List Int × Int :=
  if 60 < l.length then ([], 4) else if ¬ l.all slipB = true then ([], 31) else if ¬ (1 ≤ n ∧ n ≤ 4) then ([], 2) else (l.map fun s => (rankF (cmpBy n) l s : Int), 0)
theorem rank_le {α : Type} (f : α → α → Int) (l : List α) (s : α) : rankF f l s ≤ l.length := by
  have := List.length_filter_le (isFst f l s) (List.range l.length)
  rw [List.length_range] at this
  exact this
theorem ranksR_ok {l : List Slp} {n : Int} (h1 : l.length ≤ 60) (h2 : l.all slipB = true) (h3 : 1 ≤ n ∧ n ≤ 4) : ranksR l n = (l.map fun s => (rankF (cmpBy n) l s : Int), 0) := by
  rw [ranksR, if_neg (by omega), if_neg (by simp [h2]), if_neg (by simp [h3])]
theorem ranks_deck {l : List Slp} {n : Int} : ∀ x ∈ (l.map fun s => (rankF (cmpBy n) l s : Int)), 0 ≤ x ∧ x ≤ l.length := by
  intro x hx
  obtain ⟨s, _, rfl⟩ := List.mem_map.1 hx
  have := rank_le (cmpBy n) l s
  omega

theorem RowV.place {w : World} {agg : Bool} {k l c j : Nat} {a : Option Addr} {xs : List Value} {x : Value} (h : RowV w agg k (.slice a l c) xs) (hj : xs[j]? = some x) : ∃ b o, a = some ⟨b, o, none⟩ ∧ At w b (o + j * k) x.cells.toList := by
  rcases h.at_ with ⟨rfl, _⟩ | ⟨b, o, c', hv, hl, hc⟩
  · simp at hj
  · simp only [Value.slice.injEq] at hv
    exact ⟨b, o, hv.1, hc j x hj⟩
theorem list_ne_len {α : Type} {xs ys : List α} (h : xs.length ≠ ys.length) : xs ≠ ys := fun e => h (by rw [e])
theorem list_ne_get {α : Type} {xs ys : List α} {k : Nat} (hk : k < xs.length) (hk' : k < ys.length) (h : xs[k] ≠ ys[k]) : xs ≠ ys := fun e => by subst e; exact h rfl
theorem list_eq_get {α : Type} {xs ys : List α} (hl : xs.length = ys.length) (h : ∀ k (h1 : k < xs.length) (h2 : k < ys.length), xs[k] = ys[k]) : xs = ys := List.ext_getElem hl h

theorem SameInts_ref (a1 a2 : Option Addr) (c1 c2 : Nat) (xs ys : List Int) (w : World) [h1 : RowI w (.slice a1 xs.length c1) false 1 (xs.map intV)] [h2 : RowI w (.slice a2 ys.length c2) false 1 (ys.map intV)] :
    Ct Tryz.prog 34 [.slice a1 xs.length c1, .slice a2 ys.length c2] w fun v _ => v = .bool (decide (xs = ys)) := by
  have hl1 := h1.h.len
  simp only [List.length_map] at hl1
  refine Ct.ofW (by simp) ?_
  repeat' (first|((first|apply jI|apply jJ); (first|exact eI rfl|exact eB rfl|exact eS rfl))|(refine jW ?_; refine jc rfl rfl ?_)|(refine jg ?_; refine jh rfl ?_)|refine jz ?_|(refine jjA ?_; (first|refine jjB ?_|refine jjC ?_|refine jjD ?_|refine jjF ?_|refine jjG ?_))|(refine jjA ?_; (refine jjN rfl ?_ ?_ <;> intro _))|refine jB rfl rfl ⟨inferInstance, ?_⟩)
  · exact congrArg Value.bool (decide_eq_false (list_ne_len (by omega))).symm
  · refine W.loop (11 :: 12 :: 13 :: 14 :: 17 :: 18 :: 19 :: 20 :: 21 :: 22 :: 23 :: 24 :: 25 :: 4 :: 15 :: 16 :: 5 :: []) (fun g s' _ => ∃ k : Nat, s' 5 = .int .i64 k ∧ g = xs.length - k ∧ k ≤ xs.length ∧ ∀ (j : Nat) (q1 : j < xs.length) (q2 : j < ys.length), j < k → xs[j] = ys[j]) xs.length ⟨0, rfl, rfl, by omega, by intros; omega⟩ ?_
    rintro _ d w' hS ⟨k, h5, rfl, hk, hpre⟩
    refine W.fix h5 ?_
    repeat' (first|((first|apply jI|apply jJ); (first|exact eI rfl|exact eB rfl|exact eS rfl))|(refine jW ?_; refine jX rfl rfl ?_)|(refine jg ?_; refine jh rfl ?_)|refine jz ?_|(refine jjA ?_; (first|refine jjB ?_|refine jjC ?_|refine jjD ?_|refine jjE ?_|refine jjF ?_|refine jjG ?_))|(refine jjA ?_; (refine jjN rfl ?_ ?_ <;> intro _))|refine jB rfl rfl ⟨inferInstance, ?_⟩)
    · have k1 : k < xs.length := by omega
      have k2 : k < ys.length := by omega
      refine W.draw (fun w'' => Ext w' w'') ?_
      intro V1 hS1
      obtain ⟨q1, o1, rfl, hA1⟩ := (h1.h.ext hS.ext).place (map_get k1)
      obtain ⟨q2, o2, rfl, hA2⟩ := (h2.h.ext hS.ext).place (map_get k2)
      rw [Nat.mul_one] at hA1 hA2
      refine jjV [0, 1, 2, 3, 4, 5, 6, 7, 8] (by decide +kernel) hS1.ext ?_
      (((apply jjT; exact rfl; rintro w' hq; have := hq.toStep; apply jI; exact eS rfl; refine jz ?_; exact ⟨rfl, rfl⟩; apply jjT; exact rfl; rintro w' hq; have := hq.toStep; apply jI; exact eI rfl; refine jz ?_; exact ⟨rfl, rfl⟩; apply jjT; exact rfl; rintro w' hq; have := hq.toStep; refine jG rfl rfl rfl (by omega) ?_; refine jz ?_; exact ⟨rfl, rfl⟩; apply jjT; exact rfl; rintro w' hq; have := hq.toStep; refine jQ rfl rfl ?_; refine jz ?_; exact ⟨rfl, rfl⟩; apply jjT; exact rfl; rintro w' hq; have := hq.toStep; apply jI; exact eS rfl; refine jz ?_; exact ⟨rfl, rfl⟩; apply jjT; exact rfl; rintro w' hq; have := hq.toStep; apply jI; exact eI rfl; refine jz ?_; exact ⟨rfl, rfl⟩; apply jjT; exact rfl; rintro w' hq; have := hq.toStep; refine jG rfl rfl rfl (by omega) ?_; refine jz ?_; exact ⟨rfl, rfl⟩; apply jjT; exact rfl; rintro w' hq; have := hq.toStep; refine jQ rfl rfl ?_; refine jz ?_; exact ⟨rfl, rfl⟩; apply jjT; exact rfl; rintro w' hq; have := hq.toStep; refine jc rfl rfl ?_; refine jz ?_; exact ⟨rfl, rfl⟩; refine jjU ?_)))
      refine jjX (by decide +kernel) hS1.ext ?_
      repeat' (first|((first|apply jI|apply jJ); (first|exact eI rfl|exact eB rfl))|(refine jW ?_; refine jY rfl rfl (by omega) ?_)|refine jz ?_|(refine jjA ?_; (first|refine jjB ?_|refine jjC ?_|refine jjF ?_|refine jjG ?_))|(refine jjA ?_; (refine jjN rfl ?_ ?_ <;> intro _))|refine jB rfl rfl ⟨inferInstance, ?_⟩)
      · exact congrArg Value.bool (decide_eq_false (list_ne_get k1 k2 ‹_›)).symm
      · refine ⟨rfl, by (((iterate 17 refine Same.upd rfl ?_); exact Same.ovN)), xs.length - (k + 1), by omega, inferInstance, k + 1, congrArg (Value.int .i64) (by omega), rfl, by omega, fun j q1 q2 hj => ?_⟩
        by_cases e : j = k
        · subst e; exact Decidable.not_not.1 ‹_›
        · exact hpre j q1 q2 (by omega)
    · exact congrArg Value.bool (decide_eq_true (list_eq_get (by omega) fun j q1 q2 => hpre j q1 q2 (by omega))).symm


section
variable (a : Option Addr) (c : Nat) (d : List Int) (w : World) [hrow : RowI w (.slice a d.length c) false 1 (d.map intV)]
end


/-- Zero cells of so many elements. -/
def zeroL (z : Value) (m : Nat) : List Value := (List.range m).map fun i => z.cells[i % z.cells.size]!
section rules
variable {P : Program} {ro : Option Nat} {n : Nat} {all rest : List Oper} {K : Sl → World → Prop} {s : Sl} {w : World} {d : Nat} {ty : Nat} {pos : String} {af : Array Edge} {t e : Nat}
theorem Ops.buildSliceF {len size bytes : Nat} {z : Value} {parts : Array (Nat × Operand)} {cells : List Value} [ht : TSl P t e] [hz : TS P e z size bytes] (h0 : Nat.blt 0 (len * size) = true) (h1 : Nat.blt (len * size) 10000 = true)
    (hf : fillL (fun i => some (i * size, size)) (zeroL z (len * size)) (parts.toList.map fun (i, x) => (i, ev n s x)) = some cells)
    (h : ∀ b w', b = w.heap.size → w'.heap.size = w.heap.size + 1 → Step w w' → Bk w' b cells e → Ops P ro n all rest K (upd s d (.slice (some ⟨b, 0, none⟩) len len)) w') :
    Ops P ro n all (⟨some d, .buildSlice t len parts, ty, pos, af, none⟩ :: rest) K s w := by
  have h0' : 0 < len * size := by simpa using h0
  have h1' : len * size < 10000 := by simpa using h1
  have hf2 := fillL_eq _ _ _ _ hf
  have e1 : (zeroL z (len * size)).toArray = (Array.range (len * size)).map (z.cells[· % z.cells.size]!) := by
    apply Array.ext'
    simp [zeroL]
  rw [e1] at hf2
  have e2 : (parts.map fun (p : Nat × Operand) => (p.1, ev n s p.2)).toList = parts.toList.map fun (i, x) => (i, ev n s x) := by simp
  refine Ops.ofRun (w' := w.alloc (.cells cells.toArray e)) rfl ?_ (h w.heap.size _ rfl (by simp) ⟨(Below.refl _ w).alloc (Nat.le_refl _) _⟩ (Bk.of (World.alloc_heap_new w _)))
  have hne : ¬ len * size = 0 := by omega
  have hbig : ¬ (16777216 < len * size) := by omega
  simp only [execOp, Instr.buildSlice, Sem.run_bind, run_underlying ht.h, run_sizeOf' w hz, Result.andThen_ok]
  simp [hbig, run_zeroValue' w hz, newRow]
  have hf3 : Instr.fill (fun i => some (i * size, size)) (Array.map (fun x => z.cells[x % z.cells.size]!) (Array.range (len * size))) (parts.toList.map fun p => (p.1, ev n s p.2)) = some cells.toArray := hf2
  simp [hf3]
  intro hc; exact absurd hc hne
end rules
/-- What such a literal reads as. -/
theorem Bk.rows {w : World} {b e k : Nat} {agg : Bool} {xs : List Value} (h : Bk w b (xs.flatMap (·.cells.toList)) e) (hf : ∀ x ∈ xs, fitsV agg k x = true) (hl : xs.length ≤ 140737488355328) : RowV w agg k (.slice (some ⟨b, 0, none⟩) xs.length xs.length) xs := by
  refine ⟨hl, hf, .inr ⟨b, 0, xs.length, rfl, Nat.le_refl _, fun j x hx => ⟨fun i v hv => ?_⟩⟩⟩
  have := flat_get (k := k) (xs := xs) (fun y hy => fitsV_cells (hf y hy)) hx hv
  have hc := (Bk.toAt (h := h)).h _ _ this
  rw [show 0 + j * k + i = 0 + (j * k + i) by omega]; exact hc

theorem same_law6 (a1 a2 : Option Addr) (c1 c2 : Nat) (xs ys : List Int) (w : World) [h1 : RowI w (.slice a1 xs.length c1) false 1 (xs.map intV)] [h2 : RowI w (.slice a2 ys.length c2) false 1 (ys.map intV)] :
    Ct Tryz.prog 51 [.slice a1 xs.length c1, .slice a2 ys.length c2] w fun v _ => v = .bool (decide (xs = ys)) := by
  refine Ct.ofW (by simp) ?_
  (refine jjB ?_; refine jjC ?_; apply jJ; exact eB rfl; refine jz ?_; refine jjB ?_; refine jjC ?_; apply jI; exact eS rfl; apply jI; exact eS rfl)
  refine jjQ (SameInts_ref a1 a2 c1 c2 xs ys _) rfl rfl ?_
  rintro _ w2 hS2 rfl
  (apply jJ; exact eB rfl; refine jz ?_; refine jjF ?_; refine jB rfl rfl ⟨inferInstance, ?_⟩)
  exact rfl
/-- The deck of the examples. -/
def exD : List Int := [3, 1, 2, 1]
theorem deck_law6 (w : World) : Ct Tryz.prog 15 [] w fun v w' => ∃ b, v = .slice (some ⟨b, 0, none⟩) 4 4 ∧ RowV w' false 1 (.slice (some ⟨b, 0, none⟩) 4 4) (exD.map intV) := by
  refine Ct.ofW (by simp) ?_
  (refine jjB ?_; refine jjC ?_; apply jJ; exact eS rfl; refine jz ?_; refine jjB ?_; refine jjC ?_)
  refine Ops.buildSliceF (cells := [.int .i64 3, .int .i64 1, .int .i64 2, .int .i64 1]) rfl rfl rfl ?_
  intro b w2 hb2 hs2 hS2 hk2
  have hr : RowV w2 false 1 (.slice (some ⟨b, 0, none⟩) 4 4) (exD.map intV) := hk2.row (fun x hx => by simp at hx; rcases hx with rfl | rfl | rfl | rfl <;> rfl) (by simp)
  (apply jJ; exact eS rfl; refine jz ?_; refine jjF ?_; refine jB rfl rfl ⟨inferInstance, ?_⟩)
  exact ⟨b, rfl, hr⟩

theorem exD_open : opE exD 2 = 0 ∧ opE exD 3 = 0 ∧ deckB exD = true := by decide +kernel
theorem exD_num : numF exD = [2, 0, 1, 0] := by decide +kernel
theorem exD_end : endF exD = [(3, 2), (2, 0)] := by decide +kernel
theorem pass_is {b m p q : Nat} (h : PassR b m p) (g1 : m < b ^ q) (g2 : ∀ i, i < q → b ^ i ≤ m) : p = q := h.uniq ⟨g1, g2⟩
theorem exD_pass2 {p : Nat} (h : PassR 2 (endF exD).length p) : p = 2 := pass_is (by rw [exD_end] at h; exact h) (by decide) (by decide)
theorem exD_plan2 : planP 2 2 (numF exD) = [[0, 0, 1, 0], [1, 0, 0, 0]] := by decide +kernel
theorem exD_sort : sortP 4 [[0, 0, 1, 0], [1, 0, 0, 0]] = [1, 3, 2, 0] := by decide +kernel
theorem exD_beg : BegR exD [1, 2, 1, 1] where
  len := rfl
  pos := by decide
  up i k h1 h2 := (show ∀ k, k < 4 → ∀ i, i < k → gd exD i ≤ gd exD k → gd [1, 2, 1, 1] k + 1 ≤ gd [1, 2, 1, 1] i by decide) k h2 i h1
  ex i hi := by
    rcases (show ∀ i, i < 4 → gd [1, 2, 1, 1] i = 1 ∨ i = 1 by decide) i hi with h | rfl
    · exact .inl h
    · exact .inr ⟨2, by decide⟩
theorem exD_chain : ChainR exD [0, 0, 1, 1] where
  len := rfl
  pos := by decide
  up i hi k h1 := (show ∀ i, i < 4 → ∀ k, k < i → gd exD k ≤ gd exD i → gd [0, 0, 1, 1] k + 1 ≤ gd [0, 0, 1, 1] i by decide) i hi k h1
  ex i hi := by
    rcases (show ∀ i, i < 4 → gd [0, 0, 1, 1] i = 0 ∨ i = 2 ∨ i = 3 by decide) i hi with h | rfl | rfl
    · exact .inl h
    · exact .inr ⟨1, by decide⟩
    · exact .inr ⟨1, by decide⟩
theorem exD_keep {C : List Int} (h : BegR exD C) : keepK exD C = [1, 2] := by
  obtain rfl := h.uniq exD_beg
  decide +kernel
theorem exD_mend {C : List Int} (h : BegR exD C) : (mendF exD (keepK exD C) exD.length).2.2 = [(0, 3), (2, 1)] := by
  rw [exD_keep h]
  decide +kernel
theorem exD_moved : movedF 4 [(0, 3), (2, 1)] = [1, 3, 2, 0] := by decide +kernel

/-! What File answers. -/
def fileE (l : List Slp) (by_ boxes : Int) : Int := if (ranksR l by_).2 = 0 then opE (ranksR l by_).1 boxes else (ranksR l by_).2
def fileL (l : List Slp) (by_ boxes : Int) : List Slp := if fileE l by_ boxes = 0 then (ordF (ranksR l by_).1).map fun i => l.getD i.toNat ((0, 0, 0), ⟨#[]⟩, ⟨#[]⟩, ⟨#[]⟩) else []
def FileR (l : List Slp) (by_ boxes : Int) (B : Nat) (v : Value) (w' : World) : Prop :=
  ∃ (p : Nat) (a : Option Addr) (c : Nat), (if fileE l by_ boxes = 0 then PassR boxes.toNat (endF (ranksR l by_).1).length p else p = 0) ∧
    v = .tuple #[.slice a (fileL l by_ boxes).length c, .int .i64 (p : Int), .int .i64 (fileE l by_ boxes)] ∧ OwnL w' B 49 true 6 (.slice a (fileL l by_ boxes).length c) ((fileL l by_ boxes).map encSl)

abbrev xSea : ByteArray := ⟨#[115, 101, 97]⟩
abbrev xOld : ByteArray := ⟨#[111, 108, 100]⟩
abbrev xIs : ByteArray := ⟨#[105, 115]⟩
abbrev xAnd : ByteArray := ⟨#[97, 110, 100]⟩
def exS : List Slp := [((0, 0, 0), xSea, ⟨#[]⟩, ⟨#[]⟩), ((0, 0, 0), xOld, ⟨#[]⟩, ⟨#[]⟩), ((0, 0, 0), xSea, ⟨#[]⟩, xIs), ((0, 0, 0), xAnd, ⟨#[]⟩, ⟨#[]⟩)]
theorem exS_right : exS.all slipB = true := by decide +kernel
theorem exS_small : ∀ s ∈ exS, SmallS s := by unfold SmallS; decide +kernel
theorem exS_ranks : ranksR exS 2 = ([2, 1, 2, 0], 0) := by
  rw [ranksR_ok (by decide) exS_right (by decide)]
  decide +kernel
theorem exS_err : fileE exS 2 2 = 0 := by rw [fileE, exS_ranks]; decide +kernel
theorem exS_file : fileL exS 2 2 = [((0, 0, 0), xAnd, ⟨#[]⟩, ⟨#[]⟩), ((0, 0, 0), xOld, ⟨#[]⟩, ⟨#[]⟩), ((0, 0, 0), xSea, ⟨#[]⟩, ⟨#[]⟩), ((0, 0, 0), xSea, ⟨#[]⟩, xIs)] := by
  rw [fileL, if_pos exS_err, exS_ranks]
  decide +kernel
theorem exS_pass {p : Nat} (h : if fileE exS 2 2 = 0 then PassR (2 : Int).toNat (endF (ranksR exS 2).1).length p else p = 0) : p = 2 := by
  rw [if_pos exS_err, exS_ranks] at h
  refine pass_is (m := 2) (b := 2) ?_ (by decide) (by decide)
  have e : (endF [2, 1, 2, 0]).length = 2 := by decide +kernel
  rw [← e]; exact h

theorem best_spec {ws : List ByteArray} {side W : Int} {i : Nat} (hi : i < ws.length) (hW : (ws[i].size : Int) ≤ W) :
    ((bestA ws side W i).1 ≤ i ∧ i ≤ (bestA ws side W i).2 ∧ (bestA ws side W i).2 < ws.length ∧ lenX ws (bestA ws side W i) ≤ W) ∧
    ∀ y : Cx, y.1 ≤ i → i ≤ y.2 → y.2 < ws.length → lenX ws y ≤ W → y = bestA ws side W i ∨ ordI ws side i (bestA ws side W i) y < 0 := by
  have hself : lenX ws (i, i) ≤ W := by rw [lenX_self hi]; exact hW
  have hin : ∀ x, x ∈ (i, i) :: refA ws i W ↔ x.1 ≤ i ∧ i ≤ x.2 ∧ x.2 < ws.length ∧ lenX ws x ≤ W := fun x => by
    rw [List.mem_cons, mem_refA hi]
    constructor
    · rintro (rfl | h)
      · exact ⟨Nat.le_refl _, Nat.le_refl _, hi, hself⟩
      · exact h
    · exact .inr
  have m2 := foldl_min (ordI ws side i) (fun _ _ _ => ordI_trans) (refA ws i W) (i, i) fun x hx y hy hne => by
    rw [hin] at hx hy
    exact ordI_total hx.2.2.1 hy.2.2.1 hne
  exact ⟨(hin _).1 m2.1, fun y h1 h2 h3 h4 => m2.2 y ((hin y).2 ⟨h1, h2, h3, h4⟩)⟩
/-! ### Words with a space between them -/
abbrev noSp (l : List UInt8) : Prop := ∀ c ∈ l, c ≠ 32
theorem spl_word : ∀ {l : List UInt8}, noSp l → spl l = [l]
  | [], _ => rfl
  | c :: l, h => by
    rw [spl, if_neg (h c (by simp)), spl_word (l := l) fun x hx => h x (by simp [hx])]
theorem spl_app : ∀ {l : List UInt8} (r : List UInt8), noSp l → spl (l ++ 32 :: r) = l :: spl r
  | [], r, _ => by simp [spl]
  | c :: l, r, h => by
    rw [List.cons_append, spl, if_neg (h c (by simp)), spl_app (l := l) r fun x hx => h x (by simp [hx])]
theorem join_cc (x y : List UInt8) (r : List (List UInt8)) : Lib.join (x :: y :: r) [32] = x ++ 32 :: Lib.join (y :: r) [32] := by
  rw [Lib.join_cons, Lib.join_cons]; simp [Lib.joinTail]
theorem spl_join : ∀ {ws : List (List UInt8)}, ws ≠ [] → (∀ w ∈ ws, noSp w) → spl (Lib.join ws [32]) = ws
  | [], h, _ => absurd rfl h
  | [x], _, h => by rw [Lib.join_one, spl_word (h x (by simp))]
  | x :: y :: r, _, h => by
    rw [join_cc, spl_app _ (h x (by simp)), spl_join (by simp) fun w hw => h w (by simp only [List.mem_cons] at hw ⊢; exact .inr hw)]
theorem word_noSp {s : ByteArray} (h : wordB s = true) : noSp s.data.toList := by
  simp only [wordB, Bool.and_eq_true, List.all_eq_true] at h
  intro c hc e
  have := h.2 c hc
  subst e
  simp [lowB] at this
theorem word_size {s : ByteArray} (h : wordB s = true) : 1 ≤ s.size ∧ s.size ≤ 12 := by
  simp only [wordB, Bool.and_eq_true, decide_eq_true_eq] at h
  exact h.1
theorem splB_join {ws : List ByteArray} (hne : ws ≠ []) (h : ∀ w ∈ ws, wordB w = true) : splB (joinB ws) = ws := by
  have e : (joinB ws).data.toList = Lib.join (ws.map (·.data.toList)) [32] := by simp [joinB]
  rw [splB, e, spl_join (by simpa using hne) (fun w hw => by
    obtain ⟨y, hy, rfl⟩ := List.mem_map.1 hw
    exact word_noSp (h y hy)), List.map_map]
  exact (List.map_congr_left fun s _ => bytesL_data s).trans (List.map_id _)
theorem joinB_len : ∀ {ws : List ByteArray}, ws ≠ [] → (joinB ws).size + 1 = (ws.map fun s => s.size + 1).sum
  | [], h => absurd rfl h
  | [x], _ => by
    have : (joinB [x]).size = x.size := by show (joinB [x]).data.size = x.data.size; simp [joinB, Lib.join_one]
    rw [this]; simp
  | x :: y :: r, _ => by
    have ih := joinB_len (ws := y :: r) (by simp)
    have : (joinB (x :: y :: r)).size = x.size + 1 + (joinB (y :: r)).size := by
      show (joinB (x :: y :: r)).data.size = x.data.size + 1 + (joinB (y :: r)).data.size
      simp only [joinB, List.map_cons, join_cc]
      simp; omega
    rw [this, List.map_cons, List.sum_cons, ← ih]; omega
theorem wordsB_join {ws : List ByteArray} (h : ∀ w ∈ ws, wordB w = true) (h80 : (joinB ws).size ≤ 80) : wordsB (joinB ws) = true := by
  by_cases hne : ws = []
  · subst hne; rfl
  · rw [wordsB, splB_join hne h, List.all_eq_true.2 h, decide_eq_true h80]; simp
theorem joinB_zero {ws : List ByteArray} (h : ∀ w ∈ ws, wordB w = true) : (joinB ws).size = 0 ↔ ws = [] := by
  constructor
  · intro h0
    refine Decidable.by_contra fun hne => ?_
    have hl := joinB_len hne
    obtain ⟨x, r, rfl⟩ := List.exists_cons_of_ne_nil hne
    have := word_size (h x (by simp))
    rw [List.map_cons, List.sum_cons] at hl; omega
  · rintro rfl; rfl
theorem sum_pre {ws : List ByteArray} {a b : Nat} (hab : a ≤ b) (hb : b ≤ ws.length) : preW ws b = preW ws a + (((ws.take b).drop a).map fun s => s.size + 1).sum := by
  have e : ws.take b = ws.take a ++ (ws.take b).drop a := by
    have := List.take_append_drop a (ws.take b)
    rw [List.take_take, Nat.min_eq_left hab] at this
    exact this.symm
  rw [preW, preW]
  conv => lhs; rw [e]
  rw [List.map_append, List.sum_append]
/-- What a part of a run comes to with the space beside it. -/
def gapN (s : ByteArray) : Nat := if s.size = 0 then 0 else s.size + 1
theorem gap_join {ws : List ByteArray} (h : ∀ w ∈ ws, wordB w = true) {a b : Nat} (hab : a ≤ b) (hb : b ≤ ws.length) : preW ws b = preW ws a + gapN (joinB ((ws.take b).drop a)) := by
  rw [sum_pre hab hb, gapN]
  have hs : ∀ w ∈ (ws.take b).drop a, wordB w = true := fun w hw => h w (List.mem_of_mem_take (List.mem_of_mem_drop hw))
  by_cases h0 : (joinB ((ws.take b).drop a)).size = 0
  · rw [if_pos h0, (joinB_zero hs).1 h0]; rfl
  · rw [if_neg h0, joinB_len fun e => h0 ((joinB_zero hs).2 e)]
/-- The length of a slip's context. -/
def widthN (s : Slp) : Nat := s.2.1.size + gapN s.2.2.1 + gapN s.2.2.2
theorem width_cut {ws : List ByteArray} (h : ∀ w ∈ ws, wordB w = true) {i : Nat} (hi : i < ws.length) {x : Cx} (h1 : x.1 ≤ i) (h2 : i ≤ x.2) (h3 : x.2 < ws.length) (p : Pl) :
    (widthN (p, ws[i], joinB ((ws.take i).drop x.1), joinB ((ws.take (x.2 + 1)).drop (i + 1))) : Int) = lenX ws x := by
  have e1 := gap_join h h1 (Nat.le_of_lt hi)
  have e2 := gap_join h (a := i + 1) (b := x.2 + 1) (by omega) (by omega)
  have e3 := preW_succ hi
  simp only [widthN, lenX]
  omega

theorem word_valid {t : Tx} {k : Nat} (h : textB t = true) {s : ByteArray} (hk : k < t.length) (hs : s ∈ (wsT t k).flatten) : wordB s = true := by
  simp only [textB, Bool.and_eq_true, List.all_eq_true] at h
  have hm : t.getD k (0, []) ∈ t := by rw [List.getD_eq_getElem?_getD, List.getElem?_eq_getElem hk, Option.getD_some]; exact List.getElem_mem hk
  have h1 := h.1.2 _ hm
  simp only [chapB, Bool.and_eq_true, List.all_eq_true] at h1
  obtain ⟨y, hy, hsy⟩ := List.mem_flatten.1 hs
  have h2 := h1.2 y hy
  simp only [lineB, Bool.and_eq_true, List.all_eq_true] at h2
  exact h2.2 s hsy
/-- A slip of a text: its chapter, its word's number there, and its context. -/
theorem make_open {t : Tx} (ht : textB t = true) {wd side : Int} (hc : cutB wd side = true) {p : Pl} {s : Slp} (h : makeF t side wd p = some s) :
    ∃ (k i : Nat) (hi : i < (wsT t k).flatten.length), k < t.length ∧ (runA k (wsT t k))[i]? = some p ∧ (∀ w ∈ (wsT t k).flatten, wordB w = true) ∧ (((wsT t k).flatten[i].size : Int) ≤ wd) ∧
      s = (p, (wsT t k).flatten[i], joinB (((wsT t k).flatten.take i).drop (bestA (wsT t k).flatten side wd i).1), joinB (((wsT t k).flatten.take ((bestA (wsT t k).flatten side wd i).2 + 1)).drop (i + 1))) := by
  obtain ⟨k, i, hk, hi, rfl⟩ := makeF_some h
  have hil : i < (wsT t k).flatten.length := by rw [← runA_len k]; exact (List.getElem?_eq_some_iff.1 hi).1
  have hw := fun w (hw : w ∈ (wsT t k).flatten) => word_valid ht hk hw
  have hcb := cutB_width hc
  have := word_size (hw _ (List.getElem_mem hil))
  refine ⟨k, i, hil, hk, hi, hw, by omega, ?_⟩
  rw [slipX, List.getD_eq_getElem?_getD, List.getElem?_eq_getElem hil, Option.getD_some]
theorem take_words {ws : List ByteArray} (h : ∀ w ∈ ws, wordB w = true) {a b : Nat} : ∀ w ∈ (ws.take b).drop a, wordB w = true := fun w hw => h w (List.mem_of_mem_take (List.mem_of_mem_drop hw))
theorem make_right {t : Tx} (ht : textB t = true) {wd side : Int} (hc : cutB wd side = true) {p : Pl} {s : Slp} (h : makeF t side wd p = some s) : slipB s = true ∧ (widthN s : Int) ≤ wd := by
  obtain ⟨k, i, hi, hk, hp, hw, hW, rfl⟩ := make_open ht hc h
  obtain ⟨⟨b1, b2, b3, b4⟩, _⟩ := best_spec (side := side) hi hW
  have hcb := cutB_width hc
  have hwid := width_cut hw hi b1 b2 b3 p
  refine ⟨?_, by omega⟩
  have h1 := word_size (hw _ (List.getElem_mem hi))
  have hg : ∀ s : ByteArray, s.size ≤ gapN s := fun s => by unfold gapN; split <;> omega
  have g1 := hg (joinB (((wsT t k).flatten.take i).drop (bestA (wsT t k).flatten side wd i).1))
  have g2 := hg (joinB (((wsT t k).flatten.take ((bestA (wsT t k).flatten side wd i).2 + 1)).drop (i + 1)))
  simp only [widthN] at hwid
  simp only [slipB, Bool.and_eq_true]
  exact ⟨wordsB_join (take_words hw) (by omega), wordsB_join (take_words hw) (by omega), hw _ (List.getElem_mem hi)⟩

/-- A context of the word i. -/
abbrev encX (ws : List ByteArray) (i : Nat) (x : Cx) : Value := .agg #[.int .i64 (x.1 : Int), .int .i64 (i : Int), .int .i64 (x.2 : Int), .int .i64 (lenX ws x)]
abbrev encX1 (ws : List ByteArray) (i : Nat) (x : Cx) : List Value := [encX ws i x]
/-- The run at br, the word's number at bi. -/
structure RunF (bi br : Nat) (ws : List ByteArray) (wd side : Int) (i : Nat) (wa : Option Addr) (wc : Nat) (aa : Option Addr) (al ac : Nat) (w : World) : Prop where
  num : At w bi 0 [.int .i64 (i : Int)]
  run : At w br 0 [.int .i64 wd, .int .u8 side, .slice wa ws.length wc, .slice aa al ac]
  row : RowV w false 1 (.slice wa ws.length wc) (ws.map strV)
set_option maxHeartbeats 2000000 in
theorem contexts1_slip (bi br : Nat) (ws : List ByteArray) (wd side : Int) (i : Nat) (wa : Option Addr) (wc : Nat) (aa : Option Addr) (al ac : Nat) (hi : i < ws.length) (hsz : ∀ s ∈ ws, s.size ≤ 1000) (hn : ws.length ≤ 1000000) (hW : 0 ≤ wd ∧ wd ≤ 1000) :
    Iter Tryz.prog 171 [.pointer (some ⟨bi, 0, none⟩), .pointer (some ⟨br, 0, none⟩)] (ctxA ws i wd) (encX1 ws i) (RunF bi br ws wd side i wa wc aa al ac) := by
  intro l J Jx M w hJ hJx hF hM1 hM2 hY h0
  have hF0 := hF 0 w h0
  have := hF0.num
  have := hF0.run
  refine Calls.ofW (by simp) ?_
  (refine jjB ?_; refine jjC ?_; apply jJ; exact eI rfl; refine jz ?_; refine jjB ?_; refine jjC ?_; refine jN rfl rfl rfl ?_; apply jJ; exact eI rfl; refine jz ?_; refine jjD ?_)
  refine W.keep0 [(0, .func (.yield l) #[] #[]), (1, .pointer (some ⟨bi, 0, none⟩)), (2, .pointer (some ⟨br, 0, none⟩)), (4, .int .i64 (-1 : Int)), (5, .int .i64 (i : Int))] ⟨eF rfl, eP rfl, eP rfl, eI rfl, eI rfl, trivial⟩ fun s0 => ?_
  refine W.loopG (9 :: 10 :: 13 :: 14 :: 15 :: 16 :: 17 :: 18 :: 19 :: 20 :: 21 :: 4 :: 22 :: 23 :: 24 :: 25 :: 26 :: 27 :: 6 :: 28 :: 7 :: 31 :: 32 :: 33 :: 34 :: 35 :: 36 :: 37 :: 38 :: 39 :: 40 :: 41 :: 42 :: 43 :: 44 :: 45 :: 46 :: 47 :: 48 :: 49 :: 50 :: 51 :: 52 :: 53 :: 54 :: 55 :: 56 :: 57 :: 58 :: 59 :: 60 :: 29 :: 30 :: 11 :: 12 :: 5 :: []) (fun g s' w' => ∃ j : Nat, s' 5 = .int .i64 ((i : Int) - j) ∧ s' 4 = .int .i64 (lenX ws (i + 1 - j, i)) ∧ j ≤ i + 1 ∧ g = i + 1 - j ∧ J (ctxN ws i wd j).length w') (i + 1) ⟨0, congrArg (Value.int .i64) (by omega), congrArg (Value.int .i64) (by simp only [lenX, Nat.sub_zero]; omega), by omega, rfl, h0⟩ ?_
  rintro _ sd w' ⟨j, h5, h4, hj, rfl, hJj⟩
  have hFj := hF _ _ hJj
  have := hFj.num
  have := hFj.run
  by_cases hji : j ≤ i
  rotate_left
  · obtain rfl : j = i + 1 := by omega
    refine W.fix h5 (W.fix (d := 4) h4 ?_)
    clear h5 h4
    (refine jjB ?_; refine jjB ?_; refine jjC ?_; apply jI; exact eI rfl; refine jjg rfl rfl (by omega) ?_; refine jz ?_; refine jjK rfl ?_; refine jjE ?_; refine jA rfl ⟨⟨_, rfl⟩, ?_⟩)
    exact .inl hJj
  replace h5 := h5.trans (congrArg (Value.int .i64) (show (i : Int) - j = ((i - j : Nat) : Int) by omega))
  refine W.fix h5 (W.fix (d := 4) h4 ?_)
  clear h5 h4
  have hlt : i - j < ws.length := by omega
  have hlf := lenX_from (b := i) hlt
  rw [show i - j + 1 = i + 1 - j by omega] at hlf
  have hsj := hsz _ (List.getElem_mem hlt)
  have hbd := lenX_bound (ws := ws) (a := i - j) (b := i) hsz hn (by omega) hi
  have hbd0 : -1 ≤ lenX ws (i + 1 - j, i) := by simp only [lenX]; have := preW_mono (ws := ws) (a := i + 1 - j) (b := i + 1) (by omega) (by omega); omega
  have hcast : ((i - j : Nat) : Int) = (i : Int) - j := by omega
  have hRow : RowI w' (.slice wa ws.length wc) false 1 (ws.map strV) := ⟨hFj.row⟩
  generalize lenX ws (i + 1 - j, i) = L0 at *
  by_cases hLW : wd < lenX ws (i - j, i)
  · have hst := ctxN_stop (m := i + 1) hi hj hLW
    (refine jjB ?_; refine jjB ?_; refine jjC ?_; apply jI; exact eI rfl; refine jjf rfl rfl (by omega) ?_; refine jz ?_; refine jjJ rfl ?_; refine jjG ?_; refine jjB ?_; refine jjD ?_; refine jjB ?_; refine jjC ?_; apply jI; exact eI rfl; refine jm ?_; refine jn rfl ?_; refine jN rfl rfl rfl ?_; apply jI; exact eI rfl; refine jF rfl rfl rfl (map_get (by omega)) ?_; intro _ _ _; refine jQ rfl rfl ?_; refine ji rfl ?_; refine jY rfl rfl (by omega) ?_; refine jY rfl rfl (by omega) ?_; apply jJ; exact eI rfl; refine jz ?_; refine jjB ?_; refine jjB ?_; refine jjC ?_; apply jI; exact eI rfl; refine jm ?_; refine jn rfl ?_; refine jm ?_; refine jn rfl ?_; refine jN rfl rfl rfl ?_; refine jjd rfl rfl (by omega) ?_; refine jz ?_; refine jjJ rfl ?_; refine jjF ?_; refine jA rfl ⟨⟨_, rfl⟩, ?_⟩)
    exact .inl (by rw [ctxA, hst]; exact hJj)
  (refine jjB ?_; refine jjB ?_; refine jjC ?_; apply jI; exact eI rfl; refine jjf rfl rfl (by omega) ?_; refine jz ?_; refine jjJ rfl ?_; refine jjG ?_; refine jjB ?_; refine jjD ?_; refine jjB ?_; refine jjC ?_; apply jI; exact eI rfl; refine jm ?_; refine jn rfl ?_; refine jN rfl rfl rfl ?_; apply jI; exact eI rfl; refine jF rfl rfl rfl (map_get (by omega)) ?_; intro _ _ _; refine jQ rfl rfl ?_; refine ji rfl ?_; refine jY rfl rfl (by omega) ?_; refine jY rfl rfl (by omega) ?_; apply jJ; exact eI rfl; refine jz ?_; refine jjB ?_; refine jjB ?_; refine jjC ?_; apply jI; exact eI rfl; refine jm ?_; refine jn rfl ?_; refine jm ?_; refine jn rfl ?_; refine jN rfl rfl rfl ?_; refine jje rfl rfl (by omega) ?_; refine jz ?_; refine jjK rfl ?_; refine jjG ?_; refine jjB ?_; refine jjC ?_; apply jI; exact eI rfl; apply jJ; exact eI rfl; refine jz ?_; refine jjB ?_; refine jjC ?_; refine jN rfl rfl rfl ?_; apply jJ; exact eI rfl; refine jz ?_; refine jjD ?_)
  refine W.keep [(0, .func (.yield l) #[] #[]), (1, .pointer (some ⟨bi, 0, none⟩)), (2, .pointer (some ⟨br, 0, none⟩)), (4, .int .i64 (lenX ws (i - j, i))), (5, .int .i64 ((i - j : Nat) : Int)), (6, .int .i64 (lenX ws (i - j, i))), (7, .int .i64 (i : Int))] (D := (9 :: 10 :: 13 :: 14 :: 15 :: 16 :: 17 :: 18 :: 19 :: 20 :: 21 :: 4 :: 22 :: 23 :: 24 :: 25 :: 26 :: 27 :: 6 :: 28 :: 7 :: 31 :: 32 :: 33 :: 34 :: 35 :: 36 :: 37 :: 38 :: 39 :: 40 :: 41 :: 42 :: 43 :: 44 :: 45 :: 46 :: 47 :: 48 :: 49 :: 50 :: 51 :: 52 :: 53 :: 54 :: 55 :: 56 :: 57 :: 58 :: 59 :: 60 :: 29 :: 30 :: 11 :: 12 :: 5 :: [])) (sO := upds s0 _) (by (((iterate 23 refine Same.upd rfl ?_); exact Same.ovN))) ⟨eF rfl, eP rfl, eP rfl, congrArg (Value.int .i64) (by omega), eI rfl, congrArg (Value.int .i64) (by omega), eI rfl, trivial⟩ fun s1 hs1 => ?_
  refine W.loopG (31 :: 32 :: 33 :: 34 :: 35 :: 36 :: 37 :: 38 :: 39 :: 40 :: 41 :: 42 :: 43 :: 44 :: 45 :: 46 :: 47 :: 6 :: 48 :: 49 :: 50 :: 51 :: 52 :: 53 :: 54 :: 55 :: 56 :: 57 :: 58 :: 59 :: 60 :: 29 :: 30 :: 7 :: []) (fun g s' V => ∃ t : Nat, s' 7 = .int .i64 ((i + t : Nat) : Int) ∧ s' 6 = .int .i64 (lenX ws (i - j, i + (t - 1))) ∧ i + t ≤ ws.length ∧ g = ws.length - (i + t) ∧ J ((ctxN ws i wd j).length + (ctxTo ws i wd (i - j) t).length) V) (ws.length - i) ⟨0, rfl, rfl, by omega, rfl, hJj⟩ ?_
  rintro _ sd2 V ⟨t, h7, h6, ht, rfl, hJt⟩
  have hFt := hF _ _ hJt
  have := hFt.num
  have := hFt.run
  have hRow : RowI V (.slice wa ws.length wc) false 1 (ws.map strV) := ⟨hFt.row⟩
  by_cases ht0 : t = 0
  · have htl : i + t < ws.length := by omega
    replace h6 := h6.trans (congrArg (fun b => Value.int .i64 (lenX ws (i - j, b))) (show i + (t - 1) = i + t by omega))
    have hLt : lenX ws (i - j, i + t) ≤ wd := by rw [ht0]; exact Int.not_lt.1 hLW
    refine W.fix h7 (W.fix (d := 6) h6 ?_)
    clear h7 h6
    (refine jjB ?_; refine jjD ?_; refine jjB ?_; refine jjB ?_; refine jjC ?_; apply jI; exact eI rfl; refine jN rfl rfl rfl ?_; refine jje rfl rfl (by omega) ?_; refine jz ?_; refine jjK rfl ?_; refine jjG ?_; refine jjB ?_; refine jjB ?_; refine jjC ?_; apply jI; exact eI rfl; refine jm ?_; refine jn rfl ?_; refine jm ?_; refine jn rfl ?_; refine jN rfl rfl rfl ?_; refine jje rfl rfl (by omega) ?_; refine jz ?_; refine jjK rfl ?_; refine jjG ?_; refine jjB ?_; refine jjC ?_; apply jI; exact eF rfl; apply jI; exact eI rfl; refine jN rfl rfl rfl ?_; apply jI; exact eI rfl; apply jI; exact eI rfl)
    have hget := ctx_get (ws := ws) (i := i) (W := wd) (j := j) (t := t) hji htl (by omega)
    rw [List.length_append] at hget
    have e1 : ctxTo ws i wd (i - j) (t + 1) = ctxTo ws i wd (i - j) t ++ [(i - j, i + t)] := by rw [ctxTo_succ, if_pos (show okX ws wd (i - j, i + t) = true from decide_eq_true (by omega))]
    (refine jjS (cells := [.int .i64 ((i - j : Nat) : Int), .int .i64 (i : Int), .int .i64 ((i + t : Nat) : Int), .int .i64 (lenX ws (i - j, i + t))]) ?_ ?_; exact rfl)
    skip
    refine Ops.yield (hY _ _ _ hget hJt) rfl rfl ?_
    rintro e w9 (⟨rfl, hJ9, hFr⟩ | ⟨rfl, hJx9⟩)
    · refine ⟨_, rfl, ?_⟩
      (refine jp rfl ?_; refine jz ?_; refine jjK rfl ?_; refine jjG ?_; refine jjC ?_; apply jI; exact eI rfl; refine jY rfl rfl (by omega) ?_; apply jJ; exact eI rfl; refine jz ?_)
      refine ⟨rfl, by (((iterate 21 refine Same.upd rfl ?_); exact Same.ovN)), ws.length - (i + (t + 1)), by omega, t + 1, congrArg (Value.int .i64) (by omega), rfl, by omega, rfl, ?_⟩
      rw [e1, List.length_append]; exact hJ9
    · refine ⟨_, rfl, ?_⟩
      (refine jq rfl ?_; refine jz ?_; refine jjJ rfl ?_; refine jjF ?_; refine jA rfl ⟨⟨_, rfl⟩, ?_⟩)
      exact .inr ⟨_, (List.getElem?_eq_some_iff.1 hget).1, hJx9⟩
  by_cases hte : i + t = ws.length
  · have hsu := ctxN_succ ws i wd j
    rw [show ws.length - i = t by omega] at hsu
    refine W.fix h7 (W.fix (d := 6) h6 ?_)
    clear h7 h6
    (refine jjB ?_; refine jjD ?_; refine jjB ?_; refine jjB ?_; refine jjC ?_; apply jI; exact eI rfl; refine jN rfl rfl rfl ?_; refine jjd rfl rfl (by omega) ?_; refine jz ?_; refine jjJ rfl ?_; refine jjB ?_; refine jjB ?_; refine jjC ?_; apply jI; exact eI rfl; refine jm ?_; refine jn rfl ?_; refine jN rfl rfl rfl ?_; refine jh rfl ?_; refine jjh rfl rfl (by omega) ?_; refine jz ?_; refine jjJ rfl ?_; refine jjE ?_; refine jjC ?_; apply jI; exact eI rfl; refine jZ rfl rfl (by omega) ?_; apply jJ; exact eI rfl; refine jz ?_)
    refine ⟨rfl, by (((iterate 13 refine Same.upd rfl ?_); refine Same.ovN' rfl ?_; assumption)), i + 1 - (j + 1), by omega, j + 1, congrArg (Value.int .i64) (by omega), congrArg (fun a => Value.int .i64 (lenX ws (a, i))) (by omega), by omega, rfl, ?_⟩
    rw [hsu, List.length_append]; exact hJt
  have htl : i + t < ws.length := by omega
  have hlt2 := lenX_to (ws := ws) (a := i - j) (b := i + (t - 1)) (by omega)
  have hst := hsz _ (List.getElem_mem htl)
  have hbt := lenX_bound (ws := ws) (a := i - j) (b := i + (t - 1)) hsz hn (by omega) (by omega)
  have hbt2 := lenX_bound (ws := ws) (a := i - j) (b := i + t) hsz hn (by omega) htl
  have hLe : lenX ws (i - j, i + t) = lenX ws (i - j, i + (t - 1)) + (ws[i + t].size + 1) := by
    have e : i + (t - 1) + 1 = i + t := by omega
    simp only [e] at hlt2
    exact hlt2
  refine W.fix h7 (W.fix (d := 6) h6 ?_)
  clear h7 h6
  generalize hL1 : lenX ws (i - j, i + (t - 1)) = L1 at *
  by_cases hLt : lenX ws (i - j, i + t) ≤ wd
  · (refine jjB ?_; refine jjD ?_; refine jjB ?_; refine jjB ?_; refine jjC ?_; apply jI; exact eI rfl; refine jN rfl rfl rfl ?_; refine jjd rfl rfl (by omega) ?_; refine jz ?_; refine jjJ rfl ?_; refine jjB ?_; refine jjB ?_; refine jjC ?_; apply jI; exact eI rfl; refine jm ?_; refine jn rfl ?_; refine jN rfl rfl rfl ?_; refine jh rfl ?_; refine jji rfl rfl (by omega) ?_; refine jz ?_; refine jjK rfl ?_; refine jjG ?_; refine jjC ?_; apply jI; exact eI rfl; refine jm ?_; refine jn rfl ?_; refine jN rfl rfl rfl ?_; apply jI; exact eI rfl; refine jF rfl rfl rfl (map_get (by omega)) ?_; intro _ _ _; refine jQ rfl rfl ?_; refine ji rfl ?_; refine jY rfl rfl (by omega) ?_; refine jY rfl rfl (by omega) ?_; apply jJ; exact eI rfl; refine jz ?_; refine jjB ?_; refine jjB ?_; refine jjC ?_; apply jI; exact eI rfl; refine jm ?_; refine jn rfl ?_; refine jm ?_; refine jn rfl ?_; refine jN rfl rfl rfl ?_; refine jje rfl rfl (by omega) ?_; refine jz ?_; refine jjK rfl ?_; refine jjG ?_; refine jjB ?_; refine jjC ?_; apply jI; exact eF rfl; apply jI; exact eI rfl; refine jN rfl rfl rfl ?_; apply jI; exact eI rfl; apply jI; exact eI rfl)
    have hget := ctx_get (ws := ws) (i := i) (W := wd) (j := j) (t := t) hji htl (by omega)
    rw [List.length_append] at hget
    have e1 : ctxTo ws i wd (i - j) (t + 1) = ctxTo ws i wd (i - j) t ++ [(i - j, i + t)] := by rw [ctxTo_succ, if_pos (show okX ws wd (i - j, i + t) = true from decide_eq_true (by omega))]
    have hy := hY _ _ _ hget hJt
    simp only [encX1, encX, hLe] at hy
    (refine jjS (cells := [.int .i64 ((i - j : Nat) : Int), .int .i64 (i : Int), .int .i64 ((i + t : Nat) : Int), .int .i64 (L1 + (ws[i + t].size + 1))]) ?_ ?_; exact rfl)
    skip
    refine Ops.yield hy rfl rfl ?_
    rintro e w9 (⟨rfl, hJ9, hFr⟩ | ⟨rfl, hJx9⟩)
    · refine ⟨_, rfl, ?_⟩
      (refine jp rfl ?_; refine jz ?_; refine jjK rfl ?_; refine jjG ?_; refine jjC ?_; apply jI; exact eI rfl; refine jY rfl rfl (by omega) ?_; apply jJ; exact eI rfl; refine jz ?_)
      refine ⟨rfl, by (((iterate 36 refine Same.upd rfl ?_); exact Same.ovN)), ws.length - (i + (t + 1)), by omega, t + 1, congrArg (Value.int .i64) (by omega), congrArg (Value.int .i64) (by rw [Nat.add_sub_cancel]; omega), by omega, rfl, ?_⟩
      rw [e1, List.length_append]; exact hJ9
    · refine ⟨_, rfl, ?_⟩
      (refine jq rfl ?_; refine jz ?_; refine jjJ rfl ?_; refine jjF ?_; refine jA rfl ⟨⟨_, rfl⟩, ?_⟩)
      exact .inr ⟨_, (List.getElem?_eq_some_iff.1 hget).1, hJx9⟩
  · have hsu := ctxN_succ ws i wd j
    have hsp := ctxTo_stop (ws := ws) (i := i) (W := wd) (a := i - j) (by omega) (t := t) (m := ws.length - i) (by omega) (by omega) (by omega)
    (refine jjB ?_; refine jjD ?_; refine jjB ?_; refine jjB ?_; refine jjC ?_; apply jI; exact eI rfl; refine jN rfl rfl rfl ?_; refine jjd rfl rfl (by omega) ?_; refine jz ?_; refine jjJ rfl ?_; refine jjB ?_; refine jjB ?_; refine jjC ?_; apply jI; exact eI rfl; refine jm ?_; refine jn rfl ?_; refine jN rfl rfl rfl ?_; refine jh rfl ?_; refine jji rfl rfl (by omega) ?_; refine jz ?_; refine jjK rfl ?_; refine jjG ?_; refine jjC ?_; apply jI; exact eI rfl; refine jm ?_; refine jn rfl ?_; refine jN rfl rfl rfl ?_; apply jI; exact eI rfl; refine jF rfl rfl rfl (map_get (by omega)) ?_; intro _ _ _; refine jQ rfl rfl ?_; refine ji rfl ?_; refine jY rfl rfl (by omega) ?_; refine jY rfl rfl (by omega) ?_; apply jJ; exact eI rfl; refine jz ?_; refine jjB ?_; refine jjB ?_; refine jjC ?_; apply jI; exact eI rfl; refine jm ?_; refine jn rfl ?_; refine jm ?_; refine jn rfl ?_; refine jN rfl rfl rfl ?_; refine jjd rfl rfl (by omega) ?_; refine jz ?_; refine jjJ rfl ?_; refine jjE ?_; refine jjC ?_; apply jI; exact eI rfl; refine jZ rfl rfl (by omega) ?_; apply jJ; exact eI rfl; refine jz ?_)
    refine ⟨rfl, by (((iterate 28 refine Same.upd rfl ?_); refine Same.ovN' rfl ?_; assumption)), i + 1 - (j + 1), by omega, j + 1, congrArg (Value.int .i64) (by omega), congrArg (fun a => Value.int .i64 (lenX ws (a, i))) (by omega), by omega, rfl, ?_⟩
    rw [hsu, hsp, List.length_append]; exact hJt
theorem contexts_slip (ws : List ByteArray) (wd side : Int) (i : Nat) (wa : Option Addr) (wc : Nat) (aa : Option Addr) (al ac : Nat) (w : World) : Ct Tryz.prog 161 [.agg #[.int .i64 wd, .int .u8 side, .slice wa ws.length wc, .slice aa al ac], .int .i64 (i : Int)] w fun v w' =>
    ∃ bi br, v = .func (.func 171) #[] ([.pointer (some ⟨bi, 0, none⟩), .pointer (some ⟨br, 0, none⟩)] : List Value).toArray ∧ At w' bi 0 [.int .i64 (i : Int)] ∧ At w' br 0 [.int .i64 wd, .int .u8 side, .slice wa ws.length wc, .slice aa al ac] := by
  refine Ct.ofW (by simp) ?_
  (refine jjB ?_; refine jjC ?_)
  (refine jy rfl ?_; intro br w_br hb_br hs_br hS_br hk_br; have hA_br := At.ofBlock hk_br)
  skip
  (refine jy rfl ?_; intro bi w_bi hb_bi hs_bi hS_bi hk_bi; have hA_bi := At.ofBlock hk_bi)
  (apply jJ; exact rfl; refine jz ?_; refine jjB ?_; refine jjC ?_; refine jv ?_; apply jJ; exact eF rfl; refine jz ?_; refine jjF ?_; refine jB rfl rfl ⟨inferInstance, ?_⟩)
  exact ⟨bi, br, rfl, inferInstance, inferInstance⟩
end Go.Proofs.YtpijeomnplmakaaGreatDoor
