/- Texts of the proof, part 4: Lib4, RkK, PkC, PkD, PkE, PkY, Eng18, Eng24, Eng26, Eng30, Eng31, Gk2, PkP, PkN, SrW, SlS, SlX, Sl1, SlM, SlW, SlO, CmpL, SrO, PlO, PkF, ShC, Eng33, Eng27, Rk1, PkG, Eng37, Eng39, Eng41, Rk2, Rk3. -/
import Derived.ChangeKeysEq
import Derived.Laws.Small
import Derived.Laws.Cover1
import Derived.Laws.BitsAllLaws
import Derived.Shelf.Small.Strs
import Derived.Sort.Grow
import Derived.Test.YtpijeomnplmakaaGreatDoorRW3
/- Go's library: slices.Delete, Insert, Index, Compare, BinarySearch (integers). -/
namespace Go.Proofs.YtpijeomnplmakaaGreatDoor
open Go.RowKit

theorem int_fit (l : List Int) : ∀ x ∈ l.map intV, fitsV false 1 x = true := fun x hx => by obtain ⟨y, _, rfl⟩ := List.mem_map.1 hx; rfl
theorem int_one {l : List Value} {m : List Int} (h : ∀ v ∈ l, v ∈ m.map intV) : ∀ v ∈ l, v.oneCell' = true := fun v hv => by obtain ⟨y, _, rfl⟩ := List.mem_map.1 (h v hv); rfl

theorem Index_int (a : Option Addr) (c : Nat) (l : List Int) (x : Int) (w : World) (hl : l.length ≤ 1000000) [hrow : RowI w (.slice a l.length c) false 1 (l.map intV)] {i : Nat} (hi : l[i]? = some x) (hfirst : ∀ (j : Nat), j < i → l[j]? ≠ some x) :
    Ct Tryz.prog 72 [.slice a l.length c, .int .i64 x] w fun v _ => v = .int .i64 (i : Int) := by
  have hil := (List.getElem?_eq_some_iff.1 hi).1
  refine Ct.ofW (by simp) ?_
  (refine jjB ?_; refine jjC ?_; apply jJ; exact eI rfl; refine jz ?_; refine jjB ?_; refine jjB ?_; refine jjC ?_; apply jI; exact eS rfl; refine jh rfl ?_; apply jI; exact eI rfl; refine jz ?_; refine jjD ?_)
  refine W.loop (9 :: 10 :: 5 :: 11 :: 12 :: 13 :: 14 :: 15 :: 16 :: 17 :: 4 :: 18 :: 8 :: []) (fun g s' _ => ∃ j : Nat, s' 8 = .int .i64 ((j : Nat) : Int) ∧ g = l.length - j ∧ j ≤ i) l.length ⟨0, rfl, rfl, Nat.zero_le _⟩ ?_
  rintro _ sd w1 hS1 ⟨j, h8, rfl, hj⟩
  refine W.fix h8 ?_
  clear h8
  have hjl : j < l.length := by omega
  (refine jjB ?_; refine jjC ?_; refine jjZ rfl rfl (by omega) ?_; refine jz ?_; refine jjB ?_; refine jjJ rfl ?_; refine jjG ?_; refine jjB ?_; refine jjD ?_; refine jjB ?_; refine jjC ?_; apply jI; exact eI rfl; apply jJ; exact eI rfl; refine jz ?_; refine jjB ?_; refine jjC ?_; apply jI; exact eI rfl; apply jI; exact eS rfl; apply jI; exact eI rfl; refine jF rfl rfl rfl (map_get (by omega)) ?_; intro _ _ _; refine jQ rfl rfl ?_; refine jb rfl rfl ?_; refine jz ?_)
  repeat' (first|((first|apply jI|apply jJ); exact eI rfl)|(refine jW ?_; refine jY rfl rfl (by omega) ?_)|refine jz ?_|(refine jjA ?_; (first|refine jjB ?_|refine jjC ?_|refine jjF ?_|refine jjG ?_))|(refine jjA ?_; (refine jjN rfl ?_ ?_ <;> intro _))|refine jB rfl rfl ⟨inferInstance, ?_⟩)
  · have he : x = l[j] := by assumption
    have : j = i := by
      rcases Nat.lt_or_ge j i with h | h
      · exact absurd (by rw [List.getElem?_eq_getElem hjl, he]) (hfirst j h)
      · omega
    subst this
    exact rfl
  · have he : ¬ x = l[j] := by assumption
    have : j ≠ i := by
      intro e
      subst e
      rw [List.getElem?_eq_getElem hjl] at hi
      exact he (Option.some.inj hi).symm
    exact ⟨rfl, by ((refine Same.upd rfl ?_; refine Same.upd rfl ?_; refine Same.upd rfl ?_; refine Same.upd rfl ?_; refine Same.upd rfl ?_; refine Same.upd rfl ?_; refine Same.upd rfl ?_; refine Same.upd rfl ?_; refine Same.upd rfl ?_; refine Same.upd rfl ?_; refine Same.upd rfl ?_; refine Same.upd rfl ?_; exact Same.ovN)), l.length - (j + 1), by omega, inferInstance, j + 1, congrArg (Value.int .i64) (by omega), rfl, by omega⟩

set_option maxHeartbeats 1000000 in
theorem Delete_int (g n c i : Nat) (l : List Int) (w : World) {B : Nat} (hO : OwnL w B 3 false 1 (.slice (some ⟨g, 0, none⟩) n c) (l.map intV)) (hi : i < n) (hn : n ≤ 1000000) :
    Calls Tryz.prog 63 [.slice (some ⟨g, 0, none⟩) n c, .int .i64 (i : Int), .int .i64 ((i : Int) + 1)].toArray w fun e w' => e = .returned (.slice (some ⟨g, 0, none⟩) (n - 1) c) ∧ Only g w w' ∧ OwnL w' B 3 false 1 (.slice (some ⟨g, 0, none⟩) (n - 1) c) ((l.eraseIdx i).map intV) := by
  obtain ⟨cs, hB, hcl, hnc, hcm, hll, htk, hBg⟩ := hO.cells
  have hi1 : (i : Int) + 1 = ((i + 1 : Nat) : Int) := by omega
  rw [hi1]
  rw [List.length_map] at hll
  have hcs : ∀ j, j < n → cs[j]? = (l.map intV)[j]? := fun j hj => by rw [← htk, List.getElem?_take, if_pos hj]
  refine Calls.ofW (by simp) ?_
  (refine jjB ?_; refine jjC ?_; apply jJ; exact eS rfl; refine jz ?_; refine jjB ?_; refine jjC ?_; apply jI; exact eS rfl; apply jI; exact eI rfl; apply jI; exact eI rfl; apply jI; exact eS rfl; refine jh rfl ?_)
  refine Ops.slice3 rfl rfl rfl rfl rfl rfl rfl (by omega) (by omega) (by omega) ?_
  intro v3
  (refine jz ?_; refine jjB ?_; refine jjB ?_; refine jjC ?_; apply jI; exact eI rfl; apply jI; exact eI rfl; refine jji rfl rfl (by omega) ?_; refine jz ?_; refine jjK rfl ?_; refine jjG ?_; refine jjB ?_; refine jjC ?_; apply jI; exact eS rfl; refine jh rfl ?_; apply jJ; exact eI rfl; refine jz ?_; refine jjB ?_)
  refine W.draw (fun w' => Only g w w') ?_
  intro w1 hS1
  have hO1 : Only g w w1 := .ofExt hS1.ext
  have hB1 : Bk w1 g cs 3 := hB.ext hS1.ext
  have hlen : ((l.map intV).drop (i + 1)).length = n - (i + 1) := by rw [List.length_drop, List.length_map]; omega
  have hsrc : ∀ (j : Nat) v, ((l.map intV).drop (i + 1))[j]? = some v → w1.cell? (Addr.add ⟨g, if c = i + 1 then 0 else 0 + (i + 1), none⟩ j) = some v := by
    intro j v hj
    have hjl := (List.getElem?_eq_some_iff.1 hj).1
    rw [hlen] at hjl
    rw [if_neg (by omega), Addr.add_lit]
    rw [List.getElem?_drop, ← hcs _ (by omega)] at hj
    have := hB1.cellO hj
    rwa [Nat.zero_add]
  have hone : ∀ v ∈ (l.map intV).drop (i + 1), v.oneCell' = true := int_one fun v hv => List.mem_of_mem_drop hv
  refine jjV [0, 1, 2, 3, 4, 5] (by decide +kernel) hO1 ?_
  ((repeat' (first|(apply jjT; exact rfl)|rintro w' hq|(apply jI; (first|exact eI rfl|exact eS rfl))|refine jz ?_|exact ⟨rfl, rfl⟩|refine jjU ?_)))
  · refine Ops.sliceXH (hi := i) rfl rfl rfl (by omega) ?_
    refine jz ?_
    exact ⟨rfl, rfl⟩
  · refine Ops.sliceXL (lo := i + 1) rfl rfl rfl (by omega) ?_
    refine jz ?_
    exact ⟨rfl, rfl⟩
  apply jjW 6 (by decide +kernel) rfl hO1
  refine Ops.appendRoom hB1 rfl rfl hlen hsrc hone (by omega) (by omega) ?_
  intro w2 hp2
  refine jz ?_
  have hO2 : Only g w w2 := hO1.trans (.ofPut hp2)
  have hB2 : Bk w2 g (cs.take i ++ (l.map intV).drop (i + 1) ++ cs.drop (i + (n - (i + 1)))) 3 := ⟨hp2.new⟩
  have ha : i + (n - (i + 1)) = n - 1 := by omega
  rw [ha] at hB2 ⊢
  have hti : cs.take i ++ (l.map intV).drop (i + 1) = (l.eraseIdx i).map intV := by
    rw [List.eraseIdx_eq_take_drop_succ, List.map_append, List.map_take, List.map_drop]
    congr 1
    rw [← htk, List.take_take, Nat.min_eq_left (by omega)]
  have hel : ((l.eraseIdx i).map intV).length = n - 1 := by rw [List.length_map, List.length_eraseIdx]; split <;> omega
  rw [hti] at hB2
  have hdl : (cs.drop (n - 1)).length = c - (n - 1) := by rw [List.length_drop]; omega
  refine jjV [7] (by decide +kernel) hO2 ?_
  (((apply jjT; exact rfl; rintro w' hq; apply jJ; exact eS rfl; refine jz ?_; exact ⟨rfl, rfl⟩; refine jjU ?_)))
  refine jjX (by decide +kernel) hO2 ?_
  (refine jjB ?_; refine jjC ?_; apply jI; exact eS rfl; apply jI; exact eS rfl; refine jh rfl ?_; apply jI; exact eI rfl)
  refine Ops.sliceXLH (lo := n - 1) (hi := n) rfl rfl rfl rfl rfl (by omega) (by omega) (by omega) ?_
  skip
  refine Ops.clearB hB2 rfl (by omega) (by rw [List.length_append, hel, hdl]; omega) rfl rfl ?_
  intro w3 hp3
  have hO3 : Only g w w3 := hO2.trans (.ofPut hp3)
  have hB3 : Bk w3 g _ 3 := ⟨hp3.new⟩
  (refine jz ?_; refine jjB ?_; refine jjC ?_; apply jI; exact eS rfl; apply jJ; exact eS rfl; refine jz ?_; refine jjF ?_)
  refine jB rfl rfl ⟨rfl, hO3, OwnL.ofCells hB3 ?_ (by omega) hcm ?_ (by omega) hBg (int_fit _)⟩
  · simp only [List.length_append, List.length_take, List.length_drop, List.length_replicate, hel, hdl]; omega
  · rw [List.append_assoc, List.take_append_of_le_length (by simp only [List.length_append, List.length_take, hel]; omega), List.take_take, Nat.zero_add, Nat.min_self, List.take_append_of_le_length (by omega), List.take_of_length_le (by omega)]

theorem overlaps_int (g b o n c : Nat) (w : World) (x : Int) {cs : List Value} (hB : Bk w g cs 3) (hb : Bk w b [intV x] 3) (hne : b ≠ g) (h0 : 0 < cs.length) :
    (callFunc 96 [.slice (some ⟨b, 0, none⟩) 1 1, .slice (some ⟨g, o, none⟩) n c].toArray).run Tryz.prog w = .ok (.value (.bool false)) w := by
  have hz : TS Tryz.prog 3 _ 1 _ := inferInstance
  have h1 : w.shape? b = some (3, 1) := by simp [World.shape?, hb.h]
  have h2 : w.shape? g = some (3, cs.length) := by simp [World.shape?, hB.h]
  have h3 : w.frozen? ⟨b, 0, none⟩ = false := by simp [World.frozen?, hb.h]
  have h4 : w.frozen? { block := b, off := 1 } = false := by simp [World.frozen?, hb.h]
  rw [run_callFunc_extern Tryz.func96 (by kernel_rfl) (by kernel_rfl) (by kernel_rfl) (e := Extern.SlicesOverlaps.overlaps #[ 26, 26 ] #[ 4 ]) (by kernel_rfl)]
  have := Lib.run_overlaps_apart (P := Tryz.prog) w 26 4 3 Tryz.underlying26 1 (fun w => run_sizeOf' w hz) ⟨b, 0, none⟩ ⟨g, o, none⟩ 1 1 n c hne 3 3 1 cs.length h1 h2 (by omega) h3 h4
  rw [show ([.slice (some ⟨b, 0, none⟩) 1 1, .slice (some ⟨g, o, none⟩) n c] : List Value).toArray = #[.slice (some ⟨b, 0, none⟩) 1 1, .slice (some ⟨g, o, none⟩) n c] from rfl, this]
  rfl

set_option maxHeartbeats 1000000 in
theorem Insert_int (g b n c i : Nat) (l : List Int) (x : Int) (w : World) {B : Nat} (hO : OwnL w B 3 false 1 (.slice (some ⟨g, 0, none⟩) n c) (l.map intV)) (hb : Bk w b [intV x] 3) (hne : b ≠ g) (hi : i ≤ n) (hnc : n + 1 ≤ c) (hn : n ≤ 1000000) :
    Calls Tryz.prog 62 [.slice (some ⟨g, 0, none⟩) n c, .int .i64 (i : Int), .slice (some ⟨b, 0, none⟩) 1 1].toArray w fun e w' => e = .returned (.slice (some ⟨g, 0, none⟩) (n + 1) c) ∧ Only g w w' ∧ OwnL w' B 3 false 1 (.slice (some ⟨g, 0, none⟩) (n + 1) c) ((l.take i ++ x :: l.drop i).map intV) := by
  obtain ⟨cs, hB, hcl, _, hcm, hll, htk, hBg⟩ := hO.cells
  rw [List.length_map] at hll
  have hcs : ∀ j, j < n → cs[j]? = (l.map intV)[j]? := fun j hj => by rw [← htk, List.getElem?_take, if_pos hj]
  have hm63 : maxLen = 9223372036854775807 := rfl
  have hvs : ∀ w' : World, Bk w' b [intV x] 3 → ∀ (j : Nat) v, [intV x][j]? = some v → w'.cell? (Addr.add ⟨b, 0, none⟩ j) = some v := fun w' h j v hj => by
    rw [Addr.add_lit, Nat.zero_add]; exact h.cellO hj
  have hone : ∀ v ∈ [intV x], v.oneCell' = true := by simp; rfl
  refine Calls.ofW (by simp) ?_
  (refine jjB ?_; refine jjC ?_; apply jJ; exact eS rfl; refine jz ?_; refine jjB ?_; refine jjC ?_; apply jI; exact eS rfl; apply jI; exact eI rfl)
  refine Ops.sliceXL (lo := i) rfl rfl rfl hi ?_
  by_cases hin : i = n
  · subst hin
    (refine jz ?_; refine jjB ?_; refine jjC ?_; apply jI; exact eS rfl; refine jh rfl ?_; apply jJ; exact eI rfl; refine jz ?_; refine jjB ?_; refine jjB ?_; refine jjC ?_; apply jI; exact eI rfl; refine jji rfl rfl (by omega) ?_; refine jz ?_; refine jjK rfl ?_; refine jjG ?_; refine jjB ?_; refine jjC ?_; apply jI; exact eS rfl; refine jh rfl ?_; apply jJ; exact eI rfl; refine jz ?_; refine jjB ?_; refine jjB ?_; refine jjC ?_; apply jI; exact eI rfl; apply jI; exact eI rfl; refine jjh rfl rfl (by omega) ?_; refine jz ?_; refine jjJ rfl ?_; refine jjB ?_; refine jjC ?_; apply jI; exact eS rfl; apply jI; exact eS rfl)
    refine Ops.appendRoom (us := [intV x]) hB rfl rfl rfl (hvs _ hb) hone hnc (by omega) ?_
    intro w2 hp2
    have hB2 : Bk w2 g _ 3 := ⟨hp2.new⟩
    (apply jJ; exact eS rfl; refine jz ?_; refine jjF ?_)
    refine jB rfl rfl ⟨rfl, .ofPut hp2, OwnL.ofCells hB2 ?_ hnc hcm ?_ (by omega) hBg (int_fit _)⟩
    · simp only [List.length_append, List.length_take, List.length_drop, List.length_cons, List.length_nil]; omega
    · rw [List.take_of_length_le (l := l) (by omega), List.drop_of_length_le (l := l) (by omega), htk, List.map_append]
      rw [List.take_append_of_le_length (by simp; omega), List.take_of_length_le (by simp; omega)]
      rfl
  · have hlt : i < n := by omega
    (refine jz ?_; refine jjB ?_; refine jjC ?_; apply jI; exact eS rfl; refine jh rfl ?_; apply jJ; exact eI rfl; refine jz ?_; refine jjB ?_; refine jjB ?_; refine jjC ?_; apply jI; exact eI rfl; refine jji rfl rfl (by omega) ?_; refine jz ?_; refine jjK rfl ?_; refine jjG ?_; refine jjB ?_; refine jjC ?_; apply jI; exact eS rfl; refine jh rfl ?_; apply jJ; exact eI rfl; refine jz ?_; refine jjB ?_; refine jjB ?_; refine jjC ?_; apply jI; exact eI rfl; apply jI; exact eI rfl; refine jji rfl rfl (by omega) ?_; refine jz ?_; refine jjK rfl ?_; refine jjG ?_; refine jjB ?_; refine jjB ?_; refine jjC ?_; apply jI; exact eI rfl; apply jI; exact eI rfl; refine jY rfl rfl (by omega) ?_; apply jI; exact eS rfl; refine jl rfl ?_; refine jje rfl rfl (by omega) ?_; refine jz ?_; refine jjK rfl ?_; refine jjG ?_; refine jjB ?_; refine jjC ?_; apply jI; exact eS rfl; apply jI; exact eI rfl; apply jI; exact eI rfl; refine jY rfl rfl (by omega) ?_)
    refine Ops.sliceXH (hi := n + 1) rfl rfl rfl hnc ?_
    (apply jJ; exact eS rfl; refine jz ?_; refine jjB ?_; refine jjB ?_; refine jjC ?_; apply jI; exact eS rfl; apply jI; exact eS rfl; apply jI; exact eI rfl; apply jI; exact eI rfl; refine jY rfl rfl (by omega) ?_)
    refine Ops.sliceXL2 (lo := i + 1) rfl rfl rfl (by omega) (by omega) ?_
    skip
    refine Ops.callX rfl rfl (overlaps_int g b _ _ _ w x hB hb hne (by omega)) ?_
    (refine jq rfl ?_; refine jz ?_; refine jjJ rfl ?_; refine jjB ?_)
    refine W.draw (fun w' => Only g w w') ?_
    intro w1 hS1
    have hO1 : Only g w w1 := .ofExt hS1.ext
    have hB1 : Bk w1 g cs 3 := hB.ext hS1.ext
    refine jjV [0, 1, 2, 3, 4, 5, 6, 7] (by decide +kernel) hO1 ?_
    ((repeat' (first|(apply jjT; exact rfl)|rintro w' hq|(apply jI; (first|exact eI rfl|exact eS rfl))|(refine jW ?_; refine jY rfl rfl (by omega) ?_)|refine jz ?_|exact ⟨rfl, rfl⟩|refine jjU ?_)))
    · refine Ops.sliceXL2 (lo := i + 1) rfl rfl rfl (by omega) (by omega) ?_
      refine jz ?_
      exact ⟨rfl, rfl⟩
    · refine Ops.sliceXL2 (lo := i) rfl rfl rfl (by omega) (by omega) ?_
      refine jz ?_
      exact ⟨rfl, rfl⟩
    have hdl : ((l.map intV).drop i).length = n - i := by rw [List.length_drop, List.length_map]; omega
    have hsrc : ∀ (j : Nat) v, ((l.map intV).drop i)[j]? = some v → w1.cell? (Addr.add ⟨g, 0 + i, none⟩ j) = some v := by
      intro j v hj
      have hjl := (List.getElem?_eq_some_iff.1 hj).1
      rw [hdl] at hjl
      rw [Addr.add_lit]
      rw [List.getElem?_drop, ← hcs _ (by omega)] at hj
      have := hB1.cellO hj
      rwa [Nat.zero_add]
    have hone2 : ∀ v ∈ (l.map intV).drop i, v.oneCell' = true := int_one fun v hv => List.mem_of_mem_drop hv
    apply jjW 8 (by decide +kernel) rfl hO1
    refine Ops.copyB (us := (l.map intV).drop i) hB1 rfl rfl (by rw [hdl]; omega) hsrc hone2 (by rw [hdl]; omega) ?_
    intro w2 hp2
    refine jz ?_
    have hO2 : Only g w w2 := hO1.trans (.ofPut hp2)
    have hB2 : Bk w2 g _ 3 := ⟨hp2.new⟩
    have hb2 : Bk w2 b [intV x] 3 := hp2.bk (hb.ext hS1.ext) hne
    refine jjX (by decide +kernel) hO2 ?_
    (refine jjB ?_; refine jjC ?_; apply jI; exact eS rfl; apply jI; exact eI rfl)
    refine Ops.sliceXL2 (lo := i) rfl rfl rfl (by omega) (by omega) ?_
    (apply jI; exact eS rfl)
    refine Ops.copyB (us := [intV x]) hB2 rfl rfl (by simp; omega) (hvs _ hb2) hone (by simp only [List.length_append, List.length_take, List.length_drop, List.length_cons, List.length_nil, hdl]; omega) ?_
    intro w3 hp3
    have hO3 : Only g w w3 := hO2.trans (.ofPut hp3)
    have hB3 : Bk w3 g _ 3 := ⟨hp3.new⟩
    (refine jz ?_; refine jjB ?_; refine jjC ?_; apply jI; exact eS rfl; apply jJ; exact eS rfl; refine jz ?_; refine jjF ?_)
    refine jB rfl rfl ⟨rfl, hO3, OwnL.ofCells hB3 ?_ hnc hcm ?_ (by omega) hBg (int_fit _)⟩
    · simp only [List.length_append, List.length_take, List.length_drop, List.length_cons, List.length_nil, List.length_map]; omega
    · have h1 : ((l.map intV).drop i).length = l.length - i := by rw [List.length_drop, List.length_map]
      rw [Nat.zero_add, Nat.zero_add]
      generalize hA : cs.take (i + 1) ++ (l.map intV).drop i ++ cs.drop (i + 1 + ((l.map intV).drop i).length) = A
      have hA1 : A.take i = cs.take i := by rw [← hA, List.append_assoc, List.take_append_of_le_length (by rw [List.length_take]; omega), List.take_take, Nat.min_eq_left (by omega)]
      have hA2 : (A.drop (i + 1)).take (n - i) = (l.map intV).drop i := by
        rw [← hA, List.append_assoc, List.drop_append_of_le_length (by rw [List.length_take]; omega), List.drop_of_length_le (by rw [List.length_take]; omega), List.nil_append, List.take_append_of_le_length (by omega), List.take_of_length_le (by omega)]
      have hA3 : cs.take i = (l.take i).map intV := by rw [List.map_take, ← htk, List.take_take, Nat.min_eq_left (by omega)]
      rw [hA1, hA3, List.map_append, List.map_cons, List.map_drop, ← hA2]
      have h2 : ((l.take i).map intV).length = i := by rw [List.length_map, List.length_take]; omega
      rw [List.append_assoc, List.take_append, h2, List.take_of_length_le (by omega)]
      congr 1
      have : n + 1 - i = (n - i) + 1 := by omega
      rw [this]
      rfl

theorem Less_int (x y : Int) (w : World) : Ct Tryz.prog 106 [.int .i64 x, .int .i64 y] w fun v _ => v = .bool (decide (x < y)) := by
  refine Ct.ofW (by simp) ?_
  (refine jjB ?_; refine jjC ?_; apply jJ; exact eB rfl; refine jz ?_; refine jjB ?_; refine jjC ?_; apply jI; exact eI rfl)
  refine jjQ (isNaN_cmp x _) rfl rfl ?_
  rintro _ w2 hS2 rfl
  (apply jI; exact eB rfl; refine jU rfl rfl rfl rfl ?_; refine jU rfl rfl rfl rfl ?_; refine jU rfl rfl rfl rfl ?_; apply jL rfl; exact eB rfl; apply jI; exact eB rfl; refine jT rfl rfl rfl ?_; apply jI; exact eI rfl; refine jT rfl rfl rfl ?_; apply jI; exact eI rfl; refine jT rfl rfl rfl ?_; refine jX rfl rfl ?_; apply jL rfl; exact eB rfl; apply jJ; exact eB rfl; refine jz ?_; refine jjF ?_; refine jB rfl rfl ⟨inferInstance, ?_⟩)
  exact rfl
theorem isNaN_slices (x : Int) (w : World) : Ct Tryz.prog 107 [.int .i64 x] w fun v _ => v = .bool false := by
  refine Ct.ofW (by simp) ?_
  (refine jjB ?_; refine jjC ?_; apply jJ; exact eB rfl; refine jz ?_; refine jjB ?_; refine jjC ?_; apply jI; exact eI rfl; apply jI; exact eI rfl; refine jc rfl rfl ?_; apply jJ; exact eB rfl; refine jz ?_; refine jjF ?_; refine jB rfl rfl ⟨inferInstance, ?_⟩)
  exact congrArg Value.bool (by simp)

set_option maxHeartbeats 1000000 in
theorem BinarySearch_int (a : Option Addr) (c : Nat) (l : List Int) (x : Int) (w : World) (hl : l.length ≤ 1000000) [hrow : RowI w (.slice a l.length c) false 1 (l.map intV)] (hs : ∀ (i j : Nat) (hi : i < l.length) (hj : j < l.length), i ≤ j → l[i] ≤ l[j]) :
    Ct Tryz.prog 75 [.slice a l.length c, .int .i64 x] w fun v _ => ∃ (p : Nat) (q : Bool), v = .tuple #[.int .i64 (p : Int), .bool q] ∧ p ≤ l.length ∧ (∀ (j : Nat) (hj : j < l.length), j < p → l[j] < x) ∧ ∀ (j : Nat) (hj : j < l.length), p ≤ j → x ≤ l[j] := by
  refine Ct.ofW (by simp) ?_
  (refine jjB ?_; refine jjC ?_; apply jJ; exact eI rfl; apply jJ; exact eB rfl; refine jz ?_; refine jjB ?_; refine jjC ?_; apply jI; exact eS rfl; refine jh rfl ?_; apply jJ; exact eI rfl; refine jz ?_; refine jjB ?_; refine jjC ?_; apply jI; exact eI rfl; apply jJ; exact eI rfl; apply jJ; exact eI rfl; refine jz ?_; refine jjB ?_; refine jjD ?_)
  refine W.loop (13 :: 14 :: 15 :: 16 :: 17 :: 18 :: 19 :: 20 :: 21 :: 9 :: 22 :: 23 :: 24 :: 25 :: 26 :: 27 :: 28 :: 29 :: 7 :: 30 :: 8 :: []) (fun g s' _ => ∃ p r : Nat, s' 7 = .int .i64 ((p : Nat) : Int) ∧ s' 8 = .int .i64 ((r : Nat) : Int) ∧ g = r - p ∧ p ≤ r ∧ r ≤ l.length ∧ (∀ (j : Nat) (hj : j < l.length), j < p → l[j] < x) ∧ ∀ (j : Nat) (hj : j < l.length), r ≤ j → x ≤ l[j]) l.length ⟨0, l.length, rfl, rfl, rfl, by omega, by omega, by intros; omega, by intros; omega⟩ ?_
  rintro _ sd w1 hS1 ⟨p, r, h7, h8, rfl, hpr, hrl, hlo, hhi⟩
  refine W.fix h7 (W.fix (d := 8) h8 ?_)
  clear h7 h8
  by_cases hlt : p < r
  · (refine jjB ?_; refine jjB ?_; refine jjC ?_; apply jI; exact eI rfl; apply jI; exact eI rfl; refine jjZ rfl rfl (by omega) ?_; refine jz ?_; refine jjJ rfl ?_; refine jjG ?_; refine jjD ?_; refine jjB ?_; refine jjC ?_; apply jI; exact eI rfl; apply jI; exact eI rfl; refine jY rfl rfl (by omega) ?_)
    refine Ops.convI rfl rfl (wrap64 (by omega) (by omega)) ?_
    refine Ops.half (a := p + r) rfl (by omega) rfl ?_
    refine Ops.convI rfl rfl (wrapi (by omega) (by omega)) ?_
    obtain ⟨q, hq⟩ : ∃ q, (p + r) / 2 = q := ⟨_, rfl⟩
    have hq1 : p ≤ q := by omega
    have hq2 : q < r := by omega
    refine Ops.fix (d := 21) (v := .int .i64 ((q : Nat) : Int)) (congrArg (Value.int .i64) (congrArg Nat.cast hq)) ?_
    clear hq
    have hql : q < l.length := by omega
    (apply jJ; exact eI rfl; refine jz ?_; refine jjB ?_; refine jjC ?_; apply jI; exact eS rfl; apply jI; exact eI rfl; refine jF rfl rfl rfl (map_get (by omega)) ?_; intro _ _ _; refine jQ rfl rfl ?_; apply jI; exact eI rfl)
    refine jjQ (Less_int l[q] x _) rfl rfl ?_
    rintro _ w2 hS2 rfl
    repeat' (first|((first|apply jI|apply jJ); exact eI rfl)|(refine jW ?_; refine jY rfl rfl (by omega) ?_)|refine jz ?_|(refine jjA ?_; refine jjC ?_)|(refine jjA ?_; (refine jjN rfl ?_ ?_ <;> intro _)))
    · have hlx : l[q] < x := by assumption
      refine ⟨rfl, by ((refine Same.upd rfl ?_; refine Same.upd rfl ?_; refine Same.upd rfl ?_; refine Same.upd rfl ?_; refine Same.upd rfl ?_; refine Same.upd rfl ?_; refine Same.upd rfl ?_; refine Same.upd rfl ?_; refine Same.upd rfl ?_; refine Same.upd rfl ?_; refine Same.upd rfl ?_; refine Same.upd rfl ?_; refine Same.upd rfl ?_; refine Same.upd rfl ?_; refine Same.upd rfl ?_; refine Same.upd rfl ?_; refine Same.upd rfl ?_; refine Same.upd rfl ?_; refine Same.upd rfl ?_; refine Same.upd rfl ?_; refine Same.upd rfl ?_; refine Same.upd rfl ?_; exact Same.ovN)), r - (q + 1), by omega, inferInstance, q + 1, r, congrArg (Value.int .i64) (by omega), rfl, rfl, by omega, hrl, fun j hj hjq => ?_, hhi⟩
      have := hs j q hj hql (by omega)
      omega
    · have hlx : ¬ l[q] < x := by assumption
      refine ⟨rfl, by ((refine Same.upd rfl ?_; refine Same.upd rfl ?_; refine Same.upd rfl ?_; refine Same.upd rfl ?_; refine Same.upd rfl ?_; refine Same.upd rfl ?_; refine Same.upd rfl ?_; refine Same.upd rfl ?_; refine Same.upd rfl ?_; refine Same.upd rfl ?_; refine Same.upd rfl ?_; refine Same.upd rfl ?_; refine Same.upd rfl ?_; refine Same.upd rfl ?_; refine Same.upd rfl ?_; refine Same.upd rfl ?_; refine Same.upd rfl ?_; refine Same.upd rfl ?_; refine Same.upd rfl ?_; refine Same.upd rfl ?_; refine Same.upd rfl ?_; exact Same.ovN)), q - p, by omega, inferInstance, p, q, rfl, rfl, rfl, by omega, by omega, hlo, fun j hj hjq => ?_⟩
      have := hs q j hql hj (by omega)
      omega
  · obtain rfl : p = r := by omega
    by_cases hpl : p < l.length
    · by_cases hx : l[p] = x
      · (refine jjB ?_; refine jjB ?_; refine jjC ?_; apply jI; exact eI rfl; apply jI; exact eI rfl; refine jja rfl rfl (by omega) ?_; refine jz ?_; refine jjK rfl ?_; refine jjE ?_; refine jjB ?_; refine jjC ?_; apply jI; exact eI rfl; apply jI; exact eI rfl; apply jI; exact eI rfl; refine jjZ rfl rfl (by omega) ?_; apply jI; exact eB rfl; refine jT rfl rfl rfl ?_; apply jI; exact eS rfl; refine jT rfl rfl rfl ?_; apply jI; exact eI rfl; refine jT rfl rfl rfl ?_; refine jF rfl rfl rfl (map_get (by omega)) ?_; intro _ _ _; refine jT rfl rfl rfl ?_; refine jQ rfl rfl ?_; refine jT rfl rfl rfl ?_; apply jI; exact eI rfl; refine jT rfl rfl rfl ?_; refine jjh rfl rfl (by omega) ?_; refine jT rfl rfl rfl ?_; apply jI; exact eB rfl; refine jU rfl rfl rfl rfl ?_; refine jU rfl rfl rfl rfl ?_; refine jU rfl rfl rfl rfl ?_; refine jU rfl rfl rfl rfl ?_; refine jU rfl rfl rfl rfl ?_; refine jU rfl rfl rfl rfl ?_; refine jV rfl rfl ?_; refine jV rfl rfl ?_; refine jU rfl rfl rfl rfl ?_; refine jT rfl rfl rfl ?_; apply jK rfl; exact eB rfl; apply jK rfl; exact eB rfl; apply jJ; exact eI rfl; apply jJ; exact eB rfl; refine jz ?_; refine jjF ?_; refine jC rfl rfl rfl ⟨inferInstance, ?_⟩)
        exact ⟨p, true, rfl, hrl, hlo, hhi⟩
      · (refine jjB ?_; refine jjB ?_; refine jjC ?_; apply jI; exact eI rfl; apply jI; exact eI rfl; refine jja rfl rfl (by omega) ?_; refine jz ?_; refine jjK rfl ?_; refine jjE ?_; refine jjB ?_; refine jjC ?_; apply jI; exact eI rfl; apply jI; exact eI rfl; apply jI; exact eI rfl; refine jjZ rfl rfl (by omega) ?_; apply jI; exact eB rfl; refine jT rfl rfl rfl ?_; apply jI; exact eS rfl; refine jT rfl rfl rfl ?_; apply jI; exact eI rfl; refine jT rfl rfl rfl ?_; refine jF rfl rfl rfl (map_get (by omega)) ?_; intro _ _ _; refine jT rfl rfl rfl ?_; refine jQ rfl rfl ?_; refine jT rfl rfl rfl ?_; apply jI; exact eI rfl; refine jT rfl rfl rfl ?_; refine jji rfl rfl (by omega) ?_; refine jT rfl rfl rfl ?_; apply jI; exact eB rfl; refine jT rfl rfl rfl ?_; apply jI; exact eS rfl; refine jT rfl rfl rfl ?_; apply jI; exact eI rfl; refine jT rfl rfl rfl ?_; refine jF rfl rfl rfl (map_get (by omega)) ?_; intro _ _ _; refine jT rfl rfl rfl ?_; refine jQ rfl rfl ?_; refine jT rfl rfl rfl ?_)
        refine jjQ (isNaN_slices l[p] _) rfl rfl ?_
        rintro _ w2 hS2 rfl
        (refine jT rfl rfl rfl ?_; apply jI; exact eB rfl; refine jU rfl rfl rfl rfl ?_; refine jU rfl rfl rfl rfl ?_; refine jT rfl rfl rfl ?_; apply jL rfl; exact eB rfl; refine jT rfl rfl rfl ?_; apply jL rfl; exact eB rfl; apply jK rfl; exact eB rfl; apply jJ; exact eI rfl; apply jJ; exact eB rfl; refine jz ?_; refine jjF ?_; refine jC rfl rfl rfl ⟨inferInstance, ?_⟩)
        exact ⟨p, _, rfl, hrl, hlo, hhi⟩
    · (refine jjB ?_; refine jjB ?_; refine jjC ?_; apply jI; exact eI rfl; apply jI; exact eI rfl; refine jja rfl rfl (by omega) ?_; refine jz ?_; refine jjK rfl ?_; refine jjE ?_; refine jjB ?_; refine jjC ?_; apply jI; exact eI rfl; apply jI; exact eI rfl; apply jI; exact eI rfl; refine jja rfl rfl (by omega) ?_; apply jI; exact eB rfl; refine jU rfl rfl rfl rfl ?_; refine jU rfl rfl rfl rfl ?_; refine jU rfl rfl rfl rfl ?_; refine jU rfl rfl rfl rfl ?_; refine jU rfl rfl rfl rfl ?_; refine jU rfl rfl rfl rfl ?_; refine jU rfl rfl rfl rfl ?_; refine jV rfl rfl ?_; refine jV rfl rfl ?_; refine jV rfl rfl ?_; refine jV rfl rfl ?_; refine jV rfl rfl ?_; refine jV rfl rfl ?_; refine jV rfl rfl ?_; refine jV rfl rfl ?_; refine jV rfl rfl ?_; refine jU rfl rfl rfl rfl ?_; apply jL rfl; exact eB rfl; apply jJ; exact eI rfl; apply jJ; exact eB rfl; refine jz ?_; refine jjF ?_; refine jC rfl rfl rfl ⟨inferInstance, ?_⟩)
      exact ⟨p, _, rfl, hrl, hlo, hhi⟩

/-- How two rows of numbers compare. -/
def lexC : List Int → List Int → Int
  | [], [] => 0
  | [], _ :: _ => -1
  | _ :: _, [] => 1
  | x :: xs, y :: ys => if x < y then -1 else if y < x then 1 else lexC xs ys
theorem lexC_drop {l m : List Int} {j : Nat} (h1 : j < l.length) (h2 : j < m.length) : lexC (l.drop j) (m.drop j) = if l[j] < m[j] then -1 else if m[j] < l[j] then 1 else lexC (l.drop (j + 1)) (m.drop (j + 1)) := by
  rw [List.drop_eq_getElem_cons h1, List.drop_eq_getElem_cons h2, lexC]
theorem lexC_end1 {l m : List Int} {j : Nat} (h1 : l.length ≤ j) (h2 : j < m.length) : lexC (l.drop j) (m.drop j) = -1 := by
  rw [List.drop_of_length_le h1, List.drop_eq_getElem_cons h2, lexC]
theorem lexC_end2 {l m : List Int} {j : Nat} (h1 : j < l.length) (h2 : m.length ≤ j) : lexC (l.drop j) (m.drop j) = 1 := by
  rw [List.drop_of_length_le h2, List.drop_eq_getElem_cons h1, lexC]
theorem lexC_end3 {l m : List Int} {j : Nat} (h1 : l.length ≤ j) (h2 : m.length ≤ j) : lexC (l.drop j) (m.drop j) = 0 := by
  rw [List.drop_of_length_le h2, List.drop_of_length_le h1, lexC]

set_option maxHeartbeats 1000000 in
theorem CompareS_int (a b : Option Addr) (c e : Nat) (l m : List Int) (w : World) (hl : l.length ≤ 1000000) [h1 : RowI w (.slice a l.length c) false 1 (l.map intV)] [h2 : RowI w (.slice b m.length e) false 1 (m.map intV)] :
    Ct Tryz.prog 103 [.slice a l.length c, .slice b m.length e] w fun v _ => v = .int .i64 (lexC l m) := by
  refine Ct.ofW (by simp) ?_
  (refine jjB ?_; refine jjC ?_; apply jJ; exact eI rfl; refine jz ?_; refine jjB ?_; refine jjB ?_; refine jjC ?_; apply jI; exact eS rfl; refine jh rfl ?_; apply jI; exact eI rfl; refine jz ?_; refine jjD ?_)
  refine W.loop (12 :: 13 :: 14 :: 15 :: 5 :: 6 :: 16 :: 17 :: 18 :: 19 :: 4 :: 20 :: 21 :: 22 :: 23 :: 7 :: 24 :: 25 :: 26 :: 8 :: 27 :: 28 :: 29 :: 30 :: 11 :: []) (fun g s' _ => ∃ j : Nat, s' 11 = .int .i64 ((j : Nat) : Int) ∧ g = l.length - j ∧ j ≤ l.length ∧ j ≤ m.length ∧ lexC l m = lexC (l.drop j) (m.drop j)) l.length ⟨0, rfl, rfl, by omega, by omega, rfl⟩ ?_
  rintro _ sd w1 hS1 ⟨j, h11, rfl, hj, hjm, he⟩
  refine W.fix h11 ?_
  clear h11
  rw [he]
  by_cases hjl : j < l.length
  · by_cases hm : j < m.length
    · rw [lexC_drop hjl hm]
      by_cases c1 : l[j] < m[j]
      · rw [if_pos c1]
        (refine jjB ?_; refine jjC ?_; refine jjZ rfl rfl (by omega) ?_; refine jz ?_; refine jjB ?_; refine jjJ rfl ?_; refine jjG ?_; refine jjB ?_; refine jjD ?_; refine jjB ?_; refine jjC ?_; apply jI; exact eI rfl; refine jF rfl rfl rfl (map_get (by omega)) ?_; intro _ _ _; refine jQ rfl rfl ?_; apply jJ; exact eI rfl; apply jJ; exact eI rfl; refine jz ?_; refine jjB ?_; refine jjB ?_; refine jjC ?_; apply jI; exact eI rfl; apply jI; exact eS rfl; refine jh rfl ?_; refine jjg rfl rfl (by omega) ?_; refine jz ?_; refine jjK rfl ?_; refine jjG ?_; refine jjB ?_; refine jjC ?_; apply jI; exact eS rfl; apply jI; exact eI rfl; refine jF rfl rfl rfl (map_get (by omega)) ?_; intro _ _ _; refine jQ rfl rfl ?_; apply jJ; exact eI rfl; refine jz ?_; refine jjB ?_; refine jjC ?_; apply jI; exact eI rfl; apply jI; exact eI rfl)
        refine jjQ ((Compare_int l[j] m[j] _).mono fun v _ _ e' => e'.trans (by rw [if_pos c1])) rfl rfl ?_
        rintro _ w2 hS2 rfl
        (apply jJ; exact eI rfl; refine jz ?_; refine jjB ?_; refine jjC ?_; apply jI; exact eI rfl; refine jjj rfl rfl (by omega) ?_; refine jz ?_; refine jjJ rfl ?_; refine jjB ?_; refine jjC ?_; apply jI; exact eI rfl; apply jJ; exact eI rfl; refine jz ?_; refine jjF ?_; refine jB rfl rfl ⟨inferInstance, ?_⟩)
        exact rfl
      · rw [if_neg c1]
        by_cases c2 : m[j] < l[j]
        · rw [if_pos c2]
          (refine jjB ?_; refine jjC ?_; refine jjZ rfl rfl (by omega) ?_; refine jz ?_; refine jjB ?_; refine jjJ rfl ?_; refine jjG ?_; refine jjB ?_; refine jjD ?_; refine jjB ?_; refine jjC ?_; apply jI; exact eI rfl; refine jF rfl rfl rfl (map_get (by omega)) ?_; intro _ _ _; refine jQ rfl rfl ?_; apply jJ; exact eI rfl; apply jJ; exact eI rfl; refine jz ?_; refine jjB ?_; refine jjB ?_; refine jjC ?_; apply jI; exact eI rfl; apply jI; exact eS rfl; refine jh rfl ?_; refine jjg rfl rfl (by omega) ?_; refine jz ?_; refine jjK rfl ?_; refine jjG ?_; refine jjB ?_; refine jjC ?_; apply jI; exact eS rfl; apply jI; exact eI rfl; refine jF rfl rfl rfl (map_get (by omega)) ?_; intro _ _ _; refine jQ rfl rfl ?_; apply jJ; exact eI rfl; refine jz ?_; refine jjB ?_; refine jjC ?_; apply jI; exact eI rfl; apply jI; exact eI rfl)
          refine jjQ ((Compare_int l[j] m[j] _).mono fun v _ _ e' => e'.trans (by rw [if_neg c1, if_pos c2])) rfl rfl ?_
          rintro _ w2 hS2 rfl
          (apply jJ; exact eI rfl; refine jz ?_; refine jjB ?_; refine jjC ?_; apply jI; exact eI rfl; refine jjj rfl rfl (by omega) ?_; refine jz ?_; refine jjJ rfl ?_; refine jjB ?_; refine jjC ?_; apply jI; exact eI rfl; apply jJ; exact eI rfl; refine jz ?_; refine jjF ?_; refine jB rfl rfl ⟨inferInstance, ?_⟩)
          exact rfl
        · rw [if_neg c2]
          (refine jjB ?_; refine jjC ?_; refine jjZ rfl rfl (by omega) ?_; refine jz ?_; refine jjB ?_; refine jjJ rfl ?_; refine jjG ?_; refine jjB ?_; refine jjD ?_; refine jjB ?_; refine jjC ?_; apply jI; exact eI rfl; refine jF rfl rfl rfl (map_get (by omega)) ?_; intro _ _ _; refine jQ rfl rfl ?_; apply jJ; exact eI rfl; apply jJ; exact eI rfl; refine jz ?_; refine jjB ?_; refine jjB ?_; refine jjC ?_; apply jI; exact eI rfl; apply jI; exact eS rfl; refine jh rfl ?_; refine jjg rfl rfl (by omega) ?_; refine jz ?_; refine jjK rfl ?_; refine jjG ?_; refine jjB ?_; refine jjC ?_; apply jI; exact eS rfl; apply jI; exact eI rfl; refine jF rfl rfl rfl (map_get (by omega)) ?_; intro _ _ _; refine jQ rfl rfl ?_; apply jJ; exact eI rfl; refine jz ?_; refine jjB ?_; refine jjC ?_; apply jI; exact eI rfl; apply jI; exact eI rfl)
          refine jjQ ((Compare_int l[j] m[j] _).mono fun v _ _ e' => e'.trans (by rw [if_neg c1, if_neg c2])) rfl rfl ?_
          rintro _ w2 hS2 rfl
          (apply jJ; exact eI rfl; refine jz ?_; refine jjB ?_; refine jjC ?_; apply jI; exact eI rfl; refine jjk rfl rfl (by omega) ?_; refine jz ?_; refine jjK rfl ?_; refine jjG ?_; refine jjC ?_; refine jY rfl rfl (by omega) ?_; apply jI; exact eI rfl; refine jz ?_)
          refine ⟨rfl, by ((refine Same.upd rfl ?_; refine Same.upd rfl ?_; refine Same.upd rfl ?_; refine Same.upd rfl ?_; refine Same.upd rfl ?_; refine Same.upd rfl ?_; refine Same.upd rfl ?_; refine Same.upd rfl ?_; refine Same.upd rfl ?_; refine Same.upd rfl ?_; refine Same.upd rfl ?_; refine Same.upd rfl ?_; refine Same.upd rfl ?_; refine Same.upd rfl ?_; refine Same.upd rfl ?_; refine Same.upd rfl ?_; refine Same.upd rfl ?_; refine Same.upd rfl ?_; refine Same.upd rfl ?_; refine Same.upd rfl ?_; refine Same.upd rfl ?_; refine Same.upd rfl ?_; refine Same.upd rfl ?_; refine Same.upd rfl ?_; exact Same.ovN)), l.length - (j + 1), by omega, inferInstance, j + 1, congrArg (Value.int .i64) (by omega), rfl, by omega, by omega, ?_⟩
          rfl
    · rw [lexC_end2 hjl (by omega)]
      (refine jjB ?_; refine jjC ?_; refine jjZ rfl rfl (by omega) ?_; refine jz ?_; refine jjB ?_; refine jjJ rfl ?_; refine jjG ?_; refine jjB ?_; refine jjD ?_; refine jjB ?_; refine jjC ?_; apply jI; exact eI rfl; refine jF rfl rfl rfl (map_get (by omega)) ?_; intro _ _ _; refine jQ rfl rfl ?_; apply jJ; exact eI rfl; apply jJ; exact eI rfl; refine jz ?_; refine jjB ?_; refine jjB ?_; refine jjC ?_; apply jI; exact eI rfl; apply jI; exact eS rfl; refine jh rfl ?_; refine jjf rfl rfl (by omega) ?_; refine jz ?_; refine jjJ rfl ?_; refine jjB ?_; refine jjC ?_; apply jJ; exact eI rfl; refine jz ?_; refine jjF ?_; refine jB rfl rfl ⟨inferInstance, ?_⟩)
      exact rfl
  · by_cases hm : j < m.length
    · rw [lexC_end1 (by omega) hm]
      (refine jjB ?_; refine jjC ?_; refine jja rfl rfl (by omega) ?_; refine jz ?_; refine jjB ?_; refine jjK rfl ?_; refine jjE ?_; refine jjB ?_; refine jjB ?_; refine jjC ?_; apply jI; exact eS rfl; refine jh rfl ?_; apply jI; exact eS rfl; refine jh rfl ?_; refine jjZ rfl rfl (by omega) ?_; refine jz ?_; refine jjJ rfl ?_; refine jjB ?_; refine jjC ?_; apply jJ; exact eI rfl; refine jz ?_; refine jjF ?_; refine jB rfl rfl ⟨inferInstance, ?_⟩)
      exact rfl
    · rw [lexC_end3 (by omega) (by omega)]
      (refine jjB ?_; refine jjC ?_; refine jja rfl rfl (by omega) ?_; refine jz ?_; refine jjB ?_; refine jjK rfl ?_; refine jjE ?_; refine jjB ?_; refine jjB ?_; refine jjC ?_; apply jI; exact eS rfl; refine jh rfl ?_; apply jI; exact eS rfl; refine jh rfl ?_; refine jja rfl rfl (by omega) ?_; refine jz ?_; refine jjK rfl ?_; refine jjG ?_; refine jjB ?_; refine jjC ?_; apply jJ; exact eI rfl; refine jz ?_; refine jjF ?_; refine jB rfl rfl ⟨inferInstance, ?_⟩)
      exact rfl
end Go.Proofs.YtpijeomnplmakaaGreatDoor

/- What is kept, in plain Lean. -/
namespace Go.Proofs.YtpijeomnplmakaaGreatDoor
open Go.RowKit

/-- How many slips whose ranks do not fall begin with each one, at most. -/
structure BegR (d C : List Int) : Prop where
  len : C.length = d.length
  pos : ∀ i, i < d.length → 1 ≤ gd C i
  up : ∀ i k, i < k → k < d.length → gd d i ≤ gd d k → gd C k + 1 ≤ gd C i
  ex : ∀ i, i < d.length → gd C i = 1 ∨ ∃ k, i < k ∧ k < d.length ∧ gd d i ≤ gd d k ∧ gd C i = gd C k + 1
theorem BegR.uniq {d C C' : List Int} (h : BegR d C) (g : BegR d C') : C = C' := by
  refine ext_gd (h.len.trans g.len.symm) fun i hi => ?_
  rw [h.len] at hi
  obtain ⟨m, hm⟩ : ∃ m, m = d.length - i := ⟨_, rfl⟩
  induction m using Nat.strongRecOn generalizing i with
  | ind m ih =>
    have h1 : gd C i ≤ gd C' i := by
      rcases h.ex i hi with e | ⟨k, hk, hk2, hd, e⟩
      · have := g.pos i hi; omega
      · have := g.up i k hk hk2 hd
        have := ih (d.length - k) (by omega) k hk2 rfl; omega
    have h2 : gd C' i ≤ gd C i := by
      rcases g.ex i hi with e | ⟨k, hk, hk2, hd, e⟩
      · have := h.pos i hi; omega
      · have := h.up i k hk hk2 hd
        have := ih (d.length - k) (by omega) k hk2 rfl; omega
    omega
theorem BegR.le {d C : List Int} (h : BegR d C) : ∀ i, i < d.length → gd C i ≤ d.length - i := by
  intro i hi
  obtain ⟨m, hm⟩ : ∃ m, m = d.length - i := ⟨_, rfl⟩
  induction m using Nat.strongRecOn generalizing i with
  | ind m ih =>
    rcases h.ex i hi with e | ⟨k, hk, hk2, hd, e⟩
    · omega
    · have := ih (d.length - k) (by omega) k hk2 rfl; omega

/-- The numbers from i to before n. -/
abbrev upR (i n : Nat) : List Nat := List.range' i (n - i)
theorem upR_nil {i n : Nat} (h : n ≤ i) : upR i n = [] := by rw [upR, Nat.sub_eq_zero_of_le h]; rfl
theorem upR_mem {i n k : Nat} : k ∈ upR i n ↔ i ≤ k ∧ k < n := by rw [upR, List.mem_range'_1]; omega
/-- Slip k comes behind slip i, of as many as are left. -/
def nxB (d C : List Int) (last : Option Nat) (left : Int) (k : Nat) : Bool := decide (gd C k = left) && (match last with | none => true | some j => decide (gd d j ≤ gd d k))
def nextK (d C : List Int) (i : Nat) : Option Nat := (upR (i + 1) d.length).find? (nxB d C (some i) (gd C i - 1))
theorem nextK_some {d C : List Int} {i k : Nat} (h : nextK d C i = some k) : i < k ∧ k < d.length ∧ gd C k = gd C i - 1 ∧ gd d i ≤ gd d k := by
  have h1 := upR_mem.1 (List.mem_of_find?_eq_some h)
  have h2 := List.find?_some h
  simp only [nxB, Bool.and_eq_true, decide_eq_true_eq] at h2
  exact ⟨by omega, h1.2, h2.1, h2.2⟩
def pathF (d C : List Int) : Nat → Nat → List Int
  | 0, _ => []
  | f + 1, i => (i : Int) :: (match nextK d C i with | none => [] | some k => pathF d C f k)
theorem pathF_stable (d C : List Int) : ∀ (m i f g : Nat), d.length - i = m → m ≤ f → m ≤ g → i < d.length → pathF d C f i = pathF d C g i := by
  intro m
  induction m using Nat.strongRecOn with
  | ind m ih =>
    intro i f g hm hf hg hi
    obtain ⟨f', rfl⟩ : ∃ f', f = f' + 1 := ⟨f - 1, by omega⟩
    obtain ⟨g', rfl⟩ : ∃ g', g = g' + 1 := ⟨g - 1, by omega⟩
    rw [pathF, pathF]
    cases hk : nextK d C i with
    | none => rfl
    | some k =>
      have := nextK_some hk
      simp only
      rw [ih (d.length - k) (by omega) k f' g' rfl (by omega) (by omega) this.2.1]
/-- The best slips that begin with slip i. -/
def pathK (d C : List Int) (i : Nat) : List Int := pathF d C d.length i
theorem pathK_eq {d C : List Int} {i : Nat} (hi : i < d.length) : pathK d C i = (i : Int) :: ((nextK d C i).map (pathK d C)).getD [] := by
  obtain ⟨n, hn⟩ : ∃ n, d.length = n + 1 := ⟨d.length - 1, by omega⟩
  rw [pathK, hn, pathF]
  cases hk : nextK d C i with
  | none => rfl
  | some k =>
    have := nextK_some hk
    simp only [Option.map_some, Option.getD_some]
    rw [pathK, pathF_stable d C (d.length - k) k n d.length rfl (by omega) (by omega) this.2.1]
theorem find_none {p : Nat → Bool} {i n : Nat} (h : (upR i n).find? p = none) : ∀ k, i ≤ k → k < n → p k = false := by
  intro k h1 h2
  rw [List.find?_eq_none] at h
  simpa using h k (upR_mem.2 ⟨h1, h2⟩)
theorem nextK_none {d C : List Int} (h : BegR d C) {i : Nat} (hi : i < d.length) (hn : nextK d C i = none) : gd C i = 1 := by
  rcases h.ex i hi with e | ⟨k, hk, hk2, hd, e⟩
  · exact e
  · have := find_none hn k (by omega) hk2
    simp only [nxB, Bool.and_eq_false_iff, decide_eq_false_iff_not] at this
    rcases this with this | this
    · omega
    · exact absurd hd this
theorem pathK_len {d C : List Int} (h : BegR d C) : ∀ i, i < d.length → ((pathK d C i).length : Int) = gd C i := by
  intro i hi
  obtain ⟨m, hm⟩ : ∃ m, m = d.length - i := ⟨_, rfl⟩
  induction m using Nat.strongRecOn generalizing i with
  | ind m ih =>
    rw [pathK_eq hi]
    cases hk : nextK d C i with
    | none => rw [nextK_none h hi hk]; rfl
    | some k =>
      have h1 := nextK_some hk
      have := ih (d.length - k) (by omega) k h1.2.1 rfl
      simp only [Option.map_some, Option.getD_some, List.length_cons]
      omega

/-- A row is better: longer, or as long and lower. -/
def longB (a b : List Int) : Bool := decide (b.length < a.length) || (decide (a.length = b.length) && decide (lexC a b < 0))
def betS (b x : List Int) : List Int := if longB x b then x else b
/-- The first one of rows of which none is better. -/
def firstF : List (List Int) → List Int
  | [] => []
  | x :: xs => xs.foldl betS x
theorem longB_longer {a b : List Int} (h : b.length < a.length) : longB a b = true := by simp [longB, h]
theorem longB_shorter {a b : List Int} (h : a.length < b.length) : longB a b = false := by
  simp only [longB, Bool.or_eq_false_iff, decide_eq_false_iff_not, Bool.and_eq_false_iff]
  exact ⟨by omega, .inl (by omega)⟩
theorem longB_first {a b : List Int} {x y : Int} (h : a.length = b.length) (hxy : y < x) : longB (x :: a) (y :: b) = false := by
  simp only [longB, Bool.or_eq_false_iff, decide_eq_false_iff_not, Bool.and_eq_false_iff, List.length_cons]
  refine ⟨by omega, .inr ?_⟩
  rw [lexC, if_neg (by omega), if_pos hxy]; omega

section
variable {d C : List Int} (h : BegR d C)
include h
theorem fold_low {T : Nat} : ∀ (ks : List Nat) (b : List Int), (∀ k ∈ ks, k < d.length ∧ gd C k < T) → b.length < T → ((ks.map (pathK d C)).foldl betS b).length < T := by
  intro ks
  induction ks with
  | nil => intro b _ hb; exact hb
  | cons k ks ih =>
    intro b hk hb
    rw [List.map_cons, List.foldl_cons]
    refine ih _ (fun x hx => hk x (List.mem_cons_of_mem _ hx)) ?_
    have h1 := hk k List.mem_cons_self
    have := pathK_len h k h1.1
    rw [betS]
    split <;> omega
theorem fold_top {T : Nat} {m : Nat} (hm : m < d.length) (hT : gd C m = T) : ∀ (ks : List Nat), (∀ k ∈ ks, m < k ∧ k < d.length ∧ gd C k ≤ T) → (ks.map (pathK d C)).foldl betS (pathK d C m) = pathK d C m := by
  intro ks
  induction ks with
  | nil => intro _; rfl
  | cons k ks ih =>
    intro hk
    rw [List.map_cons, List.foldl_cons]
    have h1 := hk k List.mem_cons_self
    have e1 := pathK_len h k h1.2.1
    have e2 := pathK_len h m hm
    have hb : longB (pathK d C k) (pathK d C m) = false := by
      rcases Int.lt_or_eq_of_le h1.2.2 with h2 | h2
      · exact longB_shorter (by omega)
      · rw [pathK_eq h1.2.1] at e1 ⊢
        rw [pathK_eq hm] at e2 ⊢
        simp only [List.length_cons] at e1 e2
        exact longB_first (by omega) (by omega)
    rw [betS, hb]
    exact ih fun x hx => hk x (List.mem_cons_of_mem _ hx)
/-- The best one of several is the first one of the longest. -/
theorem first_find {T : Nat} (hT : 1 ≤ T) {i n : Nat} (hn : n ≤ d.length) {p : Nat → Bool} {m : Nat} (hle : ∀ k, i ≤ k → k < n → p k = true → gd C k ≤ T) (hf : (upR i n).find? (fun k => p k && decide (gd C k = T)) = some m) :
    firstF ([] :: ((upR i n).filter p).map (pathK d C)) = pathK d C m := by
  have hf' : ((upR i n).filter p).find? (fun k => decide (gd C k = T)) = some m := by
    rw [List.find?_filter, ← hf]
    congr 1
    funext k
    cases p k <;> simp
  rw [List.find?_eq_some_iff_append] at hf'
  obtain ⟨h1, us, vs, h2, h3⟩ := hf'
  rw [firstF, h2, List.map_append, List.foldl_append, List.map_cons, List.foldl_cons]
  have hmem : ∀ k, k ∈ us ++ m :: vs → i ≤ k ∧ k < n ∧ p k = true := fun k hk => by
    rw [← h2, List.mem_filter, upR_mem] at hk
    exact ⟨hk.1.1, hk.1.2, hk.2⟩
  have hsort : (us ++ m :: vs).Pairwise (· < ·) := by
    rw [← h2]
    exact (List.pairwise_lt_range' (s := i) (n := n - i)).filter _
  rw [List.pairwise_append, List.pairwise_cons] at hsort
  have hm := hmem m (by simp)
  simp only [decide_eq_true_eq] at h1
  have hlow := fold_low h (T := T) us [] (fun k hk => by
    have := hmem k (by simp [hk])
    have h4 := h3 k hk
    simp only [Bool.not_eq_true', decide_eq_false_iff_not] at h4
    have := hle k this.1 this.2.1 this.2.2
    exact ⟨by omega, by omega⟩) (by simp; omega)
  have e2 := pathK_len h m (by omega)
  rw [betS, longB_longer (by omega), if_pos rfl]
  exact fold_top h (by omega) h1 vs fun k hk => by
    have := hmem k (by simp [hk])
    have := hle k this.1 this.2.1 this.2.2
    exact ⟨hsort.2.1.1 k hk, by omega, this⟩
/-- What the recursion makes. -/
theorem pathK_first {i : Nat} (hi : i < d.length) : pathK d C i = (i : Int) :: firstF ([] :: ((upR (i + 1) d.length).filter fun k => decide (gd d i ≤ gd d k)).map (pathK d C)) := by
  rw [pathK_eq hi]
  congr 1
  cases hk : nextK d C i with
  | none =>
    have h1 := nextK_none h hi hk
    have : (upR (i + 1) d.length).filter (fun k => decide (gd d i ≤ gd d k)) = [] := by
      rw [List.filter_eq_nil_iff]
      intro k hk
      rw [upR_mem] at hk
      simp only [decide_eq_true_eq]
      intro hd
      have := h.up i k (by omega) hk.2 hd
      have := h.pos k hk.2
      omega
    rw [this]; rfl
  | some m =>
    have h1 := nextK_some hk
    have hp := h.pos m h1.2.1
    obtain ⟨T, hT⟩ : ∃ T : Nat, gd C i - 1 = (T : Int) := ⟨(gd C i - 1).toNat, by omega⟩
    refine (first_find h (T := T) (by omega) (Nat.le_refl _) (fun k h2 h3 h4 => ?_) ?_).symm
    · simp only [decide_eq_true_eq] at h4
      have := h.up i k (by omega) h3 h4
      omega
    · rw [← hk, nextK]
      congr 1
      funext k
      simp only [nxB, ← hT]
      rw [Bool.and_comm]
end
theorem firstF_snoc {l : List (List Int)} (h : l ≠ []) (y : List Int) : firstF (l ++ [y]) = betS (firstF l) y := by
  cases l with
  | nil => exact absurd rfl h
  | cons x l => simp [firstF]
theorem upR_snoc {i k : Nat} (h : i ≤ k) : upR i (k + 1) = upR i k ++ [k] := by
  rw [upR, upR, show k + 1 - i = (k - i) + 1 by omega, List.range'_concat]
  congr 2; omega
/-- What is kept. -/
def keepK (d C : List Int) : List Int := firstF ([] :: (upR 0 d.length).map (pathK d C))
def maxC (C : List Int) : Int := C.foldl max 0
theorem maxC_ge (C : List Int) : 0 ≤ maxC C ∧ ∀ x ∈ C, x ≤ maxC C := by
  suffices h : ∀ (C : List Int) (m : Int), m ≤ C.foldl max m ∧ ∀ x ∈ C, x ≤ C.foldl max m from h C 0
  intro C
  induction C with
  | nil => intro m; simp
  | cons y C ih =>
    intro m
    have := ih (max m y)
    simp only [List.foldl_cons, List.mem_cons]
    refine ⟨by omega, fun x hx => ?_⟩
    rcases hx with rfl | hx
    · omega
    · exact this.2 x hx
theorem maxC_mem (C : List Int) : maxC C = 0 ∨ maxC C ∈ C := by
  suffices h : ∀ (C : List Int) (m : Int), C.foldl max m = m ∨ C.foldl max m ∈ C from h C 0
  intro C
  induction C with
  | nil => intro m; simp
  | cons y C ih =>
    intro m
    simp only [List.foldl_cons, List.mem_cons]
    rcases ih (max m y) with e | e
    · rw [e]
      rcases Int.le_total m y with h | h
      · rw [Int.max_eq_right h]; exact .inr (.inl rfl)
      · rw [Int.max_eq_left h]; exact .inl rfl
    · exact .inr (.inr e)
/-- What comes yet. -/
def restK (d C : List Int) (last : Option Nat) (left : Int) (i : Nat) : List Int := (((upR i d.length).find? (nxB d C last left)).map (pathK d C)).getD []
theorem restK_end (d C : List Int) (last : Option Nat) (left : Int) {i : Nat} (hi : d.length ≤ i) : restK d C last left i = [] := by rw [restK, upR_nil hi]; rfl
section
variable {d C : List Int} (h : BegR d C)
include h
theorem keepK_rest : keepK d C = restK d C none (maxC C) 0 := by
  have hmem : ∀ k, k < d.length → gd C k ∈ C := fun k hk => by rw [gd_lt (by rw [h.len]; exact hk)]; exact List.getElem_mem _
  rcases Nat.eq_zero_or_pos d.length with h0 | h0
  · rw [restK_end d C none _ (by omega), keepK, upR_nil (by omega)]; rfl
  · have h1 := h.pos 0 h0
    have h2 := (maxC_ge C).2 _ (hmem 0 h0)
    obtain ⟨T, hT⟩ : ∃ T : Nat, maxC C = (T : Int) := ⟨(maxC C).toNat, by omega⟩
    have hex : ∃ m, (upR 0 d.length).find? (nxB d C none (maxC C)) = some m := by
      cases hf : (upR 0 d.length).find? (nxB d C none (maxC C)) with
      | some m => exact ⟨m, rfl⟩
      | none =>
        exfalso
        rcases maxC_mem C with e | e
        · omega
        · obtain ⟨k, hk, e2⟩ := List.mem_iff_getElem.1 e
          have := find_none hf k (Nat.zero_le _) (by rw [← h.len]; exact hk)
          simp only [nxB, Bool.and_true, decide_eq_false_iff_not] at this
          rw [gd_lt hk] at this
          exact this e2
    obtain ⟨m, hm⟩ := hex
    rw [restK, hm, keepK]
    have hfi : (upR 0 d.length).filter (fun _ => true) = upR 0 d.length := by simp
    rw [← hfi]
    refine first_find h (T := T) (by omega) (Nat.le_refl _) (p := fun _ => true) (fun k _ hk _ => ?_) ?_
    · rw [← hT]; exact (maxC_ge C).2 _ (hmem k hk)
    · rw [← hm]
      congr 1
      funext k
      simp only [nxB, hT, Bool.true_and, Bool.and_true]
end
end Go.Proofs.YtpijeomnplmakaaGreatDoor

/- Plain law: runs; a slip behind all others (RackRuns, RackBoxes). -/
namespace Go.Proofs.YtpijeomnplmakaaGreatDoor
open Go.RowKit

/-! ### Passes -/
theorem PassR.zero {b m p : Nat} (h : PassR b m p) : p = 0 ↔ m = 0 := by
  constructor
  · intro e; subst e; have := h.1; simpa using this
  · intro e
    refine Decidable.by_contra fun hp => ?_
    have := h.2 0 (by omega)
    simp at this; omega
theorem PassR.one {b m p : Nat} (h : PassR b m p) (hm : 0 < m) : p = 1 ↔ m < b := by
  have hz := h.zero
  constructor
  · intro e; subst e; have := h.1; simpa using this
  · intro hlt
    refine Decidable.by_contra fun hp => ?_
    have := h.2 1 (by omega)
    simp at this; omega
theorem PassR.six {b m p : Nat} (h : PassR b m p) (hb : 2 ≤ b) (hm : m ≤ 60) : p ≤ 6 := by
  refine Decidable.by_contra fun hc => ?_
  have h1 := h.2 6 (by omega)
  have h2 : 2 ^ 6 ≤ b ^ 6 := Nat.pow_le_pow_left hb _
  omega
theorem PassR.more {b b' m p p' : Nat} (h : PassR b m p) (g : PassR b' m p') (hb : b ≤ b') : p' ≤ p := by
  refine Decidable.by_contra fun hc => ?_
  have h1 := g.2 p (by omega)
  have h2 : b ^ p ≤ b' ^ p := Nat.pow_le_pow_left hb _
  have := h.1
  omega
/-! ### One more slip behind all others -/
section
variable {d : List Int} {r : Int} (hr : ∀ x ∈ d, x ≤ r)
include hr
end
end Go.Proofs.YtpijeomnplmakaaGreatDoor

/- Plain law: a deck that fell is put right by the fewest moves (RackMended, RackChains, RackFell). -/
namespace Go.Proofs.YtpijeomnplmakaaGreatDoor
open Go.RowKit

/-! ### Moves -/
theorem nodup_len : ∀ {l M : List Int}, l.Nodup → (∀ x ∈ l, x ∈ M) → l.length ≤ M.length
  | [], _, _, _ => Nat.zero_le _
  | x :: l, M, hn, hs => by
    obtain ⟨h1, h2⟩ := List.nodup_cons.1 hn
    have hx := hs x (by simp)
    have := nodup_len (l := l) (M := M.erase x) h2 fun y hy => (List.mem_erase_of_ne fun e => h1 (by rw [← e]; exact hy)).2 (hs y (List.mem_cons_of_mem _ hy))
    rw [List.length_erase_of_mem hx] at this
    have hp := List.length_pos_of_mem hx
    rw [List.length_cons]
    omega
/-! ### The moves that put a deck right -/
end Go.Proofs.YtpijeomnplmakaaGreatDoor

/- Plain law: chains; a part of a deck that fell (RackChains, RackFell). -/
namespace Go.Proofs.YtpijeomnplmakaaGreatDoor
open Go.RowKit

/-! ### A part of a deck that lay right -/
/-- Ranks that do not fall, but for those from a to b, which lie between the others. -/
def FellI (d : List Int) (a b : Nat) : Prop := ∀ i j, i < j → j < d.length → (i < a ∨ b < i ∨ j < a ∨ b < j) → gd d i ≤ gd d j
/-- Two ranks of the part change their places. -/
theorem FellI.swap {d : List Int} {a b i k : Nat} (hf : FellI d a b) (hi : a ≤ i ∧ i ≤ b) (hk : a ≤ k ∧ k ≤ b) (hb : b < d.length) : FellI ((d.set i (gd d k)).set k (gd d i)) a b := by
  intro x y hxy hy ho
  have hl : ((d.set i (gd d k)).set k (gd d i)).length = d.length := by simp
  rw [hl] at hy
  have g : ∀ z, gd ((d.set i (gd d k)).set k (gd d i)) z = if z = k then gd d i else if z = i then gd d k else gd d z := fun z => by
    rw [gd_set, gd_set, List.length_set]
    by_cases e1 : z = k
    · rw [if_pos ⟨e1, by omega⟩, if_pos e1]
    · rw [if_neg (fun h => e1 h.1), if_neg e1]
      by_cases e2 : z = i
      · rw [if_pos ⟨e2, by omega⟩, if_pos e2]
      · rw [if_neg (fun h => e2 h.1), if_neg e2]
  rw [g, g]
  have key : ∀ z, ∃ z', gd d z' = (if z = k then gd d i else if z = i then gd d k else gd d z) ∧ ((z < a ∨ b < z) → z' = z) ∧ ((a ≤ z ∧ z ≤ b) → a ≤ z' ∧ z' ≤ b) := fun z => by
    by_cases e1 : z = k
    · exact ⟨i, by rw [if_pos e1], by omega, by omega⟩
    · by_cases e2 : z = i
      · exact ⟨k, by rw [if_neg e1, if_pos e2], by omega, by omega⟩
      · exact ⟨z, by rw [if_neg e1, if_neg e2], fun _ => rfl, fun h => h⟩
  obtain ⟨x', x1, x2, x3⟩ := key x
  obtain ⟨y', y1, y2, y3⟩ := key y
  rw [← x1, ← y1]
  refine hf x' y' ?_ ?_ ?_ <;> omega
end Go.Proofs.YtpijeomnplmakaaGreatDoor

/- Plain: lists that are all indices, each once; in order; that lie right. -/
namespace Go.Proofs.YtpijeomnplmakaaGreatDoor
open Go.RowKit

/-- These are all numbers below n, each once. -/
def allB (n : Nat) (l : List Int) : Bool := decide ((∀ x ∈ l, 0 ≤ x ∧ x < (n : Int)) ∧ l.Nodup ∧ l.length = n)
theorem allB_perm {n : Nat} {l : List Int} : allB n l = true ↔ l.Perm (upN n) := by
  rw [allB, decide_eq_true_eq]
  have hu : (upN n).Nodup := (upN_up n).imp fun h => by omega
  constructor
  · rintro ⟨h1, h2, h3⟩
    refine (List.perm_ext_iff_of_nodup h2 hu).2 fun x => ⟨fun hx => upN_mem.2 (h1 x hx), fun hx => ?_⟩
    refine Classical.byContradiction fun hn => ?_
    have := nodup_len (l := x :: l) (M := upN n) (List.nodup_cons.2 ⟨hn, h2⟩) fun y hy => by
      rcases List.mem_cons.1 hy with rfl | hy
      · exact hx
      · exact upN_mem.2 (h1 y hy)
    rw [List.length_cons, upN_len] at this
    omega
  · intro h
    exact ⟨fun x hx => upN_mem.1 (h.mem_iff.1 hx), h.nodup_iff.2 hu, by rw [h.length_eq, upN_len]⟩
/-- Neighbours fall, or are equal and change their order. -/
def badS (d l : List Int) (i : Nat) : Bool := decide (keyD d (gd l (i + 1)) < keyD d (gd l i)) || decide (keyD d (gd l (i + 1)) = keyD d (gd l i)) && decide (gd l (i + 1) < gd l i)
def sortB (d l : List Int) : Bool := allB d.length l && (List.range (l.length - 1)).all fun i => !badS d l i
theorem sortB_bad {d l : List Int} {k : Nat} (hk : k + 1 < l.length) (h : badS d l k = true) : sortB d l = false := by
  cases e : sortB d l
  · rfl
  · rw [sortB, Bool.and_eq_true, List.all_eq_true] at e
    have := e.2 k (by simp; omega)
    rw [h] at this
    exact absurd this (by decide)
theorem chain_all {R : Int → Int → Prop} (ht : ∀ a b c, R a b → R b c → R a c) {l : List Int} (h : ∀ i, i + 1 < l.length → R (gd l i) (gd l (i + 1))) : ∀ k i, i + k + 1 < l.length → R (gd l i) (gd l (i + k + 1))
  | 0, i, hk => h i hk
  | k + 1, i, hk => ht _ _ _ (chain_all ht h k i (by omega)) (h (i + k + 1) (by omega))
theorem sortB_ord {d l : List Int} : sortB d l = true ↔ l = ordF d := by
  rw [sortB, Bool.and_eq_true, allB_perm, List.all_eq_true]
  constructor
  · rintro ⟨hp, h⟩
    have hn : l.Nodup := hp.nodup_iff.2 ((upN_up _).imp fun h => by omega)
    refine ordF_uniq hp (gd_pair fun i j hij hj => ?_)
    obtain ⟨k, rfl⟩ : ∃ k, j = i + k + 1 := ⟨j - i - 1, by omega⟩
    refine chain_all (R := bfD d) (fun a b c h1 h2 => ?_) (fun i hi => ?_) k i hj
    · simp only [bfD] at h1 h2 ⊢; omega
    · have := h i (by simp; omega)
      have hne : gd l i ≠ gd l (i + 1) := fun e => by have := nodup_gd hn (by omega) hi e; omega
      simp only [badS, Bool.not_eq_true', Bool.or_eq_false_iff, Bool.and_eq_false_iff, decide_eq_false_iff_not] at this
      simp only [bfD]
      omega
  · rintro rfl
    refine ⟨ordF_perm d, fun i hi => ?_⟩
    have h1 := pair_gd (ordF_pair d) (show i < i + 1 by omega) (by simp at hi; omega)
    simp only [bfD] at h1
    simp only [badS, Bool.not_eq_true', Bool.or_eq_false_iff, Bool.and_eq_false_iff, decide_eq_false_iff_not]
    omega
theorem sortB_no {d l : List Int} (h : l ≠ ordF d) : sortB d l = false := by
  cases e : sortB d l
  · rfl
  · exact absurd (sortB_ord.1 e) h
end Go.Proofs.YtpijeomnplmakaaGreatDoor

/- The proof engine, part 18: division of numbers that are not negative; equality of pairs. -/
namespace Go.Proofs.YtpijeomnplmakaaGreatDoor
open Go.RowKit

section rules
variable {P : Program} {ro : Option Nat} {n : Nat} {all rest : List Oper} {K : Sl → World → Prop} {s : Sl} {w : World} {d : Nat} {ty : Nat} {pos : String} {af : Array Edge} {x y : Operand} {t t' : Nat} {a b : Int}
theorem Ops.rem (hx : ev n s x = .int .i64 a) (hy : ev n s y = .int .i64 b) (h0 : 0 ≤ a) (h1 : 0 < b) (h : Ops P ro n all rest K (upd s d (.int .i64 (a % b))) w) :
    Ops P ro n all (⟨some d, .binOp .rem t x y t', ty, pos, af, none⟩ :: rest) K s w :=
  Ops.ofRun rfl (by
    have e1 : Int.tmod a b = a % b := Int.tmod_eq_emod_of_nonneg h0
    have e3 : ¬ b = 0 := by omega
    simp [execOp, hx, hy, go_sem, Op.intDiv, e1, e3]) h
theorem Ops.quo (hx : ev n s x = .int .i64 a) (hy : ev n s y = .int .i64 b) (h0 : 0 ≤ a) (h0' : a ≤ 9223372036854775807) (h1 : 0 < b) (h : Ops P ro n all rest K (upd s d (.int .i64 (a / b))) w) :
    Ops P ro n all (⟨some d, .binOp .quo t x y t', ty, pos, af, none⟩ :: rest) K s w :=
  Ops.ofRun rfl (by
    have e1 : Int.tdiv a b = a / b := Int.tdiv_eq_ediv_of_nonneg h0
    have e2 : IntKind.i64.wrap (a / b) = a / b := by
      have := Int.ediv_nonneg h0 (Int.le_of_lt h1)
      have := Int.ediv_le_self b h0
      rw [IntKind.wrap_i64]; omega
    have e3 : ¬ b = 0 := by omega
    simp [execOp, hx, hy, go_sem, Op.intDiv, e1, e2, e3]) h
theorem Ops.neqTN {α : Type} [DecidableEq α] {enc : α → Value} (u : α) [he : EqT P t enc] (hx : ev n s x = enc u) (hy : ev n s y = enc u) (h : Ops P ro n all rest K (upd s d (.bool false)) w) :
    Ops P ro n all (⟨some d, .binOp .neq t x y t', ty, pos, af, none⟩ :: rest) K s w :=
  Ops.neqT u u hx hy (by rw [decide_eq_false (by simp)]; exact h)
end rules

theorem eqT_arr2 {P : Program} {t e bytes : Nat} {z : Value} (hu : P.underlying t = some (.array 2 e)) (u0 : TU P e (.int .i64)) (hz : TS P e z 1 bytes) (hg : P.eqGuardType P.depth t = false) : EqT P t encII where
  eq w a b := by
    obtain ⟨i, hi, _, hs, _⟩ := hz.info
    have hc : P.cellsOf e = 1 := by simp [Program.cellsOf, hi, hs]
    simp only [encII, Op.equal, Op.maxDepth]
    rw [run_equalIn_array w 9999 _ _ hu hi, hc]
    have e0 : (Op.equalIn 9999 e (.int .i64 a.1) (.int .i64 b.1)).run P w = .ok (a.1 == b.1) w := run_equalIn_int (P := P) w 9998 e .i64 .i64 a.1 b.1 u0.h
    have e1 : (Op.equalIn 9999 e (.int .i64 a.2) (.int .i64 b.2)).run P w = .ok (a.2 == b.2) w := run_equalIn_int (P := P) w 9998 e .i64 .i64 a.2 b.2 u0.h
    obtain ⟨a1, a2⟩ := a
    obtain ⟨b1, b2⟩ := b
    simp only at e0 e1
    have p0 : ∀ c1 c2 : Int, (part e #[Value.int .i64 c1, Value.int .i64 c2] 0).run P w = .ok (.int .i64 c1) w := fun c1 c2 => by simp [part, run_isAgg w u0, TypeDesc.isAgg]
    have p1 : ∀ c1 c2 : Int, (part e #[Value.int .i64 c1, Value.int .i64 c2] 1).run P w = .ok (.int .i64 c2) w := fun c1 c2 => by simp [part, run_isAgg w u0, TypeDesc.isAgg]
    have hr : List.range 2 = [0, 1] := by decide
    rw [hr]
    simp only [Op.eqItems, Nat.zero_mul, Nat.one_mul, Sem.run_bind, p0, Result.andThen_ok, e0]
    by_cases c0 : a1 = b1
    · subst c0
      by_cases c1 : a2 = b2
      · subst c1; simp [p1, e1]
      · have c1' : (a2 == b2) = false := by simpa using c1
        simp [c1, p1, e1, c1']
    · simp [c0]
  guard op x y w a b := by
    cases op <;> simp [encII, eqGuard, hg]
  kind a b := ⟨fun w => by simp [encII, binOp], fun w => by simp [encII, binOp]⟩
end Go.Proofs.YtpijeomnplmakaaGreatDoor

/- The proof engine, part 24: parts of strings; the first elements of a slice of the call's own; structs as keys of maps. -/
namespace Go.Proofs.YtpijeomnplmakaaGreatDoor
open Go.RowKit

section rules
variable {P : Program} {ro : Option Nat} {n : Nat} {all rest : List Oper} {K : Sl → World → Prop} {s : Sl} {w : World} {d : Nat} {ty : Nat} {pos : String} {af : Array Edge}
variable {x y : Operand} {t t' e : Nat}
theorem flatMap_take {k : Nat} : ∀ {xs : List Value} (m : Nat), (∀ x ∈ xs, x.cells.toList.length = k) → (xs.take m).flatMap (·.cells.toList) = (xs.flatMap (·.cells.toList)).take (m * k)
  | [], m, _ => by simp
  | y :: xs, 0, _ => by simp
  | y :: xs, m + 1, h => by
    have hy := h y List.mem_cons_self
    rw [List.take_succ_cons, List.flatMap_cons, List.flatMap_cons, flatMap_take m fun x hx => h x (List.mem_cons_of_mem _ hx), List.take_append, hy, Nat.add_mul, Nat.one_mul, Nat.add_sub_cancel]
    rw [List.take_of_length_le (l := y.cells.toList) (by omega)]
/-- The first m elements of a slice of the call's own. -/
theorem OwnL.cut {w : World} {B e k l c : Nat} {agg : Bool} {a : Option Addr} {xs : List Value} (h : OwnL w B e agg k (.slice a l c) xs) {m : Nat} (hm : m ≤ xs.length) (h0 : 0 < c) : OwnL w B e agg k (.slice a m c) (xs.take m) := by
  have hl : (xs.take m).length = m := by rw [List.length_take]; omega
  have hf : ∀ x ∈ xs.take m, fitsV agg k x = true := fun x hx => h.fit x (List.mem_of_mem_take hx)
  have hlen := h.len
  refine ⟨⟨?_, ?_⟩, hf, by omega⟩
  · rw [flatMap_take (k := k) m fun x hx => by rw [Array.length_toList]; exact fitsV_cells (h.fit x hx)]
    rw [List.length_take, hl, flat_len (k := k) (xs := xs) fun y hy => fitsV_cells (h.fit y hy)]
    exact Nat.min_eq_left (Nat.mul_le_mul_right _ hm)
  · rcases h.own.2 with ⟨e0, _⟩ | ⟨g, cap, cur, e0, hB, hh, hn, hm', hs, ht⟩
    · simp only [Value.slice.injEq] at e0; omega
    · simp only [Value.slice.injEq] at e0
      obtain ⟨rfl, _, rfl⟩ := e0
      refine .inr ⟨g, c, cur, by rw [hl], hB, hh, by omega, hm', hs, ?_⟩
      rw [hl, flatMap_take (k := k) m fun x hx => by rw [Array.length_toList]; exact fitsV_cells (h.fit x hx), ← ht, List.take_take, Nat.min_eq_left (Nat.mul_le_mul_right _ hm)]
theorem Ops.sliceXHv {l c hi k bytes : Nat} {j : Int} {k2 : IntKind} {xh : Operand} {a : Option Addr} {z : Value} (hx : ev n s x = .slice a l c) (hh : ev n s xh = .int k2 j) (hj : j = (hi : Int)) (h2 : hi ≤ c) (h0 : 0 < c) [ht : TSl P t e] [hz : TS P e z k bytes]
    (h : Ops P ro n all rest K (upd s d (.slice a hi c)) w) : Ops P ro n all (⟨some d, .slice t x none (some xh) none, ty, pos, af, none⟩ :: rest) K s w := by
  subst hj
  refine Ops.ofRun rfl ?_ h
  have hc : ¬ c = 0 := by omega
  cases a <;> simp [execOp, Instr.sliceAt, Instr.slice, Instr.sliceBounds, Instr.sliceBound, hx, hh, run_underlying ht.h, asIntOf, h2, run_sizeOf' w hz, hc, Addr.add]
end rules
end Go.Proofs.YtpijeomnplmakaaGreatDoor

/- The proof engine, part 26: entries of maps, what is read of them. -/
namespace Go.Proofs.YtpijeomnplmakaaGreatDoor
open Go.RowKit

theorem MapN.app {κ : Type} [DecidableEq κ] {encK : κ → Value} {w w' : World} {b B st : Nat} {m : List (κ × Value)} {k : κ} {v : Value} (h : MapN encK w b m k st) (a : App B w w' v) (hne : v.ownBlock ≠ some b) : MapN encK w' b m k st := by
  obtain ⟨es, cl, i, h1, h2⟩ := h.h
  exact ⟨es, cl, i, a.other h1 hne, h2⟩
section rules
variable {P : Program} {ro : Option Nat} {n : Nat} {all rest : List Oper} {K : Sl → World → Prop} {s : Sl} {w : World} {d : Nat} {ty : Nat} {pos : String} {af : Array Edge}
variable {x y : Operand} {t : Nat}
end rules
end Go.Proofs.YtpijeomnplmakaaGreatDoor

/- The proof engine, part 30: comparisons of booleans; >= of strings. -/
namespace Go.Proofs.YtpijeomnplmakaaGreatDoor
open Go.RowKit
section rules
variable {P : Program} {ro : Option Nat} {n : Nat} {all rest : List Oper} {K : Sl → World → Prop} {s : Sl} {w : World} {d : Nat} {ty : Nat} {pos : String} {af : Array Edge}
variable {x y : Operand} {t t' : Nat}
end rules
end Go.Proofs.YtpijeomnplmakaaGreatDoor

/- The proof engine, part 31: min and max of three integers; integers of 16 bits. -/
namespace Go.Proofs.YtpijeomnplmakaaGreatDoor
open Go.RowKit
section rules
variable {P : Program} {ro : Option Nat} {n : Nat} {all rest : List Oper} {K : Sl → World → Prop} {s : Sl} {w : World} {d : Nat} {ty : Nat} {pos : String} {af : Array Edge}
variable {x y z : Operand} {at_ : Array Nat}
end rules
end Go.Proofs.YtpijeomnplmakaaGreatDoor

/- The laws of racks: choices; all, sorted, right; plans by choices. -/
namespace Go.Proofs.YtpijeomnplmakaaGreatDoor
open Go.RowKit

theorem choose_law6 (ba : Option Addr) (bc : Nat) (by_ : List Int) (i : Nat) (hu : U32s by_) (hi : i ≤ 100000000) (w : World) [hb : RowI w (.slice ba by_.length bc) false 1 (by_.map u32V)] :
    Ct Tryz.prog 39 [.slice ba by_.length bc, .int .i64 (i : Int)] w fun v _ => ∃ x : Int, v = .int .i64 x ∧ 0 ≤ x ∧ x ≤ 4294967295 := by
  refine Ct.ofW (by simp) ?_
  by_cases h0 : by_.length = 0
  · (refine jjB ?_; refine jjC ?_; apply jJ; exact eI rfl; refine jz ?_; refine jjB ?_; refine jjB ?_; refine jjC ?_; apply jI; exact eS rfl; refine jh rfl ?_; refine jjh rfl rfl (by omega) ?_; refine jz ?_; refine jjJ rfl ?_; refine jjB ?_; refine jjC ?_; apply jJ; exact eI rfl; refine jz ?_; refine jjF ?_; refine jB rfl rfl ⟨inferInstance, ?_⟩)
    exact ⟨0, rfl, by omega, by omega⟩
  (refine jjB ?_; refine jjC ?_; apply jJ; exact eI rfl; refine jz ?_; refine jjB ?_; refine jjB ?_; refine jjC ?_; apply jI; exact eS rfl; refine jh rfl ?_; refine jji rfl rfl (by omega) ?_; refine jz ?_; refine jjK rfl ?_; refine jjG ?_; refine jjB ?_; refine jjC ?_; apply jI; exact eS rfl; apply jI; exact eI rfl; apply jI; exact eS rfl; refine jh rfl ?_)
  refine Ops.rem rfl rfl (by omega) (by omega) ?_
  have hr1 : (i : Int) % (by_.length : Int) = ((i % by_.length : Nat) : Int) := by omega
  have hX := Nat.mod_lt i (show 0 < by_.length by omega)
  rw [hr1]
  generalize i % by_.length = X at *
  have hv := hu by_[X] (List.getElem_mem hX)
  (refine jF rfl rfl rfl (map_get (by omega)) ?_; intro _ _ _; refine jQ rfl rfl ?_)
  refine Ops.convI rfl rfl (wrapi (by omega) (by omega)) ?_
  (apply jJ; exact eI rfl; refine jz ?_; refine jjF ?_; refine jB rfl rfl ⟨inferInstance, ?_⟩)
  exact ⟨_, rfl, hv.1, hv.2⟩
theorem allB_no {n : Nat} {l : List Int} {k : Nat} (hk : k < l.length) (h : ¬ (0 ≤ l[k] ∧ l[k] < (n : Int)) ∨ l[k] ∈ l.take k) : allB n l = false := by
  rw [allB, decide_eq_false_iff_not]
  rintro ⟨h1, h2, -⟩
  rcases h with h | h
  · exact h (h1 _ (List.getElem_mem hk))
  · rw [List.mem_iff_getElem] at h
    obtain ⟨j, hj, e⟩ := h
    rw [List.length_take] at hj
    rw [List.getElem_take] at e
    have := nodup_gd h2 (i := j) (j := k) (by omega) hk (by rw [gd_lt (by omega), gd_lt hk]; exact e)
    omega
section
variable (a1 a2 : Option Addr) (c1 c2 : Nat) (d l : List Int) (w : World) (hll : l.length ≤ 1000000) [h1 : RowI w (.slice a1 d.length c1) false 1 (d.map intV)] [h2 : RowI w (.slice a2 l.length c2) false 1 (l.map intV)]
include hll
set_option maxHeartbeats 1000000 in
theorem all_law6 : Ct Tryz.prog 30 [.slice a1 d.length c1, .slice a2 l.length c2] w fun v _ => v = .bool (allB d.length l) := by
  refine Ct.ofW (by simp) ?_
  (refine jjB ?_; refine jjC ?_; apply jJ; exact eB rfl; refine jz ?_; refine jjB ?_; refine jjC ?_)
  refine Ops.makeMap (Value.int .i64) ?_
  intro mb w3 hmb hs3 hS3 hM3
  (apply jJ; exact eM rfl; refine jz ?_; refine jjB ?_; refine jjB ?_; refine jjC ?_; apply jI; exact eS rfl; refine jh rfl ?_; apply jI; exact eI rfl; refine jz ?_; refine jjD ?_)
  have hE3 : Ext w w3 := inferInstance
  have zmb : w.heap.size ≤ mb := by omega
  refine W.keep0 [(0, .slice a1 d.length c1), (1, .slice a2 l.length c2), (5, .map (some mb)), (9, .slice a2 l.length c2), (10, .int .i64 (l.length : Int)), (11, .int .i64 ((0 : Nat) : Int))] ⟨eS rfl, eS rfl, eM rfl, eS rfl, eI rfl, eI rfl, trivial⟩ fun s0 => ?_
  refine W.loopG (12 :: 13 :: 14 :: 7 :: 15 :: 16 :: 17 :: 18 :: 19 :: 20 :: 21 :: 22 :: 23 :: 24 :: 25 :: 26 :: 27 :: 4 :: 28 :: 29 :: 30 :: 11 :: []) (fun g s' V => ∃ (k : Nat) (m : List (Int × Value)), s' 11 = .int .i64 (k : Int) ∧ g = l.length - k ∧ k ≤ l.length ∧ Only mb w3 V ∧ MapE (Value.int .i64) V mb m ∧ (∀ x : Int, mget m x = if x ∈ l.take k then some (.bool true) else none) ∧ (∀ x ∈ l.take k, 0 ≤ x ∧ x < (d.length : Int)) ∧ (l.take k).Nodup) l.length ⟨0, [], rfl, rfl, Nat.zero_le _, .ofExt (Ext.refl _), hM3, fun x => rfl, by simp, by simp⟩ ?_
  rintro _ sd V ⟨k, m, h11, rfl, hk, hOn, hM, hmg, hin, hnd⟩
  refine W.fix h11 ?_
  clear h11
  have hEV : Ext w V := hOn.ext hE3 zmb
  have r1 : RowI V (.slice a1 d.length c1) false 1 (d.map intV) := ⟨h1.h.ext hEV⟩
  have r2 : RowI V (.slice a2 l.length c2) false 1 (l.map intV) := ⟨h2.h.ext hEV⟩
  have hSV := hEV.toStep
  by_cases hkc : k < l.length
  rotate_left
  · obtain rfl : k = l.length := by omega
    rw [List.take_length] at hin hnd
    by_cases he : l.length = d.length
    · have e : allB d.length l = true := by rw [allB, decide_eq_true_eq]; exact ⟨hin, hnd, he⟩
      rw [e]
      (refine jjB ?_; refine jjC ?_; refine jja rfl rfl (by omega) ?_; refine jz ?_; refine jjB ?_; refine jjK rfl ?_; refine jjE ?_; refine jjB ?_; refine jjC ?_; apply jI; exact eS rfl; refine jh rfl ?_; apply jI; exact eS rfl; refine jh rfl ?_; refine jjh rfl rfl (by omega) ?_; apply jJ; exact eB rfl; refine jz ?_; refine jjF ?_; refine jB rfl rfl ⟨inferInstance, ?_⟩)
      exact rfl
    · have e : allB d.length l = false := by rw [allB, decide_eq_false_iff_not]; exact fun h => he h.2.2
      rw [e]
      (refine jjB ?_; refine jjC ?_; refine jja rfl rfl (by omega) ?_; refine jz ?_; refine jjB ?_; refine jjK rfl ?_; refine jjE ?_; refine jjB ?_; refine jjC ?_; apply jI; exact eS rfl; refine jh rfl ?_; apply jI; exact eS rfl; refine jh rfl ?_; refine jji rfl rfl (by omega) ?_; apply jJ; exact eB rfl; refine jz ?_; refine jjF ?_; refine jB rfl rfl ⟨inferInstance, ?_⟩)
      exact rfl
  have hno := fun h => allB_no (n := d.length) hkc h
  by_cases hx0 : l[k] < 0
  · rw [hno (.inl (by omega))]
    (refine jjB ?_; refine jjC ?_; refine jjZ rfl rfl (by omega) ?_; refine jz ?_; refine jjB ?_; refine jjJ rfl ?_; refine jjG ?_; refine jjB ?_; refine jjD ?_; refine jjB ?_; refine jjC ?_; refine jF rfl rfl rfl (map_get (by omega)) ?_; intro _ _ _; refine jQ rfl rfl ?_; apply jJ; exact eI rfl; refine jz ?_; refine jjB ?_; refine jjB ?_; refine jjC ?_; apply jI; exact eI rfl; refine jjZ rfl rfl (by omega) ?_; apply jI; exact eB rfl; refine jU rfl rfl rfl rfl ?_; refine jU rfl rfl rfl rfl ?_; refine jU rfl rfl rfl rfl ?_; refine jU rfl rfl rfl rfl ?_; apply jK rfl; exact eB rfl; apply jI; exact eB rfl; refine jU rfl rfl rfl rfl ?_; refine jU rfl rfl rfl rfl ?_; refine jU rfl rfl rfl rfl ?_; apply jK rfl; exact eB rfl; refine jz ?_; refine jjJ rfl ?_; refine jjB ?_; refine jjC ?_; apply jJ; exact eB rfl; refine jz ?_; refine jjF ?_; refine jB rfl rfl ⟨inferInstance, ?_⟩)
    exact rfl
  by_cases hx1 : (d.length : Int) ≤ l[k]
  · rw [hno (.inl (by omega))]
    (refine jjB ?_; refine jjC ?_; refine jjZ rfl rfl (by omega) ?_; refine jz ?_; refine jjB ?_; refine jjJ rfl ?_; refine jjG ?_; refine jjB ?_; refine jjD ?_; refine jjB ?_; refine jjC ?_; refine jF rfl rfl rfl (map_get (by omega)) ?_; intro _ _ _; refine jQ rfl rfl ?_; apply jJ; exact eI rfl; refine jz ?_; refine jjB ?_; refine jjB ?_; refine jjC ?_; apply jI; exact eI rfl; refine jja rfl rfl (by omega) ?_; apply jI; exact eB rfl; refine jT rfl rfl rfl ?_; apply jI; exact eI rfl; refine jT rfl rfl rfl ?_; apply jI; exact eS rfl; refine jT rfl rfl rfl ?_; refine jh rfl ?_; refine jT rfl rfl rfl ?_; refine jjf rfl rfl (by omega) ?_; apply jL rfl; exact eB rfl; apply jI; exact eB rfl; refine jU rfl rfl rfl rfl ?_; refine jU rfl rfl rfl rfl ?_; refine jU rfl rfl rfl rfl ?_; apply jK rfl; exact eB rfl; refine jz ?_; refine jjJ rfl ?_; refine jjB ?_; refine jjC ?_; apply jJ; exact eB rfl; refine jz ?_; refine jjF ?_; refine jB rfl rfl ⟨inferInstance, ?_⟩)
    exact rfl
  (refine jjB ?_; refine jjC ?_; refine jjZ rfl rfl (by omega) ?_; refine jz ?_; refine jjB ?_; refine jjJ rfl ?_; refine jjG ?_; refine jjB ?_; refine jjD ?_; refine jjB ?_; refine jjC ?_; refine jF rfl rfl rfl (map_get (by omega)) ?_; intro _ _ _; refine jQ rfl rfl ?_; apply jJ; exact eI rfl; refine jz ?_; refine jjB ?_; refine jjB ?_; refine jjC ?_; apply jI; exact eI rfl; refine jja rfl rfl (by omega) ?_; apply jI; exact eB rfl; refine jT rfl rfl rfl ?_; apply jI; exact eI rfl; refine jT rfl rfl rfl ?_; apply jI; exact eS rfl; refine jT rfl rfl rfl ?_; refine jh rfl ?_; refine jT rfl rfl rfl ?_; refine jjg rfl rfl (by omega) ?_; apply jL rfl; exact eB rfl; apply jI; exact eB rfl; refine jT rfl rfl rfl ?_; apply jI; exact eM rfl; refine jT rfl rfl rfl ?_; apply jI; exact eI rfl; refine jT rfl rfl rfl ?_)
  refine Ops.lookup (k := l[k]) hM rfl rfl ?_
  rw [hmg]
  by_cases hx2 : l[k] ∈ l.take k
  · rw [hno (.inr hx2), if_pos hx2]
    (apply jL rfl; exact eB rfl; refine jz ?_; refine jjJ rfl ?_; refine jjB ?_; refine jjC ?_; apply jJ; exact eB rfl; refine jz ?_; refine jjF ?_; refine jB rfl rfl ⟨inferInstance, ?_⟩)
    exact rfl
  rw [if_neg hx2]
  (apply jL rfl; exact eB rfl; refine jz ?_; refine jjK rfl ?_; refine jjG ?_; refine jjC ?_; apply jI; exact eM rfl; apply jI; exact eI rfl)
  refine Ops.mapUpdate (k := l[k]) (v := .bool true) hM rfl rfl rfl ?_
  intro w11 o11 hp11 hM11
  (refine jz ?_; refine jjC ?_; refine jY rfl rfl (by omega) ?_; apply jI; exact eI rfl; refine jz ?_)
  have hgk := List.getElem?_eq_getElem hkc
  have hmem : ∀ x, x ∈ l.take (k + 1) ↔ x ∈ l.take k ∨ x = l[k] := fun x => by rw [take_snoc_get hgk, List.mem_append, List.mem_singleton]
  refine ⟨rfl, by ((refine Same.upd rfl ?_; refine Same.upd rfl ?_; refine Same.upd rfl ?_; refine Same.upd rfl ?_; refine Same.upd rfl ?_; refine Same.upd rfl ?_; refine Same.upd rfl ?_; refine Same.upd rfl ?_; refine Same.upd rfl ?_; refine Same.upd rfl ?_; refine Same.upd rfl ?_; refine Same.upd rfl ?_; refine Same.upd rfl ?_; refine Same.upd rfl ?_; refine Same.upd rfl ?_; refine Same.upd rfl ?_; refine Same.upd rfl ?_; refine Same.upd rfl ?_; refine Same.upd rfl ?_; refine Same.upd rfl ?_; refine Same.upd rfl ?_; refine Same.upd rfl ?_; exact Same.ovN)), l.length - (k + 1), by omega, k + 1, _, congrArg (Value.int .i64) (by omega), rfl, by omega, hOn.trans (.ofPut hp11), hM11, fun x => ?_, fun x hx => ?_, ?_⟩
  · by_cases e : x = l[k]
    · rw [e, mget_set_same, if_pos ((hmem _).2 (.inr rfl))]
    · rw [mget_set_other _ _ e, hmg]
      by_cases e2 : x ∈ l.take k
      · rw [if_pos e2, if_pos ((hmem _).2 (.inl e2))]
      · rw [if_neg e2, if_neg fun h => ((hmem _).1 h).elim e2 e]
  · rcases (hmem x).1 hx with h | h
    · exact hin x h
    · omega
  · rw [take_snoc_get hgk]
    exact List.nodup_append.2 ⟨hnd, by simp, fun x hx y hy e => hx2 (by have : y = l[k] := by simpa using hy
                                                                        rw [← this, ← e]; exact hx)⟩
end
theorem place_r {w : World} {agg : Bool} {k l c j b o : Nat} {xs : List Value} {x : Value} (h : RowV w agg k (.slice (some ⟨b, o, none⟩) l c) xs) (hj : xs[j]? = some x) : At w b (o + j * k) x.cells.toList := by
  obtain ⟨b', o', e, hA⟩ := h.place' hj
  cases e
  exact hA
theorem nat_list {n : Nat} {l : List Int} (h : ∀ x ∈ l, 0 ≤ x ∧ x < (n : Int)) : ∃ L : List Nat, l = L.map (fun q : Nat => (q : Int)) ∧ ∀ q ∈ L, q < n := by
  refine ⟨l.map Int.toNat, ?_, fun q hq => ?_⟩
  · rw [List.map_map, List.map_congr_left (g := id) fun x hx => ?_, List.map_id]
    have := h x hx
    show ((x.toNat : Nat) : Int) = x
    omega
  · obtain ⟨x, hx, rfl⟩ := List.mem_map.1 hq
    have := h x hx
    omega
theorem gd_nat {L : List Nat} {i : Nat} (h : i < L.length) : gd (L.map fun q : Nat => (q : Int)) i = (L[i] : Int) := by
  rw [gd_lt (by simpa using h), List.getElem_map]
section
variable (a1 a2 : Option Addr) (c1 c2 : Nat) (d l : List Int) (w : World) (hll : l.length ≤ 1000000) [h1 : RowI w (.slice a1 d.length c1) false 1 (d.map intV)] [h2 : RowI w (.slice a2 l.length c2) false 1 (l.map intV)]
include hll
set_option maxHeartbeats 4000000 in
theorem sorted_law6 : Ct Tryz.prog 29 [.slice a1 d.length c1, .slice a2 l.length c2] w fun v _ => v = .bool (sortB d l) := by
  refine Ct.ofW (by simp) ?_
  (refine jjB ?_; refine jjC ?_; apply jJ; exact eB rfl; refine jz ?_; refine jjB ?_; refine jjB ?_; refine jjC ?_; apply jI; exact eS rfl; apply jI; exact eS rfl)
  refine jjQ (all_law6 a1 a2 c1 c2 d l _ hll) rfl rfl ?_
  rintro _ w6 hS6 rfl
  by_cases hab : allB d.length l = true
  rotate_left
  · have e : sortB d l = false := by rw [sortB, Bool.and_eq_false_iff]; exact .inl (by simpa using hab)
    rw [e, show allB d.length l = false by simpa using hab]
    (refine jq rfl ?_; refine jz ?_; refine jjJ rfl ?_; refine jjB ?_; refine jjC ?_; apply jJ; exact eB rfl; refine jz ?_; refine jjF ?_; refine jB rfl rfl ⟨inferInstance, ?_⟩)
    exact rfl
  rw [hab]
  have hin : ∀ x ∈ l, 0 ≤ x ∧ x < (d.length : Int) := (of_decide_eq_true (show decide _ = true from hab)).1
  obtain ⟨L, rfl, hL⟩ := nat_list hin
  have h2' := h2
  simp only [List.map_map, List.length_map] at h2'
  rw [List.length_map] at hll ⊢
  (refine jp rfl ?_; refine jz ?_; refine jjK rfl ?_; refine jjG ?_; refine jjB ?_; refine jjB ?_; refine jjC ?_; apply jJ; exact eI rfl; refine jz ?_; refine jjD ?_)
  refine W.keep0 [(0, .slice a1 d.length c1), (1, .slice a2 L.length c2), (5, .int .i64 ((0 + 1 : Nat) : Int))] ⟨eS rfl, eS rfl, eI rfl, trivial⟩ fun s0 => ?_
  refine W.loop (10 :: 11 :: 12 :: 13 :: 16 :: 17 :: 18 :: 19 :: 20 :: 21 :: 22 :: 23 :: 24 :: 25 :: 26 :: 27 :: 28 :: 29 :: 30 :: 31 :: 32 :: 33 :: 34 :: 35 :: 36 :: 37 :: 38 :: 39 :: 40 :: 41 :: 42 :: 43 :: 44 :: 45 :: 46 :: 47 :: 48 :: 49 :: 50 :: 51 :: 52 :: 53 :: 54 :: 55 :: 56 :: 57 :: 58 :: 59 :: 60 :: 61 :: 4 :: 14 :: 15 :: 5 :: []) (fun g s' V => ∃ k : Nat, s' 5 = .int .i64 ((k + 1 : Nat) : Int) ∧ g = L.length - k ∧ (k = 0 ∨ k < L.length) ∧ ∀ i, i < k → badS d (L.map fun q : Nat => (q : Int)) i = false) L.length ⟨0, rfl, rfl, .inl rfl, by intros; omega⟩ ?_
  rintro _ sd V hSV ⟨k, h5, rfl, hk, hpre⟩
  refine W.fix h5 ?_
  clear h5
  by_cases hk1 : k + 1 < L.length
  · have u1 : L[k + 1] < d.length := hL _ (List.getElem_mem _)
    have u0 : L[k] < d.length := hL _ (List.getElem_mem _)
    have e1 : gd (L.map fun q : Nat => (q : Int)) (k + 1) = (L[k + 1] : Int) := gd_nat hk1
    have e0 : gd (L.map fun q : Nat => (q : Int)) k = (L[k] : Int) := gd_nat (by omega)
    have hbd : badS d (L.map fun q : Nat => (q : Int)) k = (decide (d[L[k + 1]] < d[L[k]]) || decide (d[L[k + 1]] = d[L[k]]) && decide ((L[k + 1] : Int) < (L[k] : Int))) := by rw [badS, e1, e0, key_gd, key_gd, gd_lt u1, gd_lt u0]
    have hbad := sortB_bad (d := d) (l := L.map fun q : Nat => (q : Int)) (k := k) (by rw [List.length_map]; exact hk1)
    have g1 : ((L.map fun q : Nat => (q : Int)).map intV)[k + 1]? = some (intV (L[k + 1] : Int)) := by simp [hk1]
    have g0 : ((L.map fun q : Nat => (q : Int)).map intV)[k]? = some (intV (L[k] : Int)) := by simp [show k < L.length by omega]
    have f1 : (d.map intV)[L[k + 1]]? = some (intV d[L[k + 1]]) := by simp [u1]
    have f0 : (d.map intV)[L[k]]? = some (intV d[L[k]]) := by simp [u0]
    obtain ⟨b2, o2, rfl, -⟩ := h2.h.place' g1
    obtain ⟨b1, o1, rfl, -⟩ := h1.h.place' f1
    have A1 : At V b2 (o2 + (k + 1) * 1) [intV (L[k + 1] : Int)] := place_r (h2.h.ext inferInstance) g1
    have A0 : At V b2 (o2 + k * 1) [intV (L[k] : Int)] := place_r (h2.h.ext inferInstance) g0
    have D1 : At V b1 (o1 + L[k + 1] * 1) [intV d[L[k + 1]]] := place_r (h1.h.ext inferInstance) f1
    have D0 : At V b1 (o1 + L[k] * 1) [intV d[L[k]]] := place_r (h1.h.ext inferInstance) f0
    (refine jjB ?_; refine jjB ?_; refine jjC ?_; apply jI; exact eI rfl; apply jI; exact eS rfl; refine jh rfl ?_; refine jjZ rfl rfl (by omega) ?_; refine jz ?_; refine jjJ rfl ?_; refine jjG ?_; refine jjB ?_; refine jjD ?_; refine jjB ?_)
    refine W.draw (fun w' => Ext V w') ?_
    intro w5 hS5
    refine jjV [0, 1, 2] (by decide +kernel) hS5.ext ?_
    (((apply jjT; exact rfl; rintro w' hq; have := hq.toStep; apply jI; exact eS rfl; refine jz ?_; exact ⟨rfl, rfl⟩; apply jjT; exact rfl; rintro w' hq; have := hq.toStep; apply jI; exact eS rfl; refine jz ?_; exact ⟨rfl, rfl⟩; apply jjT; exact rfl; rintro w' hq; have := hq.toStep; apply jI; exact eI rfl; refine jz ?_; exact ⟨rfl, rfl⟩; refine jjU ?_)))
    refine jjV [3] (by decide +kernel) hS5.ext (jjT (v := .pointer (some ⟨b2, o2 + (k + 1) * 1, none⟩)) rfl (fun w' q1 => ?_) (jjU ?_)); (refine jH (k + 1) rfl rfl rfl (by omega) ?_; refine jz ?_; exact ⟨rfl, rfl⟩)
    refine jjV [4] (by decide +kernel) hS5.ext (jjT (v := .int .i64 (L[k + 1] : Int)) rfl (fun w' q1 => ?_) (jjU ?_)); (refine jR ((A1.ext q1).get (i := 0) rfl) rfl rfl ?_; refine jz ?_; exact ⟨rfl, rfl⟩)
    refine jjV [5] (by decide +kernel) hS5.ext (jjT (v := .pointer (some ⟨b1, o1 + L[k + 1] * 1, none⟩)) rfl (fun w' q1 => ?_) (jjU ?_)); (refine jH (L[k + 1]) rfl rfl rfl (by omega) ?_; refine jz ?_; exact ⟨rfl, rfl⟩)
    refine jjV [6] (by decide +kernel) hS5.ext (jjT (v := .int .i64 (d[L[k + 1]])) rfl (fun w' q1 => ?_) (jjU ?_)); (refine jR ((D1.ext q1).get (i := 0) rfl) rfl rfl ?_; refine jz ?_; exact ⟨rfl, rfl⟩)
    refine jjV [7, 8, 9, 10] (by decide +kernel) hS5.ext ?_
    (((apply jjT; exact rfl; rintro w' hq; have := hq.toStep; apply jI; exact eS rfl; refine jz ?_; exact ⟨rfl, rfl⟩; apply jjT; exact rfl; rintro w' hq; have := hq.toStep; apply jI; exact eS rfl; refine jz ?_; exact ⟨rfl, rfl⟩; apply jjT; exact rfl; rintro w' hq; have := hq.toStep; apply jI; exact eI rfl; refine jz ?_; exact ⟨rfl, rfl⟩; apply jjT; exact rfl; rintro w' hq; have := hq.toStep; refine jZ rfl rfl (by omega) ?_; refine jz ?_; exact ⟨rfl, rfl⟩; refine jjU ?_)))
    refine jjV [11] (by decide +kernel) hS5.ext (jjT (v := .pointer (some ⟨b2, o2 + k * 1, none⟩)) rfl (fun w' q1 => ?_) (jjU ?_)); (refine jH k rfl rfl (by omega) (by omega) ?_; refine jz ?_; exact ⟨rfl, rfl⟩)
    refine jjV [12] (by decide +kernel) hS5.ext (jjT (v := .int .i64 (L[k] : Int)) rfl (fun w' q1 => ?_) (jjU ?_)); (refine jR ((A0.ext q1).get (i := 0) rfl) rfl rfl ?_; refine jz ?_; exact ⟨rfl, rfl⟩)
    refine jjV [13] (by decide +kernel) hS5.ext (jjT (v := .pointer (some ⟨b1, o1 + L[k] * 1, none⟩)) rfl (fun w' q1 => ?_) (jjU ?_)); (refine jH (L[k]) rfl rfl rfl (by omega) ?_; refine jz ?_; exact ⟨rfl, rfl⟩)
    refine jjV [14] (by decide +kernel) hS5.ext (jjT (v := .int .i64 (d[L[k]])) rfl (fun w' q1 => ?_) (jjU ?_)); (refine jR ((D0.ext q1).get (i := 0) rfl) rfl rfl ?_; refine jz ?_; exact ⟨rfl, rfl⟩)
    by_cases hb : d[L[k + 1]] < d[L[k]]
    · refine jjV [15, 16, 17, 18, 19, 20, 21, 22, 23, 24, 25, 26, 27, 28, 29, 30, 31, 32, 33, 34, 35, 36, 37, 38, 39, 40, 41, 42, 43, 44, 45] (by decide +kernel) hS5.ext ?_
      (((apply jjT; exact rfl; rintro w' hq; have := hq.toStep; refine jjZ rfl rfl (by omega) ?_; refine jz ?_; exact ⟨rfl, rfl⟩; apply jjT; exact rfl; rintro w' hq; have := hq.toStep; apply jI; exact eB rfl; refine jz ?_; exact ⟨rfl, rfl⟩; apply jjT; exact rfl; rintro w' hq; have := hq.toStep; refine jU rfl rfl rfl rfl ?_; refine jz ?_; exact ⟨rfl, rfl⟩; apply jjT; exact rfl; rintro w' hq; have := hq.toStep; refine jU rfl rfl rfl rfl ?_; refine jz ?_; exact ⟨rfl, rfl⟩; apply jjT; exact rfl; rintro w' hq; have := hq.toStep; refine jU rfl rfl rfl rfl ?_; refine jz ?_; exact ⟨rfl, rfl⟩; apply jjT; exact rfl; rintro w' hq; have := hq.toStep; refine jU rfl rfl rfl rfl ?_; refine jz ?_; exact ⟨rfl, rfl⟩; apply jjT; exact rfl; rintro w' hq; have := hq.toStep; refine jU rfl rfl rfl rfl ?_; refine jz ?_; exact ⟨rfl, rfl⟩; apply jjT; exact rfl; rintro w' hq; have := hq.toStep; refine jU rfl rfl rfl rfl ?_; refine jz ?_; exact ⟨rfl, rfl⟩; apply jjT; exact rfl; rintro w' hq; have := hq.toStep; refine jU rfl rfl rfl rfl ?_; refine jz ?_; exact ⟨rfl, rfl⟩; apply jjT; exact rfl; rintro w' hq; have := hq.toStep; refine jU rfl rfl rfl rfl ?_; refine jz ?_; exact ⟨rfl, rfl⟩; apply jjT; exact rfl; rintro w' hq; have := hq.toStep; refine jU rfl rfl rfl rfl ?_; refine jz ?_; exact ⟨rfl, rfl⟩; apply jjT; exact rfl; rintro w' hq; have := hq.toStep; refine jU rfl rfl rfl rfl ?_; refine jz ?_; exact ⟨rfl, rfl⟩; apply jjT; exact rfl; rintro w' hq; have := hq.toStep; refine jU rfl rfl rfl rfl ?_; refine jz ?_; exact ⟨rfl, rfl⟩; apply jjT; exact rfl; rintro w' hq; have := hq.toStep; refine jU rfl rfl rfl rfl ?_; refine jz ?_; exact ⟨rfl, rfl⟩; apply jjT; exact rfl; rintro w' hq; have := hq.toStep; refine jU rfl rfl rfl rfl ?_; refine jz ?_; exact ⟨rfl, rfl⟩; apply jjT; exact rfl; rintro w' hq; have := hq.toStep; refine jU rfl rfl rfl rfl ?_; refine jz ?_; exact ⟨rfl, rfl⟩; apply jjT; exact rfl; rintro w' hq; have := hq.toStep; refine jU rfl rfl rfl rfl ?_; refine jz ?_; exact ⟨rfl, rfl⟩; apply jjT; exact rfl; rintro w' hq; have := hq.toStep; refine jU rfl rfl rfl rfl ?_; refine jz ?_; exact ⟨rfl, rfl⟩; apply jjT; exact rfl; rintro w' hq; have := hq.toStep; refine jU rfl rfl rfl rfl ?_; refine jz ?_; exact ⟨rfl, rfl⟩; apply jjT; exact rfl; rintro w' hq; have := hq.toStep; refine jV rfl rfl ?_; refine jz ?_; exact ⟨rfl, rfl⟩; apply jjT; exact rfl; rintro w' hq; have := hq.toStep; refine jV rfl rfl ?_; refine jz ?_; exact ⟨rfl, rfl⟩; apply jjT; exact rfl; rintro w' hq; have := hq.toStep; refine jV rfl rfl ?_; refine jz ?_; exact ⟨rfl, rfl⟩; apply jjT; exact rfl; rintro w' hq; have := hq.toStep; refine jV rfl rfl ?_; refine jz ?_; exact ⟨rfl, rfl⟩; apply jjT; exact rfl; rintro w' hq; have := hq.toStep; refine jV rfl rfl ?_; refine jz ?_; exact ⟨rfl, rfl⟩; apply jjT; exact rfl; rintro w' hq; have := hq.toStep; refine jV rfl rfl ?_; refine jz ?_; exact ⟨rfl, rfl⟩; apply jjT; exact rfl; rintro w' hq; have := hq.toStep; refine jV rfl rfl ?_; refine jz ?_; exact ⟨rfl, rfl⟩; apply jjT; exact rfl; rintro w' hq; have := hq.toStep; refine jV rfl rfl ?_; refine jz ?_; exact ⟨rfl, rfl⟩; apply jjT; exact rfl; rintro w' hq; have := hq.toStep; refine jV rfl rfl ?_; refine jz ?_; exact ⟨rfl, rfl⟩; apply jjT; exact rfl; rintro w' hq; have := hq.toStep; refine jV rfl rfl ?_; refine jz ?_; exact ⟨rfl, rfl⟩; apply jjT; exact rfl; rintro w' hq; have := hq.toStep; refine jU rfl rfl rfl rfl ?_; refine jz ?_; exact ⟨rfl, rfl⟩; apply jjT; exact rfl; rintro w' hq; have := hq.toStep; apply jK rfl; exact eB rfl; refine jz ?_; exact ⟨rfl, rfl⟩; refine jjU ?_)))
      refine jjX (by decide +kernel) inferInstance ?_
      (refine jjJ rfl ?_; refine jjB ?_; refine jjC ?_; apply jJ; exact eB rfl; refine jz ?_; refine jjF ?_; refine jB rfl rfl ⟨inferInstance, ?_⟩)
      rw [hbad (by rw [hbd]; simp [hb])]; exact rfl
    refine jjV [15, 16, 17, 18, 19] (by decide +kernel) hS5.ext ?_
    (((apply jjT; exact rfl; rintro w' hq; have := hq.toStep; refine jja rfl rfl (by omega) ?_; refine jz ?_; exact ⟨rfl, rfl⟩; apply jjT; exact rfl; rintro w' hq; have := hq.toStep; apply jI; exact eB rfl; refine jz ?_; exact ⟨rfl, rfl⟩; apply jjT; exact rfl; rintro w' hq; have := hq.toStep; refine jT rfl rfl rfl ?_; apply jI; exact eS rfl; refine jz ?_; exact ⟨rfl, rfl⟩; apply jjT; exact rfl; rintro w' hq; have := hq.toStep; refine jT rfl rfl rfl ?_; apply jI; exact eS rfl; refine jz ?_; exact ⟨rfl, rfl⟩; apply jjT; exact rfl; rintro w' hq; have := hq.toStep; refine jT rfl rfl rfl ?_; apply jI; exact eI rfl; refine jz ?_; exact ⟨rfl, rfl⟩; refine jjU ?_)))
    refine jjV [20] (by decide +kernel) hS5.ext (jjT (v := .pointer (some ⟨b2, o2 + (k + 1) * 1, none⟩)) rfl (fun w' q1 => ?_) (jjU ?_)); (refine jT rfl rfl rfl ?_; refine jH (k + 1) rfl rfl rfl (by omega) ?_; refine jz ?_; exact ⟨rfl, rfl⟩)
    refine jjV [21] (by decide +kernel) hS5.ext (jjT (v := .int .i64 (L[k + 1] : Int)) rfl (fun w' q1 => ?_) (jjU ?_)); (refine jT rfl rfl rfl ?_; refine jR ((A1.ext q1).get (i := 0) rfl) rfl rfl ?_; refine jz ?_; exact ⟨rfl, rfl⟩)
    refine jjV [22] (by decide +kernel) hS5.ext (jjT (v := .pointer (some ⟨b1, o1 + L[k + 1] * 1, none⟩)) rfl (fun w' q1 => ?_) (jjU ?_)); (refine jT rfl rfl rfl ?_; refine jH (L[k + 1]) rfl rfl rfl (by omega) ?_; refine jz ?_; exact ⟨rfl, rfl⟩)
    refine jjV [23] (by decide +kernel) hS5.ext (jjT (v := .int .i64 (d[L[k + 1]])) rfl (fun w' q1 => ?_) (jjU ?_)); (refine jT rfl rfl rfl ?_; refine jR ((D1.ext q1).get (i := 0) rfl) rfl rfl ?_; refine jz ?_; exact ⟨rfl, rfl⟩)
    refine jjV [24, 25, 26, 27] (by decide +kernel) hS5.ext ?_
    (((apply jjT; exact rfl; rintro w' hq; have := hq.toStep; refine jT rfl rfl rfl ?_; apply jI; exact eS rfl; refine jz ?_; exact ⟨rfl, rfl⟩; apply jjT; exact rfl; rintro w' hq; have := hq.toStep; refine jT rfl rfl rfl ?_; apply jI; exact eS rfl; refine jz ?_; exact ⟨rfl, rfl⟩; apply jjT; exact rfl; rintro w' hq; have := hq.toStep; refine jT rfl rfl rfl ?_; apply jI; exact eI rfl; refine jz ?_; exact ⟨rfl, rfl⟩; apply jjT; exact rfl; rintro w' hq; have := hq.toStep; refine jT rfl rfl rfl ?_; refine jZ rfl rfl (by omega) ?_; refine jz ?_; exact ⟨rfl, rfl⟩; refine jjU ?_)))
    refine jjV [28] (by decide +kernel) hS5.ext (jjT (v := .pointer (some ⟨b2, o2 + k * 1, none⟩)) rfl (fun w' q1 => ?_) (jjU ?_)); (refine jT rfl rfl rfl ?_; refine jH k rfl rfl (by omega) (by omega) ?_; refine jz ?_; exact ⟨rfl, rfl⟩)
    refine jjV [29] (by decide +kernel) hS5.ext (jjT (v := .int .i64 (L[k] : Int)) rfl (fun w' q1 => ?_) (jjU ?_)); (refine jT rfl rfl rfl ?_; refine jR ((A0.ext q1).get (i := 0) rfl) rfl rfl ?_; refine jz ?_; exact ⟨rfl, rfl⟩)
    refine jjV [30] (by decide +kernel) hS5.ext (jjT (v := .pointer (some ⟨b1, o1 + L[k] * 1, none⟩)) rfl (fun w' q1 => ?_) (jjU ?_)); (refine jT rfl rfl rfl ?_; refine jH (L[k]) rfl rfl rfl (by omega) ?_; refine jz ?_; exact ⟨rfl, rfl⟩)
    refine jjV [31] (by decide +kernel) hS5.ext (jjT (v := .int .i64 (d[L[k]])) rfl (fun w' q1 => ?_) (jjU ?_)); (refine jT rfl rfl rfl ?_; refine jR ((D0.ext q1).get (i := 0) rfl) rfl rfl ?_; refine jz ?_; exact ⟨rfl, rfl⟩)
    by_cases hc : d[L[k + 1]] = d[L[k]]
    rotate_left
    · refine jjV [32, 33, 34, 35, 36, 37, 38, 39, 40, 41, 42, 43, 44, 45] (by decide +kernel) hS5.ext ?_
      (((apply jjT; exact rfl; rintro w' hq; have := hq.toStep; refine jT rfl rfl rfl ?_; refine jji rfl rfl (by omega) ?_; refine jz ?_; exact ⟨rfl, rfl⟩; apply jjT; exact rfl; rintro w' hq; have := hq.toStep; refine jT rfl rfl rfl ?_; apply jI; exact eB rfl; refine jz ?_; exact ⟨rfl, rfl⟩; apply jjT; exact rfl; rintro w' hq; have := hq.toStep; refine jU rfl rfl rfl rfl ?_; refine jz ?_; exact ⟨rfl, rfl⟩; apply jjT; exact rfl; rintro w' hq; have := hq.toStep; refine jU rfl rfl rfl rfl ?_; refine jz ?_; exact ⟨rfl, rfl⟩; apply jjT; exact rfl; rintro w' hq; have := hq.toStep; refine jU rfl rfl rfl rfl ?_; refine jz ?_; exact ⟨rfl, rfl⟩; apply jjT; exact rfl; rintro w' hq; have := hq.toStep; refine jU rfl rfl rfl rfl ?_; refine jz ?_; exact ⟨rfl, rfl⟩; apply jjT; exact rfl; rintro w' hq; have := hq.toStep; refine jU rfl rfl rfl rfl ?_; refine jz ?_; exact ⟨rfl, rfl⟩; apply jjT; exact rfl; rintro w' hq; have := hq.toStep; refine jU rfl rfl rfl rfl ?_; refine jz ?_; exact ⟨rfl, rfl⟩; apply jjT; exact rfl; rintro w' hq; have := hq.toStep; refine jU rfl rfl rfl rfl ?_; refine jz ?_; exact ⟨rfl, rfl⟩; apply jjT; exact rfl; rintro w' hq; have := hq.toStep; refine jU rfl rfl rfl rfl ?_; refine jz ?_; exact ⟨rfl, rfl⟩; apply jjT; exact rfl; rintro w' hq; have := hq.toStep; refine jU rfl rfl rfl rfl ?_; refine jz ?_; exact ⟨rfl, rfl⟩; apply jjT; exact rfl; rintro w' hq; have := hq.toStep; refine jU rfl rfl rfl rfl ?_; refine jz ?_; exact ⟨rfl, rfl⟩; apply jjT; exact rfl; rintro w' hq; have := hq.toStep; refine jT rfl rfl rfl ?_; apply jL rfl; exact eB rfl; refine jz ?_; exact ⟨rfl, rfl⟩; apply jjT; exact rfl; rintro w' hq; have := hq.toStep; apply jL rfl; exact eB rfl; refine jz ?_; exact ⟨rfl, rfl⟩; refine jjU ?_)))
      refine jjX (by decide +kernel) inferInstance ?_
      (refine jjK rfl ?_; refine jjG ?_; refine jjC ?_; apply jI; exact eI rfl; refine jY rfl rfl (by omega) ?_; apply jJ; exact eI rfl; refine jz ?_)
      refine ⟨rfl, by ((refine Same.upd rfl ?_; refine Same.upd rfl ?_; refine Same.upd rfl ?_; refine Same.upd rfl ?_; refine Same.upd rfl ?_; refine Same.upd rfl ?_; refine Same.upd rfl ?_; refine Same.upd rfl ?_; refine Same.upd rfl ?_; refine Same.upd rfl ?_; refine Same.upd rfl ?_; refine Same.upd rfl ?_; refine Same.upd rfl ?_; refine Same.upd rfl ?_; refine Same.upd rfl ?_; refine Same.upd rfl ?_; refine Same.upd rfl ?_; refine Same.upd rfl ?_; refine Same.upd rfl ?_; refine Same.upd rfl ?_; refine Same.upd rfl ?_; refine Same.upd rfl ?_; refine Same.upd rfl ?_; refine Same.upd rfl ?_; refine Same.upd rfl ?_; refine Same.upd rfl ?_; refine Same.upd rfl ?_; refine Same.upd rfl ?_; refine Same.upd rfl ?_; refine Same.upd rfl ?_; refine Same.upd rfl ?_; refine Same.upd rfl ?_; refine Same.upd rfl ?_; refine Same.upd rfl ?_; refine Same.upd rfl ?_; refine Same.upd rfl ?_; refine Same.upd rfl ?_; refine Same.upd rfl ?_; refine Same.upd rfl ?_; refine Same.upd rfl ?_; refine Same.upd rfl ?_; refine Same.upd rfl ?_; refine Same.upd rfl ?_; refine Same.upd rfl ?_; refine Same.upd rfl ?_; refine Same.upd rfl ?_; refine Same.upd rfl ?_; refine Same.upd rfl ?_; refine Same.upd rfl ?_; refine Same.upd rfl ?_; refine Same.upd rfl ?_; refine Same.upd rfl ?_; refine Same.upd rfl ?_; refine Same.upd rfl ?_; exact Same.ovN)), L.length - (k + 1), by omega, inferInstance, k + 1, congrArg (Value.int .i64) (by omega), rfl, .inr (by omega), fun i hi => ?_⟩
      by_cases e : i = k
      · subst e; rw [hbd]; simp [hb, hc]
      · exact hpre i (by omega)
    refine jjV [32, 33, 34, 35] (by decide +kernel) hS5.ext ?_
    (((apply jjT; exact rfl; rintro w' hq; have := hq.toStep; refine jT rfl rfl rfl ?_; refine jjh rfl rfl (by omega) ?_; refine jz ?_; exact ⟨rfl, rfl⟩; apply jjT; exact rfl; rintro w' hq; have := hq.toStep; refine jT rfl rfl rfl ?_; apply jI; exact eB rfl; refine jz ?_; exact ⟨rfl, rfl⟩; apply jjT; exact rfl; rintro w' hq; have := hq.toStep; refine jT rfl rfl rfl ?_; apply jI; exact eS rfl; refine jz ?_; exact ⟨rfl, rfl⟩; apply jjT; exact rfl; rintro w' hq; have := hq.toStep; refine jT rfl rfl rfl ?_; apply jI; exact eI rfl; refine jz ?_; exact ⟨rfl, rfl⟩; refine jjU ?_)))
    refine jjV [36] (by decide +kernel) hS5.ext (jjT (v := .pointer (some ⟨b2, o2 + (k + 1) * 1, none⟩)) rfl (fun w' q1 => ?_) (jjU ?_)); (refine jT rfl rfl rfl ?_; refine jH (k + 1) rfl rfl rfl (by omega) ?_; refine jz ?_; exact ⟨rfl, rfl⟩)
    refine jjV [37] (by decide +kernel) hS5.ext (jjT (v := .int .i64 (L[k + 1] : Int)) rfl (fun w' q1 => ?_) (jjU ?_)); (refine jT rfl rfl rfl ?_; refine jR ((A1.ext q1).get (i := 0) rfl) rfl rfl ?_; refine jz ?_; exact ⟨rfl, rfl⟩)
    refine jjV [38, 39, 40] (by decide +kernel) hS5.ext ?_
    (((apply jjT; exact rfl; rintro w' hq; have := hq.toStep; refine jT rfl rfl rfl ?_; apply jI; exact eS rfl; refine jz ?_; exact ⟨rfl, rfl⟩; apply jjT; exact rfl; rintro w' hq; have := hq.toStep; refine jT rfl rfl rfl ?_; apply jI; exact eI rfl; refine jz ?_; exact ⟨rfl, rfl⟩; apply jjT; exact rfl; rintro w' hq; have := hq.toStep; refine jT rfl rfl rfl ?_; refine jZ rfl rfl (by omega) ?_; refine jz ?_; exact ⟨rfl, rfl⟩; refine jjU ?_)))
    refine jjV [41] (by decide +kernel) hS5.ext (jjT (v := .pointer (some ⟨b2, o2 + k * 1, none⟩)) rfl (fun w' q1 => ?_) (jjU ?_)); (refine jT rfl rfl rfl ?_; refine jH k rfl rfl (by omega) (by omega) ?_; refine jz ?_; exact ⟨rfl, rfl⟩)
    refine jjV [42] (by decide +kernel) hS5.ext (jjT (v := .int .i64 (L[k] : Int)) rfl (fun w' q1 => ?_) (jjU ?_)); (refine jT rfl rfl rfl ?_; refine jR ((A0.ext q1).get (i := 0) rfl) rfl rfl ?_; refine jz ?_; exact ⟨rfl, rfl⟩)
    by_cases hd : L[k + 1] < L[k]
    · refine jjV [43, 44, 45] (by decide +kernel) hS5.ext ?_
      (((apply jjT; exact rfl; rintro w' hq; have := hq.toStep; refine jT rfl rfl rfl ?_; refine jjZ rfl rfl (by omega) ?_; refine jz ?_; exact ⟨rfl, rfl⟩; apply jjT; exact rfl; rintro w' hq; have := hq.toStep; refine jT rfl rfl rfl ?_; apply jK rfl; exact eB rfl; refine jz ?_; exact ⟨rfl, rfl⟩; apply jjT; exact rfl; rintro w' hq; have := hq.toStep; apply jL rfl; exact eB rfl; refine jz ?_; exact ⟨rfl, rfl⟩; refine jjU ?_)))
      refine jjX (by decide +kernel) inferInstance ?_
      (refine jjJ rfl ?_; refine jjB ?_; refine jjC ?_; apply jJ; exact eB rfl; refine jz ?_; refine jjF ?_; refine jB rfl rfl ⟨inferInstance, ?_⟩)
      rw [hbad (by rw [hbd]; simp [hc, hd])]; exact rfl
    · refine jjV [43, 44, 45] (by decide +kernel) hS5.ext ?_
      (((apply jjT; exact rfl; rintro w' hq; have := hq.toStep; refine jT rfl rfl rfl ?_; refine jja rfl rfl (by omega) ?_; refine jz ?_; exact ⟨rfl, rfl⟩; apply jjT; exact rfl; rintro w' hq; have := hq.toStep; refine jT rfl rfl rfl ?_; apply jK rfl; exact eB rfl; refine jz ?_; exact ⟨rfl, rfl⟩; apply jjT; exact rfl; rintro w' hq; have := hq.toStep; apply jL rfl; exact eB rfl; refine jz ?_; exact ⟨rfl, rfl⟩; refine jjU ?_)))
      refine jjX (by decide +kernel) inferInstance ?_
      (refine jjK rfl ?_; refine jjG ?_; refine jjC ?_; apply jI; exact eI rfl; refine jY rfl rfl (by omega) ?_; apply jJ; exact eI rfl; refine jz ?_)
      refine ⟨rfl, by ((refine Same.upd rfl ?_; refine Same.upd rfl ?_; refine Same.upd rfl ?_; refine Same.upd rfl ?_; refine Same.upd rfl ?_; refine Same.upd rfl ?_; refine Same.upd rfl ?_; refine Same.upd rfl ?_; refine Same.upd rfl ?_; refine Same.upd rfl ?_; refine Same.upd rfl ?_; refine Same.upd rfl ?_; refine Same.upd rfl ?_; refine Same.upd rfl ?_; refine Same.upd rfl ?_; refine Same.upd rfl ?_; refine Same.upd rfl ?_; refine Same.upd rfl ?_; refine Same.upd rfl ?_; refine Same.upd rfl ?_; refine Same.upd rfl ?_; refine Same.upd rfl ?_; refine Same.upd rfl ?_; refine Same.upd rfl ?_; refine Same.upd rfl ?_; refine Same.upd rfl ?_; refine Same.upd rfl ?_; refine Same.upd rfl ?_; refine Same.upd rfl ?_; refine Same.upd rfl ?_; refine Same.upd rfl ?_; refine Same.upd rfl ?_; refine Same.upd rfl ?_; refine Same.upd rfl ?_; refine Same.upd rfl ?_; refine Same.upd rfl ?_; refine Same.upd rfl ?_; refine Same.upd rfl ?_; refine Same.upd rfl ?_; refine Same.upd rfl ?_; refine Same.upd rfl ?_; refine Same.upd rfl ?_; refine Same.upd rfl ?_; refine Same.upd rfl ?_; refine Same.upd rfl ?_; refine Same.upd rfl ?_; refine Same.upd rfl ?_; refine Same.upd rfl ?_; refine Same.upd rfl ?_; refine Same.upd rfl ?_; refine Same.upd rfl ?_; refine Same.upd rfl ?_; refine Same.upd rfl ?_; refine Same.upd rfl ?_; exact Same.ovN)), L.length - (k + 1), by omega, inferInstance, k + 1, congrArg (Value.int .i64) (by omega), rfl, .inr (by omega), fun i hi => ?_⟩
      by_cases e : i = k
      · subst e; rw [hbd]; simp [hb, hd]
      · exact hpre i (by omega)
  · (refine jjB ?_; refine jjB ?_; refine jjC ?_; apply jI; exact eI rfl; apply jI; exact eS rfl; refine jh rfl ?_; refine jja rfl rfl (by omega) ?_; refine jz ?_; refine jjK rfl ?_; refine jjE ?_; refine jjB ?_; refine jjC ?_; apply jJ; exact eB rfl; refine jz ?_; refine jjF ?_; refine jB rfl rfl ⟨inferInstance, ?_⟩)
    have e : sortB d (L.map fun q : Nat => (q : Int)) = true := by
      rw [sortB, hab, Bool.true_and, List.all_eq_true]
      intro i hi
      simp at hi
      rw [hpre i (by omega)]; rfl
    rw [e]; exact rfl
end
/-- A plan for n slips with so many boxes. -/
def PlanL (n : Nat) (boxes : Int) (rs : List Rw) : Prop := ∀ x ∈ rs, x.2.2.length = n ∧ ∀ y ∈ x.2.2, 0 ≤ y ∧ y < boxes
set_option maxHeartbeats 4000000 in
theorem chosen_law6 (a1 : Option Addr) (c1 : Nat) (d : List Int) (ba : Option Addr) (bc : Nat) (by_ : List Int) (boxes : Int) (p : Nat) (hu : U32s by_) (hb : 2 ≤ boxes ∧ boxes ≤ 20) (hp : p ≤ 60) (hdl : d.length ≤ 60) (w : World) [h1 : RowI w (.slice a1 d.length c1) false 1 (d.map intV)] [h2 : RowI w (.slice ba by_.length bc) false 1 (by_.map u32V)] :
    Ct Tryz.prog 28 [.slice a1 d.length c1, .int .i64 boxes, .int .i64 (p : Int), .slice ba by_.length bc, .int .i64 0] w fun v w' => ∃ (a : Option Addr) (c : Nat) (rs : List Rw), v = .slice a rs.length c ∧ rs.length = p ∧ PlanL d.length boxes rs ∧ RowV w' false 1 (.slice a rs.length c) (rs.map encW) ∧ RowsI w' rs := by
  refine Ct.ofW (by simp) ?_
  (refine jjB ?_; refine jjC ?_; apply jJ; exact eS rfl; refine jz ?_; refine jjB ?_; refine jjC ?_; apply jJ; exact eS rfl; refine jz ?_; refine jjB ?_; refine jjB ?_; refine jjC ?_; apply jI; exact eI rfl; apply jI; exact eI rfl; refine jz ?_; refine jjD ?_)
  refine W.keep0 [(0, .slice a1 d.length c1), (1, .int .i64 boxes), (3, .slice ba by_.length bc), (4, .int .i64 0), (11, .slice none 0 0), (15, .int .i64 (p : Int)), (16, .int .i64 ((0 : Nat) : Int))] ⟨eS rfl, eI rfl, eS rfl, eI rfl, eS rfl, eI rfl, eI rfl, trivial⟩ fun s0 => ?_
  refine W.loopG (17 :: 18 :: 12 :: 13 :: 19 :: 20 :: 21 :: 22 :: 23 :: 14 :: 24 :: 25 :: 26 :: 27 :: 28 :: 29 :: 30 :: 31 :: 32 :: 33 :: 34 :: 35 :: 36 :: 37 :: 38 :: 39 :: 40 :: 41 :: 42 :: 43 :: 11 :: 44 :: 16 :: []) (fun g s' V => ∃ (k : Nat) (pv : Value) (ts : List Rw), s' 16 = .int .i64 (k : Int) ∧ s' 11 = pv ∧ g = p - k ∧ k ≤ p ∧ Ext w V ∧ ts.length = k ∧ PlanL d.length boxes ts ∧ OwnW V w.heap.size 26 3 pv ts) p ⟨0, _, [], rfl, rfl, rfl, Nat.zero_le _, Ext.refl _, rfl, fun x hx => by simp at hx, OwnW.nil _ _ _ _⟩ ?_
  rintro _ sd V ⟨k, pv, ts, h16, h11, rfl, hk, hEV, htl, hts, hOp⟩
  refine W.fix h16 (W.fix (d := 11) h11 ?_)
  clear h16 h11
  have hSV := hEV.toStep
  by_cases hkp : k < p
  rotate_left
  · obtain rfl : k = p := by omega
    obtain ⟨a5, c5, rfl⟩ := hOp.out.slice
    rw [List.length_map]
    (refine jjB ?_; refine jjC ?_; refine jja rfl rfl (by omega) ?_; refine jz ?_; refine jjB ?_; refine jjK rfl ?_; refine jjE ?_; refine jjB ?_; refine jjC ?_; apply jI; exact eS rfl; apply jJ; exact eS rfl; refine jz ?_; refine jjF ?_; refine jB rfl rfl ⟨inferInstance, ?_⟩)
    refine ⟨a5, c5, ts, rfl, htl, hts, ?_, hOp.rows⟩
    have := hOp.out.row
    rwa [List.length_map] at this
  obtain ⟨M, hM⟩ : ∃ M : Nat, d.length * k = M := ⟨_, rfl⟩
  have hM' : (d.length : Int) * (k : Int) = (M : Int) := by rw [← hM]; push_cast; rfl
  have hMb : M ≤ 60 * 60 := hM ▸ Nat.mul_le_mul hdl (by omega)
  (refine jjB ?_; refine jjC ?_; refine jjZ rfl rfl (by omega) ?_; refine jz ?_; refine jjB ?_; refine jjJ rfl ?_; refine jjG ?_; refine jjB ?_; refine jjD ?_; refine jjB ?_; refine jjC ?_; apply jI; exact eI rfl; apply jJ; exact eI rfl; refine jz ?_; refine jjB ?_; refine jjC ?_; apply jJ; exact eS rfl; refine jz ?_; refine jjB ?_; refine jjB ?_; refine jjC ?_; apply jI; exact eS rfl; refine jh rfl ?_; apply jI; exact eI rfl; refine jz ?_; refine jjD ?_)
  refine W.keep [(0, .slice a1 d.length c1), (1, .int .i64 boxes), (3, .slice ba by_.length bc), (4, .int .i64 0), (11, pv), (12, .int .i64 (k : Int)), (13, .slice none 0 0), (15, .int .i64 (p : Int)), (16, .int .i64 (k : Int)), (20, .int .i64 (d.length : Int)), (21, .int .i64 ((0 : Nat) : Int))] (D := (17 :: 18 :: 12 :: 13 :: 19 :: 20 :: 21 :: 22 :: 23 :: 14 :: 24 :: 25 :: 26 :: 27 :: 28 :: 29 :: 30 :: 31 :: 32 :: 33 :: 34 :: 35 :: 36 :: 37 :: 38 :: 39 :: 40 :: 41 :: 42 :: 43 :: 11 :: 44 :: 16 :: [])) (sO := upds s0 _) (by ((refine Same.upd rfl ?_; refine Same.upd rfl ?_; refine Same.upd rfl ?_; refine Same.upd rfl ?_; refine Same.upd rfl ?_; refine Same.upd rfl ?_; refine Same.upd rfl ?_; refine Same.upd rfl ?_; refine Same.upd rfl ?_; exact Same.ovN))) ⟨eS rfl, eI rfl, eS rfl, eI rfl, rfl, eI rfl, eS rfl, eI rfl, eI rfl, eI rfl, eI rfl, trivial⟩ fun s1 hs1 => ?_
  refine W.loopG (22 :: 23 :: 14 :: 24 :: 25 :: 26 :: 27 :: 28 :: 29 :: 30 :: 31 :: 32 :: 33 :: 34 :: 35 :: 36 :: 37 :: 38 :: 13 :: 39 :: 21 :: []) (fun g' s' V2 => ∃ (q : Nat) (rv : Value) (ys : List Int), s' 21 = .int .i64 (q : Int) ∧ s' 13 = rv ∧ g' = d.length - q ∧ q ≤ d.length ∧ Ext V V2 ∧ ys.length = q ∧ (∀ y ∈ ys, 0 ≤ y ∧ y < boxes) ∧ OwnL V2 V.heap.size 3 false 1 rv (ys.map intV)) d.length ⟨0, _, [], rfl, rfl, rfl, Nat.zero_le _, Ext.refl _, rfl, by simp, OwnL.nil _ _ _ _ _⟩ ?_
  rintro _ sd2 V2 ⟨q, rv, ys, h21, h13, rfl, hq, hE2, hyl, hys, hOv⟩
  refine W.fix h21 (W.fix (d := 13) h13 ?_)
  clear h21 h13
  have hS2 := hE2.toStep
  have z2 := hE2.size
  have zV := hEV.size
  obtain ⟨a5, c5, rfl⟩ := hOv.slice
  rw [List.length_map, hyl] at hOv ⊢
  by_cases hqd : q < d.length
  rotate_left
  · obtain rfl : q = d.length := by omega
    (refine jjB ?_; refine jjC ?_; refine jja rfl rfl (by omega) ?_; refine jz ?_; refine jjB ?_; refine jjK rfl ?_; refine jjE ?_; refine jjC ?_; apply jI; exact rfl; apply jI; exact eS rfl)
    (refine jjP (v := .slice _ _ _) rfl (by exact rfl) (by exact rfl) (by exact rfl) (by exact rfl) ?_; intro b6 w_b6 hb_b6 hs_b6 hS_b6 hk_b6; have hR_b6 := RowV.one (agg := false) (k := 1) rfl hk_b6)
    have hxr : OwnL w_b6 w.heap.size 3 false 1 (encW (a5, c5, ys)) (ys.map intV) := by
      have := (hOv.ext hS_b6.ext).mono zV
      rw [← hyl] at this
      exact this
    have z6 := hS_b6.size
    have hOp6 := (hOp.ext hE2).ext hS_b6.ext
    refine Ops.appendL hOp6.out (by omega) hR_b6 rfl rfl rfl rfl rfl ?_ ?_ ?_
    · simp only [List.length_map, List.length_cons, List.length_nil]; omega
    · simp only [List.length_map, List.length_cons, List.length_nil]; omega
    intro v7 w7 hA7 hO7 _ _
    have hE7 : Ext w w7 := hA7.ext ((hEV.trans hE2).trans hS_b6.ext) (Nat.le_refl _)
    (apply jJ; exact rfl; refine jz ?_; refine jjC ?_; refine jY rfl rfl (by omega) ?_; apply jI; exact eI rfl; refine jz ?_)
    refine ⟨rfl, by ((refine Same.upd rfl ?_; refine Same.upd rfl ?_; refine Same.upd rfl ?_; refine Same.upd rfl ?_; refine Same.upd rfl ?_; refine Same.upd rfl ?_; refine Same.upd rfl ?_; refine Same.upd rfl ?_; refine Same.upd rfl ?_; refine Same.upd rfl ?_; refine Same.ovN' rfl ?_; assumption)), p - (k + 1), by omega, k + 1, v7, ts ++ [(a5, c5, ys)], congrArg (Value.int .i64) (by omega), rfl, rfl, by omega, hE7, by simp [htl], fun x hx => ?_, ?_⟩
    · rcases List.mem_append.1 hx with h | h
      · exact hts x h
      · have : x = (a5, c5, ys) := by simpa using h
        subst this
        exact ⟨hyl, hys⟩
    · refine hOp6.snoc hxr hA7 ?_ (by decide)
      rw [← hyl] at hO7
      exact hO7
  (refine jjB ?_; refine jjC ?_; refine jjZ rfl rfl (by omega) ?_; refine jz ?_; refine jjB ?_; refine jjJ rfl ?_; refine jjG ?_; refine jjB ?_; refine jjD ?_; refine jjB ?_; refine jjC ?_; apply jI; exact eI rfl; apply jJ; exact eI rfl; refine jz ?_; refine jjC ?_; apply jI; exact eS rfl; apply jI; exact eS rfl; apply jI; exact eI rfl; apply jI; exact eS rfl; refine jh rfl ?_; apply jI; exact eI rfl)
  refine Ops.mul rfl rfl (by rw [hM']; omega) ?_
  rw [hM']
  (refine jY rfl rfl (by omega) ?_; apply jI; exact eI rfl; refine jY rfl rfl (by omega) ?_)
  refine jjQ (choose_law6 ba bc by_ (0 + M + q) hu (by omega) _) rfl (congrArg (fun x => [Value.slice ba by_.length bc, Value.int .i64 x]) (show (0 : Int) + (M : Int) + (q : Int) = ((0 + M + q : Nat) : Int) by omega)) ?_
  rintro _ w8 hS8 ⟨x, rfl, hx0, hx1⟩
  (apply jI; exact eI rfl)
  refine Ops.rem rfl rfl (by omega) (by omega) ?_
  have hr1 := Int.emod_nonneg x (show boxes ≠ 0 by omega)
  have hr2 := Int.emod_lt_of_pos x (show 0 < boxes by omega)
  generalize x % boxes = R at *
  skip
  (refine jjP (v := .int _ _) rfl (by exact rfl) (by exact rfl) (by exact rfl) (by exact rfl) ?_; intro b5 w_b5 hb_b5 hs_b5 hS_b5 hk_b5; have hR_b5 := RowV.one (agg := false) (k := 1) rfl hk_b5)
  have hE5 : Ext V2 w_b5 := inferInstance
  have z5 := hE5.size
  refine Ops.appendL (hOv.ext hE5) (by omega) hR_b5 rfl rfl rfl rfl (one_int _) ?_ ?_ ?_
  · rw [List.length_map]; simp only [List.length_cons, List.length_nil]; omega
  · rw [List.length_map]; simp only [List.length_cons, List.length_nil]; omega
  intro v6 w6 hA6 hO6 _ _
  (apply jJ; exact rfl; refine jz ?_; refine jjC ?_; refine jY rfl rfl (by omega) ?_; apply jI; exact eI rfl; refine jz ?_)
  refine ⟨rfl, by ((refine Same.upd rfl ?_; refine Same.upd rfl ?_; refine Same.upd rfl ?_; refine Same.upd rfl ?_; refine Same.upd rfl ?_; refine Same.upd rfl ?_; refine Same.upd rfl ?_; refine Same.upd rfl ?_; refine Same.upd rfl ?_; refine Same.upd rfl ?_; refine Same.upd rfl ?_; refine Same.upd rfl ?_; refine Same.upd rfl ?_; refine Same.upd rfl ?_; refine Same.upd rfl ?_; refine Same.upd rfl ?_; refine Same.upd rfl ?_; refine Same.upd rfl ?_; refine Same.upd rfl ?_; refine Same.upd rfl ?_; refine Same.upd rfl ?_; refine Same.upd rfl ?_; refine Same.upd rfl ?_; exact Same.ovN)), d.length - (q + 1), by omega, q + 1, v6, ys ++ [R], congrArg (Value.int .i64) (by omega), rfl, rfl, by omega, hA6.ext (hE2.trans hE5) (Nat.le_refl _), by simp [hyl], fun y hy => ?_, ?_⟩
  · rcases List.mem_append.1 hy with h | h
    · exact hys y h
    · have : y = R := by simpa using h
      omega
  · rw [List.map_append]
    exact hO6
end Go.Proofs.YtpijeomnplmakaaGreatDoor

/- Plain: plans that may be sorted by. -/
namespace Go.Proofs.YtpijeomnplmakaaGreatDoor
open Go.RowKit

theorem len_big {w : World} {agg : Bool} {k : Nat} {v : Value} {l : List Int} (h : RowV w agg k v (l.map intV)) : l.length ≤ 1000000000000000 := by
  have := h.len
  rw [List.length_map] at this
  omega
theorem planL_good {n : Nat} {boxes : Int} {rs : List Rw} (h : PlanL n boxes rs) (hl : rs.length ≤ 8) : planBad n boxes rs = false := by
  rw [planBad, Bool.or_eq_false_iff, decide_eq_false_iff_not]
  refine ⟨?_, by omega⟩
  rw [Bool.eq_false_iff]
  intro hc
  obtain ⟨x, hx, hb⟩ := List.any_eq_true.1 hc
  obtain ⟨h1, h2⟩ := h x hx
  rw [rowBad, Bool.or_eq_true, decide_eq_true_eq] at hb
  rcases hb with hb | hb
  · exact hb (by rw [h1])
  · have : x.2.2.all (inB 0 (boxes - 1)) = true := List.all_eq_true.2 fun y hy => by
      have := h2 y hy
      rw [inB, decide_eq_true_eq]
      omega
    rw [this] at hb
    exact absurd hb (by decide)
theorem plan_L {d : List Int} {b p : Nat} {rs : List Rw} (hb : 1 ≤ b) (h : rs.map (·.2.2) = planP b p (numF d)) : PlanL d.length (b : Int) rs := fun x hx => by
  have hm : x.2.2 ∈ planP b p (numF d) := h ▸ List.mem_map.2 ⟨x, hx, rfl⟩
  obtain ⟨h1, h2⟩ := plan_I (d := d) (p := p) hb x.2.2 hm
  exact ⟨h1, fun y hy => by have := h2 y hy; omega⟩
theorem plan_LI {n b : Nat} {rs : List Rw} (h : PlanL n (b : Int) rs) : PlanI n b (rs.map (·.2.2)) := fun r hr => by
  obtain ⟨x, hx, rfl⟩ := List.mem_map.1 hr
  obtain ⟨h1, h2⟩ := h x hx
  exact ⟨h1, fun y hy => by have := h2 y hy; omega⟩
theorem plan_len {d : List Int} {b p : Nat} {rs : List Rw} (h : rs.map (·.2.2) = planP b p (numF d)) : rs.length = p := by
  have := congrArg List.length h
  simpa [planP] using this
theorem end_le {d : List Int} (h : d.length ≤ 60) : (endF d).length ≤ 60 := by
  have := (opF_len d.length (ordF d)).2
  have h2 := ordF_len d
  show (opF d.length (ordF d)).2.1.length ≤ 60
  omega
theorem ready_facts {d : List Int} {boxes : Int} (h : (deckB d && decide (2 ≤ boxes) && decide (boxes ≤ 20)) = true) : deckB d = true ∧ (2 ≤ boxes ∧ boxes ≤ 20) ∧ opE d boxes = 0 ∧ d.length ≤ 60 := by
  simp only [Bool.and_eq_true, decide_eq_true_eq] at h
  obtain ⟨⟨h1, h2⟩, h3⟩ := h
  exact ⟨h1, ⟨h2, h3⟩, by rw [opE, if_pos h1, if_pos (by rw [inB, decide_eq_true_eq]; exact ⟨h2, h3⟩)], deckB_len h1⟩
end Go.Proofs.YtpijeomnplmakaaGreatDoor

/- Plain: pairs of neighbours (RackFewest). -/
namespace Go.Proofs.YtpijeomnplmakaaGreatDoor
open Go.RowKit

theorem prs_pair {R : Int → Int → Prop} (L : List Int) (j : Nat) (hR : ∀ i k, i ≤ k → k ≤ j → R (gd L i) (gd L k)) : (prs L j).Pairwise fun x y => R x.2 y.1 := by
  induction j with
  | zero => exact List.Pairwise.nil
  | succ j ih =>
    rw [prs, List.pairwise_append]
    refine ⟨ih fun i k h1 h2 => hR i k h1 (by omega), ?_, fun x hx y hy => ?_⟩
    · split
      · exact List.pairwise_singleton _ _
      · exact List.Pairwise.nil
    · obtain ⟨i, h1, h2, rfl⟩ := prs_mem L hx
      split at hy
      · rw [List.mem_singleton] at hy
        subst hy
        exact hR (i + 1) j (by omega) (by omega)
      · cases hy
/-- Neighbours in the order, the second of which lies before the first. -/
structure NbrI (d : List Int) (x : Int × Int) (p q : Nat) : Prop where
  eq : x = ((p : Int), (q : Int))
  lt : p < d.length
  qp : q < p
  up : gd d p < gd d q
  btw : ∀ t, t < d.length → gd d p < gd d t → gd d q ≤ gd d t
  fst : ∀ t, t < d.length → gd d t = gd d p → t ≤ p
  snd : ∀ t, t < d.length → gd d t = gd d q → q ≤ t
theorem nbr_facts {d : List Int} {x : Int × Int} (hx : x ∈ endF d) : ∃ p q : Nat, NbrI d x p q := by
  rw [end_eq] at hx
  have hl := ordF_len d
  obtain ⟨i, h1, h2, rfl⟩ := prs_mem _ hx
  have r0 := ordF_rng (d := d) (i := i) (by omega)
  have r1 := ordF_rng (d := d) (i := i + 1) (by omega)
  have hp := ordF_pair d
  have h3 := pair_gd hp (show i < i + 1 by omega) (by omega)
  obtain ⟨p, ep⟩ : ∃ p : Nat, gd (ordF d) i = (p : Int) := ⟨(gd (ordF d) i).toNat, by omega⟩
  obtain ⟨q, eq⟩ : ∃ q : Nat, gd (ordF d) (i + 1) = (q : Int) := ⟨(gd (ordF d) (i + 1)).toNat, by omega⟩
  have key : ∀ t : Nat, t < d.length → bfD d (t : Int) (p : Int) ∨ t = p ∨ t = q ∨ bfD d (q : Int) (t : Int) := fun t ht => by
    obtain ⟨j, j1, j2⟩ := ord_pos ht
    rcases Nat.lt_trichotomy j i with c | c | c
    · have := pair_gd hp c (by omega)
      rw [j2, ep] at this
      exact .inl this
    · subst c; exact .inr (.inl (by omega))
    · by_cases c2 : j = i + 1
      · subst c2; exact .inr (.inr (.inl (by omega)))
      · have := pair_gd hp (show i + 1 < j by omega) (by omega)
        rw [j2, eq] at this
        exact .inr (.inr (.inr this))
  rw [ep, eq] at h2 h3
  rw [ep] at r0
  simp only [bfD, key_gd] at h3 key
  refine ⟨p, q, by rw [ep, eq], by omega, by omega, by omega, fun t ht h => ?_, fun t ht h => ?_, fun t ht h => ?_⟩
  all_goals
    rcases key t ht with k | k | k | k
    · omega
    · subst k; omega
    · subst k; omega
    · omega
/-- Pairs come one behind the other. -/
theorem nbr_next (d : List Int) : (endF d).Pairwise fun x y => keyD d x.2 ≤ keyD d y.1 := by
  rw [end_eq]
  refine prs_pair (R := fun a b => keyD d a ≤ keyD d b) _ _ fun i k h1 h2 => ?_
  by_cases e : i = k
  · subst e; exact Int.le_refl _
  · have hl := ordF_len d
    by_cases h0 : d.length = 0
    · omega
    have := pair_gd (ordF_pair d) (show i < k by omega) (by omega)
    simp only [bfD] at this
    omega
/-- What the last pair leaves. -/
def LstI (d : List Int) (P : List (Int × Int)) (k : Nat) (x : Int) : Prop := (k = 0 ∧ x = -1) ∨ ∃ j, k = j + 1 ∧ ∃ h : j < P.length, x = keyD d P[j].2
theorem LstI.le {d : List Int} {P : List (Int × Int)} {k : Nat} {x : Int} (h : LstI d P k x) (hk : k < P.length) (hP : P.Pairwise fun x y => keyD d x.2 ≤ keyD d y.1) (h0 : 0 ≤ keyD d P[k].1) : x ≤ keyD d P[k].1 := by
  rcases h with ⟨_, rfl⟩ | ⟨j, rfl, hj, rfl⟩
  · omega
  · exact List.pairwise_iff_getElem.1 hP j (j + 1) hj hk (by omega)
/-- A plan with fewer passes does not sort. -/
theorem plan_few {d : List Int} {b p : Nat} {rs : List Rw} (hb : 1 ≤ b) (h : PlanL d.length (b : Int) rs) (hp : PassR b (endF d).length (p + 1)) (hr : rs.length = p) : sortF d.length rs ≠ ordF d := fun e => by
  rw [sortF_P] at e
  have h1 := fewest hb (plan_LI h) e
  rw [List.length_map, hr] at h1
  have := hp.2 p (by omega)
  omega
theorem deck_pos {d : List Int} (h : deckB d = true) {i : Nat} (hi : i < d.length) : 0 ≤ gd d i ∧ gd d i ≤ 999 := by
  simp only [deckB, Bool.and_eq_true, List.all_eq_true] at h
  have := h.2 (gd d i) (gd_mem hi)
  simpa [inB] using this
end Go.Proofs.YtpijeomnplmakaaGreatDoor

/- The reference: parts of a text, slips that are valid. -/
namespace Go.Proofs.YtpijeomnplmakaaGreatDoor
open Go.RowKit

end Go.Proofs.YtpijeomnplmakaaGreatDoor

/- Plain law: runs of words, contexts, the longest context. -/
namespace Go.Proofs.YtpijeomnplmakaaGreatDoor
open Go.RowKit

/-! ### Words and places of a chapter -/
/-! ### Lengths -/
/-! ### The order of contexts -/
/-! ### The first of a list -/
/-! ### Contexts -/
end Go.Proofs.YtpijeomnplmakaaGreatDoor

/- Plain law: places of a chapter, lengths of parts of it, its slips. -/
namespace Go.Proofs.YtpijeomnplmakaaGreatDoor
open Go.RowKit

end Go.Proofs.YtpijeomnplmakaaGreatDoor

/- slip: the run of a chapter. -/
namespace Go.Proofs.YtpijeomnplmakaaGreatDoor
open Go.RowKit

section
variable (a : Option Addr) (c : Nat) (cs : List Ch) (w : World) [hrow : RowI w (.slice a cs.length c) true 2 (cs.map encCh)] [hT : TextI w cs]
end
end Go.Proofs.YtpijeomnplmakaaGreatDoor

/- Plain law: the slips of a text. -/
namespace Go.Proofs.YtpijeomnplmakaaGreatDoor
open Go.RowKit

/-! Words of a valid text are short. -/
end Go.Proofs.YtpijeomnplmakaaGreatDoor

/- slip: words of a text, slips that are right. -/
namespace Go.Proofs.YtpijeomnplmakaaGreatDoor
open Go.RowKit

theorem wordsB_len {s : ByteArray} (h0 : s.size ≠ 0) (h : ¬ s.size ≤ 80) : wordsB s = false := by simp [wordsB, h0, h]
theorem wordsB_all {s : ByteArray} (h0 : s.size ≠ 0) (h : s.size ≤ 80) : wordsB s = (splB s).all wordB := by simp [wordsB, h0, h]
section
variable (w : World) [hm : MxI w]
set_option maxHeartbeats 1000000 in
theorem words_slip (s : ByteArray) (hs : s.size ≤ 1000) : Ct Tryz.prog 113 [.string s] w fun v w' => ∃ sv, v = .tuple #[sv, .bool (wordsB s)] ∧ OwnL w' w.heap.size 9 false 1 sv ((wordsL s).map strV) := by
  refine Ct.ofW (by simp) ?_
  (refine jjB ?_; refine jjC ?_; apply jJ; exact eS rfl; apply jJ; exact eB rfl; refine jz ?_; refine jjH ?_; refine jjB ?_; refine jjB ?_; refine jjC ?_; apply jI; exact eT rfl)
  refine Ops.eqlS rfl rfl ?_
  by_cases h0 : s.size = 0
  · have e0 := str_nil.2 h0
    subst e0
    rw [decide_eq_true rfl]
    (refine jz ?_; refine jjJ rfl ?_; refine jjB ?_; refine jjC ?_; apply jJ; exact eS rfl; apply jJ; exact eB rfl; refine jz ?_; refine jjF ?_; refine jC rfl rfl rfl ⟨inferInstance, ?_⟩)
    exact ⟨_, rfl, OwnL.nil _ _ _ _ _⟩
  have hne : ¬ s = ⟨#[]⟩ := fun e => h0 (str_nil.1 e)
  rw [decide_eq_false hne]
  have hb := splB_bound s
  (refine jz ?_; refine jjK rfl ?_; refine jjG ?_; refine jjB ?_; refine jjC ?_; apply jI; exact eT rfl)
  refine jjQ (Split_str s _ (by omega)) rfl rfl ?_
  rintro _ w2 hS2 ⟨sv, rfl, hO⟩
  obtain ⟨a, c, rfl⟩ := hO.slice
  rw [List.length_map] at hO ⊢
  have hE2 : Ext w w2 := inferInstance
  have hL : wordsL s = splB s := by rw [wordsL, if_neg h0]
  rw [hL]
  by_cases h80 : s.size ≤ 80
  · have hwb := wordsB_all h0 h80
    (apply jJ; exact eS rfl; refine jz ?_; refine jjB ?_; refine jjC ?_; apply jI; exact eT rfl; refine ji rfl ?_; refine jjb rfl rfl (by omega) ?_; apply jJ; exact eB rfl; refine jz ?_; refine jjB ?_; refine jjI ?_; refine jjB ?_; refine jjB ?_; refine jjC ?_; apply jI; exact eS rfl; refine jh rfl ?_; apply jI; exact eI rfl; refine jz ?_; refine jjD ?_)
    refine W.keep0 [(4, .slice a (splB s).length c), (5, .bool true), (15, .slice a (splB s).length c), (16, .int .i64 (((splB s).length : Nat) : Int)), (17, .int .i64 ((0 : Nat) : Int))] ⟨eS rfl, eB rfl, eS rfl, eI rfl, eI rfl, trivial⟩ fun s0 => ?_
    refine W.loop (18 :: 19 :: 20 :: 7 :: 21 :: 22 :: 23 :: 5 :: 24 :: 17 :: []) (fun g s' V => ∃ k : Nat, s' 17 = .int .i64 ((k : Nat) : Int) ∧ s' 5 = .bool true ∧ g = (splB s).length - k ∧ k ≤ (splB s).length ∧ ∀ (j : Nat) (hj : j < (splB s).length), j < k → wordB (splB s)[j] = true) (splB s).length ⟨0, rfl, rfl, rfl, Nat.zero_le _, by intros; omega⟩ ?_
    rintro _ sd w3 hS3 ⟨k, h17, h5, rfl, hk, hpre⟩
    refine W.fix h17 (W.fix (d := 5) h5 ?_)
    clear h17 h5
    by_cases hkl : k < (splB s).length
    rotate_left
    · have hall : (splB s).all wordB = true := all_yes fun j hj => hpre j hj (by omega)
      (refine jjB ?_; refine jjC ?_; refine jja rfl rfl (by omega) ?_; refine jz ?_; refine jjB ?_; refine jjK rfl ?_; refine jjE ?_; refine jjB ?_; refine jjC ?_; apply jI; exact eS rfl; apply jI; exact eB rfl; apply jJ; exact eS rfl; apply jJ; exact eB rfl; refine jz ?_; refine jjF ?_; refine jC rfl rfl rfl ⟨inferInstance, ?_⟩)
      rw [hwb, hall]
      exact ⟨_, rfl, (hO.ext hS3.ext)⟩
    have hsz := hb.2 _ (List.getElem_mem hkl)
    have i3 : RowI w3 (.slice a (splB s).length c) false 1 ((splB s).map strV) := ⟨(hO.ext hS3.ext).row⟩
    obtain ⟨B, hB⟩ : ∃ B, wordB (splB s)[k] = B := ⟨_, rfl⟩
    (refine jjB ?_; refine jjC ?_; refine jjZ rfl rfl (by omega) ?_; refine jz ?_; refine jjB ?_; refine jjJ rfl ?_; refine jjG ?_; refine jjB ?_; refine jjD ?_; refine jjB ?_; refine jjC ?_; refine jF rfl rfl rfl (map_get (by omega)) ?_; intro _ _ _; refine jQ rfl rfl ?_; apply jJ; exact eT rfl; refine jz ?_; refine jjB ?_; refine jjC ?_; apply jI; exact eT rfl)
    refine jjQ ((word_slip (splB s)[k] _ (by omega)).mono fun v _ _ e => e.trans (by rw [hB])) rfl rfl ?_
    rintro _ w4 hS4 rfl
    cases B
    · have hall : (splB s).all wordB = false := all_no hkl hB
      (refine jq rfl ?_; refine jz ?_; refine jjJ rfl ?_; refine jjB ?_; refine jjC ?_; apply jJ; exact eB rfl; refine jz ?_; refine jjE ?_; refine jjB ?_; refine jjC ?_; apply jI; exact eS rfl; apply jI; exact eB rfl; apply jJ; exact eS rfl; apply jJ; exact eB rfl; refine jz ?_; refine jjF ?_; refine jC rfl rfl rfl ⟨inferInstance, ?_⟩)
      rw [hwb, hall]
      exact ⟨_, rfl, hO.ext (hS3.ext.trans hS4.ext)⟩
    · (refine jp rfl ?_; refine jz ?_; refine jjK rfl ?_; refine jjG ?_; refine jjC ?_; refine jY rfl rfl (by omega) ?_; apply jI; exact eI rfl; refine jz ?_)
      refine ⟨rfl, by ((refine Same.upd rfl ?_; refine Same.upd rfl ?_; refine Same.upd rfl ?_; refine Same.upd rfl ?_; refine Same.upd rfl ?_; refine Same.upd rfl ?_; refine Same.upd rfl ?_; refine Same.upd rfl ?_; refine Same.upd rfl ?_; refine Same.upd rfl ?_; refine Same.upd rfl ?_; exact Same.ovN)), (splB s).length - (k + 1), by omega, inferInstance, k + 1, congrArg (Value.int .i64) (by omega), rfl, rfl, by omega, fun j hj hjk => ?_⟩
      by_cases e : j = k
      · subst e; exact hB
      · exact hpre j hj (by omega)
  · have hwb := wordsB_len h0 h80
    (apply jJ; exact eS rfl; refine jz ?_; refine jjB ?_; refine jjC ?_; apply jI; exact eT rfl; refine ji rfl ?_; refine jjc rfl rfl (by omega) ?_; apply jJ; exact eB rfl; refine jz ?_; refine jjB ?_; refine jjI ?_; refine jjB ?_; refine jjB ?_; refine jjC ?_; apply jI; exact eS rfl; refine jh rfl ?_; apply jI; exact eI rfl; refine jz ?_; refine jjD ?_)
    refine W.keep0 [(4, .slice a (splB s).length c), (5, .bool false), (15, .slice a (splB s).length c), (16, .int .i64 (((splB s).length : Nat) : Int)), (17, .int .i64 ((0 : Nat) : Int))] ⟨eS rfl, eB rfl, eS rfl, eI rfl, eI rfl, trivial⟩ fun s0 => ?_
    refine W.loop (18 :: 19 :: 20 :: 7 :: 21 :: 22 :: 23 :: 5 :: 24 :: 17 :: []) (fun g s' V => ∃ k : Nat, s' 17 = .int .i64 ((k : Nat) : Int) ∧ s' 5 = .bool false ∧ g = (splB s).length - k ∧ k ≤ (splB s).length) (splB s).length ⟨0, rfl, rfl, rfl, Nat.zero_le _⟩ ?_
    rintro _ sd w3 hS3 ⟨k, h17, h5, rfl, hk⟩
    refine W.fix h17 (W.fix (d := 5) h5 ?_)
    clear h17 h5
    by_cases hkl : k < (splB s).length
    rotate_left
    · (refine jjB ?_; refine jjC ?_; refine jja rfl rfl (by omega) ?_; refine jz ?_; refine jjB ?_; refine jjK rfl ?_; refine jjE ?_; refine jjB ?_; refine jjC ?_; apply jI; exact eS rfl; apply jI; exact eB rfl; apply jJ; exact eS rfl; apply jJ; exact eB rfl; refine jz ?_; refine jjF ?_; refine jC rfl rfl rfl ⟨inferInstance, ?_⟩)
      rw [hwb]
      exact ⟨_, rfl, (hO.ext hS3.ext)⟩
    have hsz := hb.2 _ (List.getElem_mem hkl)
    have i3 : RowI w3 (.slice a (splB s).length c) false 1 ((splB s).map strV) := ⟨(hO.ext hS3.ext).row⟩
    obtain ⟨B, hB⟩ : ∃ B, wordB (splB s)[k] = B := ⟨_, rfl⟩
    (refine jjB ?_; refine jjC ?_; refine jjZ rfl rfl (by omega) ?_; refine jz ?_; refine jjB ?_; refine jjJ rfl ?_; refine jjG ?_; refine jjB ?_; refine jjD ?_; refine jjB ?_; refine jjC ?_; refine jF rfl rfl rfl (map_get (by omega)) ?_; intro _ _ _; refine jQ rfl rfl ?_; apply jJ; exact eT rfl; refine jz ?_; refine jjB ?_; refine jjC ?_; apply jI; exact eT rfl)
    refine jjQ ((word_slip (splB s)[k] _ (by omega)).mono fun v _ _ e => e.trans (by rw [hB])) rfl rfl ?_
    rintro _ w4 hS4 rfl
    cases B
    · (refine jq rfl ?_; refine jz ?_; refine jjJ rfl ?_; refine jjB ?_; refine jjC ?_; apply jJ; exact eB rfl; refine jz ?_; refine jjE ?_; refine jjB ?_; refine jjC ?_; apply jI; exact eS rfl; apply jI; exact eB rfl; apply jJ; exact eS rfl; apply jJ; exact eB rfl; refine jz ?_; refine jjF ?_; refine jC rfl rfl rfl ⟨inferInstance, ?_⟩)
      rw [hwb]
      exact ⟨_, rfl, hO.ext (hS3.ext.trans hS4.ext)⟩
    · (refine jp rfl ?_; refine jz ?_; refine jjK rfl ?_; refine jjG ?_; refine jjC ?_; refine jY rfl rfl (by omega) ?_; apply jI; exact eI rfl; refine jz ?_)
      exact ⟨rfl, by ((refine Same.upd rfl ?_; refine Same.upd rfl ?_; refine Same.upd rfl ?_; refine Same.upd rfl ?_; refine Same.upd rfl ?_; refine Same.upd rfl ?_; refine Same.upd rfl ?_; refine Same.upd rfl ?_; refine Same.upd rfl ?_; refine Same.upd rfl ?_; refine Same.upd rfl ?_; exact Same.ovN)), (splB s).length - (k + 1), by omega, inferInstance, k + 1, congrArg (Value.int .i64) (by omega), rfl, rfl, by omega⟩
end
end Go.Proofs.YtpijeomnplmakaaGreatDoor

/- The order of texts and of slips: cmp.Compare of texts, slip.right, slip.Order. -/
namespace Go.Proofs.YtpijeomnplmakaaGreatDoor
open Go.RowKit

/-- The order of two texts. -/
def cmpS (x y : ByteArray) : Int := if Op.bytesLess x.toList y.toList then -1 else if x = y then 0 else 1
def slipB (x : Slp) : Bool := wordsB x.2.2.1 && (wordsB x.2.2.2 && wordB x.2.1)
def SmallS (x : Slp) : Prop := x.2.1.size ≤ 1000 ∧ x.2.2.1.size ≤ 1000 ∧ x.2.2.2.size ≤ 1000
/-- The order of two slips. -/
def ordS (a b : Slp) : Int := orF [cmpS a.2.1 b.2.1, cmpP a.1 b.1, cmpS a.2.2.2 b.2.2.2, cmpS a.2.2.1 b.2.2.1]
def ordR (a b : Slp) : Int × Int := if slipB a && slipB b then (ordS a b, 0) else (0, 31)

theorem isNaN_str (x : ByteArray) (w : World) : Ct Tryz.prog 115 [.string x] w fun v _ => v = .bool false := by
  refine Ct.ofW (by simp) ?_
  (refine jjB ?_; refine jjC ?_; apply jJ; exact eB rfl; refine jz ?_; refine jjB ?_; refine jjC ?_; apply jI; exact eT rfl; apply jI; exact eT rfl)
  refine Ops.neqS rfl rfl ?_
  (apply jJ; exact eB rfl; refine jz ?_; refine jjF ?_; refine jB rfl rfl ⟨inferInstance, ?_⟩)
  exact congrArg Value.bool (by simp)
theorem Compare_str (x y : ByteArray) (w : World) : Ct Tryz.prog 81 [.string x, .string y] w fun v _ => v = .int .i64 (cmpS x y) := by
  refine Ct.ofW (by simp) ?_
  (refine jjB ?_; refine jjC ?_; apply jJ; exact eI rfl; refine jz ?_; refine jjB ?_; refine jjC ?_; apply jI; exact eT rfl)
  refine jjQ (isNaN_str x _) rfl rfl ?_
  rintro _ w2 hS2 rfl
  (apply jJ; exact eB rfl; refine jz ?_; refine jjB ?_; refine jjC ?_; apply jI; exact eT rfl)
  refine jjQ (isNaN_str y _) rfl rfl ?_
  rintro _ w3 hS3 rfl
  (apply jJ; exact eB rfl; refine jz ?_; refine jjB ?_; refine jjB ?_; refine jjC ?_; apply jI; exact eB rfl; refine jz ?_; refine jjK rfl ?_; refine jjG ?_; refine jjB ?_; refine jjB ?_; refine jjC ?_; apply jI; exact eB rfl; refine jz ?_; refine jjK rfl ?_; refine jjG ?_; refine jjB ?_; refine jjB ?_; refine jjC ?_; apply jI; exact eT rfl; apply jI; exact eT rfl)
  refine Ops.lssS rfl rfl ?_
  obtain ⟨B, hB⟩ : ∃ B, Op.bytesLess x.toList y.toList = B := ⟨_, rfl⟩
  rw [cmpS, hB]
  cases B
  · (refine jz ?_; refine jjK rfl ?_; refine jjG ?_; refine jjB ?_; refine jjB ?_; refine jjC ?_; apply jI; exact eT rfl; apply jI; exact eT rfl)
    refine Ops.gtrS rfl rfl ?_
    rw [hB, beqS, Bool.false_or]
    by_cases e : x = y
    · rw [decide_eq_true e, if_pos e]
      (refine jz ?_; refine jjK rfl ?_; refine jjG ?_; refine jjB ?_; refine jjC ?_; apply jJ; exact eI rfl; refine jz ?_; refine jjF ?_; refine jB rfl rfl ⟨inferInstance, ?_⟩)
      exact rfl
    · rw [decide_eq_false e, if_neg e]
      (refine jz ?_; refine jjJ rfl ?_; refine jjB ?_; refine jjC ?_; apply jJ; exact eI rfl; refine jz ?_; refine jjF ?_; refine jB rfl rfl ⟨inferInstance, ?_⟩)
      exact rfl
  · (refine jz ?_; refine jjJ rfl ?_; refine jjB ?_; refine jjC ?_; apply jJ; exact eI rfl; refine jz ?_; refine jjF ?_; refine jB rfl rfl ⟨inferInstance, ?_⟩)
    exact rfl

section
variable (w : World) [hm : MxI w]
set_option maxHeartbeats 1000000 in
theorem right_slip (x : Slp) (hx : SmallS x) : Ct Tryz.prog 79 [encSl x] w fun v _ => v = .bool (slipB x) := by
  obtain ⟨h1, h2, h3⟩ := hx
  refine Ct.ofW (by simp) ?_
  (refine jjB ?_; refine jjC ?_)
  (refine jy rfl ?_; intro b1 w_b1 hb_b1 hs_b1 hS_b1 hk_b1; have hA_b1 := At.ofBlock hk_b1)
  (apply jJ; exact eB rfl; refine jz ?_; refine jjB ?_; refine jjC ?_; refine jm ?_; refine jn rfl ?_; refine jN rfl rfl rfl ?_)
  obtain ⟨B1, e1⟩ : ∃ B, wordsB x.2.2.1 = B := ⟨_, rfl⟩
  obtain ⟨B2, e2⟩ : ∃ B, wordsB x.2.2.2 = B := ⟨_, rfl⟩
  obtain ⟨B3, e3⟩ : ∃ B, wordB x.2.1 = B := ⟨_, rfl⟩
  refine jjQ ((words_slip _ x.2.2.1 h2).mono fun v _ _ h => by rw [e1] at h; exact h) rfl rfl ?_
  rintro _ w2 hS2 ⟨sv, rfl, -⟩
  (apply jI; exact eU rfl; refine ju rfl rfl ?_; refine ju rfl rfl ?_; apply jJ; exact rfl; apply jJ; exact eB rfl; refine jz ?_; refine jjB ?_; refine jjC ?_; refine jm ?_; refine jn rfl ?_; refine jN rfl rfl rfl ?_)
  refine jjQ ((words_slip _ x.2.2.2 h3).mono fun v _ _ h => by rw [e2] at h; exact h) rfl rfl ?_
  rintro _ w3 hS3 ⟨sv2, rfl, -⟩
  rw [slipB, e1, e2, e3]
  cases B1
  · (apply jI; exact eU rfl; refine ju rfl rfl ?_; refine ju rfl rfl ?_; apply jJ; exact rfl; apply jJ; exact eB rfl; refine jz ?_; refine jjB ?_; refine jjC ?_; apply jI; exact eB rfl; apply jI; exact eB rfl; refine jU rfl rfl rfl rfl ?_; apply jL rfl; exact eB rfl; apply jI; exact eB rfl; refine jU rfl rfl rfl rfl ?_; refine jU rfl rfl rfl rfl ?_; refine jU rfl rfl rfl rfl ?_; apply jL rfl; exact eB rfl; apply jJ; exact eB rfl; refine jz ?_; refine jjF ?_; refine jB rfl rfl ⟨inferInstance, ?_⟩)
    exact rfl
  cases B2
  · (apply jI; exact eU rfl; refine ju rfl rfl ?_; refine ju rfl rfl ?_; apply jJ; exact rfl; apply jJ; exact eB rfl; refine jz ?_; refine jjB ?_; refine jjC ?_; apply jI; exact eB rfl; apply jI; exact eB rfl; refine jT rfl rfl rfl ?_; apply jI; exact eB rfl; apply jK rfl; exact eB rfl; apply jI; exact eB rfl; refine jU rfl rfl rfl rfl ?_; refine jU rfl rfl rfl rfl ?_; refine jU rfl rfl rfl rfl ?_; apply jL rfl; exact eB rfl; apply jJ; exact eB rfl; refine jz ?_; refine jjF ?_; refine jB rfl rfl ⟨inferInstance, ?_⟩)
    exact rfl
  (apply jI; exact eU rfl; refine ju rfl rfl ?_; refine ju rfl rfl ?_; apply jJ; exact rfl; apply jJ; exact eB rfl; refine jz ?_; refine jjB ?_; refine jjC ?_; apply jI; exact eB rfl; apply jI; exact eB rfl; refine jT rfl rfl rfl ?_; apply jI; exact eB rfl; apply jK rfl; exact eB rfl; apply jI; exact eB rfl; refine jT rfl rfl rfl ?_; refine jm ?_; refine jn rfl ?_; refine jT rfl rfl rfl ?_; refine jN rfl rfl rfl ?_; refine jT rfl rfl rfl ?_)
  refine jjQ ((word_slip x.2.1 _ (by omega)).mono fun v _ _ h => h.trans (by rw [e3])) rfl rfl ?_
  rintro _ w4 hS4 rfl
  (apply jK rfl; exact eB rfl; apply jJ; exact eB rfl; refine jz ?_; refine jjF ?_; refine jB rfl rfl ⟨inferInstance, ?_⟩)
  exact rfl
set_option maxHeartbeats 2000000 in
theorem Order_slip (x y : Slp) (hx : SmallS x) (hy : SmallS y) : Ct Tryz.prog 46 [encSl x, encSl y] w fun v _ => v = .tuple #[.int .i64 (ordR x y).1, .int .i64 (ordR x y).2] := by
  refine Ct.ofW (by simp) ?_
  (refine jjB ?_; refine jjC ?_)
  (refine jy rfl ?_; intro b2 w_b2 hb_b2 hs_b2 hS_b2 hk_b2; have hA_b2 := At.ofBlock hk_b2)
  skip
  (refine jy rfl ?_; intro b3 w_b3 hb_b3 hs_b3 hS_b3 hk_b3; have hA_b3 := At.ofBlock hk_b3)
  obtain ⟨B1, e1⟩ : ∃ B, slipB x = B := ⟨_, rfl⟩
  obtain ⟨B2, e2⟩ : ∃ B, slipB y = B := ⟨_, rfl⟩
  (apply jJ; exact eI rfl; apply jJ; exact eI rfl; refine jz ?_; refine jjB ?_; refine jjB ?_; refine jjC ?_; refine jO rfl rfl rfl rfl ?_)
  refine jjQ ((right_slip _ x hx).mono fun v _ _ h => h.trans (by rw [e1])) rfl rfl ?_
  rintro _ w2 hS2 rfl
  rw [ordR, e1, e2]
  cases B1
  · (refine jq rfl ?_; apply jI; exact eB rfl; refine jU rfl rfl rfl rfl ?_; refine jU rfl rfl rfl rfl ?_; refine jU rfl rfl rfl rfl ?_; apply jK rfl; exact eB rfl; refine jz ?_; refine jjJ rfl ?_; refine jjB ?_; refine jjC ?_; apply jJ; exact eI rfl; apply jJ; exact eI rfl; refine jz ?_; refine jjF ?_; refine jC rfl rfl rfl ⟨inferInstance, ?_⟩)
    exact rfl
  (refine jp rfl ?_; apply jI; exact eB rfl; refine jT rfl rfl rfl ?_; refine jO rfl rfl rfl rfl ?_; refine jT rfl rfl rfl ?_)
  refine jjQ ((right_slip _ y hy).mono fun v _ _ h => h.trans (by rw [e2])) rfl rfl ?_
  rintro _ w3 hS3 rfl
  cases B2
  · (refine jT rfl rfl rfl ?_; refine jq rfl ?_; apply jL rfl; exact eB rfl; refine jz ?_; refine jjJ rfl ?_; refine jjB ?_; refine jjC ?_; apply jJ; exact eI rfl; apply jJ; exact eI rfl; refine jz ?_; refine jjF ?_; refine jC rfl rfl rfl ⟨inferInstance, ?_⟩)
    exact rfl
  (refine jT rfl rfl rfl ?_; refine jp rfl ?_; apply jL rfl; exact eB rfl; refine jz ?_; refine jjK rfl ?_; refine jjG ?_; refine jjB ?_)
  refine W.draw (fun w' => Ext w3 w') ?_
  intro w1 hS1
  have x1 := hS1.ext
  (refine jjV [0, 1, 2, 3, 5, 6, 7, 8, 10, 11, 12, 13, 15, 16, 17, 18] ?_ ?_ ?_; (decide +kernel); (exact x1); (((apply jjT; exact rfl; rintro w' hq; have := hq.toStep; refine jm ?_; refine jn rfl ?_; refine jz ?_; exact ⟨rfl, rfl⟩; apply jjT; exact rfl; rintro w' hq; have := hq.toStep; refine jN rfl rfl rfl ?_; refine jz ?_; exact ⟨rfl, rfl⟩; apply jjT; exact rfl; rintro w' hq; have := hq.toStep; refine jm ?_; refine jn rfl ?_; refine jz ?_; exact ⟨rfl, rfl⟩; apply jjT; exact rfl; rintro w' hq; have := hq.toStep; refine jN rfl rfl rfl ?_; refine jz ?_; exact ⟨rfl, rfl⟩; apply jjT; exact rfl; rintro w' hq; have := hq.toStep; refine jm ?_; refine jn rfl ?_; refine jz ?_; exact ⟨rfl, rfl⟩; apply jjT; exact rfl; rintro w' hq; have := hq.toStep; refine jO rfl rfl rfl rfl ?_; refine jz ?_; exact ⟨rfl, rfl⟩; apply jjT; exact rfl; rintro w' hq; have := hq.toStep; refine jm ?_; refine jn rfl ?_; refine jz ?_; exact ⟨rfl, rfl⟩; apply jjT; exact rfl; rintro w' hq; have := hq.toStep; refine jO rfl rfl rfl rfl ?_; refine jz ?_; exact ⟨rfl, rfl⟩; apply jjT; exact rfl; rintro w' hq; have := hq.toStep; refine jm ?_; refine jn rfl ?_; refine jz ?_; exact ⟨rfl, rfl⟩; apply jjT; exact rfl; rintro w' hq; have := hq.toStep; refine jN rfl rfl rfl ?_; refine jz ?_; exact ⟨rfl, rfl⟩; apply jjT; exact rfl; rintro w' hq; have := hq.toStep; refine jm ?_; refine jn rfl ?_; refine jz ?_; exact ⟨rfl, rfl⟩; apply jjT; exact rfl; rintro w' hq; have := hq.toStep; refine jN rfl rfl rfl ?_; refine jz ?_; exact ⟨rfl, rfl⟩; apply jjT; exact rfl; rintro w' hq; have := hq.toStep; refine jm ?_; refine jn rfl ?_; refine jz ?_; exact ⟨rfl, rfl⟩; apply jjT; exact rfl; rintro w' hq; have := hq.toStep; refine jN rfl rfl rfl ?_; refine jz ?_; exact ⟨rfl, rfl⟩; apply jjT; exact rfl; rintro w' hq; have := hq.toStep; refine jm ?_; refine jn rfl ?_; refine jz ?_; exact ⟨rfl, rfl⟩; apply jjT; exact rfl; rintro w' hq; have := hq.toStep; refine jN rfl rfl rfl ?_; refine jz ?_; exact ⟨rfl, rfl⟩; refine jjU ?_))))
  (apply jjW 4; (decide +kernel); exact rfl; (exact x1))
  refine jjQ (Compare_str _ _ _) rfl rfl ?_
  rintro _ w4 hS4 rfl
  refine jz ?_
  have x2 := x1.trans hS4.ext
  (apply jjW 9; (decide +kernel); exact rfl; (exact x2))
  refine jjQ (places_slip x.1 y.1 _) rfl rfl ?_
  rintro _ w5 hS5 rfl
  refine jz ?_
  have x3 := x2.trans hS5.ext
  (apply jjW 14; (decide +kernel); exact rfl; (exact x3))
  refine jjQ (Compare_str _ _ _) rfl rfl ?_
  rintro _ w6 hS6 rfl
  refine jz ?_
  have x4 := x3.trans hS6.ext
  (apply jjW 19; (decide +kernel); exact rfl; (exact x4))
  refine jjQ (Compare_str _ _ _) rfl rfl ?_
  rintro _ w7 hS7 rfl
  refine jz ?_
  have x5 := x4.trans hS7.ext
  (apply jjW 20; (decide +kernel); exact rfl; (exact x5))
  refine Ops.buildSlice4 (v1 := .int .i64 (cmpS x.2.1 y.2.1)) (v2 := .int .i64 (cmpP x.1 y.1)) (v3 := .int .i64 (cmpS x.2.2.2 y.2.2.2)) (v4 := .int .i64 (cmpS x.2.2.1 y.2.2.1)) rfl rfl rfl rfl rfl rfl rfl rfl rfl ?_
  intro b8 w8 hb8 hs8 hS8 hk8
  refine jz ?_
  have x6 := x5.trans hS8.ext
  (apply jjW 21; (decide +kernel); exact rfl; (exact x6))
  have hr8 : RowV w8 false 1 (.slice (some ⟨b8, 0, none⟩) 4 4) ([cmpS x.2.1 y.2.1, cmpP x.1 y.1, cmpS x.2.2.2 y.2.2.2, cmpS x.2.2.1 y.2.2.1].map intV) := hk8.row (fun x hx => by simp at hx; rcases hx with rfl | rfl | rfl | rfl <;> rfl) (by simp)
  refine jjQ (Or_int _ _ _ [cmpS x.2.1 y.2.1, cmpP x.1 y.1, cmpS x.2.2.2 y.2.2.2, cmpS x.2.2.1 y.2.2.1] _ rfl hr8) rfl rfl ?_
  rintro _ w9 hS9 rfl
  refine jz ?_
  have x7 := x6.trans hS9.ext
  (refine jjV [22, 23] ?_ ?_ ?_; (decide +kernel); (exact x7); (((apply jjT; exact rfl; rintro w' hq; apply jJ; exact eI rfl; refine jz ?_; exact ⟨rfl, rfl⟩; apply jjT; exact rfl; rintro w' hq; apply jJ; exact eI rfl; refine jz ?_; exact ⟨rfl, rfl⟩; refine jjU ?_))))
  refine jjX (by decide +kernel) x7 ?_
  have := x7.toStep
  (refine jjF ?_; refine jC rfl rfl rfl ⟨inferInstance, ?_⟩)
  exact rfl
end
end Go.Proofs.YtpijeomnplmakaaGreatDoor

/- The order of places: its three answers. -/
namespace Go.Proofs.YtpijeomnplmakaaGreatDoor
open Go.RowKit

end Go.Proofs.YtpijeomnplmakaaGreatDoor

/- The reference: the order of slips. -/
namespace Go.Proofs.YtpijeomnplmakaaGreatDoor
open Go.RowKit

theorem bytesLess_irr : ∀ l : List UInt8, Op.bytesLess l l = false
  | [] => rfl
  | c :: l => by simp [Op.bytesLess, bytesLess_irr l]
theorem cmpS_self (x : ByteArray) : cmpS x x = 0 := by rw [cmpS, bytesLess_irr]; simp
theorem cmpS_ne {x y : ByteArray} (h : x ≠ y) : cmpS x y ≠ 0 := by
  unfold cmpS
  repeat' split
  all_goals (first | decide | (exfalso; exact h ‹_›))
end Go.Proofs.YtpijeomnplmakaaGreatDoor

/- Plain law: the order of slips is one. -/
namespace Go.Proofs.YtpijeomnplmakaaGreatDoor
open Go.RowKit

/-- Three answers; turned round the other way; zero for equals alone; one behind the other. -/
structure Ord3 {α : Type} (f : α → α → Int) : Prop where
  r : ∀ a b, f a b = -1 ∨ f a b = 0 ∨ f a b = 1
  anti : ∀ a b, f a b = - f b a
  z : ∀ a b, f a b = 0 ↔ a = b
  tr : ∀ a b c, f a b = -1 → f b c = -1 → f a c = -1
theorem Ord3.lex {α β : Type} {f : α → α → Int} {g : β → β → Int} (hf : Ord3 f) (hg : Ord3 g) : Ord3 (fun (x y : α × β) => if f x.1 y.1 = 0 then g x.2 y.2 else f x.1 y.1) where
  r a b := by
    split
    · exact hg.r _ _
    · exact hf.r _ _
  anti a b := by
    have h1 := hf.anti a.1 b.1
    have h2 := hg.anti a.2 b.2
    split <;> split <;> omega
  z a b := by
    have h1 := hf.z a.1 b.1
    have h2 := hg.z a.2 b.2
    split
    · rename_i h
      rw [h2, Prod.ext_iff]
      exact ⟨fun e => ⟨h1.1 h, e⟩, fun e => e.2⟩
    · rename_i h
      exact ⟨fun e => absurd e h, fun e => absurd (h1.2 (by rw [e])) h⟩
  tr a b c := by
    intro h1 h2
    by_cases e1 : f a.1 b.1 = 0
    · rw [if_pos e1] at h1
      have q1 := (hf.z _ _).1 e1
      by_cases e2 : f b.1 c.1 = 0
      · rw [if_pos e2] at h2
        have q2 := (hf.z _ _).1 e2
        rw [if_pos ((hf.z _ _).2 (q1.trans q2))]
        exact hg.tr _ _ _ h1 h2
      · rw [if_neg e2] at h2
        rw [q1, if_neg e2]; exact h2
    · rw [if_neg e1] at h1
      by_cases e2 : f b.1 c.1 = 0
      · have q2 := (hf.z _ _).1 e2
        rw [← q2, if_neg e1]; exact h1
      · rw [if_neg e2] at h2
        have := hf.tr _ _ _ h1 h2
        rw [if_neg (by omega)]; exact this
theorem Ord3.map {α β : Type} {f : α → α → Int} (hf : Ord3 f) (k : β → α) (hk : ∀ x y, k x = k y → x = y) : Ord3 (fun x y => f (k x) (k y)) where
  r _ _ := hf.r _ _
  anti _ _ := hf.anti _ _
  z a b := by rw [hf.z]; exact ⟨hk a b, fun e => by rw [e]⟩
  tr _ _ _ := hf.tr _ _ _
theorem ord_cmp1 : Ord3 cmp1 where
  r a b := by unfold cmp1; split <;> (try split) <;> omega
  anti a b := by unfold cmp1; repeat' split
                 all_goals omega
  z a b := by unfold cmp1; repeat' split
              all_goals omega
  tr a b c := by unfold cmp1; repeat' split
                 all_goals omega
theorem bytesLess_asymm : ∀ a b : List UInt8, Op.bytesLess a b = true → Op.bytesLess b a = false
  | _, [], h => by cases h' : (‹List UInt8›) <;> simp_all [Op.bytesLess]
  | [], _ :: _, _ => rfl
  | x :: a, y :: b, h => by
    simp only [Op.bytesLess, Bool.or_eq_true, Bool.and_eq_true, decide_eq_true_eq, beq_iff_eq, Bool.or_eq_false_iff, Bool.and_eq_false_iff, decide_eq_false_iff_not] at h ⊢
    rcases h with h | ⟨rfl, h⟩
    · have h1 : x.toNat < y.toNat := UInt8.lt_iff_toNat_lt.1 h
      refine ⟨fun h2 => ?_, ?_⟩
      · have := UInt8.lt_iff_toNat_lt.1 h2; omega
      · left
        cases hb : (y == x)
        · rfl
        · have := eq_of_beq hb; subst this; omega
    · refine ⟨fun h2 => ?_, .inr (bytesLess_asymm a b h)⟩
      have := UInt8.lt_iff_toNat_lt.1 h2; omega
theorem bytesLess_tri : ∀ a b : List UInt8, Op.bytesLess a b = true ∨ a = b ∨ Op.bytesLess b a = true
  | [], [] => .inr (.inl rfl)
  | [], _ :: _ => .inl rfl
  | _ :: _, [] => .inr (.inr rfl)
  | x :: a, y :: b => by
    simp only [Op.bytesLess, Bool.or_eq_true, Bool.and_eq_true, decide_eq_true_eq, beq_iff_eq]
    rcases Nat.lt_trichotomy x.toNat y.toNat with h | h | h
    · exact .inl (.inl (UInt8.lt_iff_toNat_lt.2 h))
    · have e : x = y := UInt8.toNat_inj.1 h
      subst e
      rcases bytesLess_tri a b with h1 | h1 | h1
      · exact .inl (.inr ⟨rfl, h1⟩)
      · exact .inr (.inl (by rw [h1]))
      · exact .inr (.inr (.inr ⟨rfl, h1⟩))
    · exact .inr (.inr (.inl (UInt8.lt_iff_toNat_lt.2 h)))
theorem bytesLess_trans : ∀ a b c : List UInt8, Op.bytesLess a b = true → Op.bytesLess b c = true → Op.bytesLess a c = true
  | _, _, [], _, h => by cases ‹List UInt8› <;> simp [Op.bytesLess] at h
  | [], _, _ :: _, _, _ => rfl
  | _ :: _, [], _ :: _, h, _ => by simp [Op.bytesLess] at h
  | x :: a, y :: b, z :: c, h1, h2 => by
    simp only [Op.bytesLess, Bool.or_eq_true, Bool.and_eq_true, decide_eq_true_eq, beq_iff_eq] at h1 h2 ⊢
    rcases h1 with h1 | ⟨rfl, h1⟩
    · rcases h2 with h2 | ⟨rfl, h2⟩
      · left; have := UInt8.lt_iff_toNat_lt.1 h1; have := UInt8.lt_iff_toNat_lt.1 h2; exact UInt8.lt_iff_toNat_lt.2 (by omega)
      · exact .inl h1
    · rcases h2 with h2 | ⟨rfl, h2⟩
      · exact .inl h2
      · exact .inr ⟨rfl, bytesLess_trans a b c h1 h2⟩
theorem toList_inj {a b : ByteArray} (h : a.toList = b.toList) : a = b := by
  have := beqS a b
  rw [h, beq_self_eq_true] at this
  exact of_decide_eq_true this.symm
theorem ord_cmpS : Ord3 cmpS where
  r a b := by unfold cmpS; split <;> (try split) <;> omega
  anti a b := by
    unfold cmpS
    rcases bytesLess_tri a.toList b.toList with h | h | h
    · have h2 := bytesLess_asymm _ _ h
      have hne : ¬ b = a := fun e => by subst e; rw [h] at h2; cases h2
      rw [if_pos h, if_neg (by rw [h2]; simp), if_neg hne]
    · have e := toList_inj h
      subst e
      rw [bytesLess_irr]; simp
    · have h2 := bytesLess_asymm _ _ h
      have hne : ¬ a = b := fun e => by subst e; rw [h] at h2; cases h2
      rw [if_pos h, if_neg (by rw [h2]; simp), if_neg hne]; rfl
  z a b := by
    refine ⟨fun h => ?_, fun e => by subst e; exact cmpS_self _⟩
    refine Decidable.by_contra fun hne => cmpS_ne hne h
  tr a b c := by
    unfold cmpS
    intro h1 h2
    have q1 : Op.bytesLess a.toList b.toList = true := by
      cases h : Op.bytesLess a.toList b.toList
      · rw [h] at h1; simp at h1; split at h1 <;> omega
      · rfl
    have q2 : Op.bytesLess b.toList c.toList = true := by
      cases h : Op.bytesLess b.toList c.toList
      · rw [h] at h2; simp at h2; split at h2 <;> omega
      · rfl
    rw [if_pos (bytesLess_trans _ _ _ q1 q2)]
theorem ord_cmpP : Ord3 cmpP := by
  have h := (ord_cmp1.lex (ord_cmp1.lex ord_cmp1))
  have e : cmpP = fun (x y : Int × Int × Int) => if cmp1 x.1 y.1 = 0 then (if cmp1 x.2.1 y.2.1 = 0 then cmp1 x.2.2 y.2.2 else cmp1 x.2.1 y.2.1) else cmp1 x.1 y.1 := by
    funext x y
    simp only [cmpP, orF]
    repeat' split
    all_goals omega
  rw [e]; exact h
theorem ord_slip : Ord3 ordS := by
  have h := (ord_cmpS.lex (ord_cmpP.lex (ord_cmpS.lex ord_cmpS))).map (fun x : Slp => (x.2.1, x.1, x.2.2.2, x.2.2.1)) (fun x y e => by
    simp only [Prod.mk.injEq] at e
    exact Prod.ext e.2.1 (Prod.ext e.1 (Prod.ext e.2.2.2 e.2.2.1)))
  have e : ordS = fun (x y : Slp) => if cmpS x.2.1 y.2.1 = 0 then (if cmpP x.1 y.1 = 0 then (if cmpS x.2.2.2 y.2.2.2 = 0 then cmpS x.2.2.1 y.2.2.1 else cmpS x.2.2.2 y.2.2.2) else cmpP x.1 y.1) else cmpS x.2.1 y.2.1 := by
    funext x y
    simp only [ordS, orF]
    repeat' split
    all_goals omega
  rw [e]; exact h
end Go.Proofs.YtpijeomnplmakaaGreatDoor

/- Plain law: ranks of slips. -/
namespace Go.Proofs.YtpijeomnplmakaaGreatDoor
open Go.RowKit

/-- An order by a part of a thing: what is equal compares alike. -/
structure Pre3 {α : Type} (f : α → α → Int) : Prop where
  r : ∀ a b, f a b = -1 ∨ f a b = 0 ∨ f a b = 1
  anti : ∀ a b, f a b = - f b a
  tr : ∀ a b c, f a b = -1 → f b c = -1 → f a c = -1
  eql : ∀ a b c, f a b = 0 → f a c = f b c
theorem Ord3.pre {α β : Type} {f : α → α → Int} (h : Ord3 f) (k : β → α) : Pre3 (fun x y => f (k x) (k y)) where
  r _ _ := h.r _ _
  anti _ _ := h.anti _ _
  tr _ _ _ := h.tr _ _ _
  eql a b c e := by
    have := (h.z (k a) (k b)).1 e
    simp only [this]
def cmpBy (n : Int) (x y : Slp) : Int := if n = 1 then ordS x y else if n = 2 then cmpS x.2.1 y.2.1 else if n = 3 then cmpS x.2.2.1 y.2.2.1 else cmpS x.2.2.2 y.2.2.2
theorem pre_by (n : Int) : Pre3 (cmpBy n) := by
  by_cases h1 : n = 1
  · have e : cmpBy n = fun x y => ordS x y := by funext x y; rw [cmpBy, if_pos h1]
    rw [e]; exact ord_slip.pre id
  by_cases h2 : n = 2
  · have e : cmpBy n = fun x y => cmpS x.2.1 y.2.1 := by funext x y; rw [cmpBy, if_neg h1, if_pos h2]
    rw [e]; exact ord_cmpS.pre fun x : Slp => x.2.1
  by_cases h3 : n = 3
  · have e : cmpBy n = fun x y => cmpS x.2.2.1 y.2.2.1 := by funext x y; rw [cmpBy, if_neg h1, if_neg h2, if_pos h3]
    rw [e]; exact ord_cmpS.pre fun x : Slp => x.2.2.1
  · have e : cmpBy n = fun x y => cmpS x.2.2.2 y.2.2.2 := by funext x y; rw [cmpBy, if_neg h1, if_neg h2, if_neg h3]
    rw [e]; exact ord_cmpS.pre fun x : Slp => x.2.2.2
section
variable {α : Type} {f : α → α → Int} (hf : Pre3 f)
include hf
theorem Pre3.refl (a : α) : f a a = 0 := by have := hf.anti a a; omega
theorem Pre3.sym {a b : α} (h : f a b = 0) : f b a = 0 := by have := hf.anti a b; omega
theorem reps_le : ∀ (A B : List α), A.Pairwise (fun a b => f a b ≠ 0) → (∀ a ∈ A, ∃ b ∈ B, f a b = 0) → A.length ≤ B.length
  | [], _, _, _ => Nat.zero_le _
  | a :: A, B, hp, hm => by
    obtain ⟨b, hb, e⟩ := hm a (by simp)
    rw [List.pairwise_cons] at hp
    have ih := reps_le A (B.filter fun y => decide (f a y ≠ 0)) hp.2 fun a' ha' => by
      obtain ⟨b', hb', e'⟩ := hm a' (by simp [ha'])
      refine ⟨b', List.mem_filter.2 ⟨hb', decide_eq_true fun h => hp.1 a' ha' ?_⟩, e'⟩
      have h1 := hf.eql a' b' a e'
      have h2 := hf.sym h
      exact hf.sym (h1.trans h2)
    have hlt : (B.filter fun y => decide (f a y ≠ 0)).length < B.length := by
      rw [List.length_filter_lt_length_iff_exists]
      exact ⟨b, hb, by rw [decide_eq_true_eq]; exact fun h => h e⟩
    rw [List.length_cons]
    omega
end
/-- Whether the k-th one counts: it is less, and none before it is its equal. -/
def isFst {α : Type} (f : α → α → Int) (l : List α) (s : α) (k : Nat) : Bool :=
  decide (f (l.getD k s) s < 0) && (l.take k).all fun y => decide (f y (l.getD k s) ≠ 0)
/-- How many different ones are less. -/
def rankF {α : Type} (f : α → α → Int) (l : List α) (s : α) : Nat := ((List.range l.length).filter (isFst f l s)).length
section
variable {α : Type} {f : α → α → Int} (hf : Pre3 f)
include hf
omit hf in
theorem fst_of (l : List α) (x s : α) : ∀ {n : Nat}, n ≤ l.length → (∃ k, k < n ∧ f (l.getD k s) x = 0) → ∃ k, k < n ∧ f (l.getD k s) x = 0 ∧ ∀ j, j < k → f (l.getD j s) x ≠ 0
  | 0, _, ⟨k, h, _⟩ => absurd h (Nat.not_lt_zero _)
  | n + 1, hn, ⟨k, h, e⟩ => by
    by_cases c : ∃ k, k < n ∧ f (l.getD k s) x = 0
    · obtain ⟨k, h1, h2, h3⟩ := fst_of l x s (by omega) c
      exact ⟨k, by omega, h2, h3⟩
    · have hk : k = n := by
        refine Decidable.by_contra fun hne => c ⟨k, by omega, e⟩
      exact ⟨k, h, e, fun j hj h0 => c ⟨j, by omega, h0⟩⟩
theorem rank_reps {l C : List α} {s : α} (hC : C.Pairwise (fun a b => f a b ≠ 0)) (h1 : ∀ x ∈ l, ∃ c ∈ C, f c x = 0) (h2 : ∀ c ∈ C, ∃ x ∈ l, f c x = 0) : rankF f l s = (C.filter fun c => decide (f c s < 0)).length := by
  have hA : rankF f l s = (((List.range l.length).filter (isFst f l s)).map fun k => l.getD k s).length := by rw [List.length_map]; rfl
  rw [hA]
  refine Nat.le_antisymm (reps_le hf _ _ ?_ ?_) (reps_le hf _ _ (hC.filter _) ?_)
  · rw [List.pairwise_map]
    refine List.Pairwise.imp_of_mem ?_ ((List.pairwise_lt_range (n := l.length)).filter _)
    intro i j hi hj hij
    obtain ⟨hj1, hj2⟩ := List.mem_filter.1 hj
    rw [List.mem_range] at hj1
    rw [isFst, Bool.and_eq_true, List.all_eq_true] at hj2
    have hm : l.getD i s ∈ l.take j := by
      rw [List.getD_eq_getElem?_getD, List.getElem?_eq_getElem (by omega), Option.getD_some]
      exact List.mem_take_iff_getElem.2 ⟨i, by omega, rfl⟩
    exact of_decide_eq_true (hj2.2 _ hm)
  · intro a ha
    obtain ⟨k, hk, rfl⟩ := List.mem_map.1 ha
    obtain ⟨hk1, hk2⟩ := List.mem_filter.1 hk
    rw [List.mem_range] at hk1
    rw [isFst, Bool.and_eq_true, decide_eq_true_eq] at hk2
    have hm : l.getD k s ∈ l := by
      rw [List.getD_eq_getElem?_getD, List.getElem?_eq_getElem hk1, Option.getD_some]; exact List.getElem_mem hk1
    obtain ⟨c, hc, e⟩ := h1 _ hm
    exact ⟨c, List.mem_filter.2 ⟨hc, decide_eq_true (by rw [hf.eql _ _ s e]; exact hk2.1)⟩, hf.sym e⟩
  · intro c hc
    obtain ⟨hc1, hc2⟩ := List.mem_filter.1 hc
    rw [decide_eq_true_eq] at hc2
    obtain ⟨x, hx, e⟩ := h2 c hc1
    obtain ⟨i, hi, rfl⟩ := List.getElem_of_mem hx
    have hgi : l.getD i s = l[i] := by rw [List.getD_eq_getElem?_getD, List.getElem?_eq_getElem hi, Option.getD_some]
    obtain ⟨k, hk, e2, e3⟩ := fst_of l l[i] s (Nat.le_refl _) ⟨i, hi, by rw [hgi]; exact hf.refl _⟩
    have e4 : f c (l.getD k s) = 0 := by rw [hf.eql _ _ _ e]; exact hf.sym e2
    refine ⟨_, List.mem_map.2 ⟨k, List.mem_filter.2 ⟨List.mem_range.2 hk, ?_⟩, rfl⟩, e4⟩
    rw [isFst, Bool.and_eq_true, decide_eq_true_eq, List.all_eq_true]
    refine ⟨by rw [← hf.eql _ _ s e4]; exact hc2, fun y hy => decide_eq_true fun h0 => ?_⟩
    obtain ⟨j, hj, rfl⟩ := List.mem_take_iff_getElem.1 hy
    have hgj : l.getD j s = l[j] := by rw [List.getD_eq_getElem?_getD, List.getElem?_eq_getElem (by omega), Option.getD_some]
    refine e3 j (by omega) ?_
    rw [hgj, hf.eql _ _ _ h0]
    exact e2
/-! ### One of each, out of a sorted list -/
end
def cptGo {α : Type} (f : α → α → Int) (p : α) : List α → List α
  | [] => []
  | y :: r => if f y p = 0 then cptGo f y r else y :: cptGo f y r
def cptL {α : Type} (f : α → α → Int) : List α → List α
  | [] => []
  | x :: r => x :: cptGo f x r
section
variable {α : Type} {f : α → α → Int} (hf : Pre3 f)
include hf
theorem cptGo_facts : ∀ (r : List α) (p : α), (p :: r).Pairwise (fun a b => f b a ≠ -1) → (∀ c ∈ cptGo f p r, f p c = -1 ∧ c ∈ r) ∧ (cptGo f p r).Pairwise (fun a b => f a b = -1) ∧ ∀ x ∈ r, f p x = 0 ∨ ∃ c ∈ cptGo f p r, f c x = 0
  | [], p, _ => ⟨fun c hc => by simp [cptGo] at hc, List.Pairwise.nil, fun x hx => by simp at hx⟩
  | y :: r, p, hs => by
    rw [List.pairwise_cons] at hs
    obtain ⟨i1, i2, i3⟩ := cptGo_facts r y hs.2
    have hyp := hs.1 y (by simp)
    by_cases e : f y p = 0
    · have e' := hf.sym e
      rw [cptGo, if_pos e]
      refine ⟨fun c hc => ⟨by rw [hf.eql _ _ c e']; exact (i1 c hc).1, by simp [(i1 c hc).2]⟩, i2, fun x hx => ?_⟩
      rcases List.mem_cons.1 hx with rfl | hx
      · exact .inl e'
      · rcases i3 x hx with h | h
        · exact .inl (by rw [hf.eql _ _ x e']; exact h)
        · exact .inr h
    · have e' : f p y = -1 := by have := hf.r y p; have := hf.anti p y; omega
      rw [cptGo, if_neg e]
      refine ⟨fun c hc => ?_, List.pairwise_cons.2 ⟨fun c hc => (i1 c hc).1, i2⟩, fun x hx => ?_⟩
      · rcases List.mem_cons.1 hc with rfl | hc
        · exact ⟨e', by simp⟩
        · exact ⟨hf.tr _ _ _ e' (i1 c hc).1, by simp [(i1 c hc).2]⟩
      · rcases List.mem_cons.1 hx with rfl | hx
        · exact .inr ⟨x, by simp, hf.refl x⟩
        · rcases i3 x hx with h | ⟨c, hc, h⟩
          · exact .inr ⟨y, by simp, h⟩
          · exact .inr ⟨c, by simp [hc], h⟩
theorem cpt_facts {S : List α} (hs : S.Pairwise (fun a b => f b a ≠ -1)) : (∀ c ∈ cptL f S, c ∈ S) ∧ (cptL f S).Pairwise (fun a b => f a b = -1) ∧ ∀ x ∈ S, ∃ c ∈ cptL f S, f c x = 0 := by
  cases S with
  | nil => exact ⟨fun c hc => hc, List.Pairwise.nil, fun x hx => by simp at hx⟩
  | cons p r =>
    obtain ⟨i1, i2, i3⟩ := cptGo_facts hf r p hs
    refine ⟨fun c hc => ?_, List.pairwise_cons.2 ⟨fun c hc => (i1 c hc).1, i2⟩, fun x hx => ?_⟩
    · rcases List.mem_cons.1 hc with rfl | hc
      · simp
      · simp [(i1 c hc).2]
    · rcases List.mem_cons.1 hx with rfl | hx
      · exact ⟨x, by simp [cptL], hf.refl x⟩
      · rcases i3 x hx with h | ⟨c, hc, h⟩
        · exact ⟨p, by simp [cptL], h⟩
        · exact ⟨c, by simp [cptL, hc], h⟩
/-- Where a slip stands among the different ones: its rank. -/
theorem rank_cpt {l S : List α} {s : α} (hp : S.Perm l) (hs : S.Pairwise (fun a b => f b a ≠ -1)) : rankF f l s = ((cptL f S).filter fun c => decide (f c s < 0)).length := by
  obtain ⟨h1, h2, h3⟩ := cpt_facts hf hs
  refine rank_reps hf (h2.imp fun h => by omega) (fun x hx => h3 x (hp.mem_iff.2 hx)) fun c hc => ⟨c, hp.mem_iff.1 (h1 c hc), hf.refl c⟩
theorem less_mono {C : List α} {s : α} (hC : C.Pairwise (fun a b => f a b = -1)) {i j : Nat} (hij : i < j) (hj : j < C.length) (h : f C[j] s < 0) : f (C[i]'(by omega)) s < 0 := by
  have h1 := List.pairwise_iff_getElem.1 hC i j (by omega) hj hij
  have h2 := hf.r C[j] s
  have := hf.tr _ _ _ h1 (show f C[j] s = -1 by omega)
  omega
end
theorem filt_upto {α : Type} (p : α → Bool) : ∀ (l : List α) (n : Nat), n ≤ l.length → (∀ i (h : i < l.length), i < n → p l[i] = true) → (∀ i (h : i < l.length), n ≤ i → p l[i] = false) → (l.filter p).length = n
  | [], n, h, _, _ => by simp at h ⊢; omega
  | x :: l, 0, _, _, h2 => by
    rw [List.filter_eq_nil_iff.2 fun a ha => ?_]
    · rfl
    · obtain ⟨i, hi, rfl⟩ := List.getElem_of_mem ha
      rw [h2 i hi (Nat.zero_le _)]; simp
  | x :: l, n + 1, h, h1, h2 => by
    have h0 := h1 0 (by simp) (Nat.succ_pos _)
    rw [List.getElem_cons_zero] at h0
    rw [List.filter_cons, if_pos h0, List.length_cons, filt_upto p l n (by simpa using h) (fun i hi hin => by have := h1 (i + 1) (by simpa using hi) (by omega); simpa using this) (fun i hi hin => by have := h2 (i + 1) (by simpa using hi) (by omega); simpa using this)]
end Go.Proofs.YtpijeomnplmakaaGreatDoor

/- The comparators that slips are ranked by. -/
namespace Go.Proofs.YtpijeomnplmakaaGreatDoor
open Go.Shelf Go.RowKit Go.Lib Go.Sort
def sh_lays106_ren : Go.Shelf.Ren := ⟨fun | 106 => 226 | 213 => 229 | 265 => 230 | n => n, fun | 9 => 9 | 3 => 3 | n => n, fun | n => n⟩

theorem sh_lays106 : Go.Proofs.Lays.n106 Tryz.prog sh_lays106_ren := {
  mixed := by kernel_rfl
  f106 := Tryz.func226.trans (congrArg some (by kernel_rfl))
  f213 := Tryz.func229.trans (congrArg some (by kernel_rfl))
  f265 := Tryz.func230.trans (congrArg some (by kernel_rfl))
  t3 := Tryz.underlying3
  a3 := Tryz.isAgg3
  z3 := Tryz.sizeOf3
  v3 := Tryz.zeroValue3
  t9 := Tryz.underlying9
  a9 := Tryz.isAgg9
  z9 := Tryz.sizeOf9
  v9 := Tryz.zeroValue9 }

theorem sh_strings_Compare (a b : ByteArray) (w : World) :
    Calls Tryz.prog 226 #[.string a, .string b] w fun e w' => e = .returned (.int .i64 (Lib.compareBytes a.data.toList b.data.toList)) ∧ w' = w := Any.strings_Compare sh_lays106 a b w

theorem compareBytes_if : ∀ a b : List UInt8, Lib.compareBytes a b = if Op.bytesLess a b then -1 else if a = b then 0 else 1
  | [], [] => rfl
  | [], _ :: _ => rfl
  | _ :: _, [] => rfl
  | x :: a, y :: b => by
    have ih := compareBytes_if a b
    rw [Lib.compareBytes, Op.bytesLess]
    by_cases h1 : x < y
    · have h1' : x.toNat < y.toNat := UInt8.lt_iff_toNat_lt.1 h1
      rw [if_pos h1]
      simp [h1]
    · rw [if_neg h1]
      by_cases h2 : y < x
      · have h2' : y.toNat < x.toNat := UInt8.lt_iff_toNat_lt.1 h2
        have hne : x ≠ y := by rintro rfl; omega
        rw [if_pos h2]
        simp [h1, hne]
      · have h1' := mt UInt8.lt_iff_toNat_lt.2 h1
        have h2' := mt UInt8.lt_iff_toNat_lt.2 h2
        obtain rfl : x = y := UInt8.toNat_inj.1 (by omega)
        rw [if_neg h2, ih]
        simp
theorem Ops.boxE {P : Program} {ro : Option Nat} {n : Nat} {all rest : List Oper} {K : Sl → World → Prop} {s : Sl} {w : World} {d : Nat} {ty : Nat} {pos : String} {af : Array Edge} {x : Operand} {t : Nat} {v : Value} (hx : ev n s x = v)
    (h : ∀ b w', w' = w.alloc (.cells v.cells t) → b = w.heap.size → w'.heap.size = w.heap.size + 1 → Step w w' → w'.heap[b]? = some (.cells v.cells t (0, 0)) → Ops P ro n all rest K (upd s d (.pointer (some ⟨b, 0, none⟩))) w') :
    Ops P ro n all (⟨some d, .box t x, ty, pos, af, none⟩ :: rest) K s w := by
  refine Ops.ofRun (w' := w.alloc (.cells v.cells t)) rfl (by simp [execOp, hx, Instr.box, newVar, newRow]) (h w.heap.size _ rfl rfl (by simp) ⟨(Below.refl _ w).alloc (Nat.le_refl _) _⟩ (World.alloc_heap_new w _))
theorem strings_cmp (a b : ByteArray) (w : World) : Calls Tryz.prog 226 [Value.string a, Value.string b].toArray w fun e w' => e = .returned (.int .i64 (cmpS a b)) ∧ w' = w := by
  have h := sh_strings_Compare a b w
  refine Calls.mono h fun e w' ⟨h1, h2⟩ => ⟨?_, h2⟩
  rw [h1, compareBytes_if, cmpS, ← ByteArray.toList_eq, ← ByteArray.toList_eq]
  have e : (a.toList = b.toList) = (a = b) := propext ⟨toList_inj, fun h => by rw [h]⟩
  simp only [e]
/-- A slip that may be ordered. -/
def GdS (x : Slp) : Prop := slipB x = true ∧ SmallS x
/-- A comparator of slips. -/
def CmpQ (q : Nat) (cf : Slp → Slp → Int) : Prop := ∀ (x y : Slp) (w : World), MxI w → GdS x → GdS y → Calls Tryz.prog q [encSl x, encSl y].toArray w fun e w' => e = .returned (.int .i64 (cf x y)) ∧ Ext w w' ∧ w.drawn ≤ w'.drawn
theorem by2_slip : CmpQ 225 (cmpBy 2) := fun x y w _ _ _ => by
  refine Calls.ofW (by simp) ?_
  (refine jjB ?_; refine jjC ?_)
  refine Ops.boxE rfl ?_
  intro b1 w1 hw1 hb1 hs1 hS1 hk1
  have hA1 := At.ofBlock hk1
  refine Ops.boxE rfl ?_
  intro b2 w2 hw2 hb2 hs2 hS2 hk2
  have hA2 := At.ofBlock hk2
  (apply jJ; exact eI rfl; refine jz ?_; refine jjB ?_; refine jjC ?_; refine jm ?_; refine jn rfl ?_; refine jN rfl rfl rfl ?_; refine jm ?_; refine jn rfl ?_; refine jN rfl rfl rfl ?_)
  refine Ops.callR rfl (Enters.h (P := Tryz.prog) (g := 226)) rfl (strings_cmp _ _ _) ?_
  rintro e w3 ⟨rfl, rfl⟩
  refine ⟨_, rfl, ?_⟩
  (apply jJ; exact eI rfl; refine jz ?_; refine jjF ?_)
  exact jB rfl rfl ⟨rfl, inferInstance, by rw [hw2, hw1]; exact Nat.le_refl _⟩
theorem by3_slip : CmpQ 227 (cmpBy 3) := fun x y w _ _ _ => by
  refine Calls.ofW (by simp) ?_
  (refine jjB ?_; refine jjC ?_)
  refine Ops.boxE rfl ?_
  intro b1 w1 hw1 hb1 hs1 hS1 hk1
  have hA1 := At.ofBlock hk1
  refine Ops.boxE rfl ?_
  intro b2 w2 hw2 hb2 hs2 hS2 hk2
  have hA2 := At.ofBlock hk2
  (apply jJ; exact eI rfl; refine jz ?_; refine jjB ?_; refine jjC ?_; refine jm ?_; refine jn rfl ?_; refine jN rfl rfl rfl ?_; refine jm ?_; refine jn rfl ?_; refine jN rfl rfl rfl ?_)
  refine Ops.callR rfl (Enters.h (P := Tryz.prog) (g := 226)) rfl (strings_cmp _ _ _) ?_
  rintro e w3 ⟨rfl, rfl⟩
  refine ⟨_, rfl, ?_⟩
  (apply jJ; exact eI rfl; refine jz ?_; refine jjF ?_)
  exact jB rfl rfl ⟨rfl, inferInstance, by rw [hw2, hw1]; exact Nat.le_refl _⟩
theorem by4_slip : CmpQ 228 (cmpBy 4) := fun x y w _ _ _ => by
  refine Calls.ofW (by simp) ?_
  (refine jjB ?_; refine jjC ?_)
  refine Ops.boxE rfl ?_
  intro b1 w1 hw1 hb1 hs1 hS1 hk1
  have hA1 := At.ofBlock hk1
  refine Ops.boxE rfl ?_
  intro b2 w2 hw2 hb2 hs2 hS2 hk2
  have hA2 := At.ofBlock hk2
  (apply jJ; exact eI rfl; refine jz ?_; refine jjB ?_; refine jjC ?_; refine jm ?_; refine jn rfl ?_; refine jN rfl rfl rfl ?_; refine jm ?_; refine jn rfl ?_; refine jN rfl rfl rfl ?_)
  refine Ops.callR rfl (Enters.h (P := Tryz.prog) (g := 226)) rfl (strings_cmp _ _ _) ?_
  rintro e w3 ⟨rfl, rfl⟩
  refine ⟨_, rfl, ?_⟩
  (apply jJ; exact eI rfl; refine jz ?_; refine jjF ?_)
  exact jB rfl rfl ⟨rfl, inferInstance, by rw [hw2, hw1]; exact Nat.le_refl _⟩
end Go.Proofs.YtpijeomnplmakaaGreatDoor

/- The proof engine, part 33: ends of slices, told outright; rows beside what is appended. -/
namespace Go.Proofs.YtpijeomnplmakaaGreatDoor
open Go.RowKit

theorem RowV.takeV {w : World} {agg : Bool} {k l c : Nat} {a : Option Addr} {xs : List Value} (h : RowV w agg k (.slice a l c) xs) {hi : Nat} (h2 : hi ≤ xs.length) : RowV w agg k (.slice a hi c) (xs.take hi) := by
  obtain ⟨rfl, hlc⟩ := h.cap
  have := h.part 0 hi (Nat.zero_le _) h2 c (by omega) a (fun _ => by cases a <;> simp [Addr.add])
  simpa using this
theorem RowV.dropV {w : World} {agg : Bool} {k l c : Nat} {a : Option Addr} {xs : List Value} (h : RowV w agg k (.slice a l c) xs) {lo : Nat} (h2 : lo ≤ xs.length) : RowV w agg k (cutV a c k lo l) (xs.drop lo) := by
  obtain ⟨rfl, hlc⟩ := h.cap
  have := h.cut (lo := lo) (hi := xs.length) h2 (Nat.le_refl _)
  rwa [List.take_length] at this
theorem App.row {B : Nat} {w w' : World} {u v : Value} {agg : Bool} {k : Nat} {xs : List Value} (a : App B w w' u) (h : RowV w agg k v xs) (hne : ∀ g, u.ownBlock = some g → v.ownBlock ≠ some g) : RowV w' agg k v xs :=
  ⟨h.len, h.fit, h.at_.imp id fun ⟨b, o, c, hv, hl, hc⟩ => ⟨b, o, c, hv, hl, fun j x hx => a.at_ (hc j x hx) (fun e => hne b e (by rw [hv]; rfl))⟩⟩
section rules
variable {P : Program} {ro : Option Nat} {n : Nat} {all rest : List Oper} {K : Sl → World → Prop} {s : Sl} {w : World} {d t e ty : Nat} {pos : String} {af : Array Edge} {x : Operand}
theorem Ops.sliceXLv {k bytes l c lo : Nat} {z : Value} {a : Option Addr} {i : Int} {k1 : IntKind} {xl : Operand} (hx : ev n s x = .slice a l c) (hl : ev n s xl = .int k1 i)
    (hi' : i = (lo : Int)) (h1 : lo ≤ l) [ht : TSl P t e] [hz : TS P e z k bytes]
    (h : Ops P ro n all rest K (upd s d (cutV a c k lo l)) w) : Ops P ro n all (⟨some d, .slice t x (some xl) none none, ty, pos, af, none⟩ :: rest) K s w := by
  subst hi'
  refine Ops.ofRun (v := cutV a c k lo l) (w' := w) rfl ?_ h
  simp [cutV, execOp, Instr.sliceAt, Instr.slice, Instr.sliceBounds, Instr.sliceBound, hx, hl, run_underlying ht.h, asIntOf, h1, run_sizeOf' w hz]
end rules
end Go.Proofs.YtpijeomnplmakaaGreatDoor

/- The proof engine, part 27: a struct that lies within a struct of a known place. -/
namespace Go.Proofs.YtpijeomnplmakaaGreatDoor
open Go.RowKit
section rules
variable {P : Program} {ro : Option Nat} {n : Nat} {all rest : List Oper} {K : Sl → World → Prop} {s : Sl} {w : World} {d : Nat} {ty : Nat} {pos : String} {af : Array Edge}
variable {x : Operand} {t : Nat}
theorem Ops.loadOA {b o off : Nat} {cs cs' : List Value} {dd : TypeDesc} {z : Value} {size bytes : Nat} (hc : At w b o cs) (hx : ev n s x = .pointer (some ⟨b, o + off, none⟩)) [ht : TU P t dd] (hs : TypeDesc.isAgg dd = true) [hz : TS P t z size bytes]
    (hl : (cs.drop off).take size = cs') (hn : cs'.length = size) (h : Ops P ro n all rest K (upd s d (.agg cs'.toArray)) w) : Ops P ro n all (⟨some d, .load t x, ty, pos, af, none⟩ :: rest) K s w :=
  Ops.loadA (cs := cs') ⟨fun i v hv => by
    refine (hc.drop off).h i v ?_
    rw [← hl, List.getElem?_take] at hv
    split at hv
    · exact hv
    · cases hv⟩ hx hs hn h
end rules
end Go.Proofs.YtpijeomnplmakaaGreatDoor

/- slices at slips: Clone, BinarySearchFunc. -/
namespace Go.Proofs.YtpijeomnplmakaaGreatDoor
open Go.RowKit Go.Sort

theorem all_encSl (l : List Slp) : (l.map encSl).all (fun v => v.cells.toList.all (·.oneCell')) = true := by
  rw [List.all_eq_true]
  intro x hx
  obtain ⟨b, _, rfl⟩ := List.mem_map.1 hx
  rfl
theorem Clone_Slip (a : Option Addr) (c : Nat) (l : List Slp) (w : World) (hl : l.length ≤ 1000000) [hrow : RowI w (.slice a l.length c) true 6 (l.map encSl)] :
    Ct Tryz.prog 64 [.slice a l.length c] w fun v w' => ∃ a' c', v = .slice a' l.length c' ∧ OwnL w' w.heap.size 49 true 6 (.slice a' l.length c') (l.map encSl) := by
  refine Ct.ofW (by simp) ?_
  (refine jjB ?_; refine jjC ?_; apply jJ; exact eS rfl; refine jz ?_; refine jjB ?_; refine jjB ?_; refine jjC ?_; apply jI; exact eS rfl)
  refine Ops.eqlNil rfl rfl ?_
  repeat' (first|(apply jJ; exact eS rfl)|refine jz ?_|(refine jjA ?_; (first|refine jjB ?_|refine jjC ?_|refine jjF ?_|refine jjG ?_))|(refine jjA ?_; (refine jjO rfl ?_ ?_ <;> intro _))|refine jB rfl rfl ⟨inferInstance, ?_⟩)
  · obtain rfl : a = none := by cases a with
      | none => rfl
      | some x => cases ‹(some x).isNone = true›
    have e : l = [] := by have := row_none hrow.h; simpa using this
    subst e
    exact ⟨none, 0, rfl, OwnL.nil _ _ _ _ _⟩
  · refine Ops.buildSlice0 ?_
    intro b3 w4 hb3 hs4 hS4 hk4
    have hO4 := OwnL.empty (agg := true) (k := 6) (B := w.heap.size) (by omega) hk4
    (apply jI; exact eS rfl)
    refine Ops.appendL hO4 (by omega) (hrow.h.ext inferInstance) rfl rfl rfl rfl (all_encSl l) ?_ ?_ ?_
    · simp only [List.length_map, List.length_nil]; omega
    · simp only [List.length_map, List.length_nil]; omega
    intro v5 w5 hA hO5 _ _
    rw [List.nil_append] at hO5
    obtain ⟨a5, c5, rfl⟩ := hO5.slice
    rw [List.length_map] at hO5 ⊢
    have hE5 : Ext w w5 := hA.ext inferInstance (Nat.le_refl _)
    have hS5 := hE5.toStep
    (apply jJ; exact eS rfl; refine jz ?_; refine jjF ?_; refine jB rfl rfl ⟨inferInstance, ?_⟩)
    exact ⟨a5, c5, rfl, hO5⟩
theorem place_k {w : World} {agg : Bool} {k l c j b o : Nat} {xs : List Value} {x : Value} (h : RowV w agg k (.slice (some ⟨b, o, none⟩) l c) xs) (hj : xs[j]? = some x) : At w b (o + j * k) x.cells.toList := by
  obtain ⟨b', o', e, hA⟩ := h.place' hj
  cases e
  exact hA
set_option maxHeartbeats 4000000 in
theorem Search_slip (q : Nat) [he : Enters Tryz.prog q] (cf : Slp → Slp → Int) (hf : Pre3 cf) (hc : CmpQ q cf)
    (a : Option Addr) (c : Nat) (C : List Slp) (x : Slp) (hgd : ∀ y ∈ C, GdS y) (hgx : GdS x) (w : World) (hl : C.length ≤ 1000000) (hC : C.Pairwise (fun a b => cf a b = -1)) [hmx : MxI w] [hrow : RowI w (.slice a C.length c) true 6 (C.map encSl)] :
    Ct Tryz.prog 68 [.slice a C.length c, encSl x, .func (.func q) #[] #[]] w fun v w' => ∃ b : Bool, v = .tuple #[.int .i64 (((C.filter fun y => decide (cf y x < 0)).length : Nat) : Int), .bool b] := by
  refine Ct.ofW (by simp) ?_
  (refine jjB ?_; refine jjC ?_)
  (refine jy rfl ?_; intro b4 w_b4 hb_b4 hs_b4 hS_b4 hk_b4; have hA_b4 := At.ofBlock hk_b4)
  (apply jJ; exact eI rfl; apply jJ; exact eB rfl; refine jz ?_; refine jjB ?_; refine jjC ?_; apply jI; exact eS rfl; refine jh rfl ?_; apply jJ; exact eI rfl; refine jz ?_; refine jjB ?_; refine jjC ?_; apply jI; exact eI rfl; apply jJ; exact eI rfl; apply jJ; exact eI rfl; refine jz ?_; refine jjB ?_; refine jjD ?_)
  refine W.keep0 [(0, .slice a C.length c), (2, .func (.func q) #[] #[]), (4, .pointer (some ⟨b4, 0, none⟩)), (8, .int .i64 (C.length : Int)), (9, .int .i64 ((0 : Nat) : Int)), (10, .int .i64 ((C.length : Nat) : Int))] ⟨eS rfl, rfl, eP rfl, eI rfl, eI rfl, eI rfl, trivial⟩ fun s0 => ?_
  refine W.loop (15 :: 16 :: 17 :: 18 :: 19 :: 20 :: 21 :: 22 :: 23 :: 11 :: 24 :: 25 :: 26 :: 27 :: 28 :: 29 :: 30 :: 31 :: 32 :: 33 :: 9 :: 34 :: 10 :: []) (fun g s' V => ∃ i j : Nat, s' 9 = .int .i64 (i : Int) ∧ s' 10 = .int .i64 (j : Int) ∧ g = j - i ∧ i ≤ j ∧ j ≤ C.length ∧ (∀ t (h : t < C.length), t < i → cf C[t] x < 0) ∧ (∀ t (h : t < C.length), j ≤ t → ¬ cf C[t] x < 0)) C.length ⟨0, C.length, rfl, rfl, rfl, Nat.zero_le _, Nat.le_refl _, fun t h1 h2 => absurd h2 (Nat.not_lt_zero _), fun t h1 h2 => by omega⟩ ?_
  rintro _ sd V hSV ⟨i, j, h9, h10, rfl, hij, hj, hlo, hhi⟩
  refine W.fix (d := 9) h9 (W.fix (d := 10) h10 ?_)
  clear h9 h10
  by_cases hlt : i < j
  rotate_left
  · obtain rfl : i = j := by omega
    have hcnt := filt_upto (fun y => decide (cf y x < 0)) C i hj (fun t h1 h2 => decide_eq_true (hlo t h1 h2)) (fun t h1 h2 => decide_eq_false (hhi t h1 h2))
    rw [hcnt]
    (refine jjB ?_; refine jjB ?_; refine jjC ?_; apply jI; exact eI rfl; apply jI; exact eI rfl; refine jja rfl rfl (by omega) ?_; refine jz ?_; refine jjK rfl ?_; refine jjE ?_; refine jjB ?_)
    refine W.draw (fun w' => Ext V w') ?_
    intro w5 hS5
    rcases Nat.lt_or_ge i C.length with hi | hi
    · have hg : (C.map encSl)[i]? = some (encSl C[i]) := by rw [List.getElem?_map, List.getElem?_eq_getElem hi]; rfl
      obtain ⟨pb, po, rfl, -⟩ := hrow.h.place' hg
      have hAi : At V pb (po + i * 6) (encSl C[i]).cells.toList := place_k (hrow.h.ext inferInstance) hg
      refine jjV [0, 1, 2, 3, 4, 5, 6, 7] (by decide +kernel) hS5.ext ?_
      (((apply jjT; exact rfl; rintro w' hq; have := hq.toStep; apply jI; exact eI rfl; refine jz ?_; exact ⟨rfl, rfl⟩; apply jjT; exact rfl; rintro w' hq; have := hq.toStep; apply jI; exact eI rfl; refine jz ?_; exact ⟨rfl, rfl⟩; apply jjT; exact rfl; rintro w' hq; have := hq.toStep; apply jI; exact eI rfl; refine jz ?_; exact ⟨rfl, rfl⟩; apply jjT; exact rfl; rintro w' hq; have := hq.toStep; refine jjZ rfl rfl (by omega) ?_; refine jz ?_; exact ⟨rfl, rfl⟩; apply jjT; exact rfl; rintro w' hq; have := hq.toStep; apply jI; exact eB rfl; refine jz ?_; exact ⟨rfl, rfl⟩; apply jjT; exact rfl; rintro w' hq; have := hq.toStep; refine jT rfl rfl rfl ?_; apply jI; exact eF rfl; refine jz ?_; exact ⟨rfl, rfl⟩; apply jjT; exact rfl; rintro w' hq; have := hq.toStep; refine jT rfl rfl rfl ?_; apply jI; exact eS rfl; refine jz ?_; exact ⟨rfl, rfl⟩; apply jjT; exact rfl; rintro w' hq; have := hq.toStep; refine jT rfl rfl rfl ?_; apply jI; exact eI rfl; refine jz ?_; exact ⟨rfl, rfl⟩; refine jjU ?_)))
      refine jjV [8] (by decide +kernel) hS5.ext (jjT (v := .pointer (some ⟨pb, po + i * 6, none⟩)) rfl (fun w' q1 => ?_) (jjU ?_)); (refine jT rfl rfl rfl ?_; refine jH i rfl rfl rfl (by omega) ?_; refine jz ?_; exact ⟨rfl, rfl⟩)
      refine jjV [9] (by decide +kernel) hS5.ext (jjT (v := encSl C[i]) rfl (fun w' q1 => ?_) (jjU ?_)); (refine jT rfl rfl rfl ?_; refine Ops.loadOA (off := 0) (hAi.ext q1) rfl rfl rfl rfl ?_; refine jz ?_; exact ⟨rfl, rfl⟩)
      refine jjV [10] (by decide +kernel) hS5.ext (jjT (v := encSl x) rfl (fun w' q1 => ?_) (jjU ?_)); (have := q1.toStep; refine jT rfl rfl rfl ?_; refine jO rfl rfl rfl rfl ?_; refine jz ?_; exact ⟨rfl, rfl⟩)
      (apply jjW 11; (decide +kernel); exact rfl; (exact inferInstance))
      (refine jT rfl rfl rfl ?_)
      refine Ops.callR rfl (Enters.h (P := Tryz.prog) (g := q)) rfl (hc C[i] x _ inferInstance (hgd _ (List.getElem_mem _)) hgx) ?_
      rintro e w6 ⟨rfl, x6, -⟩
      refine ⟨_, rfl, ?_⟩
      have s6 := x6.toStep
      refine jz ?_
      generalize cf C[i] x = z at *
      refine jjV [12, 13, 14, 15] (by decide +kernel) inferInstance ?_
      (((apply jjT; exact rfl; rintro w' hq; have := hq.toStep; refine jT rfl rfl rfl ?_; refine jb rfl rfl ?_; refine jz ?_; exact ⟨rfl, rfl⟩; apply jjT; exact rfl; rintro w' hq; have := hq.toStep; apply jK rfl; exact eB rfl; refine jz ?_; exact ⟨rfl, rfl⟩; apply jjT; exact rfl; rintro w' hq; have := hq.toStep; apply jJ; exact eI rfl; refine jz ?_; exact ⟨rfl, rfl⟩; apply jjT; exact rfl; rintro w' hq; have := hq.toStep; apply jJ; exact eB rfl; refine jz ?_; exact ⟨rfl, rfl⟩; refine jjU ?_)))
      refine jjX (by decide +kernel) inferInstance ?_
      (refine jjF ?_; refine jC rfl rfl rfl ⟨inferInstance, ?_⟩)
      exact ⟨_, rfl⟩
    · refine jjV [0, 1, 2, 3, 4, 5, 6, 7, 8, 9, 10, 11, 12, 13, 14, 15] (by decide +kernel) hS5.ext ?_
      (((apply jjT; exact rfl; rintro w' hq; have := hq.toStep; apply jI; exact eI rfl; refine jz ?_; exact ⟨rfl, rfl⟩; apply jjT; exact rfl; rintro w' hq; have := hq.toStep; apply jI; exact eI rfl; refine jz ?_; exact ⟨rfl, rfl⟩; apply jjT; exact rfl; rintro w' hq; have := hq.toStep; apply jI; exact eI rfl; refine jz ?_; exact ⟨rfl, rfl⟩; apply jjT; exact rfl; rintro w' hq; have := hq.toStep; refine jja rfl rfl (by omega) ?_; refine jz ?_; exact ⟨rfl, rfl⟩; apply jjT; exact rfl; rintro w' hq; have := hq.toStep; apply jI; exact eB rfl; refine jz ?_; exact ⟨rfl, rfl⟩; apply jjT; exact rfl; rintro w' hq; have := hq.toStep; refine jU rfl rfl rfl rfl ?_; refine jz ?_; exact ⟨rfl, rfl⟩; apply jjT; exact rfl; rintro w' hq; have := hq.toStep; refine jU rfl rfl rfl rfl ?_; refine jz ?_; exact ⟨rfl, rfl⟩; apply jjT; exact rfl; rintro w' hq; have := hq.toStep; refine jU rfl rfl rfl rfl ?_; refine jz ?_; exact ⟨rfl, rfl⟩; apply jjT; exact rfl; rintro w' hq; have := hq.toStep; refine jU rfl rfl rfl rfl ?_; refine jz ?_; exact ⟨rfl, rfl⟩; apply jjT; exact rfl; rintro w' hq; have := hq.toStep; refine jU rfl rfl rfl rfl ?_; refine jz ?_; exact ⟨rfl, rfl⟩; apply jjT; exact rfl; rintro w' hq; have := hq.toStep; refine jU rfl rfl rfl rfl ?_; refine jz ?_; exact ⟨rfl, rfl⟩; apply jjT; exact rfl; rintro w' hq; have := hq.toStep; refine jU rfl rfl rfl rfl ?_; refine jz ?_; exact ⟨rfl, rfl⟩; apply jjT; exact rfl; rintro w' hq; have := hq.toStep; refine jU rfl rfl rfl rfl ?_; refine jz ?_; exact ⟨rfl, rfl⟩; apply jjT; exact rfl; rintro w' hq; have := hq.toStep; apply jL rfl; exact eB rfl; refine jz ?_; exact ⟨rfl, rfl⟩; apply jjT; exact rfl; rintro w' hq; have := hq.toStep; apply jJ; exact eI rfl; refine jz ?_; exact ⟨rfl, rfl⟩; apply jjT; exact rfl; rintro w' hq; have := hq.toStep; apply jJ; exact eB rfl; refine jz ?_; exact ⟨rfl, rfl⟩; refine jjU ?_)))
      refine jjX (by decide +kernel) inferInstance ?_
      (refine jjF ?_; refine jC rfl rfl rfl ⟨inferInstance, ?_⟩)
      exact ⟨_, rfl⟩
  obtain ⟨h, hh⟩ : ∃ h, h = (i + j) / 2 := ⟨_, rfl⟩
  have hhl : h < C.length := by omega
  (refine jjB ?_; refine jjB ?_; refine jjC ?_; apply jI; exact eI rfl; apply jI; exact eI rfl; refine jjZ rfl rfl (by omega) ?_; refine jz ?_; refine jjJ rfl ?_; refine jjG ?_; refine jjD ?_; refine jjB ?_; refine jjC ?_; apply jI; exact eI rfl; apply jI; exact eI rfl; refine jY rfl rfl (by omega) ?_)
  refine Ops.convI rfl rfl (wrap64 (by omega) (by omega)) ?_
  skip
  refine Ops.half (a := i + j) rfl (by omega) rfl ?_
  skip
  refine Ops.convI rfl rfl (wrapi (by omega) (by omega)) ?_
  (apply jJ; exact eI rfl; refine jz ?_; refine jjB ?_)
  rw [← hh]
  have hg : (C.map encSl)[h]? = some (encSl C[h]) := by rw [List.getElem?_map, List.getElem?_eq_getElem hhl]; rfl
  obtain ⟨pb, po, rfl, -⟩ := hrow.h.place' hg
  have hAh : At V pb (po + h * 6) (encSl C[h]).cells.toList := place_k (hrow.h.ext inferInstance) hg
  refine W.draw (fun w' => Ext V w') ?_
  intro w5 hS5
  refine jjV [0, 1, 2] (by decide +kernel) hS5.ext ?_
  (((apply jjT; exact rfl; rintro w' hq; have := hq.toStep; apply jI; exact eF rfl; refine jz ?_; exact ⟨rfl, rfl⟩; apply jjT; exact rfl; rintro w' hq; have := hq.toStep; apply jI; exact eS rfl; refine jz ?_; exact ⟨rfl, rfl⟩; apply jjT; exact rfl; rintro w' hq; have := hq.toStep; apply jI; exact eI rfl; refine jz ?_; exact ⟨rfl, rfl⟩; refine jjU ?_)))
  refine jjV [3] (by decide +kernel) hS5.ext (jjT (v := .pointer (some ⟨pb, po + h * 6, none⟩)) rfl (fun w' q1 => ?_) (jjU ?_)); (refine jH h rfl rfl rfl (by omega) ?_; refine jz ?_; exact ⟨rfl, rfl⟩)
  refine jjV [4] (by decide +kernel) hS5.ext (jjT (v := encSl C[h]) rfl (fun w' q1 => ?_) (jjU ?_)); (refine Ops.loadOA (off := 0) (hAh.ext q1) rfl rfl rfl rfl ?_; refine jz ?_; exact ⟨rfl, rfl⟩)
  refine jjV [5] (by decide +kernel) hS5.ext (jjT (v := encSl x) rfl (fun w' q1 => ?_) (jjU ?_)); (have := q1.toStep; refine jO rfl rfl rfl rfl ?_; refine jz ?_; exact ⟨rfl, rfl⟩)
  (apply jjW 6; (decide +kernel); exact rfl; (exact inferInstance))
  refine Ops.callR rfl (Enters.h (P := Tryz.prog) (g := q)) rfl (hc C[h] x _ inferInstance (hgd _ (List.getElem_mem _)) hgx) ?_
  rintro e w6 ⟨rfl, x6, -⟩
  refine ⟨_, rfl, ?_⟩
  have s6 := x6.toStep
  refine jz ?_
  have hmn := fun t (ht : t < h) => less_mono hf hC (s := x) ht hhl
  have hup := fun t (ht : t < C.length) (hht : h < t) => less_mono hf hC (s := x) hht ht
  generalize hz : cf C[h] x = z at *
  by_cases hz0 : z < 0
  · refine jjV [7] (by decide +kernel) inferInstance ?_
    (((apply jjT; exact rfl; rintro w' hq; have := hq.toStep; refine jjZ rfl rfl (by omega) ?_; refine jz ?_; exact ⟨rfl, rfl⟩; refine jjU ?_)))
    refine jjX (by decide +kernel) inferInstance ?_
    (refine jjJ rfl ?_; refine jjC ?_; apply jI; exact eI rfl; refine jY rfl rfl (by omega) ?_; apply jJ; exact eI rfl; refine jz ?_)
    refine ⟨rfl, by ((refine Same.upd rfl ?_; refine Same.upd rfl ?_; refine Same.upd rfl ?_; refine Same.upd rfl ?_; refine Same.upd rfl ?_; refine Same.upd rfl ?_; refine Same.upd rfl ?_; refine Same.upd rfl ?_; refine Same.upd rfl ?_; refine Same.upd rfl ?_; refine Same.upd rfl ?_; refine Same.upd rfl ?_; refine Same.upd rfl ?_; refine Same.upd rfl ?_; refine Same.upd rfl ?_; refine Same.upd rfl ?_; refine Same.upd rfl ?_; refine Same.upd rfl ?_; refine Same.upd rfl ?_; refine Same.upd rfl ?_; refine Same.upd rfl ?_; refine Same.upd rfl ?_; refine Same.upd rfl ?_; exact Same.ovN)), j - (h + 1), by omega, inferInstance, h + 1, j, congrArg (Value.int .i64) (by omega), rfl, rfl, by omega, hj, fun t h1 h2 => ?_, hhi⟩
    rcases Nat.lt_or_ge t h with c1 | c1
    · exact hmn t c1 hz0
    · obtain rfl : t = h := by omega
      rw [hz]; exact hz0
  · refine jjV [7] (by decide +kernel) inferInstance ?_
    (((apply jjT; exact rfl; rintro w' hq; have := hq.toStep; refine jja rfl rfl (by omega) ?_; refine jz ?_; exact ⟨rfl, rfl⟩; refine jjU ?_)))
    refine jjX (by decide +kernel) inferInstance ?_
    (refine jjK rfl ?_; refine jjC ?_; apply jI; exact eI rfl; apply jJ; exact eI rfl; refine jz ?_)
    refine ⟨rfl, by ((refine Same.upd rfl ?_; refine Same.upd rfl ?_; refine Same.upd rfl ?_; refine Same.upd rfl ?_; refine Same.upd rfl ?_; refine Same.upd rfl ?_; refine Same.upd rfl ?_; refine Same.upd rfl ?_; refine Same.upd rfl ?_; refine Same.upd rfl ?_; refine Same.upd rfl ?_; refine Same.upd rfl ?_; refine Same.upd rfl ?_; refine Same.upd rfl ?_; refine Same.upd rfl ?_; refine Same.upd rfl ?_; refine Same.upd rfl ?_; refine Same.upd rfl ?_; refine Same.upd rfl ?_; refine Same.upd rfl ?_; refine Same.upd rfl ?_; refine Same.upd rfl ?_; exact Same.ovN)), h - i, by omega, inferInstance, i, h, rfl, rfl, rfl, by omega, by omega, hlo, fun t h1 h2 h3 => ?_⟩
    rcases Nat.lt_or_ge h t with c1 | c1
    · exact hz0 (hz ▸ hup t h1 c1 h3)
    · obtain rfl : t = h := by omega
      exact hz0 (hz ▸ h3)
end Go.Proofs.YtpijeomnplmakaaGreatDoor

/- Plain law: what CompactFunc leaves, step by step. -/
namespace Go.Proofs.YtpijeomnplmakaaGreatDoor
open Go.RowKit

theorem cptGo_snoc {α : Type} {f : α → α → Int} : ∀ (r : List α) (p y : α), cptGo f p (r ++ [y]) = cptGo f p r ++ if f y (r.getLastD p) = 0 then [] else [y]
  | [], p, y => by
    show (if f y p = 0 then cptGo f y [] else y :: cptGo f y []) = [] ++ if f y p = 0 then [] else [y]
    rw [List.nil_append]
    rfl
  | z :: r, p, y => by
    have ih := cptGo_snoc (f := f) r z y
    rw [List.cons_append, List.getLastD_cons]
    show (if f z p = 0 then cptGo f z (r ++ [y]) else z :: cptGo f z (r ++ [y])) = (if f z p = 0 then cptGo f z r else z :: cptGo f z r) ++ _
    by_cases e : f z p = 0
    · rw [if_pos e, if_pos e, ih]
    · rw [if_neg e, if_neg e, ih, List.cons_append]
theorem cpt_step {α : Type} {f : α → α → Int} {l : List α} {i : Nat} (hi : i + 1 < l.length) : cptL f (l.take (i + 2)) = cptL f (l.take (i + 1)) ++ if f l[i + 1] l[i] = 0 then [] else [l[i + 1]] := by
  cases l with
  | nil => simp at hi
  | cons x r =>
    have hi' : i < r.length := by simpa using hi
    have e1 : (x :: r).take (i + 2) = x :: (r.take i ++ [r[i]]) := by
      rw [List.take_succ_cons, List.take_succ_eq_append_getElem hi']
    have e2 : (x :: r).take (i + 1) = x :: r.take i := List.take_succ_cons
    rw [e1, e2, cptL, cptL, cptGo_snoc, List.cons_append, List.getElem_cons_succ]
    have e3 : (r.take i).getLastD x = (x :: r)[i]'(by omega) := by
      cases i with
      | zero => rfl
      | succ i =>
        rw [List.getElem_cons_succ, List.take_succ_eq_append_getElem (by omega), List.getLastD_concat]
    rw [e3]
theorem cpt_all {α : Type} {f : α → α → Int} {l : List α} : ∀ {k : Nat}, 1 ≤ k → k ≤ l.length → (∀ t (h : t + 1 < l.length), t + 1 < k → f l[t + 1] l[t] ≠ 0) → cptL f (l.take k) = l.take k
  | 0, h, _, _ => absurd h (by omega)
  | 1, _, h1, _ => by
    cases l with
    | nil => simp at h1
    | cons x r => rfl
  | k + 2, _, h1, h => by
    have ih := cpt_all (f := f) (l := l) (k := k + 1) (by omega) (by omega) fun t h2 h3 => h t h2 (by omega)
    rw [cpt_step (by omega), ih, if_neg (h k (by omega) (by omega))]
    exact (List.take_succ_eq_append_getElem (by omega)).symm
end Go.Proofs.YtpijeomnplmakaaGreatDoor

/- The proof engine, part 37: a whole element stored into a slice of the call's own. -/
namespace Go.Proofs.YtpijeomnplmakaaGreatDoor
open Go.RowKit

theorem flat_put {k : Nat} {x' : Value} (hx' : x'.cells.size = k) : ∀ {xs : List Value} {j : Nat}, (∀ x ∈ xs, x.cells.size = k) → j < xs.length →
    ((xs.set j x').flatMap (·.cells.toList)) = (xs.flatMap (·.cells.toList)).take (j * k) ++ x'.cells.toList ++ (xs.flatMap (·.cells.toList)).drop (j * k + k)
  | [], j, _, hj => absurd hj (Nat.not_lt_zero _)
  | y :: xs, j, hk, hj => by
    have hy : y.cells.toList.length = k := by simpa using hk y List.mem_cons_self
    cases j with
    | zero =>
      rw [List.set_cons_zero, List.flatMap_cons, List.flatMap_cons, Nat.zero_mul, List.take_zero, List.nil_append, Nat.zero_add, List.drop_append_of_le_length (by omega), List.drop_of_length_le (by omega), List.nil_append]
    | succ j =>
      have := flat_put hx' (xs := xs) (j := j) (fun z hz => hk z (List.mem_cons_of_mem _ hz)) (by simpa using hj)
      have e1 : (j + 1) * k = y.cells.toList.length + j * k := by rw [hy, Nat.add_mul]; omega
      have ht : ∀ F : List Value, (y.cells.toList ++ F).take (y.cells.toList.length + j * k) = y.cells.toList ++ F.take (j * k) := fun F => List.take_length_add_append _
      have hd : ∀ F : List Value, (y.cells.toList ++ F).drop (y.cells.toList.length + (j * k + k)) = F.drop (j * k + k) := fun F => List.drop_length_add_append _
      rw [List.set_cons_succ, List.flatMap_cons, List.flatMap_cons, this, e1, Nat.add_assoc, ht, hd]
      simp only [List.append_assoc]
section rules
variable {P : Program} {ro : Option Nat} {n : Nat} {all rest : List Oper} {K : Sl → World → Prop} {s : Sl} {w : World} {d : Nat} {ty : Nat} {pos : String} {af : Array Edge}
variable {x y : Operand}
theorem Ops.storeW {B e k g j bytes t : Nat} {agg : Bool} {v z : Value} {xs : List Value} {X' : Value} (hown : OwnL w B e agg k v xs) (hg : v.ownBlock = some g) (hj : j < xs.length) (hX' : fitsV agg k X' = true)
    (hx : ev n s x = .pointer (some ⟨g, j * k, none⟩)) (hy : ev n s y = X') (hu1 : X'.cells.toList.all (·.oneCell') = true) [hz : TS P t z k bytes]
    (h : ∀ w' o, PutO w w' g o → OwnL w' B e agg k v (xs.set j X') → Ops P ro n all rest K s w') : Ops P ro n all (⟨none, .store t x y, ty, pos, af, none⟩ :: rest) K s w := by
  have hxk : X'.cells.size = k := fitsV_cells hX'
  rcases hown.own.2 with ⟨rfl, _⟩ | ⟨g', cap, cur, rfl, hB, hh, hn, hm, hs, ht⟩
  · simp [Value.ownBlock] at hg
  · have hgg : g' = g := by simpa [Value.ownBlock] using hg
    subst hgg
    have hfl := flat_len (k := k) (xs := xs) fun y hy => fitsV_cells (hown.fit y hy)
    have hjk : j * k + k ≤ xs.length * k := by
      have : (j + 1) * k ≤ xs.length * k := Nat.mul_le_mul_right k hj
      rw [Nat.add_mul] at this; omega
    have hcl : xs.length * k ≤ cap * k := Nat.mul_le_mul_right k hn
    have hbk : Bk w g' cur.toList e := ⟨by simpa using hh⟩
    have hcs : cur.toList.length = cap * k := by simpa using hs
    have hput := flat_put (x' := X') hxk (xs := xs) (j := j) (fun y hy => fitsV_cells (hown.fit y hy)) hj
    have hfl' := flat_len (k := k) (xs := xs.set j X') fun y hy => by
      rcases List.mem_or_eq_of_mem_set hy with h1 | h1
      · exact fitsV_cells (hown.fit y h1)
      · subst h1; exact hxk
    rw [List.length_set] at hfl'
    have e0 : cur.toList = xs.flatMap (·.cells.toList) ++ cur.toList.drop (xs.length * k) := by rw [← ht, List.take_append_drop]
    refine Ops.store hx hy hxk (Nat.ble_eq_true_of_le (by omega)) hu1 ?_
    intro w' hp
    have e1 : cur.toList.take (j * k) ++ X'.cells.toList ++ cur.toList.drop (j * k + k) = (xs.set j X').flatMap (·.cells.toList) ++ cur.toList.drop (xs.length * k) := by
      rw [hput]
      conv => lhs; rw [e0]
      rw [List.take_append_of_le_length (by omega), List.drop_append_of_le_length (by omega)]
      simp only [List.append_assoc]
    rw [e1] at hp
    refine h w' _ hp ⟨⟨?_, .inr ⟨g', cap, ((xs.set j X').flatMap (·.cells.toList) ++ cur.toList.drop (xs.length * k)).toArray, by rw [List.length_set], hB, hp.new, by rw [List.length_set]; exact hn, hm, ?_, ?_⟩⟩, ?_, by rw [List.length_set]; exact hown.len⟩
    · rw [List.length_set]; exact hfl'
    · simp only [List.size_toArray, List.length_append, List.length_drop]
      omega
    · rw [List.length_set]
      show List.take (xs.length * k) (_ ++ _) = _
      rw [List.take_append_of_le_length (by omega), List.take_of_length_le (by omega)]
    · intro y hy
      rcases List.mem_or_eq_of_mem_set hy with h1 | h1
      · exact hown.fit y h1
      · subst h1; exact hX'
end rules
end Go.Proofs.YtpijeomnplmakaaGreatDoor

/- Operations: clear of elements of several cells. -/
namespace Go.Proofs.YtpijeomnplmakaaGreatDoor
open Go.RowKit
section rules
variable {P : Program} {ro : Option Nat} {n : Nat} {all rest : List Oper} {K : Sl → World → Prop} {s : Sl} {w : World} {t e ty : Nat} {pos : String} {af : Array Edge} {x : Operand} {g o l c bytes k : Nat} {cs : List Value} {z : Value}
/-- Clear within a block that is known whole: what lies there then is told by its length alone. -/
theorem Ops.clearK (hB : Bk w g cs e) (hx : ev n s x = .slice (some ⟨g, o, none⟩) l c) (hl0 : 0 < l) (hfit : o + l * k ≤ cs.length) [ht : TSl P t e] [hz : TS P e z k bytes] (hzz : z.cells.size = k) (hk : Nat.blt 0 k = true) (h1 : z.cells.toList.all (·.oneCell') = true)
    (h : ∀ (w' : World) (Z : List Value), Z.length = l * k → (∀ v ∈ Z, v.oneCell' = true) → PutO w w' g (.cells (cs.take o ++ Z ++ cs.drop (o + l * k)).toArray e (0, 0)) → Ops P ro n all rest K s w') :
    Ops P ro n all (⟨none, .call { callee := .builtin .clear, args := #[x], argTypes := #[t] }, ty, pos, af, none⟩ :: rest) K s w := by
  obtain ⟨inf, hi1, hiz, his, _⟩ := hz.info
  have hzv : (zeroValue e).run P w = .ok z w := by simp [zeroValue, typeInfo, hi1, hiz]
  have hk0 : 0 < k := by simpa using hk
  obtain ⟨Z, hZ⟩ : ∃ Z, (Builtin.zeroCells z.cells l).toList = Z := ⟨_, rfl⟩
  have hZl : Z.length = l * k := by rw [← hZ]; simp [Builtin.zeroCells, hzz]
  have hZ1 : ∀ v ∈ Z, v.oneCell' = true := by
    intro v hv
    rw [← hZ] at hv
    simp only [Builtin.zeroCells, Array.toList_map, List.mem_map] at hv
    obtain ⟨i, _, rfl⟩ := hv
    have hi : i % z.cells.size < z.cells.size := Nat.mod_lt _ (by omega)
    rw [getElem!_pos z.cells _ hi]
    exact List.all_eq_true.1 h1 _ (by simp)
  have hst := run_storeCells_at P g o e Z 0 cs.toArray w hB.h (by simpa [hZl] using hfit) hZ1
  simp only [Nat.add_zero, hZl] at hst
  have hr : (Builtin.clear_ #[t] ty #[.slice (some ⟨g, o, none⟩) l c]).run P w = .ok (.tuple #[]) (w.setRow g (cs.take o ++ Z ++ cs.drop (o + l * k)).toArray) := by
    obtain ⟨m, rfl⟩ : ∃ m, l = m + 1 := ⟨l - 1, by omega⟩
    simp [Builtin.clear_, run_underlying ht.h, hzv, hZ, hst]
  exact Ops.step rfl (OpW.ofRun (v := .tuple #[]) (w' := w.setRow g (cs.take o ++ Z ++ cs.drop (o + l * k)).toArray) rfl (by simp [execOp, resolve, invoke, builtin, hx, hr]) (h _ Z hZl hZ1 (putO_setRow hB)))
end rules
end Go.Proofs.YtpijeomnplmakaaGreatDoor

/- The proof engine, part 41: slices of the call's own as a block of cells, elements of several cells. -/
namespace Go.Proofs.YtpijeomnplmakaaGreatDoor
open Go.RowKit

theorem OwnL.cellsK {w : World} {B e k n c g : Nat} {agg : Bool} {l : List Value} (h : OwnL w B e agg k (.slice (some ⟨g, 0, none⟩) n c) l) : ∃ cs, Bk w g cs e ∧ cs.length = c * k ∧ n ≤ c ∧ c ≤ maxLen ∧ l.length = n ∧ cs.take (n * k) = l.flatMap (·.cells.toList) ∧ B ≤ g := by
  rcases h.own.2 with ⟨e0, _⟩ | ⟨g', cap, cur, e0, hB, hg, hn, hm, hs, ht⟩
  · simp at e0
  · simp only [Value.slice.injEq, Option.some.injEq, Addr.mk.injEq] at e0
    obtain ⟨⟨rfl, _⟩, rfl, rfl⟩ := e0
    exact ⟨cur.toList, ⟨by simpa using hg⟩, by simpa using hs, hn, hm, rfl, ht, hB⟩
theorem OwnL.ofCellsK {w : World} {B e k n c g : Nat} {agg : Bool} {l cs : List Value} (hB : Bk w g cs e) (hc : cs.length = c * k) (hn : n ≤ c) (hm : c ≤ maxLen) (hl : l.length = n) (ht : cs.take (n * k) = l.flatMap (·.cells.toList)) (hn' : n ≤ 140737488355328) (hg : B ≤ g) (hf : ∀ x ∈ l, fitsV agg k x = true) : OwnL w B e agg k (.slice (some ⟨g, 0, none⟩) n c) l := by
  have hfl := flat_len (k := k) (xs := l) fun y hy => fitsV_cells (hf y hy)
  refine ⟨⟨hfl, .inr ⟨g, c, cs.toArray, by rw [hl], hg, hB.h, by omega, hm, by simp [hc], ?_⟩⟩, hf, by rw [hl]; exact hn'⟩
  rw [hl]; exact ht
end Go.Proofs.YtpijeomnplmakaaGreatDoor

/- rack: two slips that rank alike; slices.CompactFunc at slips. -/
namespace Go.Proofs.YtpijeomnplmakaaGreatDoor
open Go.RowKit Go.Sort

theorem same_slip (q : Nat) [he : Enters Tryz.prog q] (cf : Slp → Slp → Int) (hc : CmpQ q cf)
    (x y : Slp) (hx : GdS x) (hy : GdS y) (b : Nat) (w : World) [hmx : MxI w] [hA : At w b 0 [.func (.func q) #[] #[]]] : Ct Tryz.prog 67 [encSl x, encSl y, .pointer (some ⟨b, 0, none⟩)] w fun v _ => v = .bool (decide (cf x y = 0)) := by
  refine Ct.ofW (by simp) ?_
  (refine jjB ?_; refine jjC ?_)
  (refine jy rfl ?_; intro b3 w_b3 hb_b3 hs_b3 hS_b3 hk_b3; have hA_b3 := At.ofBlock hk_b3)
  (refine jy rfl ?_; intro b4 w_b4 hb_b4 hs_b4 hS_b4 hk_b4; have hA_b4 := At.ofBlock hk_b4)
  (apply jJ; exact eB rfl; refine jz ?_; refine jjB ?_; refine jjC ?_; refine jN rfl rfl rfl ?_; refine jO rfl rfl rfl rfl ?_; refine jO rfl rfl rfl rfl ?_)
  refine Ops.callR rfl (Enters.h (P := Tryz.prog) (g := q)) rfl (hc x y _ inferInstance hx hy) ?_
  rintro e w6 ⟨rfl, x6, -⟩
  refine ⟨_, rfl, ?_⟩
  have s6 := x6.toStep
  (refine jb rfl rfl ?_; apply jJ; exact eB rfl; refine jz ?_; refine jjF ?_; refine jB rfl rfl ⟨inferInstance, ?_⟩)
  exact rfl
end Go.Proofs.YtpijeomnplmakaaGreatDoor

/- slices.CompactFunc at slips: writes in the caller's slice. -/
namespace Go.Proofs.YtpijeomnplmakaaGreatDoor
open Go.RowKit Go.Sort

section
variable (q : Nat) [he : Enters Tryz.prog q] (cf : Slp → Slp → Int) (hc : CmpQ q cf)
include hc in
set_option maxHeartbeats 4000000 in
theorem Compact_slip (bk g n c : Nat) (l : List Slp) (hg : ∀ x ∈ l, GdS x) (w : World) (hA : At w bk 0 [.func (.func q) #[] #[]]) (hne : bk ≠ g) (hbk : bk < w.heap.size) {B : Nat} (hO : OwnL w B 49 true 6 (.slice (some ⟨g, 0, none⟩) n c) (l.map encSl)) (hn : n ≤ 1000000) (hmx : ∀ V, Only g w V → MxI V) :
    Calls Tryz.prog 66 [.slice (some ⟨g, 0, none⟩) n c, .func (.func 67) #[] #[.pointer (some ⟨bk, 0, none⟩)]].toArray w fun e w' => e = .returned (.slice (some ⟨g, 0, none⟩) (cptL cf l).length c) ∧ Only g w w' ∧ OwnL w' B 49 true 6 (.slice (some ⟨g, 0, none⟩) (cptL cf l).length c) ((cptL cf l).map encSl) := by
  have hln : l.length = n := by obtain ⟨cs, _, _, _, _, h, _⟩ := hO.cellsK; rw [List.length_map] at h; exact h
  subst hln
  refine Calls.ofW (by simp) ?_
  by_cases h2 : l.length < 2
  · have e : cptL cf l = l := by
      match l, h2 with
      | [], _ => rfl
      | [x], _ => rfl
      | x :: y :: r, h => simp at h; omega
    rw [e]
    (refine jjB ?_; refine jjC ?_; apply jJ; exact eS rfl; refine jz ?_; refine jjB ?_; refine jjB ?_; refine jjC ?_; apply jI; exact eS rfl; refine jh rfl ?_; refine jjZ rfl rfl (by omega) ?_; refine jz ?_; refine jjJ rfl ?_; refine jjB ?_; refine jjC ?_; apply jI; exact eS rfl; apply jJ; exact eS rfl; refine jz ?_; refine jjF ?_)
    exact jB rfl rfl ⟨rfl, .ofExt (Ext.refl w), hO⟩
  (refine jjB ?_; refine jjC ?_; apply jJ; exact eS rfl; refine jz ?_; refine jjB ?_; refine jjB ?_; refine jjC ?_; apply jI; exact eS rfl; refine jh rfl ?_; refine jja rfl rfl (by omega) ?_; refine jz ?_; refine jjK rfl ?_; refine jjG ?_; refine jjB ?_; refine jjB ?_; refine jjC ?_; apply jJ; exact eI rfl; refine jz ?_; refine jjD ?_)
  refine W.keep0 [(0, .slice (some ⟨g, 0, none⟩) l.length c), (1, .func (.func 67) #[] #[.pointer (some ⟨bk, 0, none⟩)]), (5, .int .i64 ((1 : Nat) : Int))] ⟨eS rfl, rfl, eI rfl, trivial⟩ fun s0 => ?_
  refine W.loopG (12 :: 13 :: 14 :: 15 :: 18 :: 19 :: 20 :: 21 :: 22 :: 23 :: 24 :: 25 :: 26 :: 27 :: 28 :: 29 :: 30 :: 31 :: 6 :: 7 :: 32 :: 33 :: 34 :: 35 :: 38 :: 39 :: 40 :: 41 :: 42 :: 43 :: 44 :: 45 :: 46 :: 47 :: 48 :: 49 :: 50 :: 51 :: 52 :: 53 :: 54 :: 55 :: 56 :: 57 :: 58 :: 5 :: 36 :: 37 :: 59 :: 60 :: 61 :: 62 :: 63 :: 64 :: 4 :: 16 :: 17 :: []) (fun g' s' V => ∃ k : Nat, s' 5 = .int .i64 (k : Int) ∧ g' = l.length - k ∧ 1 ≤ k ∧ k ≤ l.length ∧ (∀ t (h : t + 1 < l.length), t + 1 < k → cf l[t + 1] l[t] ≠ 0) ∧ Only g w V ∧ OwnL V B 49 true 6 (.slice (some ⟨g, 0, none⟩) l.length c) (l.map encSl)) (l.length - 1) ⟨1, rfl, by omega, by omega, by omega, fun t h h' => by omega, .ofExt (Ext.refl w), hO⟩ ?_
  rintro _ sd V ⟨k, h5, rfl, hk1, hk2, hdf, hOn, hOV⟩
  refine W.fix (d := 5) h5 ?_
  clear h5
  by_cases hk3 : k < l.length
  rotate_left
  · obtain rfl : k = l.length := by omega
    have e : cptL cf l = l := by
      have := cpt_all (f := cf) (l := l) (k := l.length) (by omega) (Nat.le_refl _) hdf
      rwa [List.take_length] at this
    rw [e]
    (refine jjB ?_; refine jjB ?_; refine jjC ?_; apply jI; exact eI rfl; apply jI; exact eS rfl; refine jh rfl ?_; refine jja rfl rfl (by omega) ?_; refine jz ?_; refine jjK rfl ?_; refine jjE ?_; refine jjB ?_; refine jjC ?_; apply jI; exact eS rfl; apply jJ; exact eS rfl; refine jz ?_; refine jjF ?_)
    exact jB rfl rfl ⟨rfl, hOn, hOV⟩
  obtain ⟨i, rfl⟩ : ∃ i, k = i + 1 := ⟨k - 1, by omega⟩
  have hi1 : i + 1 < l.length := by omega
  have hmV := hmx V hOn
  have hAb : At V bk 0 [.func (.func q) #[] #[]] := hOn.at_ hA hne
  have hR : RowV V true 6 (.slice (some ⟨g, 0, none⟩) l.length c) (l.map encSl) := hOV.row
  have hA1 : At V g (0 + (i + 1) * 6) (encSl l[i + 1]).cells.toList := place_k hR (by rw [List.getElem?_map, List.getElem?_eq_getElem hi1]; rfl)
  have hA0 : At V g (0 + i * 6) (encSl l[i]).cells.toList := place_k hR (by rw [List.getElem?_map, List.getElem?_eq_getElem (by omega)]; rfl)
  (refine jjB ?_; refine jjB ?_; refine jjC ?_; apply jI; exact eI rfl; apply jI; exact eS rfl; refine jh rfl ?_; refine jjZ rfl rfl (by omega) ?_; refine jz ?_; refine jjJ rfl ?_; refine jjG ?_; refine jjB ?_; refine jjD ?_; refine jjB ?_)
  refine W.draw (fun w' => Ext V w') ?_
  intro w5 hS5
  refine jjV [0, 1, 2] (by decide +kernel) hS5.ext ?_
  (((apply jjT; exact rfl; rintro w' hq; have := hq.toStep; apply jI; exact eF rfl; refine jz ?_; exact ⟨rfl, rfl⟩; apply jjT; exact rfl; rintro w' hq; have := hq.toStep; apply jI; exact eS rfl; refine jz ?_; exact ⟨rfl, rfl⟩; apply jjT; exact rfl; rintro w' hq; have := hq.toStep; apply jI; exact eI rfl; refine jz ?_; exact ⟨rfl, rfl⟩; refine jjU ?_)))
  refine jjV [3] (by decide +kernel) hS5.ext (jjT (v := .pointer (some ⟨g, 0 + (i + 1) * 6, none⟩)) rfl (fun w' q1 => ?_) (jjU ?_)); (refine jH (i + 1) rfl rfl rfl (by omega) ?_; refine jz ?_; exact ⟨rfl, rfl⟩)
  refine jjV [4] (by decide +kernel) hS5.ext (jjT (v := encSl l[i + 1]) rfl (fun w' q1 => ?_) (jjU ?_)); (refine Ops.loadOA (off := 0) (hA1.ext q1) rfl rfl rfl rfl ?_; refine jz ?_; exact ⟨rfl, rfl⟩)
  refine jjV [5, 6, 7] (by decide +kernel) hS5.ext ?_
  (((apply jjT; exact rfl; rintro w' hq; have := hq.toStep; apply jI; exact eS rfl; refine jz ?_; exact ⟨rfl, rfl⟩; apply jjT; exact rfl; rintro w' hq; have := hq.toStep; apply jI; exact eI rfl; refine jz ?_; exact ⟨rfl, rfl⟩; apply jjT; exact rfl; rintro w' hq; have := hq.toStep; refine jZ rfl rfl (by omega) ?_; refine jz ?_; exact ⟨rfl, rfl⟩; refine jjU ?_)))
  refine jjV [8] (by decide +kernel) hS5.ext (jjT (v := .pointer (some ⟨g, 0 + i * 6, none⟩)) rfl (fun w' q1 => ?_) (jjU ?_)); (refine jH i rfl rfl (by omega) (by omega) ?_; refine jz ?_; exact ⟨rfl, rfl⟩)
  refine jjV [9] (by decide +kernel) hS5.ext (jjT (v := encSl (l[i]'(by omega))) rfl (fun w' q1 => ?_) (jjU ?_)); (refine Ops.loadOA (off := 0) (hA0.ext q1) rfl rfl rfl rfl ?_; refine jz ?_; exact ⟨rfl, rfl⟩)
  (apply jjW 10; (decide +kernel); exact rfl; (exact inferInstance))
  refine jjQ (same_slip q cf hc l[i + 1] l[i] (hg _ (List.getElem_mem _)) (hg _ (List.getElem_mem _)) bk _) rfl rfl ?_
  rintro _ w6 hS6 rfl
  refine jz ?_
  refine jjX (by decide +kernel) inferInstance ?_
  have hO6 := (hOV.ext hS5.ext).ext hS6.ext
  have hOn6 : Only g w w6 := hOn.trans (.ofExt inferInstance)
  by_cases hz : cf l[i + 1] l[i] = 0
  rotate_left
  · rw [decide_eq_false hz]
    (refine jjK rfl ?_; refine jjG ?_; refine jjC ?_; apply jI; exact eI rfl; refine jY rfl rfl (by omega) ?_; apply jJ; exact eI rfl; refine jz ?_)
    refine ⟨rfl, by ((refine Same.upd rfl ?_; refine Same.upd rfl ?_; refine Same.upd rfl ?_; refine Same.upd rfl ?_; refine Same.upd rfl ?_; refine Same.upd rfl ?_; refine Same.upd rfl ?_; refine Same.upd rfl ?_; refine Same.upd rfl ?_; refine Same.upd rfl ?_; refine Same.upd rfl ?_; refine Same.upd rfl ?_; refine Same.upd rfl ?_; refine Same.upd rfl ?_; refine Same.upd rfl ?_; refine Same.upd rfl ?_; refine Same.upd rfl ?_; refine Same.upd rfl ?_; refine Same.upd rfl ?_; exact Same.ovN)), l.length - (i + 2), by omega, i + 2, congrArg (Value.int .i64) (by omega), rfl, by omega, by omega, fun t h h' => ?_, hOn6, hO6⟩
    rcases Nat.lt_or_ge t i with c1 | c1
    · exact hdf t h (by omega)
    · obtain rfl : t = i := by omega
      exact hz
  rw [decide_eq_true hz]
  obtain ⟨hlc, hcm⟩ : l.length ≤ c ∧ c ≤ maxLen := by obtain ⟨cs, _, _, h1, h2, _⟩ := hOV.cellsK; exact ⟨h1, h2⟩
  have hcut : cutV (some ⟨g, 0, none⟩) c 6 (i + 1) l.length = .slice (some ⟨g, 0 + (i + 1) * 6, none⟩) (l.length - (i + 1)) (c - (i + 1)) := by
    show Value.slice (if c = i + 1 then _ else _) _ _ = _
    rw [if_neg (by omega)]; rfl
  (refine jjJ rfl ?_; refine jjB ?_; refine jjC ?_; apply jI; exact eS rfl; apply jI; exact eI rfl)
  refine Ops.sliceXLv (k := 6) (lo := i + 1) rfl rfl rfl (by omega) ?_
  rw [hcut]
  (apply jJ; exact eS rfl; refine jz ?_; refine jjB ?_; refine jjB ?_; refine jjC ?_; apply jJ; exact eI rfl; refine jz ?_; refine jjD ?_)
  have hP0 : cptL cf (l.take (i + 2)) = l.take (i + 1) := by
    rw [cpt_step hi1, if_pos hz, List.append_nil]
    exact cpt_all (by omega) (by omega) hdf
  refine W.keep [(0, .slice (some ⟨g, 0, none⟩) l.length c), (1, .func (.func 67) #[] #[.pointer (some ⟨bk, 0, none⟩)]), (5, .int .i64 ((i + 1 : Nat) : Int)), (6, .slice (some ⟨g, 0 + (i + 1) * 6, none⟩) (l.length - (i + 1)) (c - (i + 1))), (7, .int .i64 ((1 : Nat) : Int))] (D := (12 :: 13 :: 14 :: 15 :: 18 :: 19 :: 20 :: 21 :: 22 :: 23 :: 24 :: 25 :: 26 :: 27 :: 28 :: 29 :: 30 :: 31 :: 6 :: 7 :: 32 :: 33 :: 34 :: 35 :: 38 :: 39 :: 40 :: 41 :: 42 :: 43 :: 44 :: 45 :: 46 :: 47 :: 48 :: 49 :: 50 :: 51 :: 52 :: 53 :: 54 :: 55 :: 56 :: 57 :: 58 :: 5 :: 36 :: 37 :: 59 :: 60 :: 61 :: 62 :: 63 :: 64 :: 4 :: 16 :: 17 :: [])) (sO := upds s0 _) (by ((refine Same.upd rfl ?_; refine Same.upd rfl ?_; refine Same.upd rfl ?_; refine Same.upd rfl ?_; refine Same.upd rfl ?_; refine Same.upd rfl ?_; refine Same.upd rfl ?_; refine Same.upd rfl ?_; refine Same.upd rfl ?_; refine Same.upd rfl ?_; refine Same.upd rfl ?_; refine Same.upd rfl ?_; refine Same.upd rfl ?_; refine Same.upd rfl ?_; refine Same.upd rfl ?_; refine Same.upd rfl ?_; refine Same.upd rfl ?_; refine Same.upd rfl ?_; refine Same.upd rfl ?_; refine Same.upd rfl ?_; refine Same.upd rfl ?_; exact Same.ovN))) ⟨eS rfl, rfl, eI rfl, eS rfl, eI rfl, trivial⟩ fun s1 hs1' => ?_
  refine W.loopG (32 :: 33 :: 34 :: 35 :: 38 :: 39 :: 40 :: 41 :: 42 :: 43 :: 44 :: 45 :: 46 :: 47 :: 48 :: 49 :: 50 :: 51 :: 52 :: 53 :: 54 :: 55 :: 56 :: 57 :: 58 :: 5 :: 36 :: 37 :: 7 :: []) (fun g' s' V => ∃ (k2 kk : Nat) (P : List Slp), s' 7 = .int .i64 (k2 : Int) ∧ s' 5 = .int .i64 (kk : Int) ∧ g' = l.length - (i + 1) - k2 ∧ 1 ≤ k2 ∧ i + 1 + k2 ≤ l.length ∧ P = cptL cf (l.take (i + k2 + 1)) ∧ P.length = kk ∧ kk ≤ i + k2 ∧ 1 ≤ kk ∧ Only g w V ∧ OwnL V B 49 true 6 (.slice (some ⟨g, 0, none⟩) l.length c) ((P ++ l.drop kk).map encSl)) (l.length - (i + 1) - 1) ⟨1, i + 1, l.take (i + 1), rfl, rfl, rfl, by omega, by omega, hP0.symm, by rw [List.length_take]; omega, by omega, by omega, hOn6, by rw [List.take_append_drop]; exact hO6⟩ ?_
  rintro _ sd2 V2 ⟨k2, kk, P, h7, h5, rfl, hk21, hk22, hP, hPl, hkk, hkk1, hOn2, hO2⟩
  refine W.fix (d := 7) h7 (W.fix (d := 5) h5 ?_)
  clear h7 h5
  by_cases hk23 : k2 < l.length - (i + 1)
  rotate_left
  · have hPe : P = cptL cf l := by rw [hP, List.take_of_length_le (by omega)]
    subst hPe
    subst hPl
    obtain ⟨cs, hB, hcl, _, _, _, htk, hBg⟩ := hO2.cellsK
    have hkc : (cptL cf l).length * 6 ≤ cs.length := by rw [hcl]; omega
    have hcutk : cutV (some ⟨g, 0, none⟩) c 6 (cptL cf l).length l.length = .slice (some ⟨g, 0 + (cptL cf l).length * 6, none⟩) (l.length - (cptL cf l).length) (c - (cptL cf l).length) := by
      show Value.slice (if c = (cptL cf l).length then _ else _) _ _ = _
      rw [if_neg (by omega)]
      simp [Addr.add]
      omega
    have hflat : cs.take ((cptL cf l).length * 6) = ((cptL cf l).map encSl).flatMap (·.cells.toList) := by
      have h1 : cs.take ((cptL cf l).length * 6) = (cs.take (l.length * 6)).take ((cptL cf l).length * 6) := by rw [List.take_take, Nat.min_eq_left (by omega)]
      have hl := flat_len (k := 6) (xs := (cptL cf l).map encSl) fun x hx => by obtain ⟨y, _, rfl⟩ := List.mem_map.1 hx; rfl
      rw [List.length_map] at hl
      rw [h1, htk, List.map_append, List.flatMap_append, List.take_append_of_le_length (by omega), List.take_of_length_le (by omega)]
    (refine jjB ?_; refine jjB ?_; refine jjC ?_; apply jI; exact eI rfl; apply jI; exact eS rfl; refine jh rfl ?_; refine jja rfl rfl (by omega) ?_; refine jz ?_; refine jjK rfl ?_; refine jjE ?_; refine jjB ?_; refine jjC ?_; apply jI; exact eS rfl; apply jI; exact eI rfl)
    refine Ops.sliceXLv (k := 6) (lo := (cptL cf l).length) rfl rfl rfl (by omega) ?_
    rw [hcutk]
    skip
    refine Ops.clearK (k := 6) hB rfl (by omega) (by rw [hcl]; omega) rfl rfl rfl ?_
    intro w9 Z hZ hZ1 hp9
    have hOn9 : Only g w w9 := hOn2.trans (.ofPut hp9)
    have hO9 : OwnL w9 B 49 true 6 (.slice (some ⟨g, 0, none⟩) (cptL cf l).length c) ((cptL cf l).map encSl) := by
      refine OwnL.ofCellsK (cs := cs.take (0 + (cptL cf l).length * 6) ++ Z ++ cs.drop (0 + (cptL cf l).length * 6 + (l.length - (cptL cf l).length) * 6)) ⟨hp9.new⟩ ?_ (by omega) hcm (by rw [List.length_map]) ?_ (by omega) hBg fun x hx => by obtain ⟨y, _, rfl⟩ := List.mem_map.1 hx; rfl
      · rw [List.length_append, List.length_append, List.length_take, List.length_drop, hZ, hcl]; omega
      · rw [List.append_assoc, List.take_append_of_le_length (by rw [List.length_take]; omega), List.take_take, Nat.zero_add, Nat.min_self]
        exact hflat
    (refine jz ?_; refine jjB ?_; refine jjC ?_; apply jI; exact eS rfl; apply jI; exact eI rfl)
    refine Ops.sliceXHv (k := 6) (hi := (cptL cf l).length) rfl rfl rfl (by omega) (by omega) ?_
    (apply jJ; exact eS rfl; refine jz ?_; refine jjF ?_)
    exact jB rfl rfl ⟨rfl, hOn9, hO9⟩
  obtain ⟨m, hm⟩ : ∃ m, i + k2 = m := ⟨_, rfl⟩
  have hm1 : m + 1 < l.length := by omega
  have hXl : (P ++ l.drop kk).length = l.length := by rw [List.length_append, List.length_drop]; omega
  have hX : ∀ t (h : t < l.length), kk ≤ t → ((P ++ l.drop kk).map encSl)[t]? = some (encSl l[t]) := fun t h h' => by
    rw [List.getElem?_map, List.getElem?_append_right (by omega), List.getElem?_drop, show kk + (t - P.length) = t by omega, List.getElem?_eq_getElem h]; rfl
  have hmV2 := hmx V2 hOn2
  have hAb2 : At V2 bk 0 [.func (.func q) #[] #[]] := hOn2.at_ hA hne
  have hA1' : At V2 g (0 + (i + 1) * 6 + k2 * 6) (encSl l[m + 1]).cells.toList := by
    have := place_k hO2.row (hX (m + 1) hm1 (by omega))
    rwa [show 0 + (m + 1) * 6 = 0 + (i + 1) * 6 + k2 * 6 by omega] at this
  have hA0' : At V2 g (0 + (i + 1) * 6 + (k2 - 1) * 6) (encSl l[m]).cells.toList := by
    have := place_k hO2.row (hX m (by omega) (by omega))
    rwa [show 0 + m * 6 = 0 + (i + 1) * 6 + (k2 - 1) * 6 by omega] at this
  have hst := cpt_step (f := cf) hm1
  (refine jjB ?_; refine jjB ?_; refine jjC ?_; apply jI; exact eI rfl; apply jI; exact eS rfl; refine jh rfl ?_; refine jjZ rfl rfl (by omega) ?_; refine jz ?_; refine jjJ rfl ?_; refine jjG ?_; refine jjB ?_; refine jjD ?_; refine jjB ?_)
  refine W.draw (fun w' => Ext V2 w') ?_
  intro w7 hS7
  refine jjV [0, 1, 2] (by decide +kernel) hS7.ext ?_
  (((apply jjT; exact rfl; rintro w' hq; have := hq.toStep; apply jI; exact eF rfl; refine jz ?_; exact ⟨rfl, rfl⟩; apply jjT; exact rfl; rintro w' hq; have := hq.toStep; apply jI; exact eS rfl; refine jz ?_; exact ⟨rfl, rfl⟩; apply jjT; exact rfl; rintro w' hq; have := hq.toStep; apply jI; exact eI rfl; refine jz ?_; exact ⟨rfl, rfl⟩; refine jjU ?_)))
  refine jjV [3] (by decide +kernel) hS7.ext (jjT (v := .pointer (some ⟨g, 0 + (i + 1) * 6 + k2 * 6, none⟩)) rfl (fun w' q1 => ?_) (jjU ?_)); (refine jH k2 rfl rfl rfl (by omega) ?_; refine jz ?_; exact ⟨rfl, rfl⟩)
  refine jjV [4] (by decide +kernel) hS7.ext (jjT (v := encSl l[m + 1]) rfl (fun w' q1 => ?_) (jjU ?_)); (refine Ops.loadOA (off := 0) (hA1'.ext q1) rfl rfl rfl rfl ?_; refine jz ?_; exact ⟨rfl, rfl⟩)
  refine jjV [5, 6, 7] (by decide +kernel) hS7.ext ?_
  (((apply jjT; exact rfl; rintro w' hq; have := hq.toStep; apply jI; exact eS rfl; refine jz ?_; exact ⟨rfl, rfl⟩; apply jjT; exact rfl; rintro w' hq; have := hq.toStep; apply jI; exact eI rfl; refine jz ?_; exact ⟨rfl, rfl⟩; apply jjT; exact rfl; rintro w' hq; have := hq.toStep; refine jZ rfl rfl (by omega) ?_; refine jz ?_; exact ⟨rfl, rfl⟩; refine jjU ?_)))
  refine jjV [8] (by decide +kernel) hS7.ext (jjT (v := .pointer (some ⟨g, 0 + (i + 1) * 6 + (k2 - 1) * 6, none⟩)) rfl (fun w' q1 => ?_) (jjU ?_)); (refine jH (k2 - 1) rfl rfl (by omega) (by omega) ?_; refine jz ?_; exact ⟨rfl, rfl⟩)
  refine jjV [9] (by decide +kernel) hS7.ext (jjT (v := encSl (l[m]'(by omega))) rfl (fun w' q1 => ?_) (jjU ?_)); (refine Ops.loadOA (off := 0) (hA0'.ext q1) rfl rfl rfl rfl ?_; refine jz ?_; exact ⟨rfl, rfl⟩)
  (apply jjW 10; (decide +kernel); exact rfl; (exact inferInstance))
  refine jjQ (same_slip q cf hc l[m + 1] l[m] (hg _ (List.getElem_mem _)) (hg _ (List.getElem_mem _)) bk _) rfl rfl ?_
  rintro _ w8 hS8 rfl
  refine jz ?_
  have hO8 := (hO2.ext hS7.ext).ext hS8.ext
  have hOn8 : Only g w w8 := hOn2.trans (.ofExt inferInstance)
  by_cases hz2 : cf l[m + 1] l[m] = 0
  · rw [if_pos hz2, List.append_nil] at hst
    rw [decide_eq_true hz2]
    refine jjV [11] (by decide +kernel) inferInstance ?_
    (((apply jjT; exact rfl; rintro w' hq; have := hq.toStep; refine jp rfl ?_; refine jz ?_; exact ⟨rfl, rfl⟩; refine jjU ?_)))
    refine jjX (by decide +kernel) inferInstance ?_
    (refine jjK rfl ?_; refine jjG ?_; refine jjC ?_; apply jI; exact eI rfl; refine jY rfl rfl (by omega) ?_; apply jJ; exact eI rfl; refine jz ?_)
    exact ⟨rfl, by ((refine Same.upd rfl ?_; refine Same.upd rfl ?_; refine Same.upd rfl ?_; refine Same.upd rfl ?_; refine Same.upd rfl ?_; refine Same.upd rfl ?_; refine Same.upd rfl ?_; refine Same.upd rfl ?_; refine Same.upd rfl ?_; refine Same.upd rfl ?_; refine Same.upd rfl ?_; refine Same.upd rfl ?_; refine Same.upd rfl ?_; refine Same.upd rfl ?_; refine Same.upd rfl ?_; refine Same.upd rfl ?_; refine Same.upd rfl ?_; refine Same.upd rfl ?_; refine Same.upd rfl ?_; refine Same.upd rfl ?_; refine Same.upd rfl ?_; exact Same.ovN)), l.length - (i + 1) - (k2 + 1), by omega, k2 + 1, kk, P, congrArg (Value.int .i64) (by omega), rfl, rfl, by omega, by omega, by rw [hP, show i + (k2 + 1) + 1 = m + 2 by omega, hst, hm], hPl, by omega, hkk1, hOn8, hO8⟩
  rw [if_neg hz2] at hst
  rw [decide_eq_false hz2]
  refine jjV [11] (by decide +kernel) inferInstance ?_
  (((apply jjT; exact rfl; rintro w' hq; have := hq.toStep; refine jq rfl ?_; refine jz ?_; exact ⟨rfl, rfl⟩; refine jjU ?_)))
  refine jjX (by decide +kernel) inferInstance ?_
  (refine jjJ rfl ?_; refine jjB ?_; refine jjC ?_; apply jI; exact eS rfl; apply jI; exact eI rfl; apply jI; exact eS rfl; apply jI; exact eI rfl)
  refine jH k2 rfl rfl rfl (by omega) ?_
  refine Ops.loadOA (off := 0) ((hA1'.ext hS7.ext).ext hS8.ext) rfl rfl rfl rfl ?_
  refine jH kk rfl rfl rfl (by omega) ?_
  refine Ops.storeW (g := g) (j := kk) (X' := encSl l[m + 1]) hO8 rfl (by rw [List.length_map]; omega) rfl (show Value.pointer (some ⟨g, 0 + kk * 6, none⟩) = Value.pointer (some ⟨g, kk * 6, none⟩) from by rw [Nat.zero_add]) rfl rfl ?_
  intro w9 o9 hp9 hO9
  have hset : (P ++ l.drop kk).set kk l[m + 1] = (P ++ [l[m + 1]]) ++ l.drop (kk + 1) := by
    rw [List.drop_eq_getElem_cons (show kk < l.length by omega), List.set_append, if_neg (by omega), hPl, Nat.sub_self, List.set_cons_zero, List.append_assoc]
    rfl
  rw [← List.map_set, hset] at hO9
  have hOn9 : Only g w w9 := hOn8.trans (.ofPut hp9)
  (refine jz ?_; refine jjC ?_; apply jI; exact eI rfl; refine jY rfl rfl (by omega) ?_; apply jJ; exact eI rfl; refine jz ?_; refine jjC ?_; apply jI; exact eI rfl; refine jY rfl rfl (by omega) ?_; apply jJ; exact eI rfl; refine jz ?_)
  exact ⟨rfl, by ((refine Same.upd rfl ?_; refine Same.upd rfl ?_; refine Same.upd rfl ?_; refine Same.upd rfl ?_; refine Same.upd rfl ?_; refine Same.upd rfl ?_; refine Same.upd rfl ?_; refine Same.upd rfl ?_; refine Same.upd rfl ?_; refine Same.upd rfl ?_; refine Same.upd rfl ?_; refine Same.upd rfl ?_; refine Same.upd rfl ?_; refine Same.upd rfl ?_; refine Same.upd rfl ?_; refine Same.upd rfl ?_; refine Same.upd rfl ?_; refine Same.upd rfl ?_; refine Same.upd rfl ?_; refine Same.upd rfl ?_; refine Same.upd rfl ?_; refine Same.upd rfl ?_; refine Same.upd rfl ?_; refine Same.upd rfl ?_; refine Same.upd rfl ?_; refine Same.upd rfl ?_; refine Same.upd rfl ?_; refine Same.upd rfl ?_; refine Same.upd rfl ?_; refine Same.upd rfl ?_; refine Same.upd rfl ?_; exact Same.ovN)), l.length - (i + 1) - (k2 + 1), by omega, k2 + 1, kk + 1, P ++ [l[m + 1]], congrArg (Value.int .i64) (by omega), congrArg (Value.int .i64) (by omega), rfl, by omega, by omega, by rw [hP, show i + (k2 + 1) + 1 = m + 2 by omega, hst, hm], by rw [List.length_append, hPl]; rfl, by omega, by omega, hOn9, hO9⟩
end
end Go.Proofs.YtpijeomnplmakaaGreatDoor
