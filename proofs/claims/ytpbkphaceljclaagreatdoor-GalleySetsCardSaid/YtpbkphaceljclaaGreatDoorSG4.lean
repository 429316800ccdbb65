/- Texts of the proof, part 4: Lg1, Eng29, Lg2, Eng32, Eng26, Lf3, KeyP, Tr3, Lf4, MpK, Ix1, Vo1, Gal1, Lf5, Lf6, Sr1, Sr2, Sr3, Sr4, Sr5, Sr6, Sw1, PlK, PlE, Sw2, Sw3, Sw4, PlG, PlL, PlM, GsP, Vo2, ShS, Vo3, Eng33. -/
import Derived.Shelf.SlSortCmp.Whole1
import Derived.Test.YtpbkphaceljclaaGreatDoorSG3
/- leaf: all places with their words; Words, PlaceOf. -/
namespace Go.Proofs.YtpbkphaceljclaaGreatDoor
open Go.RowKit

abbrev encPW (x : Pl × ByteArray) : List Value := [encPl x.1, .string x.2]
structure BkF (bx bk : Nat) (a : Option Addr) (c : Nat) (cs : List Ch) (w : World) : Prop where
  bx : At w bx 0 [.pointer (some ⟨bk, 0, none⟩)]
  bk : At w bk 0 [.slice a cs.length c]
  row : RowV w true 2 (.slice a cs.length c) (cs.map encCh)
  tx : TextI w cs
set_option maxHeartbeats 4000000 in
theorem all1_leaf (bx bk : Nat) (a : Option Addr) (c : Nat) (cs : List Ch) (hs : SmallT cs) :
    Iter Tryz.prog 93 [.pointer (some ⟨bx, 0, none⟩)] (allW (txF cs) (txF cs).length) encPW (BkF bx bk a c cs) := by
  intro l J Jx M w hJ hJx hF hM1 hM2 hY h0
  have hs1 := hs.1
  have hF0 := hF 0 w h0
  have := hF0.bx
  have := hF0.bk
  refine Calls.ofW (by simp) ?_
  (refine jjB ?_; refine jjC ?_; refine jN rfl rfl rfl ?_; refine jw rfl ?_; refine jm ?_; refine jn rfl ?_; refine jm ?_; refine jn rfl ?_; refine jN rfl rfl rfl ?_; refine jh rfl ?_; apply jI; exact eI rfl; refine jz ?_; refine jjD ?_)
  refine W.keep0 [(0, .func (.yield l) #[] #[]), (13, .slice a cs.length c), (14, .int .i64 (cs.length : Int)), (15, .int .i64 ((0 : Nat) : Int))] ⟨eF rfl, eS rfl, eI rfl, eI rfl, trivial⟩ fun s0 => ?_
  refine W.loopG (16 :: 17 :: 18 :: 19 :: 4 :: 3 :: 20 :: 21 :: 22 :: 23 :: 24 :: 25 :: 26 :: 27 :: 5 :: 6 :: 28 :: 29 :: 30 :: 31 :: 32 :: 33 :: 34 :: 7 :: 8 :: 35 :: 36 :: 37 :: 38 :: 39 :: 40 :: 41 :: 42 :: 43 :: 44 :: 45 :: 15 :: []) (fun g s' w' => ∃ k : Nat, s' 15 = .int .i64 ((k : Nat) : Int) ∧ k ≤ cs.length ∧ g = cs.length - k ∧ J (allW (txF cs) k).length w') cs.length ⟨0, rfl, by omega, rfl, h0⟩ ?_
  rintro _ sd w' ⟨k, h15, hk, rfl, hJk⟩
  refine W.fix h15 ?_
  clear h15
  have hFk := hF _ _ hJk
  by_cases hkc : k < cs.length
  rotate_left
  · obtain rfl : k = cs.length := by omega
    (refine jjB ?_; refine jjC ?_; refine jja rfl rfl (by omega) ?_; refine jz ?_; refine jjB ?_; refine jjK rfl ?_; refine jjE ?_; refine jA rfl ⟨⟨_, rfl⟩, ?_⟩)
    refine .inl ?_
    rw [txF_len]; exact hJk
  have hsk := hs.2 _ (List.getElem_mem hkc)
  have hsl := hsk.1
  have hcl : (chW cs[k]).length = cs[k].2.2.2.length := by simp [chW]
  have hws := wsT_get hkc
  obtain ⟨ba, oa, rfl, hAk⟩ := hFk.row.place' (map_get hkc)
  have htk : k < (txF cs).length := by rw [txF_len]; exact hkc
  (refine jjB ?_; refine jjC ?_; refine jjZ rfl rfl (by omega) ?_; refine jz ?_; refine jjB ?_; refine jjJ rfl ?_; refine jjG ?_; refine jjB ?_; refine jjD ?_; refine jjB ?_; refine jjC ?_; apply jI; exact eI rfl)
  refine jH k rfl rfl rfl hkc ?_
  (refine jQ rfl rfl ?_)
  ((skip); refine jjY ?_; intro b4 w_b4 hb_b4 hs_b4 hS_b4 hk_b4; have hA_b4 := Bk.of hk_b4)
  (apply jJ; exact eI rfl)
  refine Ops.store rfl rfl rfl rfl rfl ?_
  intro wA hpA
  have hEA : Ext w' wA := hpA.ext hS_b4.ext (by omega)
  have hA4 : At wA b4 0 [.int .i64 cs[k].1, .slice cs[k].2.1 cs[k].2.2.2.length cs[k].2.2.1] := Bk.toAt (h := Bk.of hpA.new)
  have hJA := hJ _ _ _ hJk hEA
  (refine jz ?_; refine jjB ?_; refine jjC ?_; refine jm ?_; refine jn rfl ?_; refine jN rfl rfl rfl ?_; refine jh rfl ?_; apply jI; exact eI rfl; refine jz ?_; refine jjD ?_)
  refine W.keep [(0, .func (.yield l) #[] #[]), (13, .slice (some ⟨ba, oa, none⟩) cs.length c), (14, .int .i64 (cs.length : Int)), (15, .int .i64 ((k : Nat) : Int)), (3, .int .i64 ((k : Nat) : Int)), (21, .slice cs[k].2.1 cs[k].2.2.2.length cs[k].2.2.1), (22, .int .i64 (cs[k].2.2.2.length : Int)), (23, .int .i64 ((0 : Nat) : Int))] (D := (16 :: 17 :: 18 :: 19 :: 4 :: 3 :: 20 :: 21 :: 22 :: 23 :: 24 :: 25 :: 26 :: 27 :: 5 :: 6 :: 28 :: 29 :: 30 :: 31 :: 32 :: 33 :: 34 :: 7 :: 8 :: 35 :: 36 :: 37 :: 38 :: 39 :: 40 :: 41 :: 42 :: 43 :: 44 :: 45 :: 15 :: [])) (sO := upds s0 _) (by ((refine Same.upd rfl ?_; refine Same.upd rfl ?_; refine Same.upd rfl ?_; refine Same.upd rfl ?_; refine Same.upd rfl ?_; refine Same.upd rfl ?_; refine Same.upd rfl ?_; refine Same.upd rfl ?_; refine Same.upd rfl ?_; refine Same.upd rfl ?_; refine Same.upd rfl ?_; exact Same.ovN))) ⟨eF rfl, eS rfl, eI rfl, eI rfl, eI rfl, eS rfl, eI rfl, eI rfl, trivial⟩ fun s1 hs1' => ?_
  refine W.loopG (24 :: 25 :: 26 :: 27 :: 5 :: 6 :: 28 :: 29 :: 30 :: 31 :: 32 :: 33 :: 34 :: 7 :: 8 :: 35 :: 36 :: 37 :: 38 :: 39 :: 40 :: 41 :: 42 :: 43 :: 44 :: 23 :: []) (fun g s' V => ∃ n : Nat, s' 23 = .int .i64 ((n : Nat) : Int) ∧ n ≤ cs[k].2.2.2.length ∧ g = cs[k].2.2.2.length - n ∧ J ((allW (txF cs) k).length + ((chW cs[k]).take n).flatten.length) V) cs[k].2.2.2.length ⟨0, rfl, by omega, rfl, hJA⟩ ?_
  rintro _ sd2 V ⟨n, h23, hn, rfl, hJn⟩
  refine W.fix h23 ?_
  clear h23
  have hFn := hF _ _ hJn
  by_cases hnl : n < cs[k].2.2.2.length
  rotate_left
  · obtain rfl : n = cs[k].2.2.2.length := by omega
    rw [← hcl, List.take_length, ← hws, ← allW_succ] at hJn
    (refine jjB ?_; refine jjC ?_; refine jja rfl rfl (by omega) ?_; refine jz ?_; refine jjB ?_; refine jjK rfl ?_; refine jjE ?_; refine jjC ?_; refine jY rfl rfl (by omega) ?_; apply jI; exact eI rfl; refine jz ?_)
    exact ⟨rfl, by ((refine Same.upd rfl ?_; refine Same.upd rfl ?_; refine Same.upd rfl ?_; refine Same.upd rfl ?_; refine Same.ovN' rfl ?_; assumption)), cs.length - (k + 1), by omega, k + 1, congrArg (Value.int .i64) (by omega), by omega, rfl, hJn⟩
  have hsn := hsk.2 _ (List.getElem_mem hnl)
  have hsq := hsn.1
  have hnc : n < (chW cs[k]).length := by rw [hcl]; exact hnl
  have hcn : (chW cs[k])[n] = cs[k].2.2.2[n].2.2 := by simp [chW]
  have hnx := flat_len_succ hnc
  rw [hcn] at hnx
  have iL := hFn.tx.line hkc
  (refine jjB ?_; refine jjC ?_; refine jjZ rfl rfl (by omega) ?_; refine jz ?_; refine jjB ?_; refine jjJ rfl ?_; refine jjG ?_; refine jjB ?_; refine jjD ?_; refine jjB ?_; refine jjC ?_; apply jI; exact eI rfl; refine jF rfl rfl rfl (map_get (by omega)) ?_; intro _ _ _; refine jQ rfl rfl ?_; apply jJ; exact eI rfl; apply jJ; exact eS rfl; refine jz ?_; refine jjB ?_; refine jjC ?_; apply jI; exact eS rfl; refine jh rfl ?_; apply jI; exact eI rfl; refine jz ?_; refine jjD ?_)
  refine W.keep [(0, .func (.yield l) #[] #[]), (13, .slice (some ⟨ba, oa, none⟩) cs.length c), (14, .int .i64 (cs.length : Int)), (15, .int .i64 ((k : Nat) : Int)), (3, .int .i64 ((k : Nat) : Int)), (21, .slice cs[k].2.1 cs[k].2.2.2.length cs[k].2.2.1), (22, .int .i64 (cs[k].2.2.2.length : Int)), (23, .int .i64 ((n : Nat) : Int)), (5, .int .i64 ((n : Nat) : Int)), (28, .slice cs[k].2.2.2[n].1 cs[k].2.2.2[n].2.2.length cs[k].2.2.2[n].2.1), (29, .int .i64 (cs[k].2.2.2[n].2.2.length : Int)), (30, .int .i64 ((0 : Nat) : Int))] (D := (24 :: 25 :: 26 :: 27 :: 5 :: 6 :: 28 :: 29 :: 30 :: 31 :: 32 :: 33 :: 34 :: 7 :: 8 :: 35 :: 36 :: 37 :: 38 :: 39 :: 40 :: 41 :: 42 :: 43 :: 44 :: 23 :: [])) (sO := upds s1 _) (by ((refine Same.upd rfl ?_; refine Same.upd rfl ?_; refine Same.upd rfl ?_; refine Same.upd rfl ?_; refine Same.upd rfl ?_; refine Same.upd rfl ?_; refine Same.upd rfl ?_; refine Same.upd rfl ?_; refine Same.upd rfl ?_; refine Same.upd rfl ?_; exact Same.ovN))) ⟨eF rfl, eS rfl, eI rfl, eI rfl, eI rfl, eS rfl, eI rfl, eI rfl, eI rfl, eS rfl, eI rfl, eI rfl, trivial⟩ fun s2 hs2' => ?_
  refine W.loopG (31 :: 32 :: 33 :: 34 :: 7 :: 8 :: 35 :: 36 :: 37 :: 38 :: 39 :: 40 :: 41 :: 42 :: 43 :: 30 :: []) (fun g s' V => ∃ q : Nat, s' 30 = .int .i64 ((q : Nat) : Int) ∧ q ≤ cs[k].2.2.2[n].2.2.length ∧ g = cs[k].2.2.2[n].2.2.length - q ∧ J ((allW (txF cs) k).length + (((chW cs[k]).take n).flatten.length + q)) V) cs[k].2.2.2[n].2.2.length ⟨0, rfl, by omega, rfl, hJn⟩ ?_
  rintro _ sd3 V2 ⟨q, h30, hq, rfl, hJq⟩
  refine W.fix h30 ?_
  clear h30
  have hFq := hF _ _ hJq
  by_cases hql : q < cs[k].2.2.2[n].2.2.length
  rotate_left
  · obtain rfl : q = cs[k].2.2.2[n].2.2.length := by omega
    (refine jjB ?_; refine jjC ?_; refine jja rfl rfl (by omega) ?_; refine jz ?_; refine jjB ?_; refine jjK rfl ?_; refine jjE ?_; refine jjC ?_; refine jY rfl rfl (by omega) ?_; apply jI; exact eI rfl; refine jz ?_)
    exact ⟨rfl, by ((refine Same.upd rfl ?_; refine Same.upd rfl ?_; refine Same.upd rfl ?_; refine Same.upd rfl ?_; refine Same.ovN' rfl ?_; assumption)), cs[k].2.2.2.length - (n + 1), by omega, n + 1, congrArg (Value.int .i64) (by omega), by omega, rfl, by rw [hnx]; exact hJq⟩
  have hqc : q < ((wsT (txF cs) k)[n]'(by rw [hws]; exact hnc)).length := by simp only [hws, hcn]; exact hql
  have hall := allW_at htk (by rw [hws]; exact hnc) hqc
  simp only [hws, hcn] at hall
  have iW := hFq.tx.word hkc hnl
  (refine jjB ?_; refine jjC ?_; refine jjZ rfl rfl (by omega) ?_; refine jz ?_; refine jjB ?_; refine jjJ rfl ?_; refine jjG ?_; refine jjB ?_; refine jjD ?_; refine jjB ?_; refine jjC ?_; apply jI; exact eI rfl; refine jF rfl rfl rfl (map_get (by omega)) ?_; intro _ _ _; refine jQ rfl rfl ?_; apply jJ; exact eI rfl; apply jJ; exact eT rfl; refine jz ?_; refine jjB ?_; refine jjC ?_; apply jI; exact eF rfl; apply jI; exact eI rfl; apply jI; exact eI rfl; apply jI; exact eI rfl)
  (refine jjS (cells := [.int .i64 (k : Int), .int .i64 (n : Int), .int .i64 (q : Int)]) ?_ ?_; exact rfl)
  (apply jI; exact eT rfl)
  refine Ops.yield (hY _ _ _ hall hJq) rfl rfl ?_
  rintro e V3 (⟨rfl, hJ3, hFr⟩ | ⟨rfl, hJx3⟩)
  · refine ⟨_, rfl, ?_⟩
    (refine jp rfl ?_; refine jz ?_; refine jjK rfl ?_; refine jjG ?_; refine jjC ?_; refine jY rfl rfl (by omega) ?_; apply jI; exact eI rfl; refine jz ?_)
    exact ⟨rfl, by ((refine Same.upd rfl ?_; refine Same.upd rfl ?_; refine Same.upd rfl ?_; refine Same.upd rfl ?_; refine Same.upd rfl ?_; refine Same.upd rfl ?_; refine Same.upd rfl ?_; refine Same.upd rfl ?_; refine Same.upd rfl ?_; refine Same.upd rfl ?_; refine Same.upd rfl ?_; refine Same.upd rfl ?_; refine Same.upd rfl ?_; refine Same.upd rfl ?_; refine Same.upd rfl ?_; refine Same.upd rfl ?_; refine Same.upd rfl ?_; exact Same.ovN)), cs[k].2.2.2[n].2.2.length - (q + 1), by omega, q + 1, congrArg (Value.int .i64) (by omega), by omega, rfl, hJ3⟩
  · refine ⟨_, rfl, ?_⟩
    (refine jq rfl ?_; refine jz ?_; refine jjJ rfl ?_; refine jjF ?_; refine jA rfl ⟨⟨_, rfl⟩, ?_⟩)
    exact .inr ⟨_, (List.getElem?_eq_some_iff.1 hall).1, hJx3⟩
theorem all_leaf (bk : Nat) (w : World) : Ct Tryz.prog 61 [.pointer (some ⟨bk, 0, none⟩)] w fun v w' => ∃ bx, v = .func (.func 93) #[] ([.pointer (some ⟨bx, 0, none⟩)] : List Value).toArray ∧ w.heap.size ≤ bx ∧ At w' bx 0 [.pointer (some ⟨bk, 0, none⟩)] := by
  refine Ct.ofW (by simp) ?_
  (refine jjB ?_; refine jjC ?_)
  (refine jy rfl ?_; intro bx w_bx hb_bx hs_bx hS_bx hk_bx; have hA_bx := At.ofBlock hk_bx)
  (apply jJ; exact rfl; refine jz ?_; refine jjB ?_; refine jjC ?_; refine jv ?_; apply jJ; exact eF rfl; refine jz ?_; refine jjF ?_; refine jB rfl rfl ⟨inferInstance, ?_⟩)
  exact ⟨bx, rfl, by omega, inferInstance⟩
end Go.Proofs.YtpbkphaceljclaaGreatDoor

/- The proof engine, part 29: two results in variables, where marks lie. -/
namespace Go.Proofs.YtpbkphaceljclaaGreatDoor
open Go.RowKit

end Go.Proofs.YtpbkphaceljclaaGreatDoor

/- leaf: Words, PlaceOf. -/
namespace Go.Proofs.YtpbkphaceljclaaGreatDoor
open Go.RowKit

theorem allW_small {cs : List Ch} (ht : textB (txF cs) = true) : (allW (txF cs) (txF cs).length).length ≤ 600 := by
  have h := allS_len (side := 1) (wd := 12) ht
  rw [allS, List.length_map] at h
  rw [allW_len]; exact h
section
variable (a : Option Addr) (c : Nat) (cs : List Ch) (w : World) [hrow : RowI w (.slice a cs.length c) true 2 (cs.map encCh)] [hT : TextI w cs]
end
end Go.Proofs.YtpbkphaceljclaaGreatDoor

/- The proof engine, part 32: iterators that write one block of their own while they run. -/
namespace Go.Proofs.YtpbkphaceljclaaGreatDoor
open Go.RowKit

/-- Below N all is as it was but block kb; data are as they were but in kb. -/
structure GrowB (N kb : Nat) (w w' : World) : Prop where
  os : w'.os = w.os
  tape : w'.tape = w.tape
  output : w'.output = w.output
  size : w.heap.size ≤ w'.heap.size
  old : ∀ (k : Nat), k < N → k ≠ kb → w'.heap[k]? = w.heap[k]?
  data : ∀ (k : Nat) (o : Obj), w.heap[k]? = some o → Obj.loopy o = false → k ≠ kb → w'.heap[k]? = some o
  kd : (∃ o, w.heap[kb]? = some o ∧ Obj.loopy o = false) → ∃ o, w'.heap[kb]? = some o ∧ Obj.loopy o = false
/-- Block kb holds data. -/
abbrev KbD (kb : Nat) (w : World) : Prop := ∃ o, w.heap[kb]? = some o ∧ Obj.loopy o = false
theorem GrowB.refl (N kb : Nat) (w : World) : GrowB N kb w w := ⟨rfl, rfl, rfl, Nat.le_refl _, fun _ _ _ => rfl, fun _ _ h _ _ => h, id⟩
theorem GrowB.trans {N kb : Nat} {a b c : World} (h : GrowB N kb a b) (k : GrowB N kb b c) : GrowB N kb a c :=
  ⟨k.os.trans h.os, k.tape.trans h.tape, k.output.trans h.output, Nat.le_trans h.size k.size, fun i hi hn => (k.old i hi hn).trans (h.old i hi hn), fun i o hi ho hn => k.data i o (h.data i o hi ho hn) ho hn, fun x => k.kd (h.kd x)⟩
theorem GrowB.mono {N M kb : Nat} {w w' : World} (h : GrowB N kb w w') (hM : M ≤ N) : GrowB M kb w w' := ⟨h.os, h.tape, h.output, h.size, fun k hk => h.old k (by omega), h.data, h.kd⟩
theorem Grow.toB {N kb : Nat} {w w' : World} (h : Grow N w w') : GrowB N kb w w' := ⟨h.os, h.tape, h.output, h.size, fun k hk _ => h.old k hk, fun k o hk ho _ => h.data k o hk ho, fun ⟨o, h1, h2⟩ => ⟨o, h.data kb o h1 h2, h2⟩⟩
theorem Ext.growB {N kb : Nat} {w w' : World} (h : Ext w w') (hN : N ≤ w.heap.size) : GrowB N kb w w' := (h.grow hN).toB
theorem PutO.growB {N kb : Nat} {w w' : World} {o : Obj} (p : PutO w w' kb o) (ho : Obj.loopy o = false) : GrowB N kb w w' := ⟨p.os, p.tape, p.output, by rw [p.size]; exact Nat.le_refl _, fun k _ hk => p.other k hk, fun k _ hk _ hn => (p.other k hn).trans hk, fun _ => ⟨o, p.new, ho⟩⟩
theorem GrowB.cell {N kb : Nat} {w w' : World} (g : GrowB N kb w w') {b o : Nat} {v : Value} (h : w.cell? ⟨b, o, none⟩ = some v) (hn : b ≠ kb) : w'.cell? ⟨b, o, none⟩ = some v := by
  obtain ⟨ob, hb, hd⟩ := cell_block h
  have := g.data b ob hb hd hn
  rw [← h]
  exact World.cell?_of_block (a := ⟨b, o, none⟩) (this.trans hb.symm)
theorem At.growB {N kb : Nat} {w w' : World} {b o : Nat} {cs : List Value} (h : At w b o cs) (g : GrowB N kb w w') (hn : b ≠ kb) : At w' b o cs := ⟨fun i v hv => g.cell (h.h i v hv) hn⟩
theorem Bk.growB {N kb : Nat} {w w' : World} {b e : Nat} {cs : List Value} (h : Bk w b cs e) (g : GrowB N kb w w') (hn : b ≠ kb) : Bk w' b cs e := ⟨g.data b _ h.h rfl hn⟩
theorem OwnL.growB {N kb : Nat} {w w' : World} {B e : Nat} {agg : Bool} {k : Nat} {v : Value} {xs : List Value} (h : OwnL w B e agg k v xs) (hs : GrowB N kb w w') (hn : v.ownBlock ≠ some kb) : OwnL w' B e agg k v xs :=
  h.kept fun g hg => by
    rcases h.own.2 with ⟨rfl, _⟩ | ⟨g', cap, cur, rfl, hB, hg', _⟩
    · simp [Value.ownBlock] at hg
    · simp only [Value.ownBlock, Option.some.injEq] at hg
      subst hg
      exact (hs.data _ _ hg' rfl (fun e => hn (by subst e; rfl))).trans hg'.symm
theorem Only.growB {N kb : Nat} {w0 w w' : World} (h : Only kb w0 w) (g : GrowB N kb w w') (hN : w0.heap.size ≤ N) : Only kb w0 w' :=
  ⟨g.os.trans h.os, g.tape.trans h.tape, g.output.trans h.output, Nat.le_trans h.size g.size, fun k hk hn => (g.old k (by omega) hn).trans (h.other k hk hn)⟩

/-- A step that leaves the machine's blocks alone but those in E. -/
structure TrE (E : Nat → Prop) (w w' : World) : Prop where
  size : w.heap.size ≤ w'.heap.size
  keep : ∀ (k : Nat) (o : Obj), ¬ E k → w.heap[k]? = some o → Obj.loopy o = true → w'.heap[k]? = some o
theorem Tr.toE {E : Nat → Prop} {w w' : World} (h : Tr w w') : TrE E w w' := ⟨h.size, fun k o _ hk ho => h.keep k o hk ho⟩
theorem TrE.trans {E : Nat → Prop} {a b c : World} (h : TrE E a b) (k : TrE E b c) : TrE E a c := ⟨Nat.le_trans h.size k.size, fun i o hi ho hl => k.keep i o hi (h.keep i o hi ho hl) hl⟩
theorem TrE.mono {E F : Nat → Prop} {a b : World} (h : TrE E a b) (hf : ∀ k, E k → F k) : TrE F a b := ⟨h.size, fun i o hi ho hl => h.keep i o (fun e => hi (hf i e)) ho hl⟩
theorem MksP.trF {N : Nat} {F : Nat → Prop} {w w' : World} (hF : ∀ k, F k → k < N) : ∀ {ds : List Deferred}, MksP N w ds → TrE F w w' → MksP N w' ds
  | [], _, _ => trivial
  | _ :: _, ⟨⟨D, e, hN, hD, hne⟩, h⟩, t => ⟨⟨D, e, hN, t.keep D _ (fun h => by have := hF D h; omega) hD rfl, hne⟩, h.trF hF t⟩
theorem Yd.mono {P : Program} {l : Nat} {args : List Value} {w : World} {R R' : Ending → World → Prop} (h : Yd P l args w R) (hr : ∀ e w', R e w' → R' e w') : Yd P l args w R' := by
  obtain ⟨fn, tmps, assign, body, h1, h2⟩ := h
  exact ⟨fn, tmps, assign, body, h1, h2.mono hr⟩
/-- Iterator gf, which may write block kb between two calls of yield: it hands the values xs to yield; of the rounds it wants that they keep Fct and leave kb alone; I holds where it begins. -/
def IterH {α : Type} (P : Program) (gf : Nat) (lb : List Value) (xs : List α) (enc : α → List Value) (kb : Nat) (Fct I : World → Prop) : Prop :=
  ∀ (l : Nat) (J Jx : Nat → World → Prop) (M : World → Nat → Prop) (w0 : World), kb < w0.heap.size →
    (∀ i a b, J i a → GrowB w0.heap.size kb a b → J i b) → (∀ i a b, Jx i a → GrowB w0.heap.size kb a b → Jx i b) →
    (∀ i a, J i a → Fct a ∧ w0.heap.size ≤ a.heap.size) → (∀ i a, Jx i a → w0.heap.size ≤ a.heap.size) →
    (∀ i a k, J i a → M a k → k < a.heap.size ∧ k ≠ kb) → (∀ i a b k, J i a → GrowB w0.heap.size kb a b → M b k → M a k) →
    (∀ i x a, xs[i]? = some x → J i a → Yd P l (enc x) a fun e b => (e = .returned (.bool true) ∧ J (i + 1) b ∧ Fr M a b ∧ Tr a b) ∨ (e = .returned (.bool false) ∧ Jx (i + 1) b ∧ TrE (fun k => k = l) a b)) → l < w0.heap.size → I w0 → J 0 w0 →
    Calls P gf ([Value.func (.yield l) #[] #[]] ++ lb).toArray w0 fun e b => (∃ v, e = .returned v) ∧ (J xs.length b ∨ ∃ i, i ≤ xs.length ∧ Jx i b)

section
variable {P : Program} {ro : Option Nat} {n : Nat} {X : Ctx} {s : Sl} {ds : List Deferred} {w : World}
/-- A range over a function whose own steps go by Gs, said of the world in which it is called. -/
theorem W.rangeE {α : Type} {g : Operand} {ps : List Nat} {assign body : Code} (N : Nat) (xs : List α) (enc : α → List Value) {gf : Nat} {lb : List Value} (E : Nat → Prop) (hE0 : ∀ k, E k → k < N) (Gs : World → World → World → Prop)
    (hg : ev n s g = .func (.func gf) #[] lb.toArray) [he : Enters P gf] (hps : ∀ x, (enc x).length = ps.length) (hro : RoOk w ro) (hmk : Mks N w ds) (hN : N ≤ w.heap.size)
    (J : Nat → World → Prop) (Jx : Code → Nat → World → Prop) (hJ : ∀ i V V', J i V → Grow w.heap.size V V' → J i V') (hJx : ∀ c i V V', Jx c i V → Grow w.heap.size V V' → Jx c i V')
    (hJG : ∀ V1 i V V', Ext w V1 → V1.heap.size ≤ V.heap.size → J i V → Gs V1 V V' → J i V') (hJxG : ∀ V1 c i V V', Ext w V1 → V1.heap.size ≤ V.heap.size → Jx c i V → Gs V1 V V' → Jx c i V')
    (hGt : ∀ V1 V V', Ext w V1 → V1.heap.size ≤ V.heap.size → Gs V1 V V' → V.heap.size ≤ V'.heap.size ∧ ∀ (k : Nat) (o : Obj), k < V1.heap.size → V.heap[k]? = some o → Obj.loopy o = true → V'.heap[k]? = some o)
    (h0 : J 0 w) (M : World → Nat → Prop) (hW3 : ∀ i V V' k, J i V → Grow w.heap.size V V' → M V' k → M V k ∨ V.heap.size ≤ k)
    (hit : ∀ (l : Nat) (J' Jx' : Nat → World → Prop) (V1 : World), Ext w V1 → (∀ i V, J' i V → J i V ∧ V1.heap.size ≤ V.heap.size) → (∀ i V, Jx' i V → (∃ c, Jx c i V) ∧ V1.heap.size ≤ V.heap.size) →
      (∀ i V V', J' i V → Gs V1 V V' → J' i V') → (∀ i V V', Jx' i V → Gs V1 V V' → Jx' i V') →
      (∀ i x V, xs[i]? = some x → J' i V → Yd P l (enc x) V fun e V' => (e = .returned (.bool true) ∧ J' (i + 1) V' ∧ Fr M V V' ∧ Tr V V') ∨ (e = .returned (.bool false) ∧ Jx' (i + 1) V' ∧ TrE (fun k => k = l ∨ E k) V V')) → w.heap.size ≤ l → l < V1.heap.size → J' 0 V1 →
      Calls P gf ([Value.func (.yield l) #[] #[]] ++ lb).toArray V1 fun e w' => (∃ v, e = .returned v) ∧ (J' xs.length w' ∨ ∃ i, i ≤ xs.length ∧ Jx' i w'))
    (A : α → Sl → World → Prop) (hA : ∀ x s V V', A x s V → Grow w.heap.size V V' → A x s V')
    (hassign : ∀ l i x V, xs[i]? = some x → J i V → w.heap.size ≤ l → IsRec V l →
      W P (some l) n assign { nx := fun s' ds' V' => ds' = [] ∧ Tr V V' ∧ Fr M V V' ∧ J i V' ∧ A x s' V', rt := fun _ _ _ => False, ex := fun _ _ _ _ => False } (setPs s ps (enc x)) [] V)
    (hbody : ∀ l i x s' V, xs[i]? = some x → J i V → A x s' V → w.heap.size ≤ l → IsRec V l →
      W P (some l) n body { nx := fun _ _ V' => Tr V V' ∧ Fr M V V' ∧ J (i + 1) V', rt := fun _ _ V' => TrE E V V' ∧ Jx .ret (i + 1) V', ex := fun id _ _ V' => TrE E V V' ∧ Jx (.exit id) (i + 1) V' } s' [] V)
    (hdone : ∀ ds' V, Mks N V ds' → Tr w V → J xs.length V → X.nx s ds' V)
    (hstop : ∀ ds' c i V, Mks N V ds' → TrE E w V → i ≤ xs.length → Jx c i V → W P ro n c X s ds' V) :
    W P ro n (.rangeFunc g ps.toArray assign body) X s ds w := by
  unfold W at hassign hbody hstop ⊢
  refine wpIn_rangeFunc ?_
  intro fn hfn
  -- the world in which the iterator is called
  have enter : ∃ (l : Nat) (mark : List Deferred) (df : Nat) (V1 : World) (rec : LoopState → Option Code → Loop), (∀ st pe, (rec st pe).state = st ∧ (rec st pe).pending = pe ∧ (rec st pe).fn = fn ∧ (rec st pe).tmps = (mkA n s ds).tmps ∧ (rec st pe).params = ps.toArray ∧ (rec st pe).assign = assign ∧ (rec st pe).body = body ∧ (rec st pe).defers = df) ∧
      (Instr.enterLoop fn (mkA n s ds).tmps ps.toArray assign body (Fw ro).round).run P w = .ok (l, mark) V1 ∧ V1.heap[l]? = some (.loop (rec .ready none)) ∧ w.heap.size ≤ l ∧ Ext w V1 ∧ MksP N V1 (mark ++ ds) := by
    cases ro with
    | none =>
      refine ⟨_, _, w.heap.size, _, fun st pe => { state := st, pending := pe, fn, tmps := (mkA n s ds).tmps, params := ps.toArray, assign, body, defers := w.heap.size }, fun st pe => ⟨rfl, rfl, rfl, rfl, rfl, rfl, rfl, rfl⟩, run_enterLoop_outer _ _ _ _ _, ?_, by omega, ?_, ?_⟩
      · have := World.alloc_heap_new (w.alloc (.deferred (some []))) (.loop { state := .ready, pending := none, fn, tmps := (mkA n s ds).tmps, params := ps.toArray, assign, body, defers := w.heap.size })
        rwa [World.size_alloc] at this
      · exact ⟨((Below.refl _ w).alloc (Nat.le_refl _) _).alloc (by simp) _⟩
      · have hE : Ext w ((w.alloc (.deferred (some []))).alloc (.loop { state := .ready, pending := none, fn, tmps := (mkA n s ds).tmps, params := ps.toArray, assign, body, defers := w.heap.size })) := ⟨((Below.refl _ w).alloc (Nat.le_refl _) _).alloc (by simp) _⟩
        refine ⟨⟨w.heap.size, rfl, hN, ?_, fun d' hd' => ?_⟩, hmk.h.tr hE.tr⟩
        · exact (Below.heap_alloc _ _ _ (by simp)).trans (World.alloc_heap_new w _)
        · obtain ⟨D, rfl, hlt⟩ := hmk.h.lt d' hd'
          intro e
          simp only [Deferred.mk.injEq, Target.collected.injEq, and_true] at e
          omega
    | some l0 =>
      obtain ⟨r0, hr0⟩ := (show IsRec w l0 from hro).h
      have hE : ∀ o, Ext w (w.alloc o) := fun o => ⟨(Below.refl _ w).alloc (Nat.le_refl _) _⟩
      exact ⟨_, _, r0.defers, _, fun st pe => { state := st, pending := pe, fn, tmps := (mkA n s ds).tmps, params := ps.toArray, assign, body, defers := r0.defers }, fun st pe => ⟨rfl, rfl, rfl, rfl, rfl, rfl, rfl, rfl⟩, run_enterLoop_inner hr0 _ _ _ _ _, World.alloc_heap_new w _, by omega, hE _, hmk.h.tr (hE _).tr⟩
  obtain ⟨l, mark, df, V1, rec, hrec, hent, hL1, hl, hE1, hM1⟩ := enter
  have hE1' : w.heap.size ≤ V1.heap.size := hE1.size
  have hl1 : l < V1.heap.size := (Array.getElem?_eq_some_iff.1 hL1).1
  have eN : ∀ st pe st' pe', ({ rec st pe with state := st', pending := pe' } : Loop) = rec st' pe' := fun st pe st' pe' => by
    obtain ⟨a1, a2, a3, a4, a5, a6, a7, a8⟩ := hrec st pe
    obtain ⟨b1, b2, b3, b4, b5, b6, b7, b8⟩ := hrec st' pe'
    generalize hx : rec st' pe' = y at *
    generalize hy : rec st pe = x at *
    cases x; cases y
    simp_all
  refine ⟨l, mark, V1, { target := .fn (.func gf) lb.toArray, args := #[.func (.yield l) #[] #[]] }, V1, gf, ([Value.func (.yield l) #[] #[]] ++ lb).toArray, V1, hent, ?_, fun _ _ => trivial, ?_, fun h => by simp [Fw, Fence.wide] at h, ?_⟩
  · simp only [resolve, mkA_eval, hg]
    simp [Deferred.ofValue, ev]
  · have e : (#[Value.func (.yield l) #[] #[]] ++ lb.toArray : Array Value) = ([Value.func (.yield l) #[] #[]] ++ lb).toArray := by simp
    simp only [invoke]
    rw [e]
    exact he.h _ _
  have hcalls := hit l (fun i V => J i V ∧ V.heap[l]? = some (.loop (rec .ready none)) ∧ MksP N V (mark ++ ds) ∧ Tr V1 V)
      (fun i V => ∃ c, Jx c i V ∧ V.heap[l]? = some (.loop (rec .done (some c))) ∧ MksP N V (mark ++ ds) ∧ V1.heap.size ≤ V.heap.size ∧ ∀ k, k ≠ l → ¬ E k → ∀ o, V1.heap[k]? = some o → Obj.loopy o = true → V.heap[k]? = some o) V1 hE1
      (fun i V h => ⟨h.1, h.2.2.2.size⟩) (fun i V h => by obtain ⟨c, h1, _, _, h5, _⟩ := h; exact ⟨⟨c, h1⟩, h5⟩)
      (fun i V V' h g => by
        have hs : V1.heap.size ≤ V.heap.size := h.2.2.2.size
        obtain ⟨t1, t2⟩ := hGt V1 V V' hE1 hs g
        exact ⟨hJG V1 i V V' hE1 hs h.1 g, t2 l _ hl1 h.2.1 rfl, h.2.2.1.trB t2 hM1.lt, ⟨Nat.le_trans hs t1, fun k o hk ho => t2 k o (Array.getElem?_eq_some_iff.1 hk).1 (h.2.2.2.keep k o hk ho) ho⟩⟩)
      (fun i V V' h g => by
        obtain ⟨c, h1, h2, h3, h5, h4⟩ := h
        obtain ⟨t1, t2⟩ := hGt V1 V V' hE1 h5 g
        exact ⟨c, hJxG V1 c i V V' hE1 h5 h1 g, t2 l _ hl1 h2 rfl, h3.trB t2 hM1.lt, Nat.le_trans h5 t1, fun k hk hk2 o ho hlo => t2 k o (Array.getElem?_eq_some_iff.1 ho).1 (h4 k hk hk2 o ho hlo) hlo⟩)
      ?round hl hl1 ⟨hJ 0 _ _ h0 (hE1.grow (Nat.le_refl _)), hL1, hM1, Tr.refl _⟩
  case round =>
    rintro i x V hx ⟨hj, hL, hM, hT⟩
    obtain ⟨c1, c2, c3, c4, c5, c6, c7, c8⟩ := hrec .ready none
    have hy := run_yield (P := P) (args := (enc x).toArray) hL (by rw [c5]; simpa using hps x)
    rw [c3, c4, c5, c6, c7] at hy
    have hNl : N ≤ l := by omega
    -- the record's own turns
    have turn : ∀ (V : World) (st st' : LoopState) (pe pe' : Option Code), V.heap[l]? = some (.loop (rec st pe)) → Grow w.heap.size V (V.putObj l (.loop (rec st' pe'))) ∧ (V.putObj l (.loop (rec st' pe'))).heap[l]? = some (.loop (rec st' pe')) ∧
        (∀ k, k ≠ l → (V.putObj l (.loop (rec st' pe'))).heap[k]? = V.heap[k]?) := fun V st st' pe pe' h =>
      ⟨Grow.putObj _ h rfl hl, World.putObj_heap_same (Array.getElem?_eq_some_iff.1 h).1, fun k hk => World.putObj_heap_other hk⟩
    have mks : ∀ (V : World) (o' : Loop), (∃ r, V.heap[l]? = some (.loop r)) → ∀ (dds : List Deferred), MksP N V dds → MksP N (V.putObj l (.loop o')) dds := by
      intro V o' hW dds
      induction dds with
      | nil => exact fun _ => trivial
      | cons d dds ih =>
        rintro ⟨⟨D, e, hD, hb, hne⟩, h⟩
        refine ⟨⟨D, e, hD, ?_, hne⟩, ih h⟩
        have : D ≠ l := by
          rintro rfl
          obtain ⟨r, hr⟩ := hW
          rw [hb] at hr; cases hr
        exact (World.putObj_heap_other this).trans hb
    refine ⟨fn, _, assign, body, hy, ?_⟩
    have hround : RoundIn (Fw none) 0 P l fn ((ps.toArray.zip (enc x).toArray).foldl (fun t (p, v) => t.setIfInBounds p v) (mkA n s ds).tmps) assign body V
        (fun e w' => (e = .returned (.bool true) ∧ (J (i + 1) w' ∧ w'.heap[l]? = some (.loop (rec .ready none)) ∧ MksP N w' (mark ++ ds) ∧ Tr V1 w') ∧ Fr M V w' ∧ Tr V w') ∨
          (e = .returned (.bool false) ∧ (∃ c, Jx c (i + 1) w' ∧ w'.heap[l]? = some (.loop (rec .done (some c))) ∧ MksP N w' (mark ++ ds) ∧ V1.heap.size ≤ w'.heap.size ∧ ∀ k, k ≠ l → ¬ E k → ∀ o, V1.heap[k]? = some o → Obj.loopy o = true → w'.heap[k]? = some o) ∧ TrE (fun k => k = l ∨ E k) V w')) := by
      refine roundIn_of_wpIn trivial ?_
      have hact := setPs_mkA n ps (enc x) s ds
      rw [hact]
      refine wpIn_mono (hassign l i x V hx hj hl ⟨_, hL⟩) fun e a w1 hp => ?_
      cases e with
      | ret => obtain ⟨_, _, _, h⟩ := hp; exact h.elim
      | exit i => obtain ⟨_, _, _, h⟩ := hp; exact h.elim
      | goto l => exact hp.elim
      | panic c => exact hp.elim
      | outgrown => exact hp.elim
      | normal =>
        obtain ⟨s', ds', rfl, rfl, ht1, hf1, hj1, hA1⟩ := hp
        have hLw1 := ht1.keep l _ hL rfl
        have hb := run_beginRound (P := P) hLw1 c1
        have hb' : ({ rec .ready none with state := .busy } : Loop) = rec .busy none := by
          have := eN .ready none .busy none
          rw [← this]; simp [c2]
        rw [hb'] at hb
        obtain ⟨g2, hL2, ho2⟩ := turn w1 .ready .busy none none hLw1
        refine ⟨_, hb, ?_⟩
        have hM2 := mks w1 (rec .busy none) ⟨_, hLw1⟩ _ (hM.tr ht1)
        refine wpIn_mono (hbody l i x s' _ hx (hJ _ _ _ hj1 g2) (hA _ _ _ _ hA1 g2) hl ⟨_, hL2⟩) fun e a w3 hp => ?_
        have fin : ∀ (jump : Option Code) (F : Nat → Prop), (∀ k, F k → k < N) → TrE F (w1.putObj l (.loop (rec .busy none))) w3 →
            (Instr.endRound l jump).run P w3 = .ok (.bool jump.isNone) (w3.putObj l (.loop (rec (if jump.isNone then .ready else .done) jump))) ∧
            Grow w.heap.size w3 (w3.putObj l (.loop (rec (if jump.isNone then .ready else .done) jump))) ∧
            (w3.putObj l (.loop (rec (if jump.isNone then .ready else .done) jump))).heap[l]? = some (.loop (rec (if jump.isNone then .ready else .done) jump)) ∧
            MksP N (w3.putObj l (.loop (rec (if jump.isNone then .ready else .done) jump))) (mark ++ ds) ∧
            (∀ k, k ≠ l → ¬ F k → ∀ o, V.heap[k]? = some o → Obj.loopy o = true → (w3.putObj l (.loop (rec (if jump.isNone then .ready else .done) jump))).heap[k]? = some o) := fun jump F hFN ht3 => by
          have hL3 := ht3.keep l _ (fun h => by have := hFN l h; omega) hL2 rfl
          have hr := run_endRound (P := P) jump hL3
          rw [eN] at hr
          obtain ⟨g4, hL4, ho4⟩ := turn w3 .busy (if jump.isNone then .ready else .done) none jump hL3
          refine ⟨hr, g4, hL4, mks _ _ ⟨_, hL3⟩ _ (hM2.trF hFN ht3), fun k hk hkF o ho hlo => ?_⟩
          rw [ho4 k hk]
          refine ht3.keep k o hkF ?_ hlo
          rw [ho2 k hk]
          exact ht1.keep k o ho hlo
        have hsz1 : V.heap.size ≤ (w1.putObj l (.loop (rec .busy none))).heap.size := Nat.le_trans ht1.size g2.size
        cases e with
        | normal =>
          obtain ⟨_, _, _, ht3, hf3, hj3⟩ := hp
          obtain ⟨hr, g4, hL4, hM4, ho4⟩ := fin none (fun _ => False) (fun _ h => h.elim) ⟨ht3.size, fun k o _ hk ho => ht3.keep k o hk ho⟩
          have htr : Tr V (w3.putObj l (.loop (rec (if (none : Option Code).isNone then .ready else .done) none))) := ⟨Nat.le_trans hsz1 (Nat.le_trans ht3.size g4.size), fun k o ho hlo => by
            by_cases e : k = l
            · subst e
              rw [hL] at ho; cases ho
              exact hL4
            · exact ho4 k e id o ho hlo⟩
          exact ⟨_, _, hr, .inl ⟨rfl, ⟨hJ _ _ _ hj3 g4, hL4, hM4, hT.trans htr⟩, hf1.trans ((Fr.ofGrow g2 fun k => hW3 i _ _ k hj1 g2).trans (hf3.trans (Fr.ofGrow g4 fun k => hW3 (i + 1) _ _ k hj3 g4))), htr⟩⟩
        | ret =>
          obtain ⟨_, _, _, ht3, hj3⟩ := hp
          obtain ⟨hr, g4, hL4, hM4, ho4⟩ := fin (some .ret) E hE0 ht3
          have hsz := Nat.le_trans hsz1 (Nat.le_trans ht3.size g4.size)
          exact ⟨_, _, hr, .inr ⟨rfl, ⟨.ret, hJx _ _ _ _ hj3 g4, hL4, hM4, Nat.le_trans hT.size hsz, fun k hk hkE o ho hlo => ho4 k hk hkE o (hT.keep k o ho hlo) hlo⟩, hsz, fun k o hk ho hlo => ho4 k (fun e => hk (.inl e)) (fun e => hk (.inr e)) o ho hlo⟩⟩
        | exit id =>
          obtain ⟨_, _, _, ht3, hj3⟩ := hp
          obtain ⟨hr, g4, hL4, hM4, ho4⟩ := fin (some (.exit id)) E hE0 ht3
          have hsz := Nat.le_trans hsz1 (Nat.le_trans ht3.size g4.size)
          exact ⟨_, _, hr, .inr ⟨rfl, ⟨.exit id, hJx _ _ _ _ hj3 g4, hL4, hM4, Nat.le_trans hT.size hsz, fun k hk hkE o ho hlo => ho4 k hk hkE o (hT.keep k o ho hlo) hlo⟩, hsz, fun k o hk ho hlo => ho4 k (fun e => hk (.inl e)) (fun e => hk (.inr e)) o ho hlo⟩⟩
        | goto l => exact hp.elim
        | panic c => exact hp.elim
        | outgrown => exact hp.elim
    exact hround
  have hc := (callsIn_wide (n := 0)).2 hcalls
  refine CallsIn.mono (F := Fw ro) (n := 0 - 1) hc fun e V2 hR => ?_
  obtain ⟨⟨v, rfl⟩, hR⟩ := hR
  have trw : ∀ (F : Nat → Prop) (o : Loop) (V2 : World), V1.heap.size ≤ V2.heap.size → (∀ k, k ≠ l → ¬ F k → ∀ o, V1.heap[k]? = some o → Obj.loopy o = true → V2.heap[k]? = some o) → TrE F w (V2.putObj l (.loop o)) := fun F o V2 hsz h4 =>
    ⟨by simp; omega, fun k ob hkF hk hlo => by
      have hkw : k < w.heap.size := (Array.getElem?_eq_some_iff.1 hk).1
      have : k ≠ l := by omega
      rw [World.putObj_heap_other this]
      exact h4 k this hkF ob (hE1.block' hk) hlo⟩
  have mks2 : ∀ (V : World) (o' : Loop), (∃ r, V.heap[l]? = some (.loop r)) → ∀ (dds : List Deferred), MksP N V dds → MksP N (V.putObj l (.loop o')) dds := by
    intro V o' hW dds
    induction dds with
    | nil => exact fun _ => trivial
    | cons d dds ih =>
      rintro ⟨⟨D, e, hD, hb, hne⟩, h⟩
      refine ⟨⟨D, e, hD, ?_, hne⟩, ih h⟩
      have : D ≠ l := by
        rintro rfl
        obtain ⟨r, hr⟩ := hW
        rw [hb] at hr; cases hr
      exact (World.putObj_heap_other this).trans hb
  rcases hR with ⟨hj, hL, hM, hT⟩ | ⟨i, hi, c, hj, hL, hM, hsz, hT⟩
  · have hr := run_endLoop (P := P) hL (by rw [(hrec .ready none).1]; simp)
    rw [(hrec .ready none).2.1] at hr
    refine ⟨none, _, hr, ?_⟩
    have g : ∀ o' : Loop, Grow w.heap.size V2 (V2.putObj l (.loop o')) := fun o' => Grow.putObj _ hL rfl hl
    exact ⟨s, _, rfl, hdone _ _ ⟨mks2 _ _ ⟨_, hL⟩ _ hM⟩ (let t := trw (fun _ => False) _ _ hT.size (fun k _ _ o ho hlo => hT.keep k o ho hlo); ⟨t.size, fun k o hk ho => t.keep k o id hk ho⟩) (hJ _ _ _ hj (g _))⟩
  · have hr := run_endLoop (P := P) hL (by rw [(hrec .done (some c)).1]; simp)
    rw [(hrec .done (some c)).2.1] at hr
    refine ⟨some c, _, hr, ?_⟩
    have g : ∀ o' : Loop, Grow w.heap.size V2 (V2.putObj l (.loop o')) := fun o' => Grow.putObj _ hL rfl hl
    exact hstop _ c i _ ⟨mks2 _ _ ⟨_, hL⟩ _ hM⟩ (trw E _ _ hsz hT) hi (hJx _ _ _ _ hj (g _))


theorem W.rangeH {α : Type} {g : Operand} {ps : List Nat} {assign body : Code} (N kb : Nat) (xs : List α) (enc : α → List Value) {Fct I : World → Prop} {gf : Nat} {lb : List Value}
    (hit : IterH P gf lb xs enc kb Fct I) (hkb : kb < w.heap.size) (hg : ev n s g = .func (.func gf) #[] lb.toArray) [he : Enters P gf] (hps : ∀ x, (enc x).length = ps.length) (hro : RoOk w ro) (hmk : Mks N w ds) (hN : N ≤ w.heap.size)
    (J : Nat → World → Prop) (Jx : Code → Nat → World → Prop) (hJ : ∀ i V V', J i V → GrowB w.heap.size kb V V' → J i V') (hJx : ∀ c i V V', Jx c i V → GrowB w.heap.size kb V V' → Jx c i V')
    (hF : ∀ i V, J i V → Fct V) (hI : ∀ V, Ext w V → I V) (hK : ∀ i V, J i V → KbD kb V) (hKx : ∀ c i V, Jx c i V → KbD kb V) (h0 : J 0 w)
    (M : World → Nat → Prop) (hM1 : ∀ i V k, J i V → M V k → k < V.heap.size ∧ k ≠ kb) (hM2 : ∀ i V V' k, J i V → GrowB w.heap.size kb V V' → M V' k → M V k)
    (A : α → Sl → World → Prop) (hA : ∀ x s V V', A x s V → Grow w.heap.size V V' → A x s V')
    (hassign : ∀ l i x V, xs[i]? = some x → J i V → w.heap.size ≤ l → IsRec V l →
      W P (some l) n assign { nx := fun s' ds' V' => ds' = [] ∧ Tr V V' ∧ Fr M V V' ∧ J i V' ∧ A x s' V', rt := fun _ _ _ => False, ex := fun _ _ _ _ => False } (setPs s ps (enc x)) [] V)
    (hbody : ∀ l i x s' V, xs[i]? = some x → J i V → A x s' V → w.heap.size ≤ l → IsRec V l →
      W P (some l) n body { nx := fun _ _ V' => Tr V V' ∧ Fr M V V' ∧ J (i + 1) V', rt := fun _ _ V' => Tr V V' ∧ Jx .ret (i + 1) V', ex := fun id _ _ V' => Tr V V' ∧ Jx (.exit id) (i + 1) V' } s' [] V)
    (hdone : ∀ ds' V, Mks N V ds' → J xs.length V → X.nx s ds' V)
    (hstop : ∀ ds' c i V, Mks N V ds' → i ≤ xs.length → Jx c i V → W P ro n c X s ds' V) :
    W P ro n (.rangeFunc g ps.toArray assign body) X s ds w := by
  refine W.rangeE N xs enc (fun _ => False) (fun _ h => h.elim) (fun V1 V V' => GrowB V1.heap.size kb V V' ∧ KbD kb V) hg hps hro hmk hN J Jx (fun i V V' h e => hJ i V V' h e.toB) (fun c i V V' h e => hJx c i V V' h e.toB)
    (fun V1 i V V' hE _ h e => hJ i V V' h (e.1.mono hE.size)) (fun V1 c i V V' hE _ h e => hJx c i V V' h (e.1.mono hE.size)) ?_ h0 M (fun i V V' k h e hm => .inl (hM2 i V V' k h e.toB hm)) ?_ A hA hassign (fun l i x s' V h1 h2 h3 h4 h5 => W.mono (hbody l i x s' V h1 h2 h3 h4 h5) (fun _ _ _ h => h) (fun _ _ _ ⟨h, h'⟩ => ⟨h.toE, h'⟩) (fun _ _ _ _ ⟨h, h'⟩ => ⟨h.toE, h'⟩)) (fun ds' V h1 _ h2 => hdone ds' V h1 h2) (fun ds' c i V h1 _ h2 h3 => hstop ds' c i V h1 h2 h3)
  · rintro V1 V V' hE hs ⟨h, o1, ho1, hl1⟩
    refine ⟨h.size, fun k o hk ho hlo => ?_⟩
    by_cases e : k = kb
    · subst e
      rw [ho1] at ho; cases ho; rw [hl1] at hlo; cases hlo
    · exact (h.old k hk e).trans ho
  · intro l J' Jx' V1 hE h1 h2 h3 h4 hY _ hl1 h0'
    exact hit l J' Jx' M V1 (Nat.lt_of_lt_of_le hkb hE.size) (fun i a b h g => h3 i a b h ⟨g, hK i a (h1 i a h).1⟩) (fun i a b h g => h4 i a b h ⟨g, let ⟨c, hc⟩ := (h2 i a h).1; hKx c i a hc⟩) (fun i a h => ⟨hF i a (h1 i a h).1, (h1 i a h).2⟩) (fun i a h => (h2 i a h).2)
      (fun i a k h => hM1 i a k (h1 i a h).1) (fun i a b k h g => hM2 i a b k (h1 i a h).1 (g.mono hE.size)) (fun i x a hx ha => by
        have h := hY i x a hx ha
        simpa only [or_false] using h) hl1 (hI V1 hE) h0'
/-- A range whose rounds write what J tells. -/
theorem W.rangeJ {α : Type} {g : Operand} {ps : List Nat} {assign body : Code} (N : Nat) (xs : List α) (enc : α → List Value) {Fct : World → Prop} {gf : Nat} {lb : List Value}
    (hit : Iter P gf lb xs enc Fct) (hg : ev n s g = .func (.func gf) #[] lb.toArray) [he : Enters P gf] (hps : ∀ x, (enc x).length = ps.length) (hro : RoOk w ro) (hmk : Mks N w ds) (hN : N ≤ w.heap.size)
    (J : Nat → World → Prop) (Jx : Code → Nat → World → Prop) (hJ : ∀ i V V', J i V → Grow w.heap.size V V' → J i V') (hJx : ∀ c i V V', Jx c i V → Grow w.heap.size V V' → Jx c i V')
    (hF : ∀ i V, J i V → Fct V) (hs : ∀ i V, J i V → w.heap.size ≤ V.heap.size) (h0 : J 0 w)
    (M : World → Nat → Prop) (hM1 : ∀ i V k, J i V → M V k → k < V.heap.size) (hM2 : ∀ i V V' k, J i V → Grow w.heap.size V V' → M V' k → M V k)
    (A : α → Sl → World → Prop) (hA : ∀ x s V V', A x s V → Grow w.heap.size V V' → A x s V')
    (hassign : ∀ l i x V, xs[i]? = some x → J i V → w.heap.size ≤ l → IsRec V l →
      W P (some l) n assign { nx := fun s' ds' V' => ds' = [] ∧ Tr V V' ∧ Fr M V V' ∧ J i V' ∧ A x s' V', rt := fun _ _ _ => False, ex := fun _ _ _ _ => False } (setPs s ps (enc x)) [] V)
    (hbody : ∀ l i x s' V, xs[i]? = some x → J i V → A x s' V → w.heap.size ≤ l → IsRec V l →
      W P (some l) n body { nx := fun _ _ V' => Tr V V' ∧ Fr M V V' ∧ J (i + 1) V', rt := fun _ _ V' => Tr V V' ∧ Jx .ret (i + 1) V', ex := fun id _ _ V' => Tr V V' ∧ Jx (.exit id) (i + 1) V' } s' [] V)
    (hdone : ∀ ds' V, Mks N V ds' → Tr w V → J xs.length V → X.nx s ds' V)
    (hstop : ∀ ds' c i V, Mks N V ds' → Tr w V → i ≤ xs.length → Jx c i V → W P ro n c X s ds' V) :
    W P ro n (.rangeFunc g ps.toArray assign body) X s ds w :=
  W.rangeR N xs enc (fun _ => Ext) hg hps hro hmk hN J Jx hJ hJx (fun V1 i V V' hE hz h e => hJ i V V' h (e.grow (Nat.le_trans hE.size hz))) (fun V1 c i V V' hE hz h e => hJx c i V V' h (e.grow (Nat.le_trans hE.size hz)))
    (fun V1 V V' _ _ e => ⟨e.size, fun k o _ hk ho => e.tr.keep k o hk ho⟩) h0 M (fun i V V' k h e hm => .inl (hM2 i V V' k h e hm))
    (fun l J' Jx' V1 hE h1 h2 h3 h4 hY h0' => hit l J' Jx' M V1 h3 h4 (fun i V h => hF i V (h1 i V h).1) (fun i V k h => hM1 i V k (h1 i V h).1) (fun i V V' k h e => hM2 i V V' k (h1 i V h).1 (e.grow (hs i V (h1 i V h).1))) hY h0')
    A hA hassign hbody hdone hstop
/-- The same within a round of another range, whose record lies in E. -/
theorem W.rangeJE {α : Type} {g : Operand} {ps : List Nat} {assign body : Code} (N : Nat) (E : Nat → Prop) (hE0 : ∀ k, E k → k < N) (xs : List α) (enc : α → List Value) {Fct : World → Prop} {gf : Nat} {lb : List Value}
    (hit : Iter P gf lb xs enc Fct) (hg : ev n s g = .func (.func gf) #[] lb.toArray) [he : Enters P gf] (hps : ∀ x, (enc x).length = ps.length) (hro : RoOk w ro) (hmk : Mks N w ds) (hN : N ≤ w.heap.size)
    (J : Nat → World → Prop) (Jx : Code → Nat → World → Prop) (hJ : ∀ i V V', J i V → Grow w.heap.size V V' → J i V') (hJx : ∀ c i V V', Jx c i V → Grow w.heap.size V V' → Jx c i V')
    (hF : ∀ i V, J i V → Fct V) (hs : ∀ i V, J i V → w.heap.size ≤ V.heap.size) (h0 : J 0 w)
    (M : World → Nat → Prop) (hM1 : ∀ i V k, J i V → M V k → k < V.heap.size) (hM2 : ∀ i V V' k, J i V → Grow w.heap.size V V' → M V' k → M V k)
    (A : α → Sl → World → Prop) (hA : ∀ x s V V', A x s V → Grow w.heap.size V V' → A x s V')
    (hassign : ∀ l i x V, xs[i]? = some x → J i V → w.heap.size ≤ l → IsRec V l →
      W P (some l) n assign { nx := fun s' ds' V' => ds' = [] ∧ Tr V V' ∧ Fr M V V' ∧ J i V' ∧ A x s' V', rt := fun _ _ _ => False, ex := fun _ _ _ _ => False } (setPs s ps (enc x)) [] V)
    (hbody : ∀ l i x s' V, xs[i]? = some x → J i V → A x s' V → w.heap.size ≤ l → IsRec V l →
      W P (some l) n body { nx := fun _ _ V' => Tr V V' ∧ Fr M V V' ∧ J (i + 1) V', rt := fun _ _ V' => TrE E V V' ∧ Jx .ret (i + 1) V', ex := fun id _ _ V' => TrE E V V' ∧ Jx (.exit id) (i + 1) V' } s' [] V)
    (hdone : ∀ ds' V, Mks N V ds' → Tr w V → J xs.length V → X.nx s ds' V)
    (hstop : ∀ ds' c i V, Mks N V ds' → TrE E w V → i ≤ xs.length → Jx c i V → W P ro n c X s ds' V) :
    W P ro n (.rangeFunc g ps.toArray assign body) X s ds w :=
  W.rangeE N xs enc E hE0 (fun _ => Ext) hg hps hro hmk hN J Jx hJ hJx (fun V1 i V V' hE hz h e => hJ i V V' h (e.grow (Nat.le_trans hE.size hz))) (fun V1 c i V V' hE hz h e => hJx c i V V' h (e.grow (Nat.le_trans hE.size hz)))
    (fun V1 V V' _ _ e => ⟨e.size, fun k o _ hk ho => e.tr.keep k o hk ho⟩) h0 M (fun i V V' k h e hm => .inl (hM2 i V V' k h e hm))
    (fun l J' Jx' V1 hE h1 h2 h3 h4 hY _ _ h0' => hit l J' Jx' M V1 h3 h4 (fun i V h => hF i V (h1 i V h).1) (fun i V k h => hM1 i V k (h1 i V h).1) (fun i V V' k h e => hM2 i V V' k (h1 i V h).1 (e.grow (hs i V (h1 i V h).1))) (fun i x V hx hV => (hY i x V hx hV).mono fun _ _ h => h.imp (fun ⟨a, b, c, _⟩ => ⟨a, b, c⟩) (fun ⟨a, b, _⟩ => ⟨a, b⟩)) h0')
    A hA hassign hbody hdone hstop
end
theorem fin0M {P : Program} {fn : Func} {n N : Nat} {R : Value → World → Prop} {s : Sl} {ds : List Deferred} {w : World} (hf : fn.results = #[]) (hm : Mks N w ds) (h : ∀ w', Grow N w w' → R (.tuple #[]) w') : finM P fn n N R s ds w := by
  unfold finM
  exact ⟨hm, fun w' g => ⟨_, run_results0 hf, h w' g⟩⟩

/-! ### A slice in a variable that rounds append to, and nothing else -/
def MOb (b : Nat) (V : World) (k : Nat) : Prop := k = b ∨ ∃ v, V.cell? ⟨b, 0, none⟩ = some v ∧ v.ownBlock = some k
theorem MOb.lt {b kb B e e' k' : Nat} {agg : Bool} {V : World} {v : Value} {xs : List Value} {k : Nat} (hb : Bk V b [v] e) (ho : OwnL V B e' agg k' v xs) (hbk : b ≠ kb) (hB : kb < B) (h : MOb b V k) : k < V.heap.size ∧ k ≠ kb := by
  rcases h with rfl | ⟨v', hv, hk⟩
  · exact ⟨hb.lt, hbk⟩
  · rw [hb.cell1] at hv; cases hv
    have := ho.block k hk
    omega
theorem MOb.back {b e N kb : Nat} {V V' : World} {v : Value} {k : Nat} (hb : Bk V b [v] e) (g : GrowB N kb V V') (hn : b ≠ kb) (h : MOb b V' k) : MOb b V k := by
  rcases h with h | ⟨v', hv, hk⟩
  · exact .inl h
  · rw [g.cell hb.cell1 hn] at hv; cases hv
    exact .inr ⟨v, hb.cell1, hk⟩
theorem MOb.same {b e e' : Nat} {V V' : World} {v : Value} {k : Nat} (hb : Bk V b [v] e) (hb' : Bk V' b [v] e') (h : MOb b V' k) : MOb b V k := by
  rcases h with h | ⟨v', hv, hk⟩
  · exact .inl h
  · rw [hb'.cell1] at hv; cases hv
    exact .inr ⟨v, hb.cell1, hk⟩
theorem MOb.append {b B e e' : Nat} {V1 V2 V3 : World} {v v2 : Value} {o : Obj} (hb : Bk V1 b [v] e) (hA : App B V1 V2 v) (hp : PutO V2 V3 b o) (hb3 : Bk V3 b [v2] e') (hw : v2.ownBlock = v.ownBlock ∨ v2.ownBlock = some V1.heap.size) : Fr (MOb b) V1 V3 :=
  ⟨by rw [hp.size]; exact hA.g.size, fun k o' hk _ hm => by
    have h1 : v.ownBlock ≠ some k := fun e => hm (.inr ⟨v, hb.cell1, e⟩)
    have h2 : k ≠ b := fun e => hm (.inl e)
    exact (hp.other k h2).trans (hA.other hk h1),
   fun k hk => by
    rcases hk with h | ⟨v', hv, hk⟩
    · exact .inl (.inl h)
    · rw [hb3.cell1] at hv; cases hv
      rcases hw with h | h
      · exact .inl (.inr ⟨v, hb.cell1, by rw [← h]; exact hk⟩)
      · rw [h] at hk; cases hk; exact .inr (Nat.le_refl _)⟩
end Go.Proofs.YtpbkphaceljclaaGreatDoor

/- The proof engine, part 26: entries of maps, what is read of them. -/
namespace Go.Proofs.YtpbkphaceljclaaGreatDoor
open Go.RowKit

theorem MapN.app {κ : Type} [DecidableEq κ] {encK : κ → Value} {w w' : World} {b B st : Nat} {m : List (κ × Value)} {k : κ} {v : Value} (h : MapN encK w b m k st) (a : App B w w' v) (hne : v.ownBlock ≠ some b) : MapN encK w' b m k st := by
  obtain ⟨es, cl, i, h1, h2⟩ := h.h
  exact ⟨es, cl, i, a.other h1 hne, h2⟩
section rules
variable {P : Program} {ro : Option Nat} {n : Nat} {all rest : List Oper} {K : Sl → World → Prop} {s : Sl} {w : World} {d : Nat} {ty : Nat} {pos : String} {af : Array Edge}
variable {x y : Operand} {t : Nat}
theorem Ops.lookupV {κ : Type} [DecidableEq κ] {encK : κ → Value} {b kt et : Nat} {m : List (κ × Value)} {k : κ} {z v : Value} {size bytes : Nat} (hv : (mget m k).getD z = v) (hm : MapE encK w b m) (hx : ev n s x = .map (some b)) (hy : ev n s y = encK k) [hk : KeyL P kt encK] [ht : TMap P t kt et] [hz : TS P et z size bytes]
    (h : Ops P ro n all rest K (upd s d v) w) : Ops P ro n all (⟨some d, .lookup t x y false, ty, pos, af, none⟩ :: rest) K s w := by
  subst hv
  exact Ops.lookup hm hx hy h
end rules
end Go.Proofs.YtpbkphaceljclaaGreatDoor

/- slices.DeleteFunc of texts that are empty. -/
namespace Go.Proofs.YtpbkphaceljclaaGreatDoor
open Go.RowKit

end Go.Proofs.YtpbkphaceljclaaGreatDoor

/- Places and slips as keys of maps. -/
namespace Go.Proofs.YtpbkphaceljclaaGreatDoor
open Go.RowKit

section
variable {P : Program} {κ : Type} [DecidableEq κ] {enc : κ → Value} {kt : Nat}
theorem findAsking_of [he : EqT P kt enc] (w : World) (k : κ) : ∀ (es : List MapEntry) (ks : List κ) (i : Nat), es.map (·.key) = ks.map enc →
    (Instr.findAsking kt (enc k) es i).run P w = .ok ((ks.findIdx? (fun x => decide (k = x))).map fun j => (i + j, ((es[j]?).map (·.val)).getD undef)) w
  | [], [], i, _ => rfl
  | [], _ :: _, i, h => by simp at h
  | _ :: _, [], i, h => by simp at h
  | e :: es, x :: ks, i, h => by
    simp only [List.map_cons, List.cons.injEq] at h
    have ih := findAsking_of w k es ks (i + 1) h.2
    have hq := he.eq w k x
    simp only [Instr.findAsking, Sem.run_bind, h.1, hq, Result.andThen]
    by_cases hk : k = x
    · simp [hk, List.findIdx?_cons]
    · simp only [hk, decide_false, ih, List.findIdx?_cons, Bool.false_eq_true, if_false, Option.map_map]
      congr 2
      funext j
      simp; omega
theorem keyL_struct {fs : Array Field} (hu : P.underlying kt = some (.struct fs)) [he : EqT P kt enc] (hag : ∀ k, ∃ cs, enc k = .agg cs) (hc : ∀ (em : Bool) (w : World) (k : κ), (Instr.checkKey em 10000 kt (enc k)).run P w = .ok () w) (hb : ∀ k, Instr.sameBits 10000 (enc k) (enc k) = true) : KeyL P kt enc where
  chk := hc
  find w k es ks hk := by
    have h1 := findAsking_of (P := P) (enc := enc) (kt := kt) w k es ks 0 hk
    simp only [Instr.findKey, Sem.run_bind, run_underlying hu, Result.andThen]
    cases es with
    | nil =>
      cases ks with
      | nil => rfl
      | cons x ks => simp at hk
    | cons e es =>
      have : Instr.findNow (.struct fs) (enc k) (e :: es) 0 = none := by
        obtain ⟨cs, h⟩ := hag k
        simp [Instr.findNow, Instr.sameNow]
      rw [this]
      simpa using h1
  bits := hb
end
theorem chk_place (em : Bool) (w : World) (n : Nat) (p : Pl) : (Instr.checkKey em (n + 2) 44 (encPl p)).run Tryz.prog w = .ok () w := by
  have h := Tryz.underlying44
  have hi := Tryz.underlying3
  simp [Instr.checkKey, run_underlying h, run_underlying hi, part, run_isAgg w tu3, TypeDesc.isAgg]
instance : KeyL Tryz.prog 44 encPl := keyL_struct Tryz.underlying44 (fun k => ⟨_, rfl⟩) (fun em w k => chk_place em w 9998 k) (fun k => by simp [Instr.sameBits])
theorem chk_slip (em : Bool) (w : World) (n : Nat) (x : Slp) : (Instr.checkKey em (n + 3) 48 (encSl x)).run Tryz.prog w = .ok () w := by
  have h := Tryz.underlying48
  have hs := Tryz.underlying9
  have hp := chk_place em w n x.1
  have e1 : (part 44 #[.int .i64 x.1.1, .int .i64 x.1.2.1, .int .i64 x.1.2.2, .string x.2.1, .string x.2.2.1, .string x.2.2.2] 0).run Tryz.prog w = .ok (encPl x.1) w := part_agg tu44 rfl ts44 rfl
  rw [Instr.checkKey]
  simp [run_underlying h, e1, hp, part, run_isAgg w tu9, TypeDesc.isAgg, Instr.checkKey, run_underlying hs]
instance : KeyL Tryz.prog 48 encSl := keyL_struct Tryz.underlying48 (fun k => ⟨_, rfl⟩) (fun em w k => chk_slip em w 9997 k) (fun k => by simp [Instr.sameBits, byteArray_beq])
end Go.Proofs.YtpbkphaceljclaaGreatDoor

/- The reference: Twin. -/
namespace Go.Proofs.YtpbkphaceljclaaGreatDoor
open Go.RowKit

/-- Lines of the call's own. -/
structure OwnLn (w : World) (B : Nat) (v : Value) (ys : List Ln) : Prop where
  out : OwnL w B 53 false 1 v (ys.map encLn)
  ins : ∀ y ∈ ys, OwnL w B 9 false 1 (encLn y) (y.2.2.map strV)
theorem OwnLn.ext {w w' : World} {B : Nat} {v : Value} {ys : List Ln} (h : OwnLn w B v ys) (hs : Ext w w') : OwnLn w' B v ys := ⟨h.out.ext hs, fun y hy => (h.ins y hy).ext hs⟩
theorem OwnLn.put {w w' : World} {B b : Nat} {o : Obj} {v : Value} {ys : List Ln} (h : OwnLn w B v ys) (p : PutO w w' b o) (hb : b < B) : OwnLn w' B v ys :=
  ⟨h.out.put p fun e => by have := (h.out.block _ e).1; omega, fun y hy => (h.ins y hy).put p fun e => by have := ((h.ins y hy).block _ e).1; omega⟩
theorem OwnLn.mono {w : World} {B B' : Nat} {v : Value} {ys : List Ln} (h : OwnLn w B v ys) (hB : B' ≤ B) : OwnLn w B' v ys := ⟨h.out.mono hB, fun y hy => (h.ins y hy).mono hB⟩
/-- Chapters of the call's own. -/
structure OwnCh (w : World) (B : Nat) (v : Value) (cs : List Ch) : Prop where
  out : OwnL w B 63 true 2 v (cs.map encCh)
  ins : ∀ x ∈ cs, OwnLn w B (.slice x.2.1 x.2.2.2.length x.2.2.1) x.2.2.2
theorem OwnCh.ext {w w' : World} {B : Nat} {v : Value} {cs : List Ch} (h : OwnCh w B v cs) (hs : Ext w w') : OwnCh w' B v cs := ⟨h.out.ext hs, fun y hy => (h.ins y hy).ext hs⟩
theorem OwnCh.put {w w' : World} {B b : Nat} {o : Obj} {v : Value} {cs : List Ch} (h : OwnCh w B v cs) (p : PutO w w' b o) (hb : b < B) : OwnCh w' B v cs :=
  ⟨h.out.put p fun e => by have := (h.out.block _ e).1; omega, fun y hy => (h.ins y hy).put p hb⟩
theorem OwnCh.mono {w : World} {B B' : Nat} {v : Value} {cs : List Ch} (h : OwnCh w B v cs) (hB : B' ≤ B) : OwnCh w B' v cs := ⟨h.out.mono hB, fun y hy => (h.ins y hy).mono hB⟩
theorem OwnCh.text {w : World} {B : Nat} {v : Value} {cs : List Ch} (h : OwnCh w B v cs) : TextI w cs := ⟨fun x hx => (h.ins x hx).out.row, fun x hx y hy => ((h.ins x hx).ins y hy).row⟩
theorem OwnLn.only {kb : Nat} {w w' : World} {B : Nat} {v : Value} {ys : List Ln} (h : OwnLn w B v ys) (o : Only kb w w') (hB : kb < B) : OwnLn w' B v ys := ⟨o.own h.out hB, fun y hy => o.own (h.ins y hy) hB⟩
/-- A row lies in no block of another type. -/
theorem OwnL.neB {w : World} {B e e' k b : Nat} {agg : Bool} {v : Value} {xs : List Value} {cs : List Value} (h : OwnL w B e agg k v xs) (hb : Bk w b cs e') (he : e ≠ e') : v.ownBlock ≠ some b := fun hv => by
  rcases h.own.2 with ⟨rfl, _⟩ | ⟨g, cap, cur, rfl, _, hg, _⟩
  · simp [Value.ownBlock] at hv
  · simp only [Value.ownBlock, Option.some.injEq] at hv
    subst hv
    rw [hb.h] at hg
    cases hg
    exact he rfl
/-- Chapters of the call's own, none of which lies in the block b, nor behind it. -/
theorem OwnCh.only {kb : Nat} {w w' : World} {B : Nat} {v : Value} {cs : List Ch} (h : OwnCh w B v cs) (o : Only kb w w') (hout : v.ownBlock ≠ some kb) (hb : ∃ vs, Bk w kb vs 63) : OwnCh w' B v cs := by
  obtain ⟨vs, hb⟩ := hb
  exact ⟨o.own' h.out hout, fun x hx => ⟨o.own' (h.ins x hx).out ((h.ins x hx).out.neB hb (by decide)), fun y hy => o.own' ((h.ins x hx).ins y hy) (((h.ins x hx).ins y hy).neB hb (by decide))⟩⟩
theorem OwnLn.appC {w w' : World} {B B' B'' : Nat} {v u : Value} {ys : List Ln} {us : List Value} (h : OwnLn w B v ys) (ho : OwnL w B' 63 true 2 u us) (a : App B'' w w' u) : OwnLn w' B v ys :=
  ⟨h.out.app a (OwnL.ne h.out ho (by decide)), fun y hy => (h.ins y hy).app a (OwnL.ne (h.ins y hy) ho (by decide))⟩
theorem one_ln (y : Ln) : [encLn y].all (fun v => v.cells.toList.all (·.oneCell')) = true := rfl
theorem one_ch (y : Ch) : [encCh y].all (fun v => v.cells.toList.all (·.oneCell')) = true := rfl
theorem all_strs (ws : List ByteArray) : (ws.map strV).all (fun v => v.cells.toList.all (·.oneCell')) = true := by
  rw [List.all_eq_true]
  intro x hx
  obtain ⟨s, _, rfl⟩ := List.mem_map.1 hx
  rfl

section
variable (a : Option Addr) (c : Nat) (cs : List Ch) (w : World) [hrow : RowI w (.slice a cs.length c) true 2 (cs.map encCh)] [hT : TextI w cs]
set_option maxHeartbeats 4000000 in
theorem Twin_ref1 (hs : SmallT cs) : Ct Tryz.prog 8 [.agg #[.slice a cs.length c]] w fun v w' => ∃ a' c' ds, v = .agg #[.slice a' (ds.map encCh).length c'] ∧ txF ds = txF cs ∧ OwnCh w' w.heap.size (.slice a' (ds.map encCh).length c') ds := by
  have hs1 := hs.1
  refine Ct.ofW (by simp) ?_
  (refine jjB ?_; refine jjC ?_)
  (refine jy rfl ?_; intro b1 w_b1 hb_b1 hs_b1 hS_b1 hk_b1; have hA_b1 := At.ofBlock hk_b1)
  ((skip); refine jjY ?_; intro b2 w_b2 hb_b2 hs_b2 hS_b2 hk_b2; have hA_b2 := Bk.of hk_b2)
  (((refine jz ?_; refine jjB ?_; refine jjC ?_)); refine jjY ?_; intro b3 w_b3 hb_b3 hs_b3 hS_b3 hk_b3; have hA_b3 := Bk.of hk_b3)
  (refine jz ?_; refine jjB ?_; refine jjB ?_; refine jjC ?_; apply jJ; exact eI rfl; refine jz ?_; refine jjD ?_)
  have hE3 : Ext w w_b3 := inferInstance
  have hz3 := hE3.size
  have hB2 : Bk w_b3 b2 [.slice none 0 0] 24 := inferInstance
  have hB1 : At w_b3 b1 0 [.slice a cs.length c] := inferInstance
  refine W.keep0 [(1, .pointer (some ⟨b1, 0, none⟩)), (2, .pointer (some ⟨b2, 0, none⟩)), (3, .pointer (some ⟨b3, 0, none⟩)), (4, .int .i64 ((0 : Nat) : Int))] ⟨eP rfl, eP rfl, eP rfl, eI rfl, trivial⟩ fun s0 => ?_
  refine W.loopG (7 :: 8 :: 9 :: 10 :: 11 :: 14 :: 15 :: 16 :: 17 :: 18 :: 19 :: 20 :: 5 :: 6 :: 21 :: 22 :: 23 :: 24 :: 25 :: 26 :: 27 :: 28 :: 29 :: 32 :: 33 :: 34 :: 35 :: 36 :: 37 :: 38 :: 39 :: 40 :: 41 :: 42 :: 43 :: 44 :: 45 :: 46 :: 47 :: 30 :: 31 :: 48 :: 49 :: 50 :: 51 :: 52 :: 53 :: 12 :: 13 :: 4 :: []) (fun g s' V => ∃ (k : Nat) (cv : Value) (ds : List Ch), s' 4 = .int .i64 ((k : Nat) : Int) ∧ g = cs.length - k ∧ k ≤ cs.length ∧ Only b3 w_b3 V ∧ Bk V b3 [cv] 24 ∧ OwnCh V w_b3.heap.size cv ds ∧ txF ds = (txF cs).take k) cs.length ⟨0, _, [], rfl, rfl, Nat.zero_le _, .ofExt (.refl _), hA_b3, ⟨OwnL.nil _ _ _ _ _, by simp⟩, rfl⟩ ?_
  rintro _ sd V ⟨k, cv, ds, h4, rfl, hk, hOn, hV3, hOd, htx⟩
  refine W.fix h4 ?_
  clear h4
  have zOn := hOn.size
  have hEV : Ext w V := hOn.ext hE3 (by omega)
  have hb1V : At V b1 0 [.slice a cs.length c] := hOn.at_ hB1 (by omega)
  have hTV : TextI V cs := hT.ext hEV
  have hrV : RowI V (.slice a cs.length c) true 2 (cs.map encCh) := ⟨hrow.h.ext hEV⟩
  have hB2V : Bk V b2 [.slice none 0 0] 24 := hOn.bk hB2 (by omega)
  have hdl : ds.length ≤ 1000 := by have := congrArg List.length htx; rw [txF_len, List.length_take] at this; omega
  by_cases hkc : k < cs.length
  rotate_left
  · have hke : k = cs.length := by omega
    rw [hke, ← txF_len cs, List.take_length] at htx
    obtain ⟨ca, cc, rfl⟩ := hOd.out.slice
    have := Bk.toAt (h := hV3)
    (refine jjB ?_; refine jjB ?_; refine jjC ?_; apply jI; exact eI rfl; refine jm ?_; refine jn rfl ?_; refine jN rfl rfl rfl ?_; refine jh rfl ?_; refine jja rfl rfl (by omega) ?_; refine jz ?_; refine jjK rfl ?_; refine jjE ?_; refine jjB ?_; refine jjC ?_; refine jO rfl rfl rfl rfl ?_)
    refine Ops.store rfl rfl rfl rfl rfl ?_
    intro V2 hp2
    have hA2 : At V2 b2 0 [.slice ca (ds.map encCh).length cc] := Bk.toAt (h := ⟨hp2.new⟩)
    (refine jz ?_; refine jjF ?_)
    exact fin1C rfl rfl rfl rfl rfl ⟨hp2.ext hEV (by omega), ca, cc, ds, rfl, htx, (hOd.put hp2 (by omega)).mono (by omega)⟩
  have hgk := List.getElem?_eq_getElem hkc
  have hsk := hs.2 _ (List.getElem_mem hkc)
  obtain ⟨ba, oa, rfl, hAc⟩ := hrow.h.place' (map_get hkc)
  have hAc1 : At w ba (oa + k * 2) [.int .i64 cs[k].1, .slice cs[k].2.1 cs[k].2.2.2.length cs[k].2.2.1] := hAc
  clear hAc
  (refine jjB ?_; refine jjB ?_; refine jjC ?_; apply jI; exact eI rfl; refine jm ?_; refine jn rfl ?_; refine jN rfl rfl rfl ?_; refine jh rfl ?_; refine jjZ rfl rfl (by omega) ?_; refine jz ?_; refine jjJ rfl ?_; refine jjG ?_; refine jjB ?_; refine jjD ?_; refine jjB ?_; refine jjC ?_; refine jm ?_; refine jn rfl ?_; refine jN rfl rfl rfl ?_; apply jI; exact eI rfl; refine jF rfl rfl rfl (map_get (by omega)) ?_; intro _ _ _; refine jm ?_; refine jn rfl ?_; refine jP rfl rfl rfl ?_)
  (refine jjS (cells := [.int .i64 cs[k].1, .slice none 0 0]) ?_ ?_; exact rfl)
  (apply jjR rfl; (intro _; first|exact eI rfl|exact eB rfl|exact eP rfl|exact eS rfl|exact eT rfl|exact eA rfl|exact eU rfl|exact eF rfl|exact eM rfl|exact eN rfl|exact rfl); exact rfl; exact rfl; exact rfl; exact rfl; intro b5 w_b5 hb_b5 hs_b5 hS_b5 hk_b5; have hA_b5 := Bk.of hk_b5)
  (refine jz ?_; refine jjB ?_; refine jjB ?_; refine jjC ?_; apply jJ; exact eI rfl; refine jz ?_; refine jjD ?_)
  have hE5 := hS_b5.ext
  have z5 := hE5.size
  have hw5 : Ext w w_b5 := hEV.trans hE5
  refine W.keep [(1, .pointer (some ⟨b1, 0, none⟩)), (2, .pointer (some ⟨b2, 0, none⟩)), (3, .pointer (some ⟨b3, 0, none⟩)), (4, .int .i64 ((k : Nat) : Int)), (5, .pointer (some ⟨b5, 0, none⟩)), (6, .int .i64 ((0 : Nat) : Int))] (D := (7 :: 8 :: 9 :: 10 :: 11 :: 14 :: 15 :: 16 :: 17 :: 18 :: 19 :: 20 :: 5 :: 6 :: 21 :: 22 :: 23 :: 24 :: 25 :: 26 :: 27 :: 28 :: 29 :: 32 :: 33 :: 34 :: 35 :: 36 :: 37 :: 38 :: 39 :: 40 :: 41 :: 42 :: 43 :: 44 :: 45 :: 46 :: 47 :: 30 :: 31 :: 48 :: 49 :: 50 :: 51 :: 52 :: 53 :: 12 :: 13 :: 4 :: [])) (sO := upds s0 _) (by ((refine Same.upd rfl ?_; refine Same.upd rfl ?_; refine Same.upd rfl ?_; refine Same.upd rfl ?_; refine Same.upd rfl ?_; refine Same.upd rfl ?_; refine Same.upd rfl ?_; refine Same.upd rfl ?_; refine Same.upd rfl ?_; refine Same.upd rfl ?_; refine Same.upd rfl ?_; refine Same.upd rfl ?_; refine Same.upd rfl ?_; refine Same.upd rfl ?_; refine Same.upd rfl ?_; exact Same.ovN))) ⟨eP rfl, eP rfl, eP rfl, eI rfl, eP rfl, eI rfl, trivial⟩ fun s1 hs1' => ?_
  refine W.loopG (21 :: 22 :: 23 :: 24 :: 25 :: 26 :: 27 :: 28 :: 29 :: 32 :: 33 :: 34 :: 35 :: 36 :: 37 :: 38 :: 39 :: 40 :: 41 :: 42 :: 43 :: 44 :: 45 :: 46 :: 47 :: 30 :: 31 :: 6 :: []) (fun g s' V2 => ∃ (n : Nat) (lv : Value) (ys : List Ln), s' 6 = .int .i64 ((n : Nat) : Int) ∧ g = cs[k].2.2.2.length - n ∧ n ≤ cs[k].2.2.2.length ∧ Only b5 w_b5 V2 ∧ Bk V2 b5 [.int .i64 cs[k].1, lv] 63 ∧ OwnLn V2 w_b5.heap.size lv ys ∧ ys.map (·.2.2) = (cs[k].2.2.2.map (·.2.2)).take n) cs[k].2.2.2.length ⟨0, _, [], rfl, rfl, Nat.zero_le _, .ofExt (.refl _), hA_b5, ⟨OwnL.nil _ _ _ _ _, by simp⟩, rfl⟩ ?_
  rintro _ sd2 V2 ⟨n, lv, ys, h6, rfl, hn, hOn2, hV5, hOy, hyw⟩
  refine W.fix h6 ?_
  clear h6
  have zOn2 := hOn2.size
  have hE2 : Ext w V2 := hOn2.ext hw5 (by omega)
  have hb12 : At V2 b1 0 [.slice (some ⟨ba, oa, none⟩) cs.length c] := hOn2.at_ (hb1V.ext hE5) (by have := hb1V.lt; omega)
  have hT2 : TextI V2 cs := hT.ext hE2
  have hr2 : RowI V2 (.slice (some ⟨ba, oa, none⟩) cs.length c) true 2 (cs.map encCh) := ⟨hrow.h.ext hE2⟩
  have hyl : ys.length ≤ 1000 := by have := congrArg List.length hyw; rw [List.length_map, List.length_take, List.length_map] at this; omega
  obtain ⟨la, lc, hlv⟩ := hOy.out.slice
  rw [List.length_map] at hlv
  subst hlv
  have := Bk.toAt (h := hV5)
  by_cases hnl : n < cs[k].2.2.2.length
  rotate_left
  · have hne : n = (cs[k].2.2.2.map (·.2.2)).length := by rw [List.length_map]; omega
    rw [hne, List.take_length] at hyw
    have hcvb : cv.ownBlock ≠ some b5 := fun e => by have := (hOd.out.block _ e).2; omega
    have hOd2 : OwnCh V2 w_b3.heap.size cv ds := (hOd.ext hE5).only hOn2 hcvb ⟨_, hA_b5⟩
    have hV32 : Bk V2 b3 [cv] 24 := hOn2.bk (hV3.ext hE5) (by have := hV3.lt; omega)
    obtain ⟨ca, cc, hcv⟩ := hOd2.out.slice
    rw [List.length_map] at hcv
    subst hcv
    have := Bk.toAt (h := hV32)
    (refine jjB ?_; refine jjB ?_; refine jjC ?_; apply jI; exact eI rfl; refine jm ?_; refine jn rfl ?_; refine jN rfl rfl rfl ?_; apply jI; exact eI rfl; refine jF rfl rfl rfl (map_get (by omega)) ?_; intro _ _ _; refine jm ?_; refine jn rfl ?_; refine jP rfl rfl rfl ?_; refine jh rfl ?_; refine jja rfl rfl (by omega) ?_; refine jz ?_; refine jjK rfl ?_; refine jjE ?_; refine jjC ?_; refine jm ?_; refine jn rfl ?_; refine jN rfl rfl rfl ?_; refine jO rfl rfl rfl rfl ?_)
    (refine jjP (v := .agg _) rfl (by exact rfl) (by exact rfl) (by exact rfl) (by exact rfl) ?_; intro b51 w_b51 hb_b51 hs_b51 hS_b51 hk_b51; have hR_b51 := RowV.one (agg := true) (k := 2) rfl hk_b51)
    have hR1 : RowV w_b51 true 2 (.slice (some ⟨b51, 0, none⟩) 1 1) [encCh (cs[k].1, la, lc, ys)] := hR_b51
    have e51 := hS_b51.ext
    have z51 := e51.size
    refine Ops.appendL (hOd2.out.ext e51) (by omega) hR1 rfl rfl rfl rfl (one_ch _) ?_ ?_ ?_
    · rw [List.length_map]; simp only [List.length_cons, List.length_nil]; omega
    · rw [List.length_map]; simp only [List.length_cons, List.length_nil]; omega
    intro cv2 V4 hA hO _ hown2
    have zA := hA.g.size
    have hV34 : Bk V4 b3 [.slice ca ds.length cc] 24 := hA.bk (hV32.ext e51) (hOd2.out.neB hV32 (by decide))
    rw [← List.map_singleton, ← List.map_append] at hO
    obtain ⟨ca2, cl2, cc2, rfl⟩ := hO.slice3
    (refine jm ?_; refine jn rfl ?_)
    refine Ops.store rfl rfl rfl rfl rfl ?_
    intro V6 hp6
    (refine jz ?_; refine jjC ?_; apply jI; exact eI rfl; refine jY rfl rfl (by omega) ?_; apply jJ; exact eI rfl; refine jz ?_)
    have hOnF : Only b3 w_b3 V6 := (((hOn.trans (.ofExt (hOn2.ext hE5 (by omega)))).trans (.ofExt e51)).app hA (Nat.le_refl _)).trans (.ofPut hp6)
    have hOdF : OwnCh V4 w_b3.heap.size (.slice ca2 cl2 cc2) (ds ++ [(cs[k].1, la, lc, ys)]) := ⟨hO, fun x hx => by
      rcases List.mem_append.1 hx with hx | hx
      · exact ((hOd2.ins x hx).ext e51).appC (hOd2.out.ext e51) hA
      · obtain rfl := List.mem_singleton.1 hx
        exact ((hOy.ext e51).appC (hOd2.out.ext e51) hA).mono (by omega)⟩
    refine ⟨rfl, by ((refine Same.upd rfl ?_; refine Same.upd rfl ?_; refine Same.upd rfl ?_; refine Same.upd rfl ?_; refine Same.upd rfl ?_; refine Same.upd rfl ?_; refine Same.upd rfl ?_; refine Same.upd rfl ?_; refine Same.upd rfl ?_; refine Same.upd rfl ?_; refine Same.upd rfl ?_; refine Same.upd rfl ?_; refine Same.upd rfl ?_; refine Same.upd rfl ?_; refine Same.upd rfl ?_; refine Same.upd rfl ?_; refine Same.upd rfl ?_; refine Same.upd rfl ?_; refine Same.upd rfl ?_; refine Same.ovN' rfl ?_; assumption)), cs.length - (k + 1), by omega, k + 1, _, ds ++ [(cs[k].1, la, lc, ys)], congrArg (Value.int .i64) (by omega), rfl, by omega, hOnF, ⟨hp6.new⟩, hOdF.put hp6 (by omega), ?_⟩
    have hg : (txF cs)[k]? = some (txC cs[k]) := by simp [txF, hkc]
    rw [take_snoc_get hg, ← htx, txF, List.map_append]
    show _ ++ [(cs[k].1, ys.map (·.2.2))] = _
    rw [hyw]; rfl
  have hsn := hsk.2 _ (List.getElem_mem hnl)
  obtain ⟨bl, ol, el, hAl⟩ := (hT.line hkc).h.place' (map_get hnl)
  rw [Nat.mul_one] at hAl
  have hAc2 := hAc1
  rw [el] at hAc2
  have hW := (hT.word hkc hnl).h
  (refine jjB ?_; refine jjB ?_; refine jjC ?_; apply jI; exact eI rfl; refine jm ?_; refine jn rfl ?_; refine jN rfl rfl rfl ?_; apply jI; exact eI rfl; refine jF rfl rfl rfl (map_get (by omega)) ?_; intro _ _ _; refine jm ?_; refine jn rfl ?_; refine jP rfl rfl rfl ?_; refine jh rfl ?_; refine jjZ rfl rfl (by omega) ?_; refine jz ?_; refine jjJ rfl ?_; refine jjG ?_; refine jjB ?_; refine jjD ?_)
  refine W.drawX 16 (fun w' => At w' b1 0 [.slice (some ⟨ba, oa, none⟩) cs.length c] ∧ At w' ba (oa + k * 2) [.int .i64 cs[k].1, .slice (some ⟨bl, ol, none⟩) cs[k].2.2.2.length cs[k].2.2.1] ∧ At w' bl (ol + n) (encLn cs[k].2.2.2[n]).cells.toList ∧ At w' b5 0 [.int .i64 cs[k].1, .slice la ys.length lc]) ?_
  intro w1 hS1
  have x1 := hS1.ext
  have s1 := And.intro (hb12.ext x1) (And.intro (hAc2.ext (hE2.trans x1)) (And.intro (hAl.ext (hE2.trans x1)) ((Bk.toAt (h := hV5)).ext x1)))
  (refine AnyX.take [0, 1, 3, 4, 5, 6, 7, 8, 9, 10, 11] ?_ ?_ ?_; (decide +kernel); (exact s1); (((apply jjT; exact rfl; rintro w' ⟨q0, q1, q2, q3⟩; refine jm ?_; refine jn rfl ?_; refine jz ?_; exact ⟨rfl, rfl⟩; apply jjT; exact rfl; rintro w' ⟨q0, q1, q2, q3⟩; refine jN rfl rfl rfl ?_; refine jz ?_; exact ⟨rfl, rfl⟩; apply jjT; exact rfl; rintro w' ⟨q0, q1, q2, q3⟩; refine jm ?_; refine jn rfl ?_; refine jz ?_; exact ⟨rfl, rfl⟩; apply jjT; exact rfl; rintro w' ⟨q0, q1, q2, q3⟩; refine jN rfl rfl rfl ?_; refine jz ?_; exact ⟨rfl, rfl⟩; apply jjT; exact rfl; rintro w' ⟨q0, q1, q2, q3⟩; apply jI; exact eI rfl; refine jz ?_; exact ⟨rfl, rfl⟩; apply jjT; exact rfl; rintro w' ⟨q0, q1, q2, q3⟩; refine jH _ rfl rfl rfl (by omega) ?_; refine jz ?_; exact ⟨rfl, rfl⟩; apply jjT; exact rfl; rintro w' ⟨q0, q1, q2, q3⟩; refine jm ?_; refine jn rfl ?_; refine jz ?_; exact ⟨rfl, rfl⟩; apply jjT; exact rfl; rintro w' ⟨q0, q1, q2, q3⟩; refine jP rfl rfl rfl ?_; refine jz ?_; exact ⟨rfl, rfl⟩; apply jjT; exact rfl; rintro w' ⟨q0, q1, q2, q3⟩; apply jI; exact eI rfl; refine jz ?_; exact ⟨rfl, rfl⟩; apply jjT; exact rfl; rintro w' ⟨q0, q1, q2, q3⟩; refine jG rfl rfl rfl (by omega) ?_; refine jz ?_; exact ⟨rfl, rfl⟩; apply jjT; exact rfl; rintro w' ⟨q0, q1, q2, q3⟩; refine jQ rfl rfl ?_; refine jz ?_; exact ⟨rfl, rfl⟩; refine jjU ?_))))
  (apply AnyX.one 2; (decide +kernel); exact rfl; (exact s1))
  refine Ops.buildSlice0 ?_
  intro b34 w3 hb34 hs34 hS34 hk34
  refine jz ?_
  have x3 := x1.trans hS34.ext
  have z1 := x1.size
  have hO34 : OwnL w3 w1.heap.size 9 false 1 (.slice (some ⟨b34, 0, none⟩) 0 0) [] := OwnL.empty (by omega) hk34
  have s3 := And.intro (hb12.ext x3) (And.intro (hAc2.ext (hE2.trans x3)) (And.intro (hAl.ext (hE2.trans x3)) ((Bk.toAt (h := hV5)).ext x3)))
  (apply AnyX.one 12; (decide +kernel); exact rfl; (exact s3))
  refine Ops.appendL hO34 (by omega) (hW.ext (hE2.trans x3)) rfl rfl rfl rfl (all_strs _) ?_ ?_ ?_
  · simp only [List.length_map, List.length_nil]; omega
  · simp only [List.length_map, List.length_nil]; omega
  intro v6 w6 hA6 hO6 _ _
  rw [List.nil_append] at hO6
  obtain ⟨a6, c6, hv6⟩ := hO6.slice
  rw [List.length_map] at hv6
  subst hv6
  refine jz ?_
  have x6 : Ext V2 w6 := hA6.ext x3 z1
  have s6 := And.intro (hb12.ext x6) (And.intro (hAc2.ext (hE2.trans x6)) (And.intro (hAl.ext (hE2.trans x6)) ((Bk.toAt (h := hV5)).ext x6)))
  (apply AnyX.one 13; (decide +kernel); exact rfl; (exact s6))
  (refine jjP (v := .slice _ _ _) rfl (by exact rfl) (by exact rfl) (by exact rfl) (by exact rfl) ?_; intro b45 w_b45 hb_b45 hs_b45 hS_b45 hk_b45; have hR_b45 := RowV.one (agg := false) (k := 1) rfl hk_b45)
  refine jz ?_
  have hR45 : RowV w_b45 false 1 (.slice (some ⟨b45, 0, none⟩) 1 1) [encLn (a6, c6, cs[k].2.2.2[n].2.2)] := hR_b45
  have x45 := x6.trans hS_b45.ext
  have z45 := x45.size
  have s45 := And.intro (hb12.ext x45) (And.intro (hAc2.ext (hE2.trans x45)) (And.intro (hAl.ext (hE2.trans x45)) ((Bk.toAt (h := hV5)).ext x45)))
  (apply AnyX.one 14; (decide +kernel); exact rfl; (exact s45))
  refine Ops.appendL (hOy.out.ext x45) (by omega) hR45 rfl rfl rfl rfl (one_ln _) ?_ ?_ ?_
  · rw [List.length_map]; simp only [List.length_cons, List.length_nil]; omega
  · rw [List.length_map]; simp only [List.length_cons, List.length_nil]; omega
  intro lv2 w9 hA9 hO9 _ hown9
  refine jz ?_
  have hnb : ∀ b, b < w_b5.heap.size → (Value.slice la ys.length lc).ownBlock ≠ some b := fun b h e => by have := (hOy.out.block _ e).1; omega
  have lta := hAc1.lt
  have ltl := hAl.lt
  have lt1 := hb1V.lt
  have zw := hEV.size
  have s9 := And.intro (hA9.at_ (hb12.ext x45) (hnb _ (by omega))) (And.intro (hA9.at_ (hAc2.ext (hE2.trans x45)) (hnb _ (by omega))) (And.intro (hA9.at_ (hAl.ext (hE2.trans x45)) (hnb _ (by omega))) (hA9.at_ ((Bk.toAt (h := hV5)).ext x45) (hnb _ (by omega)))))
  (refine AnyX.take [15] ?_ ?_ ?_; (decide +kernel); (exact s9); (((apply jjT; exact rfl; rintro w' ⟨q0, q1, q2, q3⟩; refine jm ?_; refine jn rfl ?_; refine jz ?_; exact ⟨rfl, rfl⟩; refine jjU ?_))))
  (apply AnyX.one 16; (decide +kernel); exact rfl; (exact s9))
  have hB5 : Bk w9 b5 [.int .i64 cs[k].1, .slice la ys.length lc] 63 := hA9.bk (hV5.ext x45) (hnb _ (by omega))
  rw [← List.map_singleton, ← List.map_append] at hO9
  obtain ⟨la2, ll2, lc2, rfl⟩ := hO9.slice3
  refine Ops.storeC (cs := [.int .i64 cs[k].1, .slice la ys.length lc]) (j := 1) (v := .slice la2 ll2 lc2) rfl rfl rfl rfl (show 1 < 2 by omega) ?_
  intro wF hpF
  refine jz ?_
  refine AnyX.done (by decide +kernel) ?_
  have hOnF : Only b5 w_b5 wF := ((hOn2.trans (.ofExt x45)).app hA9 (Nat.le_refl _)).trans (.ofPut hpF)
  have hOyF : OwnLn w9 w_b5.heap.size (.slice la2 ll2 lc2) (ys ++ [(a6, c6, cs[k].2.2.2[n].2.2)]) := ⟨hO9, fun y hy => by
    rcases List.mem_append.1 hy with hy | hy
    · exact ((hOy.ins y hy).ext x45).app hA9 (OwnL.ne ((hOy.ins y hy).ext x45) (hOy.out.ext x45) (by decide))
    · obtain rfl := List.mem_singleton.1 hy
      exact ((hO6.ext hS_b45.ext).app hA9 (OwnL.ne (hO6.ext hS_b45.ext) (hOy.out.ext x45) (by decide))).mono (by omega)⟩
  (refine jjC ?_; apply jI; exact eI rfl; refine jY rfl rfl (by omega) ?_; apply jJ; exact eI rfl; refine jz ?_)
  refine ⟨rfl, by ((refine Same.upd rfl ?_; refine Same.upd rfl ?_; refine Same.upd rfl ?_; refine Same.upd rfl ?_; refine Same.upd rfl ?_; refine Same.upd rfl ?_; refine Same.upd rfl ?_; refine Same.upd rfl ?_; refine Same.upd rfl ?_; refine Same.upd rfl ?_; refine Same.upd rfl ?_; refine Same.upd rfl ?_; refine Same.upd rfl ?_; refine Same.upd rfl ?_; refine Same.upd rfl ?_; refine Same.upd rfl ?_; refine Same.upd rfl ?_; refine Same.upd rfl ?_; refine Same.upd rfl ?_; refine Same.upd rfl ?_; refine Same.upd rfl ?_; refine Same.upd rfl ?_; refine Same.upd rfl ?_; refine Same.upd rfl ?_; refine Same.upd rfl ?_; refine Same.upd rfl ?_; refine Same.upd rfl ?_; refine Same.upd rfl ?_; refine Same.upd rfl ?_; exact Same.ovN)), cs[k].2.2.2.length - (n + 1), by omega, n + 1, _, ys ++ [(a6, c6, cs[k].2.2.2[n].2.2)], congrArg (Value.int .i64) (by omega), rfl, by omega, hOnF, ⟨hpF.new⟩, hOyF.put hpF (by omega), ?_⟩
  have hg : (cs[k].2.2.2.map (·.2.2))[n]? = some cs[k].2.2.2[n].2.2 := by simp [hnl]
  rw [take_snoc_get hg, ← hyw, List.map_append]; rfl
end
end Go.Proofs.YtpbkphaceljclaaGreatDoor

/- leaf: the text of a copy. -/
namespace Go.Proofs.YtpbkphaceljclaaGreatDoor
open Go.RowKit

abbrev nilV : Value := .slice none 0 0
end Go.Proofs.YtpbkphaceljclaaGreatDoor

/- Maps whose keys are there once; maps that are sets. -/
namespace Go.Proofs.YtpbkphaceljclaaGreatDoor
open Go.RowKit

section
variable {κ : Type} [DecidableEq κ]
abbrev NdG (m : List (κ × Value)) : Prop := (m.map (·.1)).Nodup
theorem mset_keysG (m : List (κ × Value)) (k : κ) (v : Value) : ∀ x, x ∈ (mset m k v).map (·.1) → x = k ∨ x ∈ m.map (·.1) := by
  induction m with
  | nil => intro x hx; simp [mset] at hx; exact .inl hx
  | cons p m ih =>
    obtain ⟨y, u⟩ := p
    intro x hx
    rw [mset] at hx
    split at hx
    · subst_vars; exact .inr hx
    · simp only [List.map_cons, List.mem_cons] at hx ⊢
      rcases hx with hx | hx
      · exact .inr (.inl hx)
      · rcases ih x hx with h | h
        · exact .inl h
        · exact .inr (.inr h)
theorem NdG.set {m : List (κ × Value)} (h : NdG m) (k : κ) (v : Value) : NdG (mset m k v) := by
  induction m with
  | nil => simp [NdG, mset]
  | cons p m ih =>
    obtain ⟨y, u⟩ := p
    simp only [NdG, List.map_cons, List.nodup_cons] at h
    rw [mset]
    split
    · subst_vars; simp only [NdG, List.map_cons, List.nodup_cons]; exact h
    · simp only [NdG, List.map_cons, List.nodup_cons]
      refine ⟨fun hc => ?_, ih h.2⟩
      rcases mset_keysG m k v y hc with e | e
      · rename_i hne; exact hne e.symm
      · exact h.1 e
theorem mget_noG {m : List (κ × Value)} {k : κ} (h : k ∉ m.map (·.1)) : mget m k = none := by
  induction m with
  | nil => rfl
  | cons p m ih =>
    obtain ⟨y, u⟩ := p
    simp only [List.map_cons, List.mem_cons, not_or] at h
    rw [mget, if_neg h.1, ih h.2]
theorem NdG.del {m : List (κ × Value)} (h : NdG m) (k : κ) : NdG (mdel m k) ∧ (∀ x, x ∈ (mdel m k).map (·.1) → x ∈ m.map (·.1)) ∧ ∀ x, mget (mdel m k) x = if x = k then none else mget m x := by
  induction m with
  | nil => simp [NdG, mdel, mget]
  | cons p m ih =>
    obtain ⟨y, u⟩ := p
    simp only [NdG, List.map_cons, List.nodup_cons] at h
    obtain ⟨i1, i2, i3⟩ := ih h.2
    rw [mdel]
    split
    · subst_vars
      refine ⟨h.2, fun x hx => by simp only [List.map_cons, List.mem_cons]; exact .inr hx, fun x => ?_⟩
      rw [mget]
      by_cases e : x = y
      · subst e; rw [if_pos rfl, mget_noG h.1]
      · rw [if_neg e, if_neg e]
    · rename_i hne
      refine ⟨?_, fun x hx => ?_, fun x => ?_⟩
      · simp only [NdG, List.map_cons, List.nodup_cons]
        exact ⟨fun hc => h.1 (i2 y hc), i1⟩
      · simp only [List.map_cons, List.mem_cons] at hx ⊢
        exact hx.imp id (i2 x)
      · rw [mget, mget, i3]
        by_cases e : x = y
        · subst e; rw [if_pos rfl, if_pos rfl, if_neg (fun h => hne h.symm)]
        · rw [if_neg e, if_neg e]
/-- A map that is a set: true for what is in it. -/
structure SetM (S : κ → Bool) (m : List (κ × Value)) : Prop where
  nd : NdG m
  get : ∀ x, mget m x = if S x then some (.bool true) else none
theorem SetM.nil : SetM (fun _ : κ => false) [] := ⟨by simp [NdG], fun x => rfl⟩
theorem SetM.congr {S S' : κ → Bool} {m : List (κ × Value)} (h : SetM S m) (e : ∀ x, S' x = S x) : SetM S' m := ⟨h.nd, fun x => by rw [h.get, e]⟩
theorem SetM.set {S : κ → Bool} {m : List (κ × Value)} (h : SetM S m) (k : κ) : SetM (fun x => decide (x = k) || S x) (mset m k (.bool true)) := ⟨h.nd.set k _, fun x => by
  by_cases e : x = k
  · subst e; rw [mget_set_same]; simp
  · rw [mget_set_other _ _ e, h.get]; simp [e]⟩
theorem SetM.del {S : κ → Bool} {m : List (κ × Value)} (h : SetM S m) (k : κ) : SetM (fun x => !decide (x = k) && S x) (mdel m k) := ⟨(h.nd.del k).1, fun x => by
  rw [(h.nd.del k).2.2]
  by_cases e : x = k
  · simp [e]
  · rw [if_neg e, h.get]; simp [e]⟩
end
end Go.Proofs.YtpbkphaceljclaaGreatDoor

/- leaf: the places of each word of a text, as a map. -/
namespace Go.Proofs.YtpbkphaceljclaaGreatDoor
open Go.RowKit

theorem map_two {κ : Type} {f : κ → Value} (hf : ∀ x y, f x = f y → x = y) : ∀ {m m' : List (κ × Value)}, m.map (fun p => f p.1) = m'.map (fun p => f p.1) → m.map (·.2) = m'.map (·.2) → m = m'
  | [], [], _, _ => rfl
  | [], _ :: _, h, _ => by simp at h
  | _ :: _, [], h, _ => by simp at h
  | (a, b) :: m, (c, d) :: m', h, h2 => by
    simp only [List.map_cons, List.cons.injEq] at h h2
    obtain rfl := hf _ _ h.1
    obtain rfl := h2.1
    rw [map_two hf h.2 h2.2]
theorem MapE.uniq {κ : Type} {encK : κ → Value} (hf : ∀ x y, encK x = encK y → x = y) {w : World} {b : Nat} {m m' : List (κ × Value)} (h : MapE encK w b m) (h' : MapE encK w b m') : m = m' := by
  obtain ⟨es, c, h1, h2, h3, _⟩ := h.h
  obtain ⟨es', c', h1', h2', h3', _⟩ := h'.h
  rw [h1] at h1'
  cases h1'
  exact map_two hf (h2.symm.trans h2') (h3.symm.trans h3')
theorem str_inj (x y : ByteArray) (h : Value.string x = Value.string y) : x = y := by cases h; rfl
/-- The places of a word among the first words. -/
def plsN (t : Tx) (i : Nat) (s : ByteArray) : List Pl := (((allW t t.length).take i).filter fun x => decide (x.2 = s)).map (·.1)
theorem plsN_len (t : Tx) (i : Nat) (s : ByteArray) : (plsN t i s).length ≤ i := by
  rw [plsN, List.length_map]
  exact Nat.le_trans (List.length_filter_le _ _) (List.length_take_le _ _)
theorem plsN_snoc {t : Tx} {i : Nat} {p : Pl} {s : ByteArray} (h : (allW t t.length)[i]? = some (p, s)) (x : ByteArray) : plsN t (i + 1) x = plsN t i x ++ if s = x then [p] else [] := by
  rw [plsN, List.take_add_one, h, List.filter_append, List.map_append, ← plsN]
  by_cases e : s = x
  · simp [e]
  · simp [e]
/-- What rounds write: the map, and its values' own blocks. -/
def MI (mb : Nat) (V : World) (k : Nat) : Prop := k = mb ∨ ∃ m s, MapE Value.string V mb m ∧ ((mget m s).getD nilV).ownBlock = some k
structure IxJ (w w2 : World) (t : Tx) (b3 mb bx bk : Nat) (a : Option Addr) (c cl : Nat) (i : Nat) (V : World) : Prop where
  e : Ext w V
  sz : w2.heap.size ≤ V.heap.size
  k3 : At V b3 0 [.map (some mb)]
  kx : At V bx 0 [.pointer (some ⟨bk, 0, none⟩)]
  kk : At V bk 0 [.slice a cl c]
  m : ∃ m, MapE Value.string V mb m ∧ (NdG m ∧ ∀ s, OwnL V w2.heap.size 44 true 3 ((mget m s).getD nilV) ((plsN t i s).map encPl)) ∧ ∀ (p q : ByteArray) (g : Nat), p ≠ q → ((mget m p).getD nilV).ownBlock = some g → ((mget m q).getD nilV).ownBlock ≠ some g
section
variable (a : Option Addr) (c : Nat) (cs : List Ch) (w : World) [hrow : RowI w (.slice a cs.length c) true 2 (cs.map encCh)] [hT : TextI w cs]
set_option maxHeartbeats 4000000 in
theorem index_leaf (hs : SmallT cs) (ht : textB (txF cs) = true) (bk : Nat) [hb : At w bk 0 [.slice a cs.length c]] : Ct Tryz.prog 59 [.pointer (some ⟨bk, 0, none⟩)] w fun v w' => ∃ mb m, v = .map (some mb) ∧ w.heap.size ≤ mb ∧ MapE Value.string w' mb m ∧ NdG m ∧ ∀ s, OwnL w' (mb + 1) 44 true 3 ((mget m s).getD nilV) ((plsN (txF cs) (allW (txF cs) (txF cs).length).length s).map encPl) := by
  have hal := allW_small ht
  refine Ct.ofWM (by simp) ?_
  (refine jjB ?_; refine jjC ?_; apply jJ; exact eM rfl; refine jz ?_; refine jjB ?_; refine jjC ?_)
  refine Ops.makeMap Value.string ?_
  intro mb w1 hmb hs1 hS1 hM1
  skip
  (apply jjR rfl; (intro _; first|exact eI rfl|exact eB rfl|exact eP rfl|exact eS rfl|exact eT rfl|exact eA rfl|exact eU rfl|exact eF rfl|exact eM rfl|exact eN rfl|exact rfl); exact rfl; exact rfl; exact rfl; exact rfl; intro b3 w_b3 hb_b3 hs_b3 hS_b3 hk_b3; have hA_b3 := Bk.of hk_b3)
  (refine jz ?_; refine jjB ?_; refine jjB ?_; refine jjC ?_; apply jI; exact eP rfl)
  refine jjQ (all_leaf bk _) rfl rfl ?_
  rintro _ w2 hS2 ⟨bx, rfl, hbx, hAx⟩
  (refine jz ?_; refine jjD ?_)
  have hE2 : Ext w w2 := inferInstance
  have zz := hE2.size
  have z3 := hS_b3.size
  have z2 := hS2.size
  have hM2 : MapE Value.string w2 mb [] := hM1.ext (hS_b3.ext.trans hS2.ext)
  have hA3 : At w2 b3 0 [.map (some mb)] := inferInstance
  have hAk : At w2 bk 0 [.slice a cs.length c] := inferInstance
  have hwm : w.heap.size ≤ mb := by omega
  have hbm : b3 ≠ mb := by omega
  have hlx := hAx.lt
  have hlk := hb.lt
  have hxm : bx ≠ mb := by omega
  have hkm : bk ≠ mb := by omega
  have hmw : mb < w2.heap.size := by omega
  have h3l := hA3.lt
  refine W.rangeJ w.heap.size (allW (txF cs) (txF cs).length) encPW (all1_leaf bx bk a c cs hs) rfl (fun _ => rfl) trivial inferInstance zz
    (IxJ w w2 (txF cs) b3 mb bx bk a c cs.length) (fun _ _ _ => False) ?hJ (fun _ _ _ _ h _ => h) ?hF (fun i V h => h.sz) ?h0 (MI mb) ?hM1 ?hM2
    (fun x s' V => ∃ b4, s' 3 = .pointer (some ⟨b3, 0, none⟩) ∧ s' 4 = .pointer (some ⟨b4, 0, none⟩) ∧ s' 5 = .string x.2 ∧ w2.heap.size ≤ b4 ∧ Bk V b4 (encPl x.1).cells.toList 44 ∧ ∃ m, MapE Value.string V mb m ∧ ∀ s, ((mget m s).getD nilV).ownBlock ≠ some b4) (fun x s V V' ⟨b4, h1, h2, h3, h4, h5, m, h6, h7⟩ g => ⟨b4, h1, h2, h3, h4, h5.grow g, m, h6.grow g, h7⟩) ?hassign ?hbody ?hdone (fun _ _ _ _ _ _ _ h => h.elim)
  case hJ =>
    rintro i V V' ⟨h1, h2, h3, h4, h5, m, h6, h7, h8⟩ g
    exact ⟨h1.ofGrow g zz, Nat.le_trans h2 g.size, h3.grow g, h4.grow g, h5.grow g, m, h6.grow g, ⟨h7.1, fun s => (h7.2 s).grow g⟩, h8⟩
  case hF =>
    rintro i V ⟨h1, h2, h3, h4, h5, m, h6, h7, h8⟩
    exact ⟨h4, h5, hrow.h.ext h1, hT.ext h1⟩
  case h0 =>
    exact ⟨hE2, Nat.le_refl _, hA3, hAx, hAk, [], hM2, ⟨by simp [NdG], fun s => by simpa [mget, plsN] using OwnL.nil _ _ _ _ _⟩, fun p q g _ h => by simp [mget, Value.ownBlock] at h⟩
  case hM1 =>
    rintro i V k ⟨h1, h2, h3, h4, h5, m, h6, h7, h8⟩ (rfl | ⟨m', s, h9, h10⟩)
    · exact h6.lt
    · obtain rfl := MapE.uniq str_inj h6 h9
      exact ((h7.2 s).block k h10).2
  case hM2 =>
    rintro i V V' k ⟨h1, h2, h3, h4, h5, m, h6, h7, h8⟩ g (rfl | ⟨m', s, h9, h10⟩)
    · exact .inl rfl
    · obtain rfl := MapE.uniq str_inj (h6.grow g) h9
      exact .inr ⟨m, s, h6, h10⟩
  case hassign =>
    rintro l i x V hx ⟨h1, h2, h3, h4, h5, m, h6, h7, h8⟩ hl hr
    (refine jjB ?_; refine jjC ?_)
    (apply jjR rfl; (intro _; first|exact eI rfl|exact eB rfl|exact eP rfl|exact eS rfl|exact eT rfl|exact eA rfl|exact eU rfl|exact eF rfl|exact eM rfl|exact eN rfl|exact rfl); exact rfl; exact rfl; exact rfl; exact rfl; intro b4 w_b4 hb_b4 hs_b4 hS_b4 hk_b4; have hA_b4 := Bk.of hk_b4)
    (refine jz ?_; refine jjC ?_; apply jJ; exact eT rfl; refine jz ?_)
    have e4 := hS_b4.ext
    have y4 := e4.size
    exact ⟨rfl, e4.tr, Fr.ofExt e4 fun k hk => .inl (by
      rcases hk with rfl | ⟨m', s, h9, h10⟩
      · exact .inl rfl
      · obtain rfl := MapE.uniq str_inj (h6.ext e4) h9
        exact .inr ⟨m, s, h6, h10⟩), ⟨h1.trans e4, by omega, h3.ext e4, h4.ext e4, h5.ext e4, m, h6.ext e4, ⟨h7.1, fun s => (h7.2 s).ext e4⟩, h8⟩, b4, rfl, rfl, rfl, by omega, inferInstance, m, h6.ext e4, fun s e => by have := ((h7.2 s).block _ e).2; omega⟩
  case hbody =>
    rintro l i x s' V hx ⟨h1, h2, h3, h4, h5, m, h6, h7, h8⟩ ⟨b4, ha3, ha4, ha5, hb4, hB4, m', h6', hd4⟩ hl hr
    obtain ⟨p, t⟩ := x
    obtain rfl := MapE.uniq str_inj h6 h6'
    refine W.fix (d := 3) ha3 (W.fix (d := 4) ha4 (W.fix (d := 5) ha5 ?_))
    have hlt := (List.getElem?_eq_some_iff.1 hx).1
    have hsn := plsN_snoc hx
    have hA4 : At V b4 0 [.int .i64 p.1, .int .i64 p.2.1, .int .i64 p.2.2] := Bk.toAt (h := hB4)
    have h4m : b4 ≠ mb := by omega
    obtain ⟨v0, hv0⟩ : ∃ v0, (mget m t).getD nilV = v0 := ⟨_, rfl⟩
    have hO0 := h7.2 t
    rw [hv0] at hO0
    have hne0 : ∀ q, ((mget m q).getD nilV).ownBlock ≠ some mb := fun q e => by have := ((h7.2 q).block _ e).1; omega
    have hpl := plsN_len (txF cs) i t
    ((refine jjD ?_))
    refine W.drawX 8 (fun w' => At w' b3 0 [.map (some mb)] ∧ At w' b4 0 [.int .i64 p.1, .int .i64 p.2.1, .int .i64 p.2.2] ∧ MapE Value.string w' mb m) ?_
    intro w4 hS4
    have x4 := hS4.ext
    have s4 := And.intro (h3.ext x4) (And.intro (hA4.ext x4) (h6.ext x4))
    refine AnyX.take [0, 1, 2, 3, 4, 5] (by decide +kernel) s4 ?_
    ((apply jjT; exact rfl; rintro w' ⟨q1, q2, q3⟩; refine jN rfl rfl rfl ?_; refine jz ?_; exact ⟨rfl, rfl⟩; apply jjT; exact rfl; rintro w' ⟨q1, q2, q3⟩; apply jI; exact eT rfl; refine jz ?_; exact ⟨rfl, rfl⟩; apply jjT; exact rfl; rintro w' ⟨q1, q2, q3⟩; refine jN rfl rfl rfl ?_; refine jz ?_; exact ⟨rfl, rfl⟩; apply jjT; exact rfl; rintro w' ⟨q1, q2, q3⟩; apply jI; exact eT rfl; refine jz ?_; exact ⟨rfl, rfl⟩; apply jjT; exact rfl; rintro w' ⟨q1, q2, q3⟩; refine Ops.lookupV (k := t) hv0 q3 rfl rfl ?_; refine jz ?_; exact ⟨rfl, rfl⟩; apply jjT; exact rfl; rintro w' ⟨q1, q2, q3⟩; refine jO rfl rfl rfl rfl ?_; refine jz ?_; exact ⟨rfl, rfl⟩; refine jjU ?_))
    (apply AnyX.one 6; (decide +kernel); exact rfl; (exact s4))
    (refine jjP (v := .agg _) rfl (by exact rfl) (by exact rfl) (by exact rfl) (by exact rfl) ?_; intro b7 w_b7 hb_b7 hs_b7 hS_b7 hk_b7; have hR_b7 := RowV.one (agg := true) (k := 3) rfl hk_b7)
    refine jz ?_
    have hR7 : RowV w_b7 true 3 (.slice (some ⟨b7, 0, none⟩) 1 1) ([p].map encPl) := hR_b7
    have e7 := x4.trans hS_b7.ext
    have z7 := e7.size
    have s7 := And.intro (h3.ext e7) (And.intro (hA4.ext e7) (h6.ext e7))
    (apply AnyX.one 7; (decide +kernel); exact rfl; (exact s7))
    refine Ops.appendL (hO0.ext e7) (by omega) hR7 rfl rfl rfl rfl rfl (by simp only [List.length_map, List.length_cons, List.length_nil]; omega) (by simp only [List.length_map, List.length_cons, List.length_nil]; omega) ?_
    intro v2 w8 hA8 hO8 _ hown8
    refine jz ?_
    have hnb : ∀ b, b < w2.heap.size → v0.ownBlock ≠ some b := fun b h e => by have := (hO0.block _ e).1; omega
    have hn4 : v0.ownBlock ≠ some b4 := by rw [← hv0]; exact hd4 t
    have hm8 : MapE Value.string w8 mb m := (h6.ext e7).app hA8 (hnb _ hmw)
    have s8 := And.intro (hA8.at_ (h3.ext e7) (hnb _ h3l)) (And.intro (hA8.at_ (hA4.ext e7) hn4) hm8)
    (apply AnyX.one 8; (decide +kernel); exact rfl; (exact s8))
    refine Ops.mapUpdate (k := t) (v := v2) hm8 rfl rfl rfl ?_
    intro w9 o9 hp9 hM9
    refine jz ?_
    refine AnyX.done (by decide +kernel) ?_
    skip
    have z8 := hA8.g.size
    have z9 := hp9.size
    have hv2m : v2.ownBlock ≠ some mb := fun e => by
      rcases hown8 with h | h
      · rw [h, ← hv0] at e; exact hne0 _ e
      · rw [h] at e; cases e; omega
    refine ⟨(e7.tr.trans hA8.tr).trans (hp9.tr hm8.loopy), ⟨by omega, fun k o hk ho hMk => ?_, fun k hMk => ?_⟩, hp9.ext (hA8.ext (h1.trans e7) zz) hwm, by omega, hp9.at_ (hA8.at_ (h3.ext e7) (hnb _ h3l)) hbm, hp9.at_ (hA8.at_ (h4.ext e7) (hnb _ hlx)) hxm, hp9.at_ (hA8.at_ (h5.ext e7) (hnb _ (by omega))) hkm, _, hM9, ⟨h7.1.set t v2, fun x => ?_⟩, fun q1 q2 g hpq => ?_⟩
    · have k8 := hA8.other (e7.block' hk) (fun e => hMk (.inr ⟨m, t, h6, by rw [hv0]; exact e⟩))
      exact (hp9.other k (fun e => hMk (.inl e))).trans k8
    · rcases hMk with rfl | ⟨m', s, h9, h10⟩
      · exact .inl (.inl rfl)
      · obtain rfl := MapE.uniq str_inj hM9 h9
        by_cases hp : s = t
        · subst hp
          rw [mget_set_same, Option.getD_some] at h10
          rcases hown8 with h | h
          · exact .inl (.inr ⟨m, s, h6, by rw [hv0, ← h]; exact h10⟩)
          · rw [h] at h10
            cases h10
            exact .inr (by omega)
        · rw [mget_set_other _ _ hp] at h10
          exact .inl (.inr ⟨m, s, h6, h10⟩)
    · rw [hsn]
      by_cases hp : x = t
      · subst hp
        rw [mget_set_same, if_pos rfl, List.map_append]
        exact hO8.put hp9 hv2m
      · rw [mget_set_other _ _ hp, if_neg (fun e => hp e.symm), List.append_nil]
        exact (((h7.2 x).ext e7).app hA8 fun g hg => by rw [← hv0]; exact h8 x t g hp hg).put hp9 (hne0 x)
    · by_cases hp : q1 = t
      · have hq : q2 ≠ t := fun e => hpq (hp.trans e.symm)
        subst hp
        rw [mget_set_same, mget_set_other _ _ hq, Option.getD_some]
        intro h hq2
        rcases hown8 with h3 | h3
        · rw [h3, ← hv0] at h
          exact h8 _ q2 g hpq h hq2
        · rw [h3] at h
          have := ((h7.2 q2).block g hq2).2
          cases h
          omega
      · rw [mget_set_other _ _ hp]
        by_cases hq : q2 = t
        · subst hq
          rw [mget_set_same, Option.getD_some]
          intro h hq2
          rcases hown8 with h3 | h3
          · rw [h3, ← hv0] at hq2
            exact h8 q1 _ g hpq h hq2
          · rw [h3] at hq2
            have := ((h7.2 q1).block g h).2
            cases hq2
            omega
        · rw [mget_set_other _ _ hq]
          exact h8 q1 q2 g hpq
  case hdone =>
    rintro ds' V hmk htr ⟨h1, h2, h3, h4, h5, m, h6, h7, h8⟩
    (refine jjB ?_; refine jjC ?_; refine jN rfl rfl rfl ?_; apply jJ; exact eM rfl; refine jz ?_; refine jjF ?_)
    refine fin1M rfl rfl hmk fun w' g => ⟨h1.ofGrow g (Nat.le_refl _), mb, m, rfl, hwm, h6.grow g, h7.1, fun s => ((h7.2 s).grow g).mono (by omega)⟩
end
end Go.Proofs.YtpbkphaceljclaaGreatDoor

/- leaf: the words of a text, each where it comes first; gathered. -/
namespace Go.Proofs.YtpbkphaceljclaaGreatDoor
open Go.RowKit

abbrev wsOf (t : Tx) : List ByteArray := (allW t t.length).map (·.2)
theorem plsN_pos {t : Tx} {i n : Nat} {p : Pl} {s : ByteArray} (h : (allW t t.length)[i]? = some (p, s)) (hi : i < n) : 0 < (plsN t n s).length := by
  rw [plsN, List.length_map, List.length_pos_iff]
  intro e
  have : (p, s) ∈ ((allW t t.length).take n).filter fun x => decide (x.2 = s) := by
    rw [List.mem_filter]
    refine ⟨List.mem_of_getElem? (i := i) ?_, by simp⟩
    rw [List.getElem?_take, if_pos hi, h]
  rw [e] at this
  cases this
theorem wsOf_get {t : Tx} {i : Nat} {x : Pl × ByteArray} (h : (allW t t.length)[i]? = some x) : (wsOf t)[i]? = some x.2 := by rw [wsOf, List.getElem?_map, h]; rfl
theorem dstL_step {ws : List ByteArray} {i : Nat} {x : ByteArray} (h : ws[i]? = some x) : dstL ws (i + 1) = dstL ws i ++ if (ws.take i).any (fun y => decide (y = x)) then [] else [x] := by rw [dstL, h]
theorem dstL_at {ws : List ByteArray} {i : Nat} {x : ByteArray} (h : ws[i]? = some x) (hn : (ws.take i).any (fun y => decide (y = x)) = false) : (dstL ws ws.length)[(dstL ws i).length]? = some x := by
  have hi := (List.getElem?_eq_some_iff.1 h).1
  obtain ⟨r, hr⟩ := dstL_pre (ws := ws) (i := i + 1) (j := ws.length) (by omega)
  rw [hr, dstL_step h, hn]
  simp
structure VoF (pb pm bk mb : Nat) (a : Option Addr) (c : Nat) (cs : List Ch) (w : World) : Prop where
  pb : At w pb 0 [.pointer (some ⟨bk, 0, none⟩)]
  pm : At w pm 0 [.map (some mb)]
  bk : At w bk 0 [.slice a cs.length c]
  row : RowV w true 2 (.slice a cs.length c) (cs.map encCh)
  tx : TextI w cs
/-- How many places a word has left. -/
def lenI (t : Tx) (i : Nat) (m : List (ByteArray × Value)) : Prop := ∀ s, ∃ a c, (mget m s).getD nilV = .slice a (if ((wsOf t).take i).any (fun y => decide (y = s)) then 0 else (plsN t (allW t t.length).length s).length) c
structure VoI (mb : Nat) (t : Tx) (i : Nat) (w : World) : Prop where
  h : ∃ m, MapE Value.string w mb m ∧ NdG m ∧ lenI t i m
structure VoJ (M : World → Nat → Prop) (J : Nat → World → Prop) (w2 : World) (t : Tx) (l bx bk b3 mb : Nat) (i : Nat) (V : World) : Prop where
  sz : w2.heap.size ≤ V.heap.size
  j : J (dstL (wsOf t) i).length V
  kx : At V bx 0 [.pointer (some ⟨bk, 0, none⟩)]
  k3 : At V b3 0 [.func (.yield l) #[] #[]]
  nx : ¬ M V bx
  n3 : ¬ M V b3
  i : VoI mb t i V
set_option maxHeartbeats 4000000 in
theorem each1_leaf (pb pm bk mb : Nat) (a : Option Addr) (c : Nat) (cs : List Ch) (hs : SmallT cs) :
    IterH Tryz.prog 60 [.pointer (some ⟨pb, 0, none⟩), .pointer (some ⟨pm, 0, none⟩)] (dstL (wsOf (txF cs)) (wsOf (txF cs)).length) (fun s => [.string s]) mb (VoF pb pm bk mb a c cs) (VoI mb (txF cs) 0) := by
  intro l J Jx M w0 hmb hJ hJx hF hFx hM1 hM2 hY hl0 hI h0
  have hF0 := (hF 0 w0 h0).1
  have := hF0.pb
  have hbk := hF0.bk
  have hrow : RowI w0 (.slice a cs.length c) true 2 (cs.map encCh) := ⟨hF0.row⟩
  have hT := hF0.tx
  refine Calls.ofWM (by simp) ?_
  (refine jjB ?_; refine jjC ?_)
  (refine jy rfl ?_; intro b3 w_b3 hb_b3 hs_b3 hS_b3 hk_b3; have hA_b3 := At.ofBlock hk_b3)
  have hA3 : At w_b3 b3 0 [.func (.yield l) #[] #[]] := hA_b3
  (refine jz ?_; refine jjB ?_; refine jjC ?_; refine jN rfl rfl rfl ?_)
  refine jjQ (all_leaf bk _) rfl rfl ?_
  rintro _ w2 hS2 ⟨bx, rfl, hbx, hAx⟩
  (refine jz ?_; refine jjD ?_)
  have e2 : Ext w0 w2 := inferInstance
  have z2 := e2.size
  have z3 := hS_b3.size
  have hj2 := hJ 0 _ _ h0 (e2.growB (Nat.le_refl _))
  have hn3 : ¬ M w2 b3 := fun h => by
    have := (hM1 0 _ _ h0 (hM2 0 _ _ _ h0 (e2.growB (Nat.le_refl _)) h)).1
    omega
  have hnx : ¬ M w2 bx := fun h => by
    have := (hM1 0 _ _ h0 (hM2 0 _ _ _ h0 (e2.growB (Nat.le_refl _)) h)).1
    omega
  obtain ⟨m0, hm0, hnd0, hl0'⟩ := hI
  have hlx := hAx.lt
  have hxm : bx ≠ mb := by omega
  have h3m : b3 ≠ mb := by omega
  refine W.rangeJE w0.heap.size (fun k => k = l) (fun k h => by omega) (allW (txF cs) (txF cs).length) encPW (all1_leaf bx bk a c cs hs) rfl (fun _ => rfl) trivial inferInstance z2
    (VoJ M J w2 (txF cs) l bx bk b3 mb) (fun cc _ V => cc = .ret ∧ ∃ i, i ≤ (dstL (wsOf (txF cs)) (wsOf (txF cs)).length).length ∧ Jx i V) ?hJ ?hJx ?hF (fun i V h => h.sz) ⟨Nat.le_refl _, hj2, hAx, hA3.ext hS2.ext, hnx, hn3, m0, hm0.ext e2, hnd0, hl0'⟩
    (fun V k => k = mb ∨ M V k) ?hM1 ?hM2 (fun x s' V => s' 2 = .pointer (some ⟨pm, 0, none⟩) ∧ s' 3 = .pointer (some ⟨b3, 0, none⟩) ∧ s' 5 = .string x.2) (fun x s V V' h g => h) ?hassign ?hbody ?hdone ?hstop
  case hJ =>
    rintro i V V' ⟨h1, h2, h3, h4, h5, h6, m, h7, h8, h9⟩ g
    have gB : GrowB w0.heap.size mb V V' := (g.mono z2).toB
    exact ⟨Nat.le_trans h1 g.size, hJ _ _ _ h2 gB, h3.grow g, h4.grow g, fun h => h5 (hM2 _ _ _ _ h2 gB h), fun h => h6 (hM2 _ _ _ _ h2 gB h), m, h7.grow g, h8, h9⟩
  case hJx =>
    rintro cc i V V' ⟨rfl, k, hk, h⟩ g
    exact ⟨rfl, k, hk, hJx _ _ _ h (g.mono z2).toB⟩
  case hF =>
    rintro i V h
    have hf := (hF _ _ h.j).1
    exact ⟨h.kx, hf.bk, hf.row, hf.tx⟩
  case hM1 =>
    rintro i V k ⟨h1, h2, h3, h4, h5, h6, m, h7, h8, h9⟩ (rfl | h)
    · exact h7.lt
    · exact (hM1 _ _ _ h2 h).1
  case hM2 =>
    rintro i V V' k h g (rfl | hk)
    · exact .inl rfl
    · exact .inr (hM2 _ _ _ _ h.j (g.mono z2).toB hk)
  case hassign =>
    intro l' i x V hx h hl hr
    (refine jjC ?_; apply jJ; exact eT rfl; refine jz ?_)
    exact ⟨rfl, Tr.refl _, Fr.refl _ _, h, rfl, rfl, rfl⟩
  case hbody =>
    rintro l' i x s' V hx ⟨h1, h2, h3, h4, h5, h6, m, h7, h8, h9⟩ ⟨ha2, ha3, ha5⟩ hl hr
    refine W.fix (d := 2) ha2 (W.fix (d := 3) ha3 (W.fix (d := 5) ha5 ?_))
    obtain ⟨p, t⟩ := x
    have hlt := (List.getElem?_eq_some_iff.1 hx).1
    have hf := (hF _ _ h2).1
    have hpm := hf.pm
    have hw := wsOf_get hx
    have hst := dstL_step hw
    obtain ⟨va, vc, hva⟩ := h9 t
    obtain ⟨B, hB⟩ : ∃ B, ((wsOf (txF cs)).take i).any (fun y => decide (y = t)) = B := ⟨_, rfl⟩
    rw [hB] at hva hst
    have hnext : ∀ s, ((wsOf (txF cs)).take (i + 1)).any (fun y => decide (y = s)) = (((wsOf (txF cs)).take i).any (fun y => decide (y = s)) || decide (t = s)) := fun s => by
      rw [List.take_add_one, hw, List.any_append]; simp
    cases B with
    | true =>
      simp only [if_true] at hva hst
      (refine jjD ?_; refine jjB ?_; refine jjB ?_; refine jjC ?_; refine jN rfl rfl rfl ?_; apply jI; exact eT rfl)
      refine Ops.lookupV (k := t) hva h7 rfl rfl ?_
      (refine jh rfl ?_; refine jjh rfl rfl (by omega) ?_; refine jz ?_; refine jjJ rfl ?_; refine jjE ?_)
      refine ⟨Tr.refl _, Fr.refl _ _, h1, by rw [hst, List.append_nil]; exact h2, h3, h4, h5, h6, m, h7, h8, fun s => ?_⟩
      obtain ⟨qa, qc, hq⟩ := h9 s
      refine ⟨qa, qc, hq.trans ?_⟩
      rw [hnext]
      by_cases e : t = s
      · subst e; rw [hB]; rfl
      · rw [decide_eq_false e, Bool.or_false]
    | false =>
      simp only [Bool.false_eq_true, if_false] at hva hst
      have hpos := plsN_pos hx hlt
      have hn6 := plsN_len (txF cs) (allW (txF cs) (txF cs).length).length t
      generalize (plsN (txF cs) (allW (txF cs) (txF cs).length).length t).length = nt at hva hpos hn6
      (refine jjD ?_; refine jjB ?_; refine jjB ?_; refine jjC ?_; refine jN rfl rfl rfl ?_; apply jI; exact eT rfl)
      refine Ops.lookupV (k := t) hva h7 rfl rfl ?_
      (refine jh rfl ?_; refine jji rfl rfl (by omega) ?_; refine jz ?_; refine jjK rfl ?_; refine jjG ?_; refine jjB ?_; refine jjC ?_; refine jN rfl rfl rfl ?_; apply jI; exact eT rfl)
      refine Ops.deleteN (k := t) h7 rfl rfl ?_
      intro V2 o2 hp2 hM2'
      have gB : GrowB w0.heap.size mb V V2 := hp2.growB (by
        obtain ⟨o3, h3, h4⟩ := hM2'.loopy
        rw [hp2.new] at h3; cases h3; exact h4)
      have hj := hJ _ _ _ h2 gB
      have k3 : At V2 b3 0 [.func (.yield l) #[] #[]] := hp2.at_ h4 h3m
      have kx : At V2 bx 0 [.pointer (some ⟨bk, 0, none⟩)] := hp2.at_ h3 hxm
      have n3 : ¬ M V2 b3 := fun h => h6 (hM2 _ _ _ _ h2 gB h)
      have nx : ¬ M V2 bx := fun h => h5 (hM2 _ _ _ _ h2 gB h)
      have hfr : Fr (fun V k => k = mb ∨ M V k) V V2 := ⟨by rw [hp2.size]; exact Nat.le_refl _, fun k o hk ho hn => (hp2.other k fun e => hn (.inl e)).trans hk, fun k hk => .inl (hk.imp id fun h => hM2 _ _ _ _ h2 gB h)⟩
      have htr2 : Tr V V2 := hp2.tr h7.loopy
      (refine jz ?_; refine jjB ?_; refine jjC ?_; refine jN rfl rfl rfl ?_; apply jI; exact eT rfl)
      refine Ops.yield (hY _ t _ (dstL_at hw hB) hj) rfl rfl ?_
      rintro e V3 (⟨rfl, hJ3, hFr, hT3⟩ | ⟨rfl, hJx3, hT3⟩)
      · refine ⟨_, rfl, ?_⟩
        (refine jp rfl ?_; refine jz ?_; refine jjK rfl ?_; refine jjG ?_)
        have z12 : V.heap.size = V2.heap.size := hp2.size.symm
        have k3l := k3.lt
        have kxl := kx.lt
        have nf : ∀ k, k < V2.heap.size → ¬ M V2 k → ¬ M V3 k := fun k hk h h' => (hFr.own k h').elim h fun h'' => by omega
        have keepA : ∀ (k : Nat) (cells : List Value), At V2 k 0 cells → k < V2.heap.size → ¬ M V2 k → At V3 k 0 cells := fun k cells hA hk hn => ⟨fun i v hv => by
          have h1 := hA.h i v hv
          obtain ⟨ob, hb, hd⟩ := cell_block h1
          rw [← h1]
          exact World.cell?_of_block (a := ⟨k, 0 + i, none⟩) ((hFr.keep _ _ hb hd hn).trans hb.symm)⟩
        have hkm : ¬ M V2 mb := fun h => (hM1 _ _ _ hj h).2 rfl
        refine ⟨htr2.trans hT3, hfr.trans ⟨hFr.size, fun k o hk ho hn => hFr.keep k o hk ho fun h => hn (.inr h), fun k hk => ?_⟩, by have := hFr.size; omega, ?_, keepA _ _ kx kxl nx, keepA _ _ k3 k3l n3, nf _ kxl nx, nf _ k3l n3, mdel m t, ?_, (h8.del t).1, fun s => ?_⟩
        · rcases hk with rfl | hk
          · exact .inl (.inl rfl)
          · exact (hFr.own k hk).imp .inr id
        · rw [hst, List.length_append]; exact hJ3
        · obtain ⟨es, cl, q1, q2⟩ := hM2'.h
          exact ⟨es, cl, hFr.keep _ _ q1 rfl hkm, q2⟩
        · rw [(h8.del t).2.2 s]
          by_cases e : s = t
          · subst e
            refine ⟨none, 0, ?_⟩
            rw [hnext, if_pos rfl]
            simp
          · rw [if_neg e]
            obtain ⟨qa, qc, hq⟩ := h9 s
            refine ⟨qa, qc, hq.trans ?_⟩
            rw [hnext, decide_eq_false (fun h => e h.symm), Bool.or_false]
      · refine ⟨_, rfl, ?_⟩
        (refine jq rfl ?_; refine jz ?_; refine jjJ rfl ?_; refine jjF ?_)
        exact ⟨htr2.toE.trans hT3, rfl, _, by have := (List.getElem?_eq_some_iff.1 (dstL_at hw hB)).1; omega, hJx3⟩
  case hdone =>
    rintro ds' V hmk htr h
    refine fin0M rfl hmk fun w' g => ⟨⟨_, rfl⟩, .inl ?_⟩
    have e : (wsOf (txF cs)).length = (allW (txF cs) (txF cs).length).length := by rw [wsOf, List.length_map]
    rw [e]
    exact hJ _ _ _ h.j g.toB
  case hstop =>
    rintro ds' cc i V hmk htr hi ⟨rfl, k, hk, h⟩
    refine jjF ?_
    exact fin0M rfl hmk fun w' g => ⟨⟨_, rfl⟩, .inr ⟨k, hk, hJx _ _ _ h g.toB⟩⟩
end Go.Proofs.YtpbkphaceljclaaGreatDoor

/- galley.Check. -/

namespace Go.Proofs.YtpbkphaceljclaaGreatDoor
open Go.RowKit

abbrev Blk := ByteArray × Int
def encB (b : Blk) : Value := .agg #[.string b.1, .int .i64 b.2]
def blockB (b : Blk) : Bool := wordB b.1 && inB 1 20 b.2
def galleyB (h : Int) (bs : List Blk) : Bool := inB 4 40 h && inB 1 30 bs.length && bs.all blockB
theorem all1 (p : Int → Bool) (n : Int) : [n].all p = p n := by simp

theorem Check1_galley (b : Blk) (w : World) (hb : b.1.size ≤ 140737488351232) : Ct Tryz.prog 65 [encB b] w fun r _ => r = .bool (!blockB b) := by
  obtain ⟨s, m⟩ := b
  refine Ct.ofW (by simp) ?_
  (refine jjB ?_; refine jjC ?_)
  (refine jy rfl ?_; intro b1 w_b1 hb_b1 hs_b1 hS_b1 hk_b1; have hA_b1 := At.ofBlock hk_b1)
  (((apply jJ; exact eB rfl; refine jz ?_; refine jjB ?_; refine jjC ?_; refine jm ?_; refine jn rfl ?_; refine jN rfl rfl rfl ?_)); refine jjQ (word_galley s _ hb) rfl rfl ?_)
  rintro _ w2 hS2 rfl
  repeat' (first|((first|apply jI|apply jJ|apply jK rfl); exact eB rfl)|(refine jM ?_; refine jN rfl rfl rfl ?_)|(refine jS ?_; (first|refine jT rfl rfl rfl ?_|refine jU rfl rfl rfl rfl ?_))|(refine jm ?_; refine jn rfl ?_)|(refine jo ?_; refine js rfl ?_)|refine jz ?_|(refine jjA ?_; refine jjF ?_)|(refine jS ?_; (refine jjM rfl rfl ?_ ?_ <;> intro _))|refine jB rfl rfl ⟨inferInstance, ?_⟩)
  · exact congrArg Value.bool (by simp_all [blockB])
  · (refine jjP (v := .int _ _) rfl (by exact rfl) (by exact rfl) (by exact rfl) (by exact rfl) ?_; intro b2 w_b2 hb_b2 hs_b2 hS_b2 hk_b2; have hR_b2 := RowV.one (agg := false) (k := 1) rfl hk_b2)
    (((refine jT rfl rfl rfl ?_)); refine jjQ (in_galley 1 20 _ [m] _ hR_b2) rfl rfl ?_)
    rintro _ w3 hS3 rfl
    (refine jT rfl rfl rfl ?_; refine js rfl ?_; apply jL rfl; exact eB rfl; apply jJ; exact eB rfl; refine jz ?_; refine jjF ?_; refine jB rfl rfl ⟨inferInstance, ?_⟩)
    exact congrArg Value.bool (by simp_all [blockB])

/-- The error of a galley. -/
def gErr (h : Int) (bs : List Blk) : Int := if galleyB h bs then 0 else 80

theorem gErr_1 {h : Int} {bs : List Blk} (h1 : (!bs.all blockB) = true) : (80 : Int) = gErr h bs := by
  simp only [Bool.not_eq_true'] at h1
  simp [gErr, galleyB, h1]
theorem gErr_2 {h : Int} {bs : List Blk} (h1 : (![h].all (inB 4 40)) = true) : (80 : Int) = gErr h bs := by
  simp only [all1, Bool.not_eq_true'] at h1
  simp [gErr, galleyB, h1]
theorem gErr_3 {h : Int} {bs : List Blk} (h1 : (![(bs.length : Int)].all (inB 1 30)) = true) : (80 : Int) = gErr h bs := by
  simp only [all1, Bool.not_eq_true'] at h1
  simp [gErr, galleyB, h1]
theorem gErr_0 {h : Int} {bs : List Blk} (h1 : (!bs.all blockB) = false) (h2 : (![h].all (inB 4 40)) = false) (h3 : (![(bs.length : Int)].all (inB 1 30)) = false) : (0 : Int) = gErr h bs := by
  simp only [all1, Bool.not_eq_false'] at h1 h2 h3
  simp [gErr, galleyB, h1, h2, h3]

theorem Check_galley (h : Int) (bv : Value) (bs : List Blk) (w : World) (hrow : RowV w true 2 bv (bs.map encB)) (hb : ∀ b ∈ bs, b.1.size ≤ 140737488351232) :
    Ct Tryz.prog 26 [.agg #[.int .i64 h, bv]] w fun r _ => r = .int .i64 (gErr h bs) := by
  obtain ⟨a, c, rfl⟩ := hrow.slice
  rw [List.length_map] at hrow ⊢
  refine Ct.ofW (by simp) ?_
  (refine jjB ?_; refine jjC ?_)
  (refine jy rfl ?_; intro b1 w_b1 hb_b1 hs_b1 hS_b1 hk_b1; have hA_b1 := At.ofBlock hk_b1)
  (((apply jJ; exact eI rfl; refine jz ?_; refine jjB ?_; refine jjC ?_; refine jm ?_; refine jn rfl ?_; refine jN rfl rfl rfl ?_)); refine jjQ (ContainsFunc_Block _ _ (.func (.func 65) #[] ([] : List Value).toArray) encB bs (fun b => !blockB b) (hrow.ext inferInstance) ?hp) rfl rfl ?_)
  case hp => exact ⟨_, _, rfl, inferInstance, fun w' y hy hs => Check1_galley y w' (hb y hy)⟩
  rintro _ w2 hS2 rfl
  rw [any_not]
  repeat' (first|((first|apply jI|apply jJ|apply jK rfl); (first|exact eI rfl|exact eB rfl))|(refine jM ?_; refine jN rfl rfl rfl ?_)|(refine jS ?_; (first|refine jT rfl rfl rfl ?_|refine jU rfl rfl rfl rfl ?_))|(refine jm ?_; refine jn rfl ?_)|refine jz ?_|(refine jjA ?_; (first|refine jjB ?_|refine jjC ?_|refine jjF ?_|refine jjJ rfl ?_))|(refine jS ?_; (refine jjM rfl rfl ?_ ?_ <;> intro _))|refine jB rfl rfl ⟨inferInstance, ?_⟩)
  · exact congrArg (Value.int .i64) (gErr_1 ‹_›)
  · (refine jjP (v := .int _ _) rfl (by exact rfl) (by exact rfl) (by exact rfl) (by exact rfl) ?_; intro b2 w_b2 hb_b2 hs_b2 hS_b2 hk_b2; have hR_b2 := RowV.one (agg := false) (k := 1) rfl hk_b2)
    (((refine jT rfl rfl rfl ?_)); refine jjQ (in_galley 4 40 _ [h] _ hR_b2) rfl rfl ?_)
    rintro _ w3 hS3 rfl
    repeat' (first|((first|apply jI|apply jJ|apply jK rfl|apply jL rfl); (first|exact eI rfl|exact eB rfl))|(refine jM ?_; refine jN rfl rfl rfl ?_)|(refine jS ?_; (first|refine jT rfl rfl rfl ?_|refine jU rfl rfl rfl rfl ?_))|(refine jg ?_; refine jh rfl ?_)|(refine jm ?_; refine jn rfl ?_)|(refine jo ?_; refine js rfl ?_)|refine jz ?_|(refine jjA ?_; (first|refine jjB ?_|refine jjC ?_|refine jjF ?_|refine jjJ rfl ?_))|(refine jS ?_; (refine jjM rfl rfl ?_ ?_ <;> intro _))|refine jB rfl rfl ⟨inferInstance, ?_⟩)
    · exact congrArg (Value.int .i64) (gErr_2 ‹_›)
    · (refine jjP (v := .int _ _) rfl (by exact rfl) (by exact rfl) (by exact rfl) (by exact rfl) ?_; intro b3 w_b3 hb_b3 hs_b3 hS_b3 hk_b3; have hR_b3 := RowV.one (agg := false) (k := 1) rfl hk_b3)
      (((refine jT rfl rfl rfl ?_)); refine jjQ (in_galley 1 30 _ [(bs.length : Int)] _ hR_b3) rfl rfl ?_)
      rintro _ w4 hS4 rfl
      repeat' (first|((first|apply jJ|apply jL rfl); (first|exact eI rfl|exact eB rfl))|(refine jS ?_; refine jT rfl rfl rfl ?_)|(refine jo ?_; refine js rfl ?_)|refine jz ?_|(refine jjA ?_; (first|refine jjB ?_|refine jjC ?_|refine jjF ?_|refine jjG ?_))|(refine jjA ?_; (refine jjO rfl ?_ ?_ <;> intro _))|refine jB rfl rfl ⟨inferInstance, ?_⟩)
      · exact congrArg (Value.int .i64) (gErr_3 ‹_›)
      · exact congrArg (Value.int .i64) (gErr_0 ‹_› ‹_› ‹_›)
end Go.Proofs.YtpbkphaceljclaaGreatDoor

/- leaf: copies that are right. -/
namespace Go.Proofs.YtpbkphaceljclaaGreatDoor
open Go.RowKit

end Go.Proofs.YtpbkphaceljclaaGreatDoor

/- leaf: copied, stands, Stands. -/
namespace Go.Proofs.YtpbkphaceljclaaGreatDoor
open Go.RowKit

theorem placeB_line {t : Tx} {p : Pl} (h : placeB t p = true) : ∃ l, lineT t p = some l ∧ ∃ q : Nat, q < l.length ∧ p.2.2 = (q : Int) := by
  unfold placeB at h
  split at h
  · cases h
  · refine ⟨_, ‹_›, p.2.2.toNat, ?_, ?_⟩ <;> (simp [inB] at h; omega)
end Go.Proofs.YtpbkphaceljclaaGreatDoor

/- The reference: Run, index, joined, Length. -/
namespace Go.Proofs.YtpbkphaceljclaaGreatDoor
open Go.RowKit

section
variable (a : Option Addr) (c : Nat) (cs : List Ch) (w : World) [hrow : RowI w (.slice a cs.length c) true 2 (cs.map encCh)] [hT : TextI w cs]
set_option maxHeartbeats 4000000 in
theorem Run_ref3 (hs : SmallT cs) (k : Nat) (hk : k < cs.length) : Ct Tryz.prog 19 [.agg #[.slice a cs.length c], .int .i64 (k : Int)] w fun v w' =>
    ∃ wv av, v = .tuple #[wv, av] ∧ OwnL w' w.heap.size 9 false 1 wv ((rnW cs[k]).map strV) ∧ OwnL w' w.heap.size 44 true 3 av ((runA k (chW cs[k])).map encPl) := by
  have hs1 := hs.1
  have hsk := hs.2 _ (List.getElem_mem hk)
  have hsl := hsk.1
  have hsm := chW_small fun y hy => (hsk.2 y hy).1
  have hcl : (chW cs[k]).length = cs[k].2.2.2.length := by simp [chW]
  refine Ct.ofW (by simp) ?_
  (refine jjB ?_; refine jjC ?_)
  (refine jy rfl ?_; intro b2 w_b2 hb_b2 hs_b2 hS_b2 hk_b2; have hA_b2 := At.ofBlock hk_b2)
  have hgk := List.getElem?_eq_getElem hk
  (apply jJ; exact eS rfl; apply jJ; exact eS rfl; refine jz ?_; refine jjB ?_; refine jjC ?_; apply jJ; exact eS rfl; refine jz ?_; refine jjB ?_; refine jjC ?_; apply jJ; exact eS rfl; refine jz ?_; refine jjB ?_; refine jjC ?_; refine jm ?_; refine jn rfl ?_; refine jN rfl rfl rfl ?_; apply jI; exact eI rfl; refine jF rfl rfl rfl (map_get (by omega)) ?_; intro _ _ _; refine jm ?_; refine jn rfl ?_; refine jP rfl rfl rfl ?_; apply jJ; exact eS rfl; refine jz ?_; refine jjB ?_; refine jjB ?_; refine jjC ?_; apply jJ; exact eI rfl; refine jz ?_; refine jjD ?_)
  have i1 := hT.line hk
  have hE7 : Ext w w_b2 := inferInstance
  refine W.keep0 [(1, .int .i64 ((k : Nat) : Int)), (6, .slice none 0 0), (7, .slice none 0 0), (8, .slice cs[k].2.1 cs[k].2.2.2.length cs[k].2.2.1), (9, .int .i64 ((0 : Nat) : Int))] ⟨eI rfl, eS rfl, eS rfl, eS rfl, eI rfl, trivial⟩ fun s0 => ?_
  refine W.loopG (17 :: 18 :: 19 :: 20 :: 10 :: 23 :: 24 :: 25 :: 26 :: 27 :: 28 :: 29 :: 32 :: 33 :: 34 :: 35 :: 36 :: 37 :: 38 :: 39 :: 40 :: 41 :: 42 :: 43 :: 44 :: 45 :: 46 :: 47 :: 48 :: 6 :: 7 :: 30 :: 31 :: 21 :: 22 :: 9 :: []) (fun g s' V => ∃ (n : Nat) (wv av : Value), s' 9 = .int .i64 ((n : Nat) : Int) ∧ s' 6 = wv ∧ s' 7 = av ∧ g = cs[k].2.2.2.length - n ∧ n ≤ cs[k].2.2.2.length ∧ Ext w V ∧ w_b2.heap.size ≤ V.heap.size ∧ OwnL V w_b2.heap.size 9 false 1 wv (((chW cs[k]).take n).flatten.map strV) ∧ OwnL V w_b2.heap.size 44 true 3 av ((runAn k (chW cs[k]) n).map encPl)) cs[k].2.2.2.length ⟨0, _, _, rfl, rfl, rfl, rfl, Nat.zero_le _, hE7, Nat.le_refl _, OwnL.nil _ _ _ _ _, OwnL.nil _ _ _ _ _⟩ ?_
  rintro _ sd V ⟨n, wv, av, h9, h6, h7, rfl, hn, hE, hz, hOw, hOa⟩
  obtain ⟨wa, wl, wc, rfl⟩ := hOw.slice3
  obtain ⟨aa, al, ac, rfl⟩ := hOa.slice3
  refine W.fix h9 (W.fix (d := 6) h6 (W.fix (d := 7) h7 ?_))
  clear h9 h6 h7
  by_cases hnl : n < cs[k].2.2.2.length
  rotate_left
  · obtain rfl : n = cs[k].2.2.2.length := by omega
    rw [← hcl, List.take_length] at hOw
    rw [← hcl] at hOa
    (refine jjB ?_; refine jjB ?_; refine jjC ?_; apply jI; exact eI rfl; apply jI; exact eS rfl; refine jh rfl ?_; refine jja rfl rfl (by omega) ?_; refine jz ?_; refine jjK rfl ?_; refine jjE ?_; refine jjB ?_; refine jjC ?_; apply jI; exact eS rfl; apply jI; exact eS rfl; apply jJ; exact eS rfl; apply jJ; exact eS rfl; refine jz ?_; refine jjF ?_; refine jC rfl rfl rfl ⟨inferInstance, ?_⟩)
    exact ⟨_, _, rfl, hOw.mono hE7.size, hOa.mono hE7.size⟩
  have hsn := hsk.2 _ (List.getElem_mem hnl)
  have hgn := chW_get hnl
  have hTV : TextI V cs := hT.ext hE
  have i2 := hTV.line hk
  (refine jjB ?_; refine jjB ?_; refine jjC ?_; apply jI; exact eI rfl; apply jI; exact eS rfl; refine jh rfl ?_; refine jjZ rfl rfl (by omega) ?_; refine jz ?_; refine jjJ rfl ?_; refine jjG ?_; refine jjB ?_; refine jjD ?_; refine jjB ?_; refine jjC ?_; apply jJ; exact eI rfl; refine jz ?_; refine jjD ?_)
  refine W.keep [(1, .int .i64 ((k : Nat) : Int)), (6, .slice wa wl wc), (7, .slice aa al ac), (8, .slice cs[k].2.1 cs[k].2.2.2.length cs[k].2.2.1), (9, .int .i64 ((n : Nat) : Int)), (10, .int .i64 ((0 : Nat) : Int))] (D := (17 :: 18 :: 19 :: 20 :: 10 :: 23 :: 24 :: 25 :: 26 :: 27 :: 28 :: 29 :: 32 :: 33 :: 34 :: 35 :: 36 :: 37 :: 38 :: 39 :: 40 :: 41 :: 42 :: 43 :: 44 :: 45 :: 46 :: 47 :: 48 :: 6 :: 7 :: 30 :: 31 :: 21 :: 22 :: 9 :: [])) (sO := upds s0 _) (by ((refine Same.upd rfl ?_; refine Same.upd rfl ?_; refine Same.upd rfl ?_; refine Same.upd rfl ?_; refine Same.upd rfl ?_; refine Same.upd rfl ?_; refine Same.upd rfl ?_; refine Same.upd rfl ?_; exact Same.ovN))) ⟨eI rfl, eS rfl, eS rfl, eS rfl, eI rfl, eI rfl, trivial⟩ fun s1 hs1' => ?_
  refine W.loopG (23 :: 24 :: 25 :: 26 :: 27 :: 28 :: 29 :: 32 :: 33 :: 34 :: 35 :: 36 :: 37 :: 38 :: 39 :: 40 :: 41 :: 42 :: 43 :: 44 :: 45 :: 46 :: 47 :: 48 :: 6 :: 7 :: 30 :: 31 :: 10 :: []) (fun g s' V => ∃ (q : Nat) (wv av : Value), s' 10 = .int .i64 ((q : Nat) : Int) ∧ s' 6 = wv ∧ s' 7 = av ∧ g = cs[k].2.2.2[n].2.2.length - q ∧ q ≤ cs[k].2.2.2[n].2.2.length ∧ Ext w V ∧ w_b2.heap.size ≤ V.heap.size ∧ OwnL V w_b2.heap.size 9 false 1 wv ((((chW cs[k]).take n).flatten ++ cs[k].2.2.2[n].2.2.take q).map strV) ∧ OwnL V w_b2.heap.size 44 true 3 av ((runAn k (chW cs[k]) n ++ lnP k n q).map encPl)) cs[k].2.2.2[n].2.2.length ⟨0, _, _, rfl, rfl, rfl, rfl, Nat.zero_le _, hE, hz, by rw [List.take_zero, List.append_nil]; exact hOw, by rw [show lnP k n 0 = [] from rfl, List.append_nil]; exact hOa⟩ ?_
  rintro _ sd2 V2 ⟨q, wv, av, h10, h6, h7, rfl, hq, hE, hz, hOw, hOa⟩
  obtain ⟨wa, wl, wc, rfl⟩ := hOw.slice3
  obtain ⟨aa, al, ac, rfl⟩ := hOa.slice3
  refine W.fix h10 (W.fix (d := 6) h6 (W.fix (d := 7) h7 ?_))
  clear h10 h6 h7
  have hTV2 : TextI V2 cs := hT.ext hE
  have i3 := hTV2.line hk
  have i4 := hTV2.word hk hnl
  by_cases hql : q < cs[k].2.2.2[n].2.2.length
  rotate_left
  · obtain rfl : q = cs[k].2.2.2[n].2.2.length := by omega
    rw [List.take_length, flat_next hgn] at hOw
    rw [← runAn_succ k hgn] at hOa
    (refine jjB ?_; refine jjB ?_; refine jjC ?_; apply jI; exact eI rfl; apply jI; exact eS rfl; apply jI; exact eI rfl; refine jF rfl rfl rfl (map_get (by omega)) ?_; intro _ _ _; refine jQ rfl rfl ?_; refine jh rfl ?_; refine jja rfl rfl (by omega) ?_; refine jz ?_; refine jjK rfl ?_; refine jjE ?_; refine jjC ?_; apply jI; exact eI rfl; refine jY rfl rfl (by omega) ?_; apply jJ; exact eI rfl; refine jz ?_)
    exact ⟨rfl, by ((refine Same.upd rfl ?_; refine Same.upd rfl ?_; refine Same.upd rfl ?_; refine Same.upd rfl ?_; refine Same.upd rfl ?_; refine Same.upd rfl ?_; refine Same.upd rfl ?_; refine Same.upd rfl ?_; refine Same.upd rfl ?_; refine Same.upd rfl ?_; refine Same.upd rfl ?_; refine Same.upd rfl ?_; refine Same.upd rfl ?_; refine Same.ovN' rfl ?_; assumption)), cs[k].2.2.2.length - (n + 1), by omega, n + 1, _, _, congrArg (Value.int .i64) (by omega), rfl, rfl, rfl, by omega, hE, hz, hOw, hOa⟩
  have hl1 : (((chW cs[k]).take n).flatten ++ cs[k].2.2.2[n].2.2.take q).length ≤ 1001000 := by
    have := flat_take hsm (n := n) (by omega)
    rw [List.length_append, List.length_take]; omega
  have hl2 : (runAn k (chW cs[k]) n ++ lnP k n q).length ≤ 1001000 := by
    have := flat_take hsm (n := n) (by omega)
    rw [List.length_append, lnP_len, runAn_len k (by omega)]; omega
  (refine jjB ?_; refine jjB ?_; refine jjC ?_; apply jI; exact eI rfl; apply jI; exact eS rfl; apply jI; exact eI rfl; refine jF rfl rfl rfl (map_get (by omega)) ?_; intro _ _ _; refine jQ rfl rfl ?_; refine jh rfl ?_; refine jjZ rfl rfl (by omega) ?_; refine jz ?_; refine jjJ rfl ?_; refine jjG ?_; refine jjB ?_; refine jjD ?_; refine jjC ?_; apply jI; exact eS rfl; apply jI; exact eS rfl; apply jI; exact eI rfl; refine jF rfl rfl rfl (map_get (by omega)) ?_; intro _ _ _; refine jQ rfl rfl ?_; apply jI; exact eI rfl; refine jF rfl rfl rfl (map_get (by omega)) ?_; intro _ _ _; refine jQ rfl rfl ?_)
  (refine jjP (v := .string _) rfl (by exact rfl) (by exact rfl) (by exact rfl) (by exact rfl) ?_; intro b40 w_b40 hb_b40 hs_b40 hS_b40 hk_b40; have hR_b40 := RowV.one (agg := false) (k := 1) rfl hk_b40)
  have z40 := hS_b40.size
  refine Ops.appendL (hOw.ext hS_b40.ext) (by omega) hR_b40 rfl rfl rfl rfl (one_str _) ?_ ?_ ?_
  · rw [List.length_map]; simp only [List.length_cons, List.length_nil]; omega
  · rw [List.length_map]; simp only [List.length_cons, List.length_nil]; omega
  intro wv2 w41 hA41 hO41 _ hown41
  have z41 := hA41.g.size
  have hE41 : Ext w w41 := hA41.ext (hE.trans hS_b40.ext) (by omega)
  rw [← List.map_singleton, ← List.map_append, flat_step (List.getElem?_eq_getElem hql)] at hO41
  have hOa41 := (hOa.ext hS_b40.ext).app hA41 (OwnL.ne (hOa.ext hS_b40.ext) (hOw.ext hS_b40.ext) (by decide))
  (apply jI; exact eS rfl; apply jI; exact eI rfl; apply jI; exact eI rfl; apply jI; exact eI rfl)
  (refine jjS (cells := [.int .i64 (k : Int), .int .i64 (n : Int), .int .i64 (q : Int)]) ?_ ?_; exact rfl)
  (refine jjP (v := .agg _) rfl (by exact rfl) (by exact rfl) (by exact rfl) (by exact rfl) ?_; intro b47 w_b47 hb_b47 hs_b47 hS_b47 hk_b47; have hR_b47 := RowV.one (agg := true) (k := 3) rfl hk_b47)
  have z47 := hS_b47.size
  refine Ops.appendL (hOa41.ext hS_b47.ext) (by omega) hR_b47 rfl rfl rfl rfl (one_pl ((k : Int), (n : Int), (q : Int))) ?_ ?_ ?_
  · rw [List.length_map]; simp only [List.length_cons, List.length_nil]; omega
  · rw [List.length_map]; simp only [List.length_cons, List.length_nil]; omega
  intro av2 w48 hA48 hO48 _ hown48
  have z48 := hA48.g.size
  have hE48 : Ext w w48 := hA48.ext (hE41.trans hS_b47.ext) (by omega)
  have e48 : (runAn k (chW cs[k]) n ++ lnP k n q).map encPl ++ [encPl ((k : Int), (n : Int), (q : Int))] = (runAn k (chW cs[k]) n ++ lnP k n (q + 1)).map encPl := by rw [lnP_succ]; simp
  rw [e48] at hO48
  have hO49 := (hO41.ext hS_b47.ext).app hA48 (OwnL.ne (hO41.ext hS_b47.ext) (hOa41.ext hS_b47.ext) (by decide))
  obtain ⟨wa2, wl2, wc2, rfl⟩ := hO49.slice3
  obtain ⟨aa2, al2, ac2, rfl⟩ := hO48.slice3
  (apply jJ; exact eS rfl; apply jJ; exact eS rfl; refine jz ?_; refine jjC ?_; apply jI; exact eI rfl; refine jY rfl rfl (by omega) ?_; apply jJ; exact eI rfl; refine jz ?_)
  exact ⟨rfl, by ((refine Same.upd rfl ?_; refine Same.upd rfl ?_; refine Same.upd rfl ?_; refine Same.upd rfl ?_; refine Same.upd rfl ?_; refine Same.upd rfl ?_; refine Same.upd rfl ?_; refine Same.upd rfl ?_; refine Same.upd rfl ?_; refine Same.upd rfl ?_; refine Same.upd rfl ?_; refine Same.upd rfl ?_; refine Same.upd rfl ?_; refine Same.upd rfl ?_; refine Same.upd rfl ?_; refine Same.upd rfl ?_; refine Same.upd rfl ?_; refine Same.upd rfl ?_; refine Same.upd rfl ?_; refine Same.upd rfl ?_; refine Same.upd rfl ?_; refine Same.upd rfl ?_; refine Same.upd rfl ?_; refine Same.upd rfl ?_; refine Same.upd rfl ?_; refine Same.upd rfl ?_; refine Same.upd rfl ?_; refine Same.upd rfl ?_; refine Same.upd rfl ?_; refine Same.upd rfl ?_; refine Same.upd rfl ?_; refine Same.upd rfl ?_; exact Same.ovN)), cs[k].2.2.2[n].2.2.length - (q + 1), by omega, q + 1, _, _, congrArg (Value.int .i64) (by omega), rfl, rfl, rfl, by omega, hE48, by omega, hO49, hO48⟩
end
end Go.Proofs.YtpbkphaceljclaaGreatDoor

/- The reference: index, joined, Length. -/
namespace Go.Proofs.YtpbkphaceljclaaGreatDoor
open Go.RowKit

set_option maxHeartbeats 1000000 in
theorem index_ref3 (a : Option Addr) (c n : Nat) (l : List Pl) (p : Pl) (j : Nat) (w : World) (hn : l.length = n) (hrow : RowV w true 3 (.slice a n c) (l.map encPl)) (hj : l[j]? = some p) (hpre : ∀ (m : Nat) (hm : m < l.length), m < j → l[m] ≠ p) : Ct Tryz.prog 101 [.slice a n c, encPl p] w fun v _ => v = .int .i64 (j : Int) := by
  subst hn
  have hlen := hrow.len
  rw [List.length_map] at hlen
  have hjl := (List.getElem?_eq_some_iff.1 hj).1
  have hje := (List.getElem?_eq_some_iff.1 hj).2
  obtain ⟨b, o, rfl, _⟩ := hrow.place' (map_get hjl)
  refine Ct.ofW (by simp) ?_
  (refine jjB ?_; refine jjC ?_)
  (refine jy rfl ?_; intro b3 w_b3 hb_b3 hs_b3 hS_b3 hk_b3; have hA_b3 := At.ofBlock hk_b3)
  (apply jJ; exact eI rfl; refine jz ?_; refine jjB ?_; refine jjC ?_; apply jJ; exact eI rfl; refine jz ?_; refine jjB ?_; refine jjD ?_)
  refine W.keep0 [(0, .slice (some ⟨b, o, none⟩) l.length c), (3, .pointer (some ⟨b3, 0, none⟩)), (5, .int .i64 ((0 : Nat) : Int))] ⟨eS rfl, eP rfl, eI rfl, trivial⟩ fun s0 => ?_
  refine W.loop (6 :: 7 :: 8 :: 9 :: 10 :: 11 :: 12 :: 13 :: 5 :: []) (fun g s' V => ∃ k : Nat, s' 5 = .int .i64 ((k : Nat) : Int) ∧ g = j - k ∧ k ≤ j) j ⟨0, rfl, rfl, Nat.zero_le _⟩ ?_
  rintro _ sd w1 hS1 ⟨k, h5, rfl, hk⟩
  refine W.fix h5 ?_
  clear h5
  have hkl : k < l.length := by omega
  obtain ⟨b', o', e', hA⟩ := hrow.place' (map_get hkl)
  cases e'
  (refine jjB ?_; refine jjB ?_)
  refine W.draw (fun w' => Ext w_b3 w') ?_
  intro w2 hS2
  have hE2 : Ext w_b3 w2 := hS1.ext.trans hS2.ext
  (refine jjV [0, 1, 2, 3, 4] ?_ ?_ ?_; (decide +kernel); (exact hE2); (((apply jjT; exact rfl; rintro w' hq; have := hq.toStep; apply jI; exact eS rfl; refine jz ?_; exact ⟨rfl, rfl⟩; apply jjT; exact rfl; rintro w' hq; have := hq.toStep; apply jI; exact eI rfl; refine jz ?_; exact ⟨rfl, rfl⟩; apply jjT; exact rfl; rintro w' hq; have := hq.toStep; refine jH _ rfl rfl rfl (by omega) ?_; refine jz ?_; exact ⟨rfl, rfl⟩; apply jjT; exact rfl; rintro w' hq; have := hq.toStep; refine jQ rfl rfl ?_; refine jz ?_; exact ⟨rfl, rfl⟩; apply jjT; exact rfl; rintro w' hq; have := hq.toStep; refine jO rfl rfl rfl rfl ?_; refine jz ?_; exact ⟨rfl, rfl⟩; refine jjU ?_))))
  by_cases hkj : l[k] = p
  · have e : k = j := by
      by_cases h : k < j
      · exact absurd hkj (hpre k hkl h)
      · omega
    subst e
    refine jjV [5] (by decide +kernel) hE2 (jjT (v := .bool false) rfl (fun w' q1 => ?_) (jjU ?_))
    · refine Ops.neqT (enc := encPl) l[k] p rfl rfl ?_
      rw [decide_eq_false (by simp [hkj])]
      refine jz ?_
      exact ⟨rfl, rfl⟩
    refine jjX (by decide +kernel) hE2 ?_
    (refine jjK rfl ?_; refine jjE ?_; refine jjB ?_; refine jjC ?_; apply jI; exact eI rfl; apply jJ; exact eI rfl; refine jz ?_; refine jjF ?_; refine jB rfl rfl ⟨inferInstance, ?_⟩)
    exact rfl
  · refine jjV [5] (by decide +kernel) hE2 (jjT (v := .bool true) rfl (fun w' q1 => ?_) (jjU ?_))
    · refine Ops.neqT (enc := encPl) l[k] p rfl rfl ?_
      rw [decide_eq_true hkj]
      refine jz ?_
      exact ⟨rfl, rfl⟩
    refine jjX (by decide +kernel) hE2 ?_
    have hkj' : k < j := by
      rcases Nat.lt_or_ge k j with h | h
      · exact h
      · have e : k = j := by omega
        subst e; exact absurd hje hkj
    (refine jjJ rfl ?_; refine jjG ?_; refine jjD ?_; refine jjC ?_; apply jI; exact eI rfl; refine jY rfl rfl (by omega) ?_; apply jJ; exact eI rfl; refine jz ?_)
    exact ⟨rfl, by ((refine Same.upd rfl ?_; refine Same.upd rfl ?_; refine Same.upd rfl ?_; refine Same.upd rfl ?_; refine Same.upd rfl ?_; refine Same.upd rfl ?_; refine Same.upd rfl ?_; refine Same.upd rfl ?_; refine Same.upd rfl ?_; refine Same.upd rfl ?_; exact Same.ovN)), j - (k + 1), by omega, inferInstance, k + 1, congrArg (Value.int .i64) (by omega), rfl, by omega⟩

theorem sum_le {m : Nat} : ∀ {ws : List ByteArray} , (∀ s ∈ ws, s.size ≤ m) → (ws.map (·.size)).sum ≤ ws.length * m
  | [], _ => by simp
  | x :: ws, h => by
    rw [List.map_cons, List.sum_cons, List.length_cons, Nat.add_mul]
    have := sum_le (ws := ws) fun s hs => h s (by simp [hs])
    have := h x (by simp)
    omega
theorem Length_ref3 (a : Option Addr) (c n : Nat) (ws : List ByteArray) (w : World) (hn : ws.length = n) (hrow : RowV w false 1 (.slice a n c) (ws.map strV)) (hs : ∀ s ∈ ws, s.size ≤ 1000) (hl : ws.length ≤ 1001000) : Ct Tryz.prog 102 [.slice a n c] w fun v _ => v = .int .i64 ((ws.length : Int) - 1 + ((ws.map (·.size)).sum : Nat)) := by
  subst hn
  have hI : RowI w (.slice a ws.length c) false 1 (ws.map strV) := ⟨hrow⟩
  refine Ct.ofW (by simp) ?_
  (refine jjB ?_; refine jjC ?_; apply jJ; exact eI rfl; refine jz ?_; refine jjB ?_; refine jjC ?_; apply jI; exact eS rfl; refine jh rfl ?_; refine jZ rfl rfl (by omega) ?_; apply jJ; exact eI rfl; refine jz ?_; refine jjB ?_; refine jjB ?_; refine jjC ?_; apply jJ; exact eI rfl; refine jz ?_; refine jjD ?_)
  refine W.keep0 [(0, .slice a ws.length c), (3, .int .i64 ((ws.length : Int) - 1)), (4, .int .i64 ((0 : Nat) : Int))] ⟨eS rfl, eI rfl, eI rfl, trivial⟩ fun s0 => ?_
  refine W.loop (8 :: 9 :: 10 :: 11 :: 14 :: 15 :: 16 :: 17 :: 18 :: 19 :: 20 :: 3 :: 12 :: 13 :: 4 :: []) (fun g s' V => ∃ k : Nat, s' 4 = .int .i64 ((k : Nat) : Int) ∧ s' 3 = .int .i64 ((ws.length : Int) - 1 + (((ws.take k).map (·.size)).sum : Nat)) ∧ g = ws.length - k ∧ k ≤ ws.length) ws.length ⟨0, rfl, by show Value.int _ _ = _; simp, rfl, Nat.zero_le _⟩ ?_
  rintro _ sd w1 hS1 ⟨k, h4, h3, rfl, hk⟩
  refine W.fix h4 (W.fix (d := 3) h3 ?_)
  clear h4 h3
  have hb := sum_le (ws := ws.take k) (m := 1000) fun s h => hs s (List.mem_of_mem_take h)
  have hb2 : (ws.take k).length * 1000 ≤ 1001000 * 1000 := Nat.mul_le_mul_right _ (by rw [List.length_take]; omega)
  by_cases hkl : k < ws.length
  · have hsz := hs _ (List.getElem_mem hkl)
    (refine jjB ?_; refine jjB ?_; refine jjC ?_; apply jI; exact eI rfl; apply jI; exact eS rfl; refine jh rfl ?_; refine jjZ rfl rfl (by omega) ?_; refine jz ?_; refine jjJ rfl ?_; refine jjG ?_; refine jjB ?_; refine jjD ?_; refine jjC ?_; apply jI; exact eI rfl; apply jI; exact eS rfl; apply jI; exact eI rfl; refine jF rfl rfl rfl (map_get (by omega)) ?_; intro _ _ _; refine jQ rfl rfl ?_; refine ji rfl ?_; refine jY rfl rfl (by omega) ?_; apply jJ; exact eI rfl; refine jz ?_; refine jjC ?_; apply jI; exact eI rfl; refine jY rfl rfl (by omega) ?_; apply jJ; exact eI rfl; refine jz ?_)
    refine ⟨rfl, by ((refine Same.upd rfl ?_; refine Same.upd rfl ?_; refine Same.upd rfl ?_; refine Same.upd rfl ?_; refine Same.upd rfl ?_; refine Same.upd rfl ?_; refine Same.upd rfl ?_; refine Same.upd rfl ?_; refine Same.upd rfl ?_; refine Same.upd rfl ?_; refine Same.upd rfl ?_; refine Same.upd rfl ?_; refine Same.upd rfl ?_; refine Same.upd rfl ?_; refine Same.upd rfl ?_; refine Same.upd rfl ?_; refine Same.upd rfl ?_; exact Same.ovN)), ws.length - (k + 1), by omega, inferInstance, k + 1, congrArg (Value.int .i64) (by omega), ?_, rfl, by omega⟩
    refine congrArg (Value.int .i64) ?_
    rw [take_snoc_get (List.getElem?_eq_getElem hkl), List.map_append, List.sum_append]
    simp only [List.map_cons, List.map_nil, List.sum_cons, List.sum_nil]
    omega
  · (refine jjB ?_; refine jjB ?_; refine jjC ?_; apply jI; exact eI rfl; apply jI; exact eS rfl; refine jh rfl ?_; refine jja rfl rfl (by omega) ?_; refine jz ?_; refine jjK rfl ?_; refine jjE ?_; refine jjB ?_; refine jjC ?_; apply jI; exact eI rfl; apply jJ; exact eI rfl; refine jz ?_; refine jjF ?_; refine jB rfl rfl ⟨inferInstance, ?_⟩)
    have : k = ws.length := by omega
    subst this
    rw [List.take_length]; exact rfl
end Go.Proofs.YtpbkphaceljclaaGreatDoor

/- The reference: joined. -/
namespace Go.Proofs.YtpbkphaceljclaaGreatDoor
open Go.RowKit

theorem joined_ref3 (a : Option Addr) (c n : Nat) (ws : List ByteArray) (w : World) (hn : ws.length = n) (hrow : RowV w false 1 (.slice a n c) (ws.map strV)) (hs : ∀ s ∈ ws, s.size ≤ 1000) (hl : ws.length ≤ 1001000) : Ct Tryz.prog 103 [.slice a n c] w fun v _ => v = .string (joinB ws) := by
  subst hn
  have hI : RowI w (.slice a ws.length c) false 1 (ws.map strV) := ⟨hrow⟩
  refine Ct.ofW (by simp) ?_
  (refine jjB ?_; refine jjC ?_; apply jJ; exact eT rfl; refine jz ?_; refine jjB ?_; refine jjC ?_; apply jJ; exact eT rfl; refine jz ?_; refine jjB ?_; refine jjB ?_; refine jjC ?_; apply jJ; exact eI rfl; refine jz ?_; refine jjD ?_)
  refine W.keep0 [(0, .slice a ws.length c), (3, .string (joinB (ws.take 0))), (4, .int .i64 ((0 : Nat) : Int))] ⟨eS rfl, eT rfl, eI rfl, trivial⟩ fun s0 => ?_
  refine W.loop (5 :: 6 :: 7 :: 8 :: 11 :: 12 :: 13 :: 14 :: 3 :: 15 :: 16 :: 17 :: 18 :: 19 :: 20 :: 9 :: 10 :: 4 :: []) (fun g s' V => ∃ k : Nat, s' 4 = .int .i64 ((k : Nat) : Int) ∧ s' 3 = .string (joinB (ws.take k)) ∧ g = ws.length - k ∧ k ≤ ws.length) ws.length ⟨0, rfl, rfl, rfl, Nat.zero_le _⟩ ?_
  rintro _ sd w1 hS1 ⟨k, h4, h3, rfl, hk⟩
  refine W.fix h4 (W.fix (d := 3) h3 ?_)
  clear h4 h3
  have hb := joinB_size (ws.take k) (m := 1000) fun s h => hs s (List.mem_of_mem_take h)
  have hb2 : (ws.take k).length * (1000 + 1) ≤ 1001000 * (1000 + 1) := Nat.mul_le_mul_right _ (by rw [List.length_take]; omega)
  by_cases hkl : k < ws.length
  rotate_left
  · (refine jjB ?_; refine jjB ?_; refine jjC ?_; apply jI; exact eI rfl; apply jI; exact eS rfl; refine jh rfl ?_; refine jja rfl rfl (by omega) ?_; refine jz ?_; refine jjK rfl ?_; refine jjE ?_; refine jjB ?_; refine jjC ?_; apply jI; exact eT rfl; apply jJ; exact eT rfl; refine jz ?_; refine jjF ?_; refine jB rfl rfl ⟨inferInstance, ?_⟩)
    have : k = ws.length := by omega
    subst this
    rw [List.take_length]; exact rfl
  have hsz := hs _ (List.getElem_mem hkl)
  have hg := List.getElem?_eq_getElem hkl
  by_cases h0 : 0 < k
  · (refine jjB ?_; refine jjB ?_; refine jjC ?_; apply jI; exact eI rfl; apply jI; exact eS rfl; refine jh rfl ?_; refine jjZ rfl rfl (by omega) ?_; refine jz ?_; refine jjJ rfl ?_; refine jjG ?_; refine jjB ?_; refine jjD ?_; refine jjB ?_; refine jjB ?_; refine jjC ?_; apply jI; exact eI rfl; refine jjd rfl rfl (by omega) ?_; refine jz ?_; refine jjJ rfl ?_; refine jjC ?_; apply jI; exact eT rfl)
    refine Ops.cat (a := joinB (ws.take k)) (b := ⟨#[32]⟩) rfl rfl (by show _ + 1 ≤ _; omega) ?_
    (apply jJ; exact eT rfl; refine jz ?_; refine jjC ?_; apply jI; exact eT rfl; apply jI; exact eS rfl; apply jI; exact eI rfl; refine jF rfl rfl rfl (map_get (by omega)) ?_; intro _ _ _; refine jQ rfl rfl ?_)
    refine Ops.cat (a := joinB (ws.take k) ++ ⟨#[32]⟩) (b := ws[k]) rfl rfl (by rw [ByteArray.size_append]; show _ + 1 + _ ≤ _; omega) ?_
    (apply jJ; exact eT rfl; refine jz ?_; refine jjC ?_; apply jI; exact eI rfl; refine jY rfl rfl (by omega) ?_; apply jJ; exact eI rfl; refine jz ?_)
    exact ⟨rfl, by ((refine Same.upd rfl ?_; refine Same.upd rfl ?_; refine Same.upd rfl ?_; refine Same.upd rfl ?_; refine Same.upd rfl ?_; refine Same.upd rfl ?_; refine Same.upd rfl ?_; refine Same.upd rfl ?_; refine Same.upd rfl ?_; refine Same.upd rfl ?_; refine Same.upd rfl ?_; refine Same.upd rfl ?_; refine Same.upd rfl ?_; refine Same.upd rfl ?_; refine Same.upd rfl ?_; refine Same.upd rfl ?_; refine Same.upd rfl ?_; refine Same.upd rfl ?_; refine Same.upd rfl ?_; refine Same.upd rfl ?_; refine Same.upd rfl ?_; exact Same.ovN)), ws.length - (k + 1), by omega, inferInstance, k + 1, congrArg (Value.int .i64) (by omega), congrArg Value.string (joinB_step hg h0).symm, rfl, by omega⟩
  · obtain rfl : k = 0 := by omega
    (refine jjB ?_; refine jjB ?_; refine jjC ?_; apply jI; exact eI rfl; apply jI; exact eS rfl; refine jh rfl ?_; refine jjZ rfl rfl (by omega) ?_; refine jz ?_; refine jjJ rfl ?_; refine jjG ?_; refine jjB ?_; refine jjD ?_; refine jjB ?_; refine jjB ?_; refine jjC ?_; apply jI; exact eI rfl; refine jje rfl rfl (by omega) ?_; refine jz ?_; refine jjK rfl ?_; refine jjG ?_; refine jjC ?_; apply jI; exact eT rfl; apply jI; exact eS rfl; apply jI; exact eI rfl; refine jF rfl rfl rfl (map_get (by omega)) ?_; intro _ _ _; refine jQ rfl rfl ?_)
    refine Ops.cat (a := joinB (ws.take 0)) (b := ws[0]) rfl rfl (by show 0 + _ ≤ _; omega) ?_
    (apply jJ; exact eT rfl; refine jz ?_; refine jjC ?_; apply jI; exact eI rfl; refine jY rfl rfl (by omega) ?_; apply jJ; exact eI rfl; refine jz ?_)
    refine ⟨rfl, by ((refine Same.upd rfl ?_; refine Same.upd rfl ?_; refine Same.upd rfl ?_; refine Same.upd rfl ?_; refine Same.upd rfl ?_; refine Same.upd rfl ?_; refine Same.upd rfl ?_; refine Same.upd rfl ?_; refine Same.upd rfl ?_; refine Same.upd rfl ?_; refine Same.upd rfl ?_; refine Same.upd rfl ?_; refine Same.upd rfl ?_; refine Same.upd rfl ?_; refine Same.upd rfl ?_; refine Same.upd rfl ?_; refine Same.upd rfl ?_; refine Same.upd rfl ?_; exact Same.ovN)), ws.length - (0 + 1), by omega, inferInstance, 0 + 1, congrArg (Value.int .i64) (by omega), congrArg Value.string ?_, rfl, by omega⟩
    rw [take_snoc_get hg]
    show joinB [] ++ _ = joinB [_]
    rw [joinB_one]
    apply ByteArray.ext
    simp [joinB_nil, ByteArray.data_append]
end Go.Proofs.YtpbkphaceljclaaGreatDoor

/- The reference: slip. -/
namespace Go.Proofs.YtpbkphaceljclaaGreatDoor
open Go.RowKit

section
variable (a : Option Addr) (c : Nat) (cs : List Ch) (w : World) [hrow : RowI w (.slice a cs.length c) true 2 (cs.map encCh)] [hT : TextI w cs]
set_option maxHeartbeats 4000000 in
theorem slip_ref3 (hs : SmallT cs) (wd side : Int) (k i : Nat) (m : Int × Int) (hk : k < cs.length) (hi : (runA k (chW cs[k]))[i]? = some ((k : Int), m)) : Ct Tryz.prog 69 [.agg #[.slice a cs.length c], encCut wd side, encPl ((k : Int), m)] w fun v _ => v = encSl (slipX (rnW cs[k]) side wd i ((k : Int), m)) := by
  obtain ⟨hn, hsz⟩ := rnW_small hs hk
  have hal := runA_len k (chW cs[k])
  have hil := (List.getElem?_eq_some_iff.1 hi).1
  refine Ct.ofW (by simp) ?_
  (refine jjB ?_; refine jjC ?_)
  (refine jy rfl ?_; intro b3 w_b3 hb_b3 hs_b3 hS_b3 hk_b3; have hA_b3 := At.ofBlock hk_b3)
  skip
  (refine jy rfl ?_; intro b4 w_b4 hb_b4 hs_b4 hS_b4 hk_b4; have hA_b4 := At.ofBlock hk_b4)
  skip
  (refine jy rfl ?_; intro b5 w_b5 hb_b5 hs_b5 hS_b5 hk_b5; have hA_b5 := At.ofBlock hk_b5)
  ((skip); refine jjY ?_; intro b6 w_b6 hb_b6 hs_b6 hS_b6 hk_b6; have hA_b6 := Bk.of hk_b6)
  (refine jz ?_; refine jjB ?_; refine jjC ?_; refine jO rfl rfl rfl rfl ?_; refine jm ?_; refine jn rfl ?_; refine jN rfl rfl rfl ?_)
  refine jjQ (Run_ref3 a c cs _ hs k hk) rfl rfl ?_
  rintro _ w7 hS7 ⟨_, _, rfl, hOw, hOa⟩
  have hinj := runA_nodup k (chW cs[k])
  generalize hws : rnW cs[k] = ws at hn hsz hOw
  have hlen : (runA k (chW cs[k])).length = ws.length := by rw [hal, ← hws]
  generalize runA k (chW cs[k]) = ps at *
  obtain ⟨wa, wc, rfl⟩ := hOw.slice
  obtain ⟨aa, ac, rfl⟩ := hOa.slice
  have hR := hOw.row
  have hRa := hOa.row
  rw [List.length_map] at hR hRa
  have hi' : i < ws.length := by omega
  have h32 : TextI w7 cs := inferInstance
  have z7 := hS7.size
  have hb6 : Bk w7 b6 [.int .i64 0, .int .i64 0, .int .i64 0, .string ⟨#[]⟩, .string ⟨#[]⟩, .string ⟨#[]⟩] 48 := hA_b6.ext hS7.ext
  have hb4 : At w7 b4 0 [.int .i64 wd, .int .u8 side] := inferInstance
  have hb5 : At w7 b5 0 [.int .i64 (k : Int), .int .i64 m.1, .int .i64 m.2] := inferInstance
  have hE7 : Ext w w7 := inferInstance
  (apply jI; exact eU rfl; refine ju rfl rfl ?_; refine ju rfl rfl ?_; apply jJ; exact eS rfl; apply jJ; exact eS rfl; refine jz ?_; refine jjB ?_; refine jjC ?_; apply jI; exact eS rfl; refine jO rfl rfl rfl rfl ?_)
  refine jjQ (index_ref3 aa _ _ ps ((k : Int), m) i _ (by rw [List.length_map]) hOa.row hi (fun q hq hqi => fun e => by
    have := nodup_inj hinj (List.getElem?_eq_getElem hq) (hi.trans (by rw [e]))
    omega)) rfl rfl ?_
  rintro _ w8 hS8 rfl
  have hlm : (ws.map strV).length = ws.length := List.length_map _
  rw [hlm] at hOw
  obtain ⟨bw, ow, rfl, _⟩ := hOw.row.place' (map_get hi')
  have hcw := hOw.row.cap.2
  rw [hlm] at hcw
  rw [hlm]
  (apply jJ; exact eI rfl; refine jz ?_; refine jjB ?_)
  have hE8 : Ext w w8 := inferInstance
  refine W.draw (fun w' => Ext w8 w') ?_
  intro w9 hS9
  have hA9 : At w8 bw (ow + i) (strV ws[i]).cells.toList := by
    obtain ⟨b', o', e', hA⟩ := hOw.row.place' (map_get hi')
    cases e'
    rw [Nat.mul_one] at hA
    exact hA.ext hS8.ext
  (refine jjV [0, 1, 2, 3, 4, 5, 6, 7, 8, 9] ?_ ?_ ?_; (decide +kernel); (exact hS9.ext); (((apply jjT; exact rfl; rintro w' hq; have := hq.toStep; apply jI; exact eI rfl; refine jz ?_; exact ⟨rfl, rfl⟩; apply jjT; exact rfl; rintro w' hq; have := hq.toStep; apply jI; exact eI rfl; refine jz ?_; exact ⟨rfl, rfl⟩; apply jjT; exact rfl; rintro w' hq; have := hq.toStep; apply jI; exact eS rfl; refine jz ?_; exact ⟨rfl, rfl⟩; apply jjT; exact rfl; rintro w' hq; have := hq.toStep; apply jI; exact eI rfl; refine jz ?_; exact ⟨rfl, rfl⟩; apply jjT; exact rfl; rintro w' hq; have := hq.toStep; refine jG rfl rfl rfl (by omega) ?_; refine jz ?_; exact ⟨rfl, rfl⟩; apply jjT; exact rfl; rintro w' hq; have := hq.toStep; refine jQ rfl rfl ?_; refine jz ?_; exact ⟨rfl, rfl⟩; apply jjT; exact rfl; rintro w' hq; have := hq.toStep; refine ji rfl ?_; refine jz ?_; exact ⟨rfl, rfl⟩; apply jjT; exact rfl; rintro w' hq; have := hq.toStep; apply jJ; exact eI rfl; refine jz ?_; exact ⟨rfl, rfl⟩; apply jjT; exact rfl; rintro w' hq; have := hq.toStep; apply jJ; exact eI rfl; refine jz ?_; exact ⟨rfl, rfl⟩; apply jjT; exact rfl; rintro w' hq; have := hq.toStep; apply jJ; exact eI rfl; refine jz ?_; exact ⟨rfl, rfl⟩; refine jjU ?_))))
  refine jjX (by decide +kernel) hS9.ext ?_
  have hsi := hsz _ (List.getElem_mem hi')
  have hE9 : Ext w7 w9 := hS8.ext.trans hS9.ext
  have hw9 : Ext w w9 := hE8.trans hS9.ext
  have hb49 : At w9 b4 0 [.int .i64 wd, .int .u8 side] := hb4.ext hE9
  (refine jjB ?_; refine jjB ?_; refine jjC ?_; apply jJ; exact eI rfl; refine jz ?_; refine jjD ?_)
  refine W.keep0 [(4, .pointer (some ⟨b4, 0, none⟩)), (5, .pointer (some ⟨b5, 0, none⟩)), (6, .pointer (some ⟨b6, 0, none⟩)), (7, .slice (some ⟨bw, ow, none⟩) ws.length wc), (9, .int .i64 ((i : Nat) : Int)), (10, .int .i64 (((stA ws side wd i 0).1 : Nat) : Int)), (11, .int .i64 (((stA ws side wd i 0).2 : Nat) : Int)), (12, .int .i64 (lenX ws (stA ws side wd i 0))), (13, .int .i64 ((0 : Nat) : Int))] ⟨eP rfl, eP rfl, eP rfl, eS rfl, eI rfl, eI rfl, eI rfl, congrArg (Value.int .i64) (lenX_self hi').symm, eI rfl, trivial⟩ fun s0 => ?_
  refine W.loop (36 :: 37 :: 38 :: 41 :: 14 :: 42 :: 43 :: 44 :: 45 :: 48 :: 49 :: 50 :: 51 :: 52 :: 53 :: 15 :: 54 :: 55 :: 56 :: 57 :: 58 :: 59 :: 60 :: 61 :: 62 :: 63 :: 64 :: 65 :: 66 :: 67 :: 68 :: 69 :: 70 :: 71 :: 72 :: 73 :: 74 :: 75 :: 76 :: 16 :: 17 :: 77 :: 78 :: 79 :: 18 :: 106 :: 105 :: 108 :: 109 :: 110 :: 107 :: 111 :: 112 :: 113 :: 115 :: 116 :: 117 :: 114 :: 118 :: 119 :: 120 :: 80 :: 81 :: 82 :: 83 :: 84 :: 85 :: 86 :: 87 :: 88 :: 89 :: 90 :: 91 :: 92 :: 93 :: 94 :: 95 :: 96 :: 97 :: 98 :: 99 :: 100 :: 101 :: 102 :: 103 :: 104 :: 121 :: 122 :: 123 :: 124 :: 10 :: 11 :: 12 :: 46 :: 47 :: 39 :: 40 :: 13 :: []) (fun g s' V => ∃ q : Nat, s' 13 = .int .i64 ((q : Nat) : Int) ∧ s' 10 = .int .i64 (((stA ws side wd i q).1 : Nat) : Int) ∧ s' 11 = .int .i64 (((stA ws side wd i q).2 : Nat) : Int) ∧ s' 12 = .int .i64 (lenX ws (stA ws side wd i q)) ∧ g = i + 1 - q ∧ q ≤ i + 1) (i + 1) ⟨0, rfl, rfl, rfl, rfl, rfl, Nat.zero_le _⟩ ?_
  rintro _ sd wA hSA ⟨q, h13, h10, h11, h12, rfl, hq⟩
  refine W.fix h13 (W.fix (d := 10) h10 (W.fix (d := 11) h11 (W.fix (d := 12) h12 ?_)))
  clear h13 h10 h11 h12
  by_cases hqi : q ≤ i
  · (refine jjB ?_; refine jjB ?_; refine jjC ?_; apply jI; exact eI rfl; apply jI; exact eI rfl; refine jjb rfl rfl (by omega) ?_; refine jz ?_; refine jjJ rfl ?_; refine jjG ?_; refine jjB ?_; refine jjD ?_; refine jjB ?_; refine jjC ?_; apply jI; exact eI rfl; apply jJ; exact eI rfl; refine jz ?_; refine jjD ?_)
    refine W.keep [(4, .pointer (some ⟨b4, 0, none⟩)), (5, .pointer (some ⟨b5, 0, none⟩)), (6, .pointer (some ⟨b6, 0, none⟩)), (7, .slice (some ⟨bw, ow, none⟩) ws.length wc), (9, .int .i64 ((i : Nat) : Int)), (10, .int .i64 (((stB ws side wd i q 0).1 : Nat) : Int)), (11, .int .i64 (((stB ws side wd i q 0).2 : Nat) : Int)), (12, .int .i64 (lenX ws (stB ws side wd i q 0))), (13, .int .i64 ((q : Nat) : Int)), (14, .int .i64 ((i + 0 : Nat) : Int))] (D := (36 :: 37 :: 38 :: 41 :: 14 :: 42 :: 43 :: 44 :: 45 :: 48 :: 49 :: 50 :: 51 :: 52 :: 53 :: 15 :: 54 :: 55 :: 56 :: 57 :: 58 :: 59 :: 60 :: 61 :: 62 :: 63 :: 64 :: 65 :: 66 :: 67 :: 68 :: 69 :: 70 :: 71 :: 72 :: 73 :: 74 :: 75 :: 76 :: 16 :: 17 :: 77 :: 78 :: 79 :: 18 :: 106 :: 105 :: 108 :: 109 :: 110 :: 107 :: 111 :: 112 :: 113 :: 115 :: 116 :: 117 :: 114 :: 118 :: 119 :: 120 :: 80 :: 81 :: 82 :: 83 :: 84 :: 85 :: 86 :: 87 :: 88 :: 89 :: 90 :: 91 :: 92 :: 93 :: 94 :: 95 :: 96 :: 97 :: 98 :: 99 :: 100 :: 101 :: 102 :: 103 :: 104 :: 121 :: 122 :: 123 :: 124 :: 10 :: 11 :: 12 :: 46 :: 47 :: 39 :: 40 :: 13 :: [])) (sO := upds s0 _) (by ((refine Same.upd rfl ?_; refine Same.upd rfl ?_; refine Same.upd rfl ?_; refine Same.upd rfl ?_; refine Same.upd rfl ?_; refine Same.upd rfl ?_; refine Same.upd rfl ?_; refine Same.upd rfl ?_; refine Same.upd rfl ?_; exact Same.ovN))) ⟨eP rfl, eP rfl, eP rfl, eS rfl, eI rfl, eI rfl, eI rfl, eI rfl, eI rfl, eI rfl, trivial⟩ fun s1 hs1 => ?_
    refine W.loop (42 :: 43 :: 44 :: 45 :: 48 :: 49 :: 50 :: 51 :: 52 :: 53 :: 15 :: 54 :: 55 :: 56 :: 57 :: 58 :: 59 :: 60 :: 61 :: 62 :: 63 :: 64 :: 65 :: 66 :: 67 :: 68 :: 69 :: 70 :: 71 :: 72 :: 73 :: 74 :: 75 :: 76 :: 16 :: 17 :: 77 :: 78 :: 79 :: 18 :: 106 :: 105 :: 108 :: 109 :: 110 :: 107 :: 111 :: 112 :: 113 :: 115 :: 116 :: 117 :: 114 :: 118 :: 119 :: 120 :: 80 :: 81 :: 82 :: 83 :: 84 :: 85 :: 86 :: 87 :: 88 :: 89 :: 90 :: 91 :: 92 :: 93 :: 94 :: 95 :: 96 :: 97 :: 98 :: 99 :: 100 :: 101 :: 102 :: 103 :: 104 :: 121 :: 122 :: 123 :: 124 :: 10 :: 11 :: 12 :: 46 :: 47 :: 14 :: []) (fun g s' V => ∃ m : Nat, s' 14 = .int .i64 ((i + m : Nat) : Int) ∧ s' 10 = .int .i64 (((stB ws side wd i q m).1 : Nat) : Int) ∧ s' 11 = .int .i64 (((stB ws side wd i q m).2 : Nat) : Int) ∧ s' 12 = .int .i64 (lenX ws (stB ws side wd i q m)) ∧ g = ws.length - (i + m) ∧ i + m ≤ ws.length) (ws.length - i) ⟨0, rfl, rfl, rfl, rfl, rfl, by omega⟩ ?_
    rintro _ sd2 wB hSB ⟨m, h14, h10, h11, h12, rfl, hm⟩
    have hin := stB_in (side := side) (W := wd) (m := m) hi' (show q ≤ i + 1 by omega) hm (.inl hqi)
    have hsucc := stB_succ ws side wd i q m
    have hend := stB_end ws side wd i q
    generalize hst : stB ws side wd i q m = st at h10 h11 h12 hin hsucc
    obtain ⟨hin1, hin2, hin3⟩ := hin
    have hbd := lenX_bound (ws := ws) (a := st.1) (b := st.2) hsz hn (by omega) hin3
    refine W.fix h14 (W.fix (d := 10) h10 (W.fix (d := 11) h11 (W.fix (d := 12) h12 ?_)))
    clear h14 h10 h11 h12
    by_cases hml : i + m < ws.length
    rotate_left
    · have hme : m = ws.length - i := by omega
      subst hme
      rw [hend] at hst
      subst hst
      (refine jjB ?_; refine jjB ?_; refine jjC ?_; apply jI; exact eI rfl; apply jI; exact eS rfl; refine jh rfl ?_; refine jja rfl rfl (by omega) ?_; refine jz ?_; refine jjK rfl ?_; refine jjE ?_; refine jjC ?_; apply jI; exact eI rfl; refine jY rfl rfl (by omega) ?_; apply jJ; exact eI rfl; refine jz ?_)
      exact ⟨rfl, by ((refine Same.upd rfl ?_; refine Same.upd rfl ?_; refine Same.upd rfl ?_; refine Same.upd rfl ?_; refine Same.upd rfl ?_; refine Same.upd rfl ?_; refine Same.upd rfl ?_; refine Same.upd rfl ?_; refine Same.upd rfl ?_; refine Same.upd rfl ?_; refine Same.upd rfl ?_; refine Same.ovN' rfl ?_; assumption)), i + 1 - (q + 1), by omega, inferInstance, q + 1, congrArg (Value.int .i64) (by omega), rfl, rfl, rfl, rfl, by omega⟩
    have hSeg := seg_len (ws := ws) (a := q) (b := i + m) (by omega)
    have hbn := lenX_bound (ws := ws) (a := q) (b := i + m) hsz hn (by omega) hml
    have hEB : Ext w8 wB := hS9.ext.trans (hSA.ext.trans hSB.ext)
    have hb4B : At wB b4 0 [.int .i64 wd, .int .u8 side] := hb49.ext (hSA.ext.trans hSB.ext)
    have hRB : RowV wB false 1 (.slice (some ⟨bw, ow, none⟩) ws.length wc) (ws.map strV) := by
      have := hOw.row.ext (hS8.ext.trans hEB)
      exact this
    (refine jjB ?_; refine jjB ?_; refine jjC ?_; apply jI; exact eI rfl; apply jI; exact eS rfl; refine jh rfl ?_; refine jjZ rfl rfl (by omega) ?_; refine jz ?_; refine jjJ rfl ?_; refine jjG ?_; refine jjB ?_; refine jjD ?_; refine jjB ?_; refine jjC ?_; apply jI; exact eS rfl; apply jI; exact eI rfl; apply jI; exact eI rfl; refine jY rfl rfl (by omega) ?_)
    refine Ops.sliceLHv (lo := q) (hi := i + m + 1) rfl rfl rfl rfl (by omega) (by omega) (by omega) ?_
    have hcut := hRB.cut (lo := q) (hi := i + m + 1) (by omega) (by rw [hlm]; omega)
    rw [← List.map_take, ← List.map_drop] at hcut
    refine jjQ ((Length_ref3 _ _ _ ((ws.take (i + m + 1)).drop q) _ (by rw [List.length_drop, List.length_take]; omega) hcut (fun s h => hsz s (List.mem_of_mem_take (List.mem_of_mem_drop h))) (by rw [List.length_drop, List.length_take]; omega)).mono fun v _ _ e => e.trans (by rw [hSeg])) rfl rfl ?_
    rintro _ w14 hS14 rfl
    have hb414 : At w14 b4 0 [.int .i64 wd, .int .u8 side] := hb4B.ext hS14.ext
    clear hSeg hcut hRB
    generalize hnl : lenX ws (q, i + m) = nl at *
    repeat' (first|refine jjm rfl (by omega) ?_|((first|apply jI|apply jJ|apply jK rfl|apply jL rfl); (first|exact eI rfl|exact eB rfl))|(refine jM ?_; refine jN rfl rfl rfl ?_)|(refine jS ?_; (first|refine jT rfl rfl rfl ?_|refine jU rfl rfl rfl rfl ?_|refine jV rfl rfl ?_))|(refine jW ?_; (first|refine jX rfl rfl ?_|refine jY rfl rfl (by omega) ?_|refine jZ rfl rfl (by omega) ?_|refine jb rfl rfl ?_|refine je rfl rfl ?_))|(refine jg ?_; refine jk rfl rfl ?_)|(refine jm ?_; refine jn rfl ?_)|refine jz ?_|(refine jjA ?_; (first|refine jjB ?_|refine jjC ?_|refine jjD ?_|refine jjE ?_|refine jjG ?_|refine jjJ rfl ?_|refine jjK rfl ?_))|(refine jS ?_; (refine jjL rfl rfl ?_ ?_ <;> intro _))|(refine jjA ?_; (refine jjN rfl ?_ ?_ <;> intro _)))
    all_goals first
      | (have e : stB ws side wd i q (m + 1) = (q, i + m) := by rw [hsucc, if_pos ⟨by omega, by rw [ordI_lt, sdI_lt]; simp only [unE, hnl]; omega⟩]
         exact ⟨rfl, by (repeat' (first|exact Same.ovN|refine Same.upd rfl ?_)), ws.length - (i + (m + 1)), by omega, inferInstance, m + 1, congrArg (Value.int .i64) (by omega), by rw [e]; exact rfl, by rw [e]; exact rfl, by rw [e, hnl]; exact rfl, rfl, by omega⟩)
      | (have e : stB ws side wd i q (m + 1) = st := by rw [hsucc, if_neg (fun h => by rw [ordI_lt, sdI_lt] at h; simp only [unE, hnl] at h; omega)]
         exact ⟨rfl, by (repeat' (first|exact Same.ovN|refine Same.upd rfl ?_)), ws.length - (i + (m + 1)), by omega, inferInstance, m + 1, congrArg (Value.int .i64) (by omega), by rw [e]; exact rfl, by rw [e]; exact rfl, by rw [e]; exact rfl, rfl, by omega⟩)
  have hqe : q = i + 1 := by omega
  subst hqe
  have hin := stB_in (side := side) (W := wd) (a := i + 1) (m := 0) hi' (Nat.le_refl _) (by omega) (.inr rfl)
  rw [stB_zero, stA_end] at hin
  rw [stA_end, slipX]
  generalize bestA ws side wd i = st at hin
  obtain ⟨hin1, hin2, hin3⟩ := hin
  have hEA : Ext w8 wA := hS9.ext.trans hSA.ext
  have hwA : Ext w wA := hE8.trans hEA
  have hRB : RowV w8 false 1 (.slice (some ⟨bw, ow, none⟩) ws.length wc) (ws.map strV) := hOw.row.ext hS8.ext
  have hb58 : At w8 b5 0 [.int .i64 (k : Int), .int .i64 m.1, .int .i64 m.2] := hb5.ext hS8.ext
  have hc1 := hRB.cut (lo := st.1) (hi := i) hin1 (by rw [hlm]; omega)
  have hc2 := hRB.cut (lo := i + 1) (hi := st.2 + 1) (by omega) (by rw [hlm]; omega)
  rw [← List.map_take, ← List.map_drop] at hc1 hc2
  have hd : ws.getD i ⟨#[]⟩ = ws[i] := by rw [List.getD_eq_getElem?_getD, List.getElem?_eq_getElem hi', Option.getD_some]
  rw [hd]
  (refine jjB ?_; refine jjB ?_; refine jjC ?_; apply jI; exact eI rfl; apply jI; exact eI rfl; refine jjc rfl rfl (by omega) ?_; refine jz ?_; refine jjK rfl ?_; refine jjE ?_; refine jjB ?_)
  have n5 : b5 ≠ b6 := by omega
  have n4 : bw ≠ b6 := by have : w_b6.heap.size ≤ bw := (hOw.block _ rfl).1; omega
  refine W.draw (fun w' => Only b6 w8 w') ?_
  intro wC hSC
  have hSC' : Ext w8 wC := hEA.trans hSC.ext
  (refine jjV [0, 1, 2, 3, 4, 5, 6, 7] ?_ ?_ ?_; (decide +kernel); (exact .ofExt hSC'); (((apply jjT; exact rfl; rintro w' hq; have := hq.at_ hb58 n5; have := hq.at_ hA9 n4; refine jO rfl rfl rfl rfl ?_; refine jz ?_; exact ⟨rfl, rfl⟩; apply jjT; exact rfl; rintro w' hq; have := hq.at_ hb58 n5; have := hq.at_ hA9 n4; apply jI; exact eS rfl; refine jz ?_; exact ⟨rfl, rfl⟩; apply jjT; exact rfl; rintro w' hq; have := hq.at_ hb58 n5; have := hq.at_ hA9 n4; apply jI; exact eI rfl; refine jz ?_; exact ⟨rfl, rfl⟩; apply jjT; exact rfl; rintro w' hq; have := hq.at_ hb58 n5; have := hq.at_ hA9 n4; refine jG rfl rfl rfl (by omega) ?_; refine jz ?_; exact ⟨rfl, rfl⟩; apply jjT; exact rfl; rintro w' hq; have := hq.at_ hb58 n5; have := hq.at_ hA9 n4; refine jQ rfl rfl ?_; refine jz ?_; exact ⟨rfl, rfl⟩; apply jjT; exact rfl; rintro w' hq; have := hq.at_ hb58 n5; have := hq.at_ hA9 n4; apply jI; exact eS rfl; refine jz ?_; exact ⟨rfl, rfl⟩; apply jjT; exact rfl; rintro w' hq; have := hq.at_ hb58 n5; have := hq.at_ hA9 n4; apply jI; exact eI rfl; refine jz ?_; exact ⟨rfl, rfl⟩; apply jjT; exact rfl; rintro w' hq; have := hq.at_ hb58 n5; have := hq.at_ hA9 n4; apply jI; exact eI rfl; refine jz ?_; exact ⟨rfl, rfl⟩; refine jjU ?_))))
  refine jjV [8] (by decide +kernel) (.ofExt hSC') (jjT (v := cutV (some ⟨bw, ow, none⟩) wc 1 st.1 i) rfl (fun w' q1 => ?_) (jjU ?_)); (refine Ops.sliceLHv (lo := st.1) (hi := i) rfl rfl rfl rfl rfl (by omega) (by omega) ?_; refine jz ?_; exact ⟨rfl, rfl⟩)
  (refine jjV [10, 11, 12, 13, 14] ?_ ?_ ?_; (decide +kernel); (exact .ofExt hSC'); (((apply jjT; exact rfl; rintro w' hq; have := hq.at_ hb58 n5; have := hq.at_ hA9 n4; apply jI; exact eS rfl; refine jz ?_; exact ⟨rfl, rfl⟩; apply jjT; exact rfl; rintro w' hq; have := hq.at_ hb58 n5; have := hq.at_ hA9 n4; apply jI; exact eI rfl; refine jz ?_; exact ⟨rfl, rfl⟩; apply jjT; exact rfl; rintro w' hq; have := hq.at_ hb58 n5; have := hq.at_ hA9 n4; refine jY rfl rfl (by omega) ?_; refine jz ?_; exact ⟨rfl, rfl⟩; apply jjT; exact rfl; rintro w' hq; have := hq.at_ hb58 n5; have := hq.at_ hA9 n4; apply jI; exact eI rfl; refine jz ?_; exact ⟨rfl, rfl⟩; apply jjT; exact rfl; rintro w' hq; have := hq.at_ hb58 n5; have := hq.at_ hA9 n4; refine jY rfl rfl (by omega) ?_; refine jz ?_; exact ⟨rfl, rfl⟩; refine jjU ?_))))
  refine jjV [15] (by decide +kernel) (.ofExt hSC') (jjT (v := cutV (some ⟨bw, ow, none⟩) wc 1 (i + 1) (st.2 + 1)) rfl (fun w' q1 => ?_) (jjU ?_)); (refine Ops.sliceLHv (lo := i + 1) (hi := st.2 + 1) rfl rfl rfl rfl rfl (by omega) (by omega) ?_; refine jz ?_; exact ⟨rfl, rfl⟩)
  (apply jjW 9; (decide +kernel); exact rfl; (exact .ofExt hSC'))
  refine jjQ (joined_ref3 _ _ _ ((ws.take i).drop st.1) _ (by rw [List.length_drop, List.length_take]; omega) (hc1.ext hSC') (fun s h => hsz s (List.mem_of_mem_take (List.mem_of_mem_drop h))) (by rw [List.length_drop, List.length_take]; omega)) rfl rfl ?_
  rintro _ wC2 hSC2 rfl
  refine jz ?_
  have hSC2' := hSC'.trans hSC2.ext
  (apply jjW 16; (decide +kernel); exact rfl; (exact .ofExt hSC2'))
  refine jjQ (joined_ref3 _ _ _ ((ws.take (st.2 + 1)).drop (i + 1)) _ (by rw [List.length_drop, List.length_take]; omega) (hc2.ext hSC2') (fun s h => hsz s (List.mem_of_mem_take (List.mem_of_mem_drop h))) (by rw [List.length_drop, List.length_take]; omega)) rfl rfl ?_
  rintro _ wD hSD' rfl
  refine jz ?_
  have hSD := hSC2'.trans hSD'.ext
  (apply jjW 17; (decide +kernel); exact rfl; (exact .ofExt hSD))
  (refine jjS (cells := [.int .i64 (k : Int), .int .i64 m.1, .int .i64 m.2, .string ws[i], .string (joinB ((ws.take i).drop st.1)), .string (joinB ((ws.take (st.2 + 1)).drop (i + 1)))]) ?_ ?_; exact rfl)
  refine jz ?_
  (apply jjW 18; (decide +kernel); exact rfl; (exact .ofExt hSD))
  have h6D : Bk wD b6 [.int .i64 0, .int .i64 0, .int .i64 0, .string ⟨#[]⟩, .string ⟨#[]⟩, .string ⟨#[]⟩] 48 := hb6.ext (hS8.ext.trans hSD)
  refine Ops.store rfl rfl rfl rfl rfl ?_
  intro wE hpE
  refine jz ?_
  refine jjX (by decide +kernel) ((Only.ofExt hSD).trans (.ofPut hpE)) ?_
  have h6E : At wE b6 0 [.int .i64 (k : Int), .int .i64 m.1, .int .i64 m.2, .string ws[i], .string (joinB ((ws.take i).drop st.1)), .string (joinB ((ws.take (st.2 + 1)).drop (i + 1)))] := Bk.toAt (h := ⟨hpE.new⟩)
  (refine jjF ?_)
  refine fin1C rfl rfl rfl rfl rfl ⟨hpE.ext (hE8.trans hSD) (by omega), rfl⟩
end
end Go.Proofs.YtpbkphaceljclaaGreatDoor

/- The reference: All places. -/
namespace Go.Proofs.YtpbkphaceljclaaGreatDoor
open Go.RowKit

theorem allP_small {cs : List Ch} (hs : SmallT cs) : ∀ {n : Nat}, n ≤ cs.length → (allP (txF cs) n).length ≤ n * 1000000
  | 0, _ => by simp [allP]
  | n + 1, hn => by
    rw [allP_succ, List.length_append, runA_len, wsT_get (by omega)]
    have h1 := allP_small hs (n := n) (by omega)
    have h2 : (chW cs[n]).flatten.length ≤ 1000000 := (rnW_small hs (k := n) (by omega)).1
    omega
section
variable (a : Option Addr) (c : Nat) (cs : List Ch) (w : World) [hrow : RowI w (.slice a cs.length c) true 2 (cs.map encCh)] [hT : TextI w cs]
set_option maxHeartbeats 4000000 in
theorem All_ref1 (hs : SmallT cs) : Ct Tryz.prog 68 [.agg #[.slice a cs.length c]] w fun v w' => OwnL w' w.heap.size 44 true 3 v ((allP (txF cs) (txF cs).length).map encPl) := by
  have hs1 := hs.1
  rw [txF_len]
  refine Ct.ofW (by simp) ?_
  (refine jjB ?_; refine jjC ?_)
  (refine jy rfl ?_; intro b1 w_b1 hb_b1 hs_b1 hS_b1 hk_b1; have hA_b1 := At.ofBlock hk_b1)
  (apply jJ; exact eS rfl; refine jz ?_; refine jjB ?_; refine jjC ?_; apply jJ; exact eS rfl; refine jz ?_; refine jjB ?_; refine jjB ?_; refine jjC ?_; apply jJ; exact eI rfl; refine jz ?_; refine jjD ?_)
  have hE1 : Ext w w_b1 := inferInstance
  refine W.keep0 [(1, .pointer (some ⟨b1, 0, none⟩)), (3, .slice none 0 0), (4, .int .i64 ((0 : Nat) : Int))] ⟨eP rfl, eS rfl, eI rfl, trivial⟩ fun s0 => ?_
  refine W.loopG (7 :: 8 :: 9 :: 10 :: 11 :: 5 :: 14 :: 15 :: 16 :: 17 :: 18 :: 19 :: 20 :: 21 :: 22 :: 6 :: 25 :: 26 :: 27 :: 28 :: 29 :: 30 :: 31 :: 32 :: 33 :: 34 :: 35 :: 36 :: 39 :: 40 :: 41 :: 42 :: 43 :: 44 :: 45 :: 3 :: 37 :: 38 :: 23 :: 24 :: 12 :: 13 :: 4 :: []) (fun g s' V => ∃ (k : Nat) (av : Value), s' 4 = .int .i64 ((k : Nat) : Int) ∧ s' 3 = av ∧ g = cs.length - k ∧ k ≤ cs.length ∧ Ext w V ∧ w_b1.heap.size ≤ V.heap.size ∧ At V b1 0 [.slice a cs.length c] ∧ OwnL V w_b1.heap.size 44 true 3 av ((allP (txF cs) k).map encPl)) cs.length ⟨0, _, rfl, rfl, rfl, Nat.zero_le _, hE1, Nat.le_refl _, inferInstance, OwnL.nil _ _ _ _ _⟩ ?_
  rintro _ sd V ⟨k, av, h4, h3, rfl, hk, hE, hz, hb1, hOa⟩
  obtain ⟨aa, al, ac, rfl⟩ := hOa.slice3
  refine W.fix h4 (W.fix (d := 3) h3 ?_)
  clear h4 h3
  by_cases hkc : k < cs.length
  rotate_left
  · obtain rfl : k = cs.length := by omega
    (refine jjB ?_; refine jjB ?_; refine jjC ?_; apply jI; exact eI rfl; refine jm ?_; refine jn rfl ?_; refine jN rfl rfl rfl ?_; refine jh rfl ?_; refine jja rfl rfl (by omega) ?_; refine jz ?_; refine jjK rfl ?_; refine jjE ?_; refine jjB ?_; refine jjC ?_; apply jI; exact eS rfl; apply jJ; exact eS rfl; refine jz ?_; refine jjF ?_; refine jB rfl rfl ⟨inferInstance, ?_⟩)
    exact hOa.mono hE1.size
  have hgk := List.getElem?_eq_getElem hkc
  have hsk := hs.2 _ (List.getElem_mem hkc)
  have hsm := chW_small fun y hy => (hsk.2 y hy).1
  have hcl : (chW cs[k]).length = cs[k].2.2.2.length := by simp [chW]
  have hapl := allP_small hs (n := k) (by omega)
  have hap1 : k * 1000000 ≤ 1000 * 1000000 := Nat.mul_le_mul_right _ (by omega)
  have hnext : allP (txF cs) (k + 1) = allP (txF cs) k ++ runAn k (chW cs[k]) (chW cs[k]).length := by rw [allP_succ, wsT_get hkc, runA]
  (refine jjB ?_; refine jjB ?_; refine jjC ?_; apply jI; exact eI rfl; refine jm ?_; refine jn rfl ?_; refine jN rfl rfl rfl ?_; refine jh rfl ?_; refine jjZ rfl rfl (by omega) ?_; refine jz ?_; refine jjJ rfl ?_; refine jjG ?_; refine jjB ?_; refine jjD ?_; refine jjB ?_; refine jjC ?_; apply jJ; exact eI rfl; refine jz ?_; refine jjD ?_)
  refine W.keep [(1, .pointer (some ⟨b1, 0, none⟩)), (3, .slice aa al ac), (4, .int .i64 ((k : Nat) : Int)), (5, .int .i64 ((0 : Nat) : Int))] (D := (7 :: 8 :: 9 :: 10 :: 11 :: 5 :: 14 :: 15 :: 16 :: 17 :: 18 :: 19 :: 20 :: 21 :: 22 :: 6 :: 25 :: 26 :: 27 :: 28 :: 29 :: 30 :: 31 :: 32 :: 33 :: 34 :: 35 :: 36 :: 39 :: 40 :: 41 :: 42 :: 43 :: 44 :: 45 :: 3 :: 37 :: 38 :: 23 :: 24 :: 12 :: 13 :: 4 :: [])) (sO := upds s0 _) (by ((refine Same.upd rfl ?_; refine Same.upd rfl ?_; refine Same.upd rfl ?_; refine Same.upd rfl ?_; refine Same.upd rfl ?_; refine Same.upd rfl ?_; refine Same.upd rfl ?_; refine Same.upd rfl ?_; exact Same.ovN))) ⟨eP rfl, eS rfl, eI rfl, eI rfl, trivial⟩ fun s1 hs1' => ?_
  refine W.loopG (14 :: 15 :: 16 :: 17 :: 18 :: 19 :: 20 :: 21 :: 22 :: 6 :: 25 :: 26 :: 27 :: 28 :: 29 :: 30 :: 31 :: 32 :: 33 :: 34 :: 35 :: 36 :: 39 :: 40 :: 41 :: 42 :: 43 :: 44 :: 45 :: 3 :: 37 :: 38 :: 23 :: 24 :: 5 :: []) (fun g s' V => ∃ (n : Nat) (av : Value), s' 5 = .int .i64 ((n : Nat) : Int) ∧ s' 3 = av ∧ g = cs[k].2.2.2.length - n ∧ n ≤ cs[k].2.2.2.length ∧ Ext w V ∧ w_b1.heap.size ≤ V.heap.size ∧ At V b1 0 [.slice a cs.length c] ∧ OwnL V w_b1.heap.size 44 true 3 av ((allP (txF cs) k ++ runAn k (chW cs[k]) n).map encPl)) cs[k].2.2.2.length ⟨0, _, rfl, rfl, rfl, Nat.zero_le _, hE, hz, hb1, by rw [runAn_zero, List.append_nil]; exact hOa⟩ ?_
  rintro _ sd1 V1 ⟨n, av, h5, h3, rfl, hn, hE, hz, hb1, hOa⟩
  obtain ⟨aa, al, ac, rfl⟩ := hOa.slice3
  refine W.fix h5 (W.fix (d := 3) h3 ?_)
  clear h5 h3
  have i0 : RowI V1 (.slice a cs.length c) true 2 (cs.map encCh) := ⟨hrow.h.ext hE⟩
  have hTV : TextI V1 cs := hT.ext hE
  have i2 := hTV.line hkc
  by_cases hnl : n < cs[k].2.2.2.length
  rotate_left
  · have hne : n = (chW cs[k]).length := by omega
    rw [hne, ← hnext] at hOa
    (refine jjB ?_; refine jjB ?_; refine jjC ?_; apply jI; exact eI rfl; refine jm ?_; refine jn rfl ?_; refine jN rfl rfl rfl ?_; apply jI; exact eI rfl; refine jF rfl rfl rfl (map_get (by omega)) ?_; intro _ _ _; refine jm ?_; refine jn rfl ?_; refine jP rfl rfl rfl ?_; refine jh rfl ?_; refine jja rfl rfl (by omega) ?_; refine jz ?_; refine jjK rfl ?_; refine jjE ?_; refine jjC ?_; apply jI; exact eI rfl; refine jY rfl rfl (by omega) ?_; apply jJ; exact eI rfl; refine jz ?_)
    exact ⟨rfl, by ((refine Same.upd rfl ?_; refine Same.upd rfl ?_; refine Same.upd rfl ?_; refine Same.upd rfl ?_; refine Same.upd rfl ?_; refine Same.upd rfl ?_; refine Same.upd rfl ?_; refine Same.upd rfl ?_; refine Same.upd rfl ?_; refine Same.upd rfl ?_; refine Same.upd rfl ?_; refine Same.upd rfl ?_; refine Same.upd rfl ?_; refine Same.upd rfl ?_; refine Same.ovN' rfl ?_; assumption)), cs.length - (k + 1), by omega, k + 1, _, congrArg (Value.int .i64) (by omega), rfl, rfl, by omega, hE, hz, hb1, hOa⟩
  have hgn := chW_get hnl
  have hsn := hsk.2 _ (List.getElem_mem hnl)
  (refine jjB ?_; refine jjB ?_; refine jjC ?_; apply jI; exact eI rfl; refine jm ?_; refine jn rfl ?_; refine jN rfl rfl rfl ?_; apply jI; exact eI rfl; refine jF rfl rfl rfl (map_get (by omega)) ?_; intro _ _ _; refine jm ?_; refine jn rfl ?_; refine jP rfl rfl rfl ?_; refine jh rfl ?_; refine jjZ rfl rfl (by omega) ?_; refine jz ?_; refine jjJ rfl ?_; refine jjG ?_; refine jjB ?_; refine jjD ?_; refine jjB ?_; refine jjC ?_; apply jJ; exact eI rfl; refine jz ?_; refine jjD ?_)
  refine W.keep [(1, .pointer (some ⟨b1, 0, none⟩)), (3, .slice aa al ac), (4, .int .i64 ((k : Nat) : Int)), (5, .int .i64 ((n : Nat) : Int)), (6, .int .i64 ((0 : Nat) : Int))] (D := (14 :: 15 :: 16 :: 17 :: 18 :: 19 :: 20 :: 21 :: 22 :: 6 :: 25 :: 26 :: 27 :: 28 :: 29 :: 30 :: 31 :: 32 :: 33 :: 34 :: 35 :: 36 :: 39 :: 40 :: 41 :: 42 :: 43 :: 44 :: 45 :: 3 :: 37 :: 38 :: 23 :: 24 :: 5 :: [])) (sO := upds s1 _) (by ((refine Same.upd rfl ?_; refine Same.upd rfl ?_; refine Same.upd rfl ?_; refine Same.upd rfl ?_; refine Same.upd rfl ?_; refine Same.upd rfl ?_; refine Same.upd rfl ?_; refine Same.upd rfl ?_; refine Same.upd rfl ?_; refine Same.upd rfl ?_; refine Same.upd rfl ?_; refine Same.upd rfl ?_; exact Same.ovN))) ⟨eP rfl, eS rfl, eI rfl, eI rfl, eI rfl, trivial⟩ fun s2 hs2' => ?_
  refine W.loopG (25 :: 26 :: 27 :: 28 :: 29 :: 30 :: 31 :: 32 :: 33 :: 34 :: 35 :: 36 :: 39 :: 40 :: 41 :: 42 :: 43 :: 44 :: 45 :: 3 :: 37 :: 38 :: 6 :: []) (fun g s' V => ∃ (q : Nat) (av : Value), s' 6 = .int .i64 ((q : Nat) : Int) ∧ s' 3 = av ∧ g = cs[k].2.2.2[n].2.2.length - q ∧ q ≤ cs[k].2.2.2[n].2.2.length ∧ Ext w V ∧ w_b1.heap.size ≤ V.heap.size ∧ At V b1 0 [.slice a cs.length c] ∧ OwnL V w_b1.heap.size 44 true 3 av ((allP (txF cs) k ++ (runAn k (chW cs[k]) n ++ lnP k n q)).map encPl)) cs[k].2.2.2[n].2.2.length ⟨0, _, rfl, rfl, rfl, Nat.zero_le _, hE, hz, hb1, by rw [show lnP k n 0 = [] from rfl, List.append_nil]; exact hOa⟩ ?_
  rintro _ sd2 V2 ⟨q, av, h6, h3, rfl, hq, hE, hz, hb1, hOa⟩
  obtain ⟨aa, al, ac, rfl⟩ := hOa.slice3
  refine W.fix h6 (W.fix (d := 3) h3 ?_)
  clear h6 h3
  have i0 : RowI V2 (.slice a cs.length c) true 2 (cs.map encCh) := ⟨hrow.h.ext hE⟩
  have hTV2 : TextI V2 cs := hT.ext hE
  have i3 := hTV2.line hkc
  have i4 := hTV2.word hkc hnl
  by_cases hql : q < cs[k].2.2.2[n].2.2.length
  rotate_left
  · obtain rfl : q = cs[k].2.2.2[n].2.2.length := by omega
    rw [← runAn_succ k hgn] at hOa
    (refine jjB ?_; refine jjB ?_; refine jjC ?_; apply jI; exact eI rfl; refine jm ?_; refine jn rfl ?_; refine jN rfl rfl rfl ?_; apply jI; exact eI rfl; refine jF rfl rfl rfl (map_get (by omega)) ?_; intro _ _ _; refine jm ?_; refine jn rfl ?_; refine jP rfl rfl rfl ?_; apply jI; exact eI rfl; refine jF rfl rfl rfl (map_get (by omega)) ?_; intro _ _ _; refine jQ rfl rfl ?_; refine jh rfl ?_; refine jja rfl rfl (by omega) ?_; refine jz ?_; refine jjK rfl ?_; refine jjE ?_; refine jjC ?_; apply jI; exact eI rfl; refine jY rfl rfl (by omega) ?_; apply jJ; exact eI rfl; refine jz ?_)
    exact ⟨rfl, by ((refine Same.upd rfl ?_; refine Same.upd rfl ?_; refine Same.upd rfl ?_; refine Same.upd rfl ?_; refine Same.upd rfl ?_; refine Same.upd rfl ?_; refine Same.upd rfl ?_; refine Same.upd rfl ?_; refine Same.upd rfl ?_; refine Same.upd rfl ?_; refine Same.upd rfl ?_; refine Same.upd rfl ?_; refine Same.upd rfl ?_; refine Same.upd rfl ?_; refine Same.upd rfl ?_; refine Same.upd rfl ?_; refine Same.upd rfl ?_; refine Same.ovN' rfl ?_; assumption)), cs[k].2.2.2.length - (n + 1), by omega, n + 1, _, congrArg (Value.int .i64) (by omega), rfl, rfl, by omega, hE, hz, hb1, hOa⟩
  have hl2 : (allP (txF cs) k ++ (runAn k (chW cs[k]) n ++ lnP k n q)).length ≤ 1002000000 := by
    have := flat_take hsm (n := n) (by omega)
    rw [List.length_append, List.length_append, lnP_len, runAn_len k (by omega)]; omega
  (refine jjB ?_; refine jjB ?_; refine jjC ?_; apply jI; exact eI rfl; refine jm ?_; refine jn rfl ?_; refine jN rfl rfl rfl ?_; apply jI; exact eI rfl; refine jF rfl rfl rfl (map_get (by omega)) ?_; intro _ _ _; refine jm ?_; refine jn rfl ?_; refine jP rfl rfl rfl ?_; apply jI; exact eI rfl; refine jF rfl rfl rfl (map_get (by omega)) ?_; intro _ _ _; refine jQ rfl rfl ?_; refine jh rfl ?_; refine jjZ rfl rfl (by omega) ?_; refine jz ?_; refine jjJ rfl ?_; refine jjG ?_; refine jjB ?_; refine jjD ?_; refine jjC ?_; apply jI; exact eS rfl; apply jI; exact eI rfl; apply jI; exact eI rfl; apply jI; exact eI rfl)
  (refine jjS (cells := [.int .i64 (k : Int), .int .i64 (n : Int), .int .i64 (q : Int)]) ?_ ?_; exact rfl)
  (refine jjP (v := .agg _) rfl (by exact rfl) (by exact rfl) (by exact rfl) (by exact rfl) ?_; intro b47 w_b47 hb_b47 hs_b47 hS_b47 hk_b47; have hR_b47 := RowV.one (agg := true) (k := 3) rfl hk_b47)
  have z47 := hS_b47.size
  refine Ops.appendL (hOa.ext hS_b47.ext) (by omega) hR_b47 rfl rfl rfl rfl (one_pl ((k : Int), (n : Int), (q : Int))) ?_ ?_ ?_
  · rw [List.length_map]; simp only [List.length_cons, List.length_nil]; omega
  · rw [List.length_map]; simp only [List.length_cons, List.length_nil]; omega
  intro av2 w48 hA48 hO48 _ hown48
  have z48 := hA48.g.size
  have hE48 : Ext w w48 := hA48.ext (hE.trans hS_b47.ext) (by omega)
  have e48 : (allP (txF cs) k ++ (runAn k (chW cs[k]) n ++ lnP k n q)).map encPl ++ [encPl ((k : Int), (n : Int), (q : Int))] = (allP (txF cs) k ++ (runAn k (chW cs[k]) n ++ lnP k n (q + 1))).map encPl := by rw [lnP_succ]; simp
  rw [e48] at hO48
  have hb148 := hA48.at_ (hb1.ext hS_b47.ext) (fun e => by have := (hOa.block _ e).1; omega)
  obtain ⟨aa2, al2, ac2, rfl⟩ := hO48.slice3
  (apply jJ; exact eS rfl; refine jz ?_; refine jjC ?_; apply jI; exact eI rfl; refine jY rfl rfl (by omega) ?_; apply jJ; exact eI rfl; refine jz ?_)
  exact ⟨rfl, by ((refine Same.upd rfl ?_; refine Same.upd rfl ?_; refine Same.upd rfl ?_; refine Same.upd rfl ?_; refine Same.upd rfl ?_; refine Same.upd rfl ?_; refine Same.upd rfl ?_; refine Same.upd rfl ?_; refine Same.upd rfl ?_; refine Same.upd rfl ?_; refine Same.upd rfl ?_; refine Same.upd rfl ?_; refine Same.upd rfl ?_; refine Same.upd rfl ?_; refine Same.upd rfl ?_; refine Same.upd rfl ?_; refine Same.upd rfl ?_; refine Same.upd rfl ?_; refine Same.upd rfl ?_; refine Same.upd rfl ?_; refine Same.upd rfl ?_; refine Same.upd rfl ?_; refine Same.upd rfl ?_; refine Same.upd rfl ?_; refine Same.upd rfl ?_; exact Same.ovN)), cs[k].2.2.2[n].2.2.length - (q + 1), by omega, q + 1, _, congrArg (Value.int .i64) (by omega), rfl, rfl, by omega, hE48, by omega, hb148, hO48⟩
end
end Go.Proofs.YtpbkphaceljclaaGreatDoor

/- The reference: Make, All, Part. -/
namespace Go.Proofs.YtpbkphaceljclaaGreatDoor
open Go.RowKit

theorem makeF_mem {t : Tx} {side wd : Int} {p : Pl} {n : Nat} (h : p ∈ allP t n) (hn : n ≤ t.length) : makeF t side wd p = some (slP t side wd p) := by
  obtain ⟨k, hk, hm⟩ := mem_allP.1 h
  obtain ⟨i, hi, e⟩ := List.mem_iff_getElem.1 hm
  have hg : (runA k (wsT t k))[i]? = some p := by rw [List.getElem?_eq_getElem hi, e]
  rw [makeF_yes (by omega) hg, slP_eq (by omega) hg]
section
variable (a : Option Addr) (c : Nat) (cs : List Ch) (wd side : Int) (w : World) [hrow : RowI w (.slice a cs.length c) true 2 (cs.map encCh)] [hT : TextI w cs]
theorem slipM_ref3 (hs : SmallT cs) (p : Pl) (s : Slp) (h : makeF (txF cs) side wd p = some s) : Ct Tryz.prog 69 [.agg #[.slice a cs.length c], encCut wd side, encPl p] w fun v _ => v = encSl s := by
  obtain ⟨k, i, hk, hi, rfl⟩ := makeF_some h
  rw [txF_len] at hk
  rw [wsT_get hk] at hi ⊢
  obtain ⟨p1, m⟩ := p
  obtain rfl : p1 = (k : Int) := runA_fst (List.mem_of_getElem? hi)
  exact slip_ref3 a c cs w hs wd side k i m hk hi
set_option maxHeartbeats 4000000 in
theorem All_ref3 (hs : SmallT cs) (hd : 0 ≤ side ∧ side ≤ 255) : Ct Tryz.prog 27 [.agg #[.slice a cs.length c], encCut wd side] w fun v w' => ∃ sv, v = .tuple #[sv, .int .i64 (askE (txF cs) wd side)] ∧ OwnL w' w.heap.size 48 true 6 sv ((allR (txF cs) wd side).map encSl) := by
  refine Ct.ofW (by simp) ?_
  (refine jjB ?_; refine jjC ?_)
  (refine jy rfl ?_; intro b2 w_b2 hb_b2 hs_b2 hS_b2 hk_b2; have hA_b2 := At.ofBlock hk_b2)
  skip
  (refine jy rfl ?_; intro b3 w_b3 hb_b3 hs_b3 hS_b3 hk_b3; have hA_b3 := At.ofBlock hk_b3)
  (apply jJ; exact eS rfl; apply jJ; exact eI rfl; refine jz ?_; refine jjB ?_; refine jjB ?_; refine jjC ?_; refine jO rfl rfl rfl rfl ?_; refine jO rfl rfl rfl rfl ?_)
  obtain ⟨e, he⟩ : ∃ e, askE (txF cs) wd side = e := ⟨_, rfl⟩
  have h3 := askE_in (txF cs) wd side
  rw [he] at h3
  refine jjQ ((asked_ref3 a c cs wd side _ hs hd).mono fun v _ _ h => h.trans (by rw [he])) rfl rfl ?_
  rintro _ w8 hS8 rfl
  by_cases h0 : e = 0
  rotate_left
  · (apply jJ; exact eI rfl; refine jz ?_; refine jjB ?_; refine jjC ?_; apply jI; exact eI rfl; refine jjj rfl rfl (by omega) ?_; refine jz ?_; refine jjJ rfl ?_; refine jjB ?_; refine jjC ?_; apply jI; exact eI rfl; apply jJ; exact eS rfl; apply jJ; exact eI rfl; refine jz ?_; refine jjF ?_; refine jC rfl rfl rfl ⟨inferInstance, ?_⟩)
    rw [he, allR, if_neg (by rw [he]; exact h0)]
    exact ⟨_, rfl, OwnL.nil _ _ _ _ _⟩
  subst h0
  obtain ⟨ht, hc⟩ := askE_zero he
  rw [he, allR, if_pos he, allS]
  have hal := allS_len (side := side) (wd := wd) ht
  rw [allS, List.length_map] at hal
  (apply jJ; exact eI rfl; refine jz ?_; refine jjB ?_; refine jjC ?_; apply jI; exact eI rfl; refine jjk rfl rfl (by omega) ?_; refine jz ?_; refine jjK rfl ?_; refine jjG ?_; refine jjB ?_; refine jjC ?_; apply jJ; exact eS rfl; refine jz ?_; refine jjB ?_; refine jjC ?_; refine jO rfl rfl rfl rfl ?_)
  refine jjQ (All_ref1 a c cs _ hs) rfl rfl ?_
  rintro av w9 hS9 hOa
  have hmf : ∀ i (hi : i < (allP (txF cs) (txF cs).length).length), makeF (txF cs) side wd (allP (txF cs) (txF cs).length)[i] = some (slP (txF cs) side wd (allP (txF cs) (txF cs).length)[i]) := fun i hi => makeF_mem (List.getElem_mem hi) (Nat.le_refl _)
  generalize allP (txF cs) (txF cs).length = ps at *
  obtain ⟨aa, ac, rfl⟩ := hOa.slice
  rw [List.length_map] at hOa ⊢
  have hE9 : Ext w w9 := inferInstance
  (apply jJ; exact eS rfl; refine jz ?_; refine jjB ?_; refine jjB ?_; refine jjC ?_; apply jJ; exact eI rfl; refine jz ?_; refine jjD ?_)
  refine W.keep0 [(2, .pointer (some ⟨b2, 0, none⟩)), (3, .pointer (some ⟨b3, 0, none⟩)), (7, .slice none 0 0), (8, .slice aa ps.length ac), (9, .int .i64 ((0 : Nat) : Int))] ⟨eP rfl, eP rfl, eS rfl, eS rfl, eI rfl, trivial⟩ fun s0 => ?_
  refine W.loopG (18 :: 19 :: 20 :: 21 :: 24 :: 25 :: 26 :: 27 :: 28 :: 29 :: 30 :: 31 :: 32 :: 33 :: 7 :: 22 :: 23 :: 9 :: []) (fun g s' V => ∃ (i : Nat) (sv : Value), s' 9 = .int .i64 ((i : Nat) : Int) ∧ s' 7 = sv ∧ g = ps.length - i ∧ i ≤ ps.length ∧ Ext w V ∧ w9.heap.size ≤ V.heap.size ∧ At V b2 0 [.slice a cs.length c] ∧ At V b3 0 [.int .i64 wd, .int .u8 side] ∧ OwnL V w8.heap.size 44 true 3 (.slice aa ps.length ac) (ps.map encPl) ∧ OwnL V w9.heap.size 48 true 6 sv (((ps.take i).map (slP (txF cs) side wd)).map encSl)) ps.length ⟨0, _, rfl, rfl, rfl, Nat.zero_le _, hE9, Nat.le_refl _, inferInstance, inferInstance, hOa, OwnL.nil _ _ _ _ _⟩ ?_
  rintro _ sd V ⟨i, sv, h9, h7, rfl, hi, hE, hz, hb2, hb3, hOaV, hO⟩
  obtain ⟨va, vl, vc, rfl⟩ := hO.slice3
  refine W.fix h9 (W.fix (d := 7) h7 ?_)
  clear h9 h7
  by_cases hil : i < ps.length
  rotate_left
  · obtain rfl : i = ps.length := by omega
    rw [List.take_length] at hO
    (refine jjB ?_; refine jjB ?_; refine jjC ?_; apply jI; exact eI rfl; apply jI; exact eS rfl; refine jh rfl ?_; refine jja rfl rfl (by omega) ?_; refine jz ?_; refine jjK rfl ?_; refine jjE ?_; refine jjB ?_; refine jjC ?_; apply jI; exact eS rfl; apply jJ; exact eS rfl; apply jJ; exact eI rfl; refine jz ?_; refine jjF ?_; refine jC rfl rfl rfl ⟨inferInstance, ?_⟩)
    exact ⟨_, rfl, hO.mono hE9.size⟩
  have hb2l := hb2.lt
  obtain ⟨ba, oa, rfl, hAp⟩ := hOaV.row.place' (by rw [List.getElem?_map, List.getElem?_eq_getElem hil]; rfl)
  have i0 : RowI V (.slice a cs.length c) true 2 (cs.map encCh) := ⟨hrow.h.ext hE⟩
  have hTV : TextI V cs := hT.ext hE
  (refine jjB ?_; refine jjB ?_; refine jjC ?_; apply jI; exact eI rfl; apply jI; exact eS rfl; refine jh rfl ?_; refine jjZ rfl rfl (by omega) ?_; refine jz ?_; refine jjJ rfl ?_; refine jjG ?_; refine jjB ?_; refine jjD ?_)
  have z8 := hS8.size
  have z9 := hS9.size
  have hba : ba < w9.heap.size := (hOa.block ba rfl).2
  refine W.draw (fun w' => Ext w w' ∧ At w' b2 0 [.slice a cs.length c] ∧ At w' b3 0 [.int .i64 wd, .int .u8 side] ∧ At w' ba (oa + i * 3) (encPl ps[i]).cells.toList) ?_
  intro w1 hS1
  have s1 := And.intro (hE.trans hS1.ext) (And.intro (hb2.ext hS1.ext) (And.intro (hb3.ext hS1.ext) (hAp.ext hS1.ext)))
  (refine jjV [0, 1, 2, 3, 4, 5, 6] ?_ ?_ ?_; (decide +kernel); (exact s1); (((apply jjT; exact rfl; rintro w' ⟨q0, q1, q2, q3⟩; apply jI; exact eS rfl; refine jz ?_; exact ⟨rfl, rfl⟩; apply jjT; exact rfl; rintro w' ⟨q0, q1, q2, q3⟩; refine jO rfl rfl rfl rfl ?_; refine jz ?_; exact ⟨rfl, rfl⟩; apply jjT; exact rfl; rintro w' ⟨q0, q1, q2, q3⟩; refine jO rfl rfl rfl rfl ?_; refine jz ?_; exact ⟨rfl, rfl⟩; apply jjT; exact rfl; rintro w' ⟨q0, q1, q2, q3⟩; apply jI; exact eS rfl; refine jz ?_; exact ⟨rfl, rfl⟩; apply jjT; exact rfl; rintro w' ⟨q0, q1, q2, q3⟩; apply jI; exact eI rfl; refine jz ?_; exact ⟨rfl, rfl⟩; apply jjT; exact rfl; rintro w' ⟨q0, q1, q2, q3⟩; refine jH _ rfl rfl rfl (by omega) ?_; refine jz ?_; exact ⟨rfl, rfl⟩; apply jjT; exact rfl; rintro w' ⟨q0, q1, q2, q3⟩; refine jQ rfl rfl ?_; refine jz ?_; exact ⟨rfl, rfl⟩; refine jjU ?_))))
  (apply jjW 7; (decide +kernel); exact rfl; (exact s1))
  have j0 : RowI w1 (.slice a cs.length c) true 2 (cs.map encCh) := ⟨hrow.h.ext (hE.trans hS1.ext)⟩
  have j1 : TextI w1 cs := hTV.ext hS1.ext
  refine jjQ (slipM_ref3 a c cs wd side _ hs ps[i] _ (hmf i hil)) rfl rfl ?_
  rintro _ w2 hS2 rfl
  have e2 := hS1.ext.trans hS2.ext
  have s2 := And.intro (hE.trans e2) (And.intro (hb2.ext e2) (And.intro (hb3.ext e2) (hAp.ext e2)))
  refine jz ?_
  (apply jjW 8; (decide +kernel); exact rfl; (exact s2))
  (refine jjP (v := .agg _) rfl (by exact rfl) (by exact rfl) (by exact rfl) (by exact rfl) ?_; intro b10 w_b10 hb_b10 hs_b10 hS_b10 hk_b10; have hR_b10 := RowV.one (agg := true) (k := 6) rfl hk_b10)
  refine jz ?_
  have e10 := e2.trans hS_b10.ext
  have z10 := e10.size
  have s10 := And.intro (hE.trans e10) (And.intro (hb2.ext e10) (And.intro (hb3.ext e10) (hAp.ext e10)))
  have hR1 : RowV w_b10 true 6 (.slice (some ⟨b10, 0, none⟩) 1 1) [encSl (slP (txF cs) side wd ps[i])] := hR_b10
  (apply jjW 9; (decide +kernel); exact rfl; (exact s10))
  refine Ops.appendL (hO.ext e10) (by omega) hR1 rfl rfl rfl rfl (one_sl _) ?_ ?_ ?_
  · rw [List.length_map, List.length_map, List.length_take]; simp only [List.length_cons, List.length_nil]; omega
  · rw [List.length_map, List.length_map, List.length_take]; simp only [List.length_cons, List.length_nil]; omega
  intro sv2 w3 hA hO3 _ hown
  refine jz ?_
  have hE3 : Ext w w3 := hA.ext (hE.trans e10) hE9.size
  have hnb : ∀ b, b < w9.heap.size → (Value.slice va vl vc).ownBlock ≠ some b := fun b h e => by have := (hO.block _ e).1; omega
  have k2 := hA.at_ (hb2.ext e10) (hnb _ (by omega))
  have k3 := hA.at_ (hb3.ext e10) (hnb _ (by omega))
  have s3 := And.intro hE3 (And.intro k2 (And.intro k3 (hA.at_ (hAp.ext e10) (hnb _ hba))))
  obtain ⟨va3, vl3, vc3, rfl⟩ := hO3.slice3
  (apply jjW 10; (decide +kernel); exact rfl; (exact s3))
  (apply jJ; exact eS rfl; refine jz ?_)
  refine jjX (by decide +kernel) s3 ?_
  have zA := hA.g.size
  have hnx : (ps.take i).map (slP (txF cs) side wd) ++ [slP (txF cs) side wd ps[i]] = (ps.take (i + 1)).map (slP (txF cs) side wd) := by rw [take_snoc_get (List.getElem?_eq_getElem hil), List.map_append]; rfl
  rw [← List.map_singleton, ← List.map_append, hnx] at hO3
  have hOa3 := (hOaV.ext e10).app hA (OwnL.ne (hOaV.ext e10) (hO.ext e10) (by decide))
  (refine jjC ?_; apply jI; exact eI rfl; refine jY rfl rfl (by omega) ?_; apply jJ; exact eI rfl; refine jz ?_)
  exact ⟨rfl, by ((refine Same.upd rfl ?_; refine Same.upd rfl ?_; refine Same.upd rfl ?_; refine Same.upd rfl ?_; refine Same.upd rfl ?_; refine Same.upd rfl ?_; refine Same.upd rfl ?_; refine Same.upd rfl ?_; refine Same.upd rfl ?_; refine Same.upd rfl ?_; refine Same.upd rfl ?_; refine Same.upd rfl ?_; refine Same.upd rfl ?_; refine Same.upd rfl ?_; refine Same.upd rfl ?_; refine Same.upd rfl ?_; refine Same.upd rfl ?_; refine Same.upd rfl ?_; refine Same.upd rfl ?_; refine Same.upd rfl ?_; exact Same.ovN)), ps.length - (i + 1), by omega, i + 1, _, congrArg (Value.int .i64) (by omega), rfl, rfl, by omega, hE3, by omega, k2, k3, hOa3, hO3⟩
end
end Go.Proofs.YtpbkphaceljclaaGreatDoor

/- slip: Wrong; the reference: Wrong. -/
namespace Go.Proofs.YtpbkphaceljclaaGreatDoor
open Go.RowKit

section
variable (a : Option Addr) (c : Nat) (cs : List Ch) (wd side : Int) (w : World) [hrow : RowI w (.slice a cs.length c) true 2 (cs.map encCh)] [hT : TextI w cs]
end
end Go.Proofs.YtpbkphaceljclaaGreatDoor

/- Plain law: which places have slips. -/
namespace Go.Proofs.YtpbkphaceljclaaGreatDoor
open Go.RowKit

theorem wsT_at {t : Tx} {k : Nat} (hk : k < t.length) : wsT t k = t[k].2 := by rw [wsT, List.getD_eq_getElem?_getD, List.getElem?_eq_getElem hk, Option.getD_some]
theorem lineT_at {t : Tx} {k n : Nat} {q : Int} (hk : k < t.length) (hn : n < t[k].2.length) : lineT t ((k : Int), (n : Int), q) = some t[k].2[n] := by
  rw [lineT, if_pos ⟨by simp, by simp⟩]
  simp only [Int.toNat_natCast]
  rw [List.getElem?_eq_getElem hk, Option.bind_some, List.getElem?_eq_getElem hn]
theorem placeB_get {t : Tx} {p : Pl} (h : placeB t p = true) : ∃ (k n w : Nat) (hk : k < t.length) (hn : n < t[k].2.length) (hw : w < t[k].2[n].length), p = ((k : Int), (n : Int), (w : Int)) := by
  obtain ⟨l, hl, q, hq, hp⟩ := placeB_line h
  rw [lineT] at hl
  split at hl
  · rename_i hc
    obtain ⟨x, hx, hl⟩ := Option.bind_eq_some_iff.1 hl
    obtain ⟨hk, rfl⟩ := List.getElem?_eq_some_iff.1 hx
    obtain ⟨hn, rfl⟩ := List.getElem?_eq_some_iff.1 hl
    exact ⟨_, _, q, hk, hn, hq, by ext <;> simp <;> omega⟩
  · cases hl
theorem placeB_yes {t : Tx} {k n w : Nat} (hk : k < t.length) (hn : n < t[k].2.length) (hw : w < t[k].2[n].length) : placeB t ((k : Int), (n : Int), (w : Int)) = true := by
  rw [placeB, lineT_at hk hn]
  simp only [inB, Bool.and_eq_true, decide_eq_true_eq]
  omega
theorem wordT_at {t : Tx} {k n w : Nat} (hk : k < t.length) (hn : n < t[k].2.length) (hw : w < t[k].2[n].length) : wordT t ((k : Int), (n : Int), (w : Int)) = t[k].2[n][w] := by
  rw [wordT, lineT_at hk hn, Option.getD_some, Int.toNat_natCast, List.getD_eq_getElem?_getD, List.getElem?_eq_getElem hw, Option.getD_some]
theorem placeB_mem {t : Tx} {p : Pl} : placeB t p = true ↔ p ∈ allP t t.length := by
  constructor
  · intro h
    obtain ⟨k, n, w, hk, hn, hw, rfl⟩ := placeB_get h
    refine mem_allP.2 ⟨k, hk, mem_runA.2 ⟨n, w, ?_, ?_, rfl⟩⟩
    · rw [wsT_at hk]; exact hn
    · simp only [wsT_at hk]; exact hw
  · intro h
    obtain ⟨k, hk, hm⟩ := mem_allP.1 h
    obtain ⟨n, w, hn, hw, rfl⟩ := mem_runA.1 hm
    simp only [wsT_at hk] at hn hw
    exact placeB_yes hk hn hw
end Go.Proofs.YtpbkphaceljclaaGreatDoor

/- Plain law: the places of a text are in order; parts of it. -/
namespace Go.Proofs.YtpbkphaceljclaaGreatDoor
open Go.RowKit

theorem lnP_sorted (k n q : Nat) : (lnP k n q).Pairwise fun a b => befP a b = true := by
  unfold lnP
  rw [List.pairwise_map]
  refine List.Pairwise.imp (R := (· < ·)) ?_ List.pairwise_lt_range
  intro a b h
  rw [befP_iff]; simp; omega
theorem runA_sorted (k : Nat) (x : List (List ByteArray)) : (runA k x).Pairwise fun a b => befP a b = true := by
  unfold runA runAn
  rw [List.pairwise_flatMap]
  refine ⟨fun i _ => lnP_sorted _ _ _, ?_⟩
  refine List.Pairwise.imp (R := (· < ·)) ?_ List.pairwise_lt_range
  intro a b h p hp q hq
  simp only [lnP, List.mem_map] at hp hq
  obtain ⟨_, _, rfl⟩ := hp
  obtain ⟨_, _, rfl⟩ := hq
  rw [befP_iff]; simp; omega
theorem allP_sorted (t : Tx) (n : Nat) : (allP t n).Pairwise fun a b => befP a b = true := by
  unfold allP
  rw [List.pairwise_flatMap]
  refine ⟨fun i _ => runA_sorted _ _, ?_⟩
  refine List.Pairwise.imp (R := (· < ·)) ?_ List.pairwise_lt_range
  intro a b h p hp q hq
  have h1 := runA_fst hp
  have h2 := runA_fst hq
  rw [befP_iff]; omega
theorem sorted_nodup {l : List Pl} (h : l.Pairwise fun a b => befP a b = true) : l.Nodup := by
  refine List.Pairwise.imp ?_ h
  intro a b hab e
  subst e; rw [befP_irr] at hab; cases hab
end Go.Proofs.YtpbkphaceljclaaGreatDoor

/- Lists of slips: listed, Twice; of the code and of the reference. -/
namespace Go.Proofs.YtpbkphaceljclaaGreatDoor
open Go.RowKit

/-! ### Twice -/
end Go.Proofs.YtpbkphaceljclaaGreatDoor

/- The reference: listed, Twice. -/
namespace Go.Proofs.YtpbkphaceljclaaGreatDoor
open Go.RowKit

end Go.Proofs.YtpbkphaceljclaaGreatDoor

/- slip: Missing. -/
namespace Go.Proofs.YtpbkphaceljclaaGreatDoor
open Go.RowKit

section
variable (a : Option Addr) (c : Nat) (cs : List Ch) (wd side : Int) (la : Option Addr) (lc : Nat) (ls : List Slp) (w : World) [hrow : RowI w (.slice a cs.length c) true 2 (cs.map encCh)] [hT : TextI w cs] [hgs : At w 0 0 sidesC] [hmx : MxI w] [hl : RowI w (.slice la ls.length lc) true 6 (ls.map encSl)]
end
end Go.Proofs.YtpbkphaceljclaaGreatDoor

/- Plain law: all slips of a text: no one is there twice, none is missing. -/
namespace Go.Proofs.YtpbkphaceljclaaGreatDoor
open Go.RowKit

section
variable {t : Tx} {wd side : Int}
theorem allS_mem {s : Slp} (h : s ∈ allS t side wd) : makeF t side wd s.1 = some s ∧ s.1 ∈ allP t t.length := by
  obtain ⟨p, hp, rfl⟩ := List.mem_map.1 h
  rw [slP_at]
  exact ⟨makeF_mem hp (Nat.le_refl _), hp⟩
theorem allS_right (ht : textB t = true) (hc : cutB wd side = true) {s : Slp} (h : s ∈ allS t side wd) : slipB s = true := (make_right ht hc (allS_mem h).1).1
theorem allS_fst : (allS t side wd).map (·.1) = allP t t.length := by
  rw [allS, List.map_map]
  exact (List.map_congr_left fun p _ => slP_at t side wd p).trans (List.map_id _)
theorem allS_nodup : (allS t side wd).Nodup := by
  have h := sorted_nodup (allP_sorted t t.length)
  rw [← allS_fst (side := side) (wd := wd)] at h
  exact List.Pairwise.imp (fun hne e => hne (by rw [e])) (List.pairwise_map.1 h)
theorem allS_get {i : Nat} (hi : i < (allS t side wd).length) : (allS t side wd)[i].1 = (allP t t.length)[i]'(by rw [allS, List.length_map] at hi; exact hi) := by
  simp [allS, slP_at]
end
end Go.Proofs.YtpbkphaceljclaaGreatDoor

/- Plain law: a valid text has a word. -/
namespace Go.Proofs.YtpbkphaceljclaaGreatDoor
open Go.RowKit

theorem allP_pos {t : Tx} (h : textB t = true) : 0 < (allP t t.length).length := by
  simp only [textB, Bool.and_eq_true, List.all_eq_true] at h
  obtain ⟨⟨h1, h2⟩, _⟩ := h
  have ht : 0 < t.length := by simp only [inB, Bool.and_eq_true, decide_eq_true_eq] at h1; omega
  have hc := h2 t[0] (List.getElem_mem ht)
  simp only [chapB, Bool.and_eq_true, List.all_eq_true] at hc
  obtain ⟨⟨_, h3⟩, h4⟩ := hc
  have hl : 0 < t[0].2.length := by simp only [inB, Bool.and_eq_true, decide_eq_true_eq] at h3; omega
  have hy := h4 t[0].2[0] (List.getElem_mem hl)
  simp only [lineB, Bool.and_eq_true] at hy
  have hw : 0 < t[0].2[0].length := by have := hy.1; simp only [inB, Bool.and_eq_true, decide_eq_true_eq] at this; omega
  exact List.length_pos_of_mem (placeB_mem.1 (placeB_yes ht hl hw))
theorem allS_lenP (t : Tx) (side wd : Int) : (allS t side wd).length = (allP t t.length).length := by rw [allS, List.length_map]
end Go.Proofs.YtpbkphaceljclaaGreatDoor

/- Plain law: the word of a slip is the word of its place; what all slips are. -/
namespace Go.Proofs.YtpbkphaceljclaaGreatDoor
open Go.RowKit

theorem make_word {t : Tx} {side W : Int} {p : Pl} {s : Slp} (h : makeF t side W p = some s) : wordT t p = s.2.1 := by
  obtain ⟨k, i, hk, hi, rfl⟩ := makeF_some h
  have hil : i < (wsT t k).flatten.length := by
    have := (List.getElem?_eq_some_iff.1 hi).1
    rwa [runA_len] at this
  have hz : ((runA k (wsT t k)).zip (wsT t k).flatten)[i]? = some (p, (wsT t k).flatten[i]) := by
    rw [List.getElem?_zip_eq_some]
    exact ⟨hi, List.getElem?_eq_getElem hil⟩
  have hm : (p, (wsT t k).flatten[i]) ∈ allW t t.length := List.mem_flatMap.2 ⟨k, List.mem_range.2 hk, List.mem_of_getElem? hz⟩
  obtain ⟨j, hj⟩ := List.mem_iff_getElem?.1 hm
  obtain ⟨k', n, w, hk', hn, hw, hp, hs⟩ := allW_word hj
  show wordT t p = (wsT t k).flatten.getD i ⟨#[]⟩
  rw [hp, wordT_at hk' hn hw, List.getD_eq_getElem?_getD, List.getElem?_eq_getElem hil, Option.getD_some, hs]
/-- The slips of a text, said once. -/
structure AllF (t : Tx) (wd side : Int) (l : List Slp) : Prop where
  eq : allS t side wd = l
  len : l.length ≤ 600
  pos : 0 < l.length
  nd : l.Nodup
  at_ : ∀ (i : Nat) (hi : i < l.length), (allP t t.length)[i]? = some l[i].1
  wd_ : ∀ (i : Nat) (hi : i < l.length), placeB t l[i].1 = true ∧ wordT t l[i].1 = l[i].2.1
  mk_ : ∀ (i : Nat) (hi : i < l.length), makeF t side wd l[i].1 = some l[i]
  rt : ∀ x ∈ l, slipB x = true
theorem allF {t : Tx} {wd side : Int} (ht : textB t = true) (hc : cutB wd side = true) : AllF t wd side (allS t side wd) where
  eq := rfl
  len := allS_len ht
  pos := by rw [allS_lenP]; exact allP_pos ht
  nd := allS_nodup
  at_ i hi := by
    have hi' : i < (allP t t.length).length := by rwa [allS_lenP] at hi
    rw [List.getElem?_eq_getElem hi', allS_get hi]
  wd_ i hi := by
    have h := allS_mem (List.getElem_mem hi)
    exact ⟨placeB_mem.2 h.2, make_word h.1⟩
  mk_ i hi := (allS_mem (List.getElem_mem hi)).1
  rt x hx := allS_right ht hc hx
end Go.Proofs.YtpbkphaceljclaaGreatDoor

/- Plain law: the galley of a text. -/
namespace Go.Proofs.YtpbkphaceljclaaGreatDoor
open Go.RowKit

/-- How many slips have a word. -/
def cN (ls : List Slp) (w : ByteArray) : Nat := ls.countP fun s => decide (s.2.1 = w)
theorem cN_snoc {ls : List Slp} {k : Nat} {s : Slp} (h : ls[k]? = some s) (w : ByteArray) : cN (ls.take (k + 1)) w = cN (ls.take k) w + if s.2.1 = w then 1 else 0 := by
  rw [List.take_add_one, h, cN, List.countP_append, ← cN]
  by_cases e : s.2.1 = w <;> simp [e]
theorem cN_le (ls : List Slp) (w : ByteArray) : cN ls w ≤ ls.length := List.countP_le_length
def blkL (ls : List Slp) (ws : List ByteArray) : List Blk := ws.map fun w => (w, 1 + (cN ls w : Int))
theorem blkL_snoc {ls : List Slp} {ws : List ByteArray} {k : Nat} {s : ByteArray} (h : ws[k]? = some s) : blkL ls (ws.take (k + 1)) = blkL ls (ws.take k) ++ [(s, 1 + (cN ls s : Int))] := by
  rw [blkL, List.take_add_one, h, List.map_append, ← blkL]; rfl
theorem blkL_len (ls : List Slp) (ws : List ByteArray) : (blkL ls ws).length = ws.length := List.length_map _
/-- The galley of a text, or the error. -/
noncomputable def setR (t : Tx) (wd side h : Int) : (Int × List Blk) × Int :=
  if askE t wd side ≠ 0 then ((0, []), askE t wd side) else if inB 4 40 h = false then ((0, []), 2)
  else if galleyB h (blkL (allS t side wd) (vocL (wsOf t))) then ((h, blkL (allS t side wd) (vocL (wsOf t))), 0) else ((0, []), 4)
theorem setR_ask {t : Tx} {wd side h : Int} (h1 : askE t wd side ≠ 0) : setR t wd side h = ((0, []), askE t wd side) := by rw [setR, if_pos h1]
theorem setR_high {t : Tx} {wd side h : Int} (h1 : askE t wd side = 0) (h2 : inB 4 40 h = false) : setR t wd side h = ((0, []), 2) := by rw [setR, if_neg (by simp [h1]), if_pos h2]
theorem setR_no {t : Tx} {wd side h : Int} (h1 : askE t wd side = 0) (h2 : inB 4 40 h = true) (h3 : galleyB h (blkL (allS t side wd) (vocL (wsOf t))) = false) : setR t wd side h = ((0, []), 4) := by rw [setR, if_neg (by simp [h1]), if_neg (by simp [h2]), h3]; rfl
theorem setR_yes {t : Tx} {wd side h : Int} (h1 : askE t wd side = 0) (h2 : inB 4 40 h = true) (h3 : galleyB h (blkL (allS t side wd) (vocL (wsOf t))) = true) : setR t wd side h = ((h, blkL (allS t side wd) (vocL (wsOf t))), 0) := by rw [setR, if_neg (by simp [h1]), if_neg (by simp [h2]), h3]; rfl
theorem ws_word {t : Tx} (h : textB t = true) {s : ByteArray} (hs : s ∈ wsOf t) : wordB s = true := by
  obtain ⟨x, hx, rfl⟩ := List.mem_map.1 hs
  obtain ⟨k, hk, hz⟩ := List.mem_flatMap.1 hx
  exact word_valid h (List.mem_range.1 hk) (List.of_mem_zip hz).2
theorem voc_word {t : Tx} (h : textB t = true) {s : ByteArray} (hs : s ∈ vocL (wsOf t)) : wordB s = true := ws_word h (((vocL_facts _).2 s).1 hs)
theorem voc_pos {t : Tx} (h : textB t = true) : 0 < (vocL (wsOf t)).length := by
  have hpos := allP_pos h
  rw [← allW_len] at hpos
  have hm : (wsOf t)[0]'(by rw [wsOf, List.length_map]; exact hpos) ∈ vocL (wsOf t) := ((vocL_facts _).2 _).2 (List.getElem_mem _)
  exact List.length_pos_of_mem hm
theorem insV_len (w : ByteArray) : ∀ l : List ByteArray, (insV w l).length ≤ l.length + 1
  | [] => by simp [insV]
  | x :: l => by
    have := insV_len w l
    unfold insV
    repeat' split
    all_goals simp <;> omega
theorem voc_len (ws : List ByteArray) : (vocL ws).length ≤ ws.length := by
  have h : ∀ (ws l : List ByteArray), (ws.foldl (fun l w => insV w l) l).length ≤ l.length + ws.length := fun ws => by
    induction ws with
    | nil => intro l; simp
    | cons w ws ih =>
      intro l
      have h1 := ih (insV w l)
      have h2 := insV_len w l
      simp only [List.foldl_cons, List.length_cons]
      omega
  simpa [vocL] using h ws []
/-- What is asked of it. -/
theorem galley_fit {ls : List Slp} {ws : List ByteArray} {h : Int} (h1 : inB 4 40 h = true) (h2 : ∀ w ∈ ws, wordB w = true) (h3 : 0 < ws.length) : galleyB h (blkL ls ws) = (decide (ws.length ≤ 30) && ws.all fun w => decide (cN ls w ≤ 19)) := by
  rw [galleyB, h1, Bool.true_and, blkL_len]
  congr 1
  · rw [inB, decide_eq_decide]; omega
  · rw [Bool.eq_iff_iff, List.all_eq_true, List.all_eq_true]
    constructor
    · intro hb w hw
      have := hb (w, 1 + (cN ls w : Int)) (List.mem_map.2 ⟨w, hw, rfl⟩)
      simp only [blockB, Bool.and_eq_true, inB, decide_eq_true_eq] at this
      exact decide_eq_true (by omega)
    · intro ha b hb
      obtain ⟨w, hw, rfl⟩ := List.mem_map.1 hb
      have := of_decide_eq_true (ha w hw)
      simp only [blockB, h2 w hw, inB, Bool.true_and]
      exact decide_eq_true (by omega)
end Go.Proofs.YtpbkphaceljclaaGreatDoor

/- slices.AppendSeq, slices.Collect of texts, out of an iterator that writes a block of its own. -/
namespace Go.Proofs.YtpbkphaceljclaaGreatDoor
open Go.RowKit

theorem str_one (s : ByteArray) : ([s].map strV).all (fun v => v.cells.toList.all (·.oneCell')) = true := rfl
set_option maxHeartbeats 2000000 in
theorem AppendSeq_strH (xs : List ByteArray) (gf kb : Nat) (lb : List Value) (Fct I : World → Prop) (w : World) (hit : IterH Tryz.prog gf lb xs (fun s => [.string s]) kb Fct I) [he : Enters Tryz.prog gf] (hkb : kb < w.heap.size) (hkd : KbD kb w) (hF : ∀ V, Only kb w V → Fct V) (hI : ∀ V, Ext w V → I V) (hlen : xs.length ≤ 1000000) :
    Calls Tryz.prog 137 [.slice none 0 0, .func (.func gf) #[] lb.toArray].toArray w fun e w' => ∃ v, e = .returned v ∧ Only kb w w' ∧ OwnL w' w.heap.size 9 false 1 v (xs.map strV) := by
  refine Calls.ofWM (by simp) ?_
  (refine jjB ?_; refine jjC ?_)
  (refine jy rfl ?_; intro b2 w_b2 hb_b2 hs_b2 hS_b2 hk_b2; have hA_b2 := At.ofBlock hk_b2)
  have hBk := Bk.of (cs := [.slice none 0 0]) hk_b2
  (apply jJ; exact eS rfl; refine jz ?_; refine jjB ?_; refine jjB ?_; refine jjC ?_; apply jI; exact eF rfl; refine jz ?_; refine jjD ?_)
  have hsz := hS_b2.size
  have hbk : b2 ≠ kb := by omega
  refine W.rangeH w.heap.size kb xs (fun s => [.string s]) hit (by omega) rfl (fun _ => rfl) trivial inferInstance hsz
    (fun i V => Only kb w V ∧ KbD kb V ∧ w_b2.heap.size ≤ V.heap.size ∧ ∃ v, Bk V b2 [v] 53 ∧ OwnL V w_b2.heap.size 9 false 1 v ((xs.take i).map strV))
    (fun _ _ _ => False) ?hJ (fun _ _ _ _ h _ => h) (fun i V h => hF V h.1) (fun V e => hI V (hS_b2.ext.trans e)) (fun i V h => h.2.1) (fun _ _ _ h => h.elim) ⟨.ofExt hS_b2.ext, let ⟨o, h1, h2⟩ := hkd; ⟨o, hS_b2.ext.block' h1, h2⟩, Nat.le_refl _, _, hBk, OwnL.nil _ _ _ _ _⟩
    (MOb b2) ?hM1 ?hM2 (fun x s' V => s' 2 = .pointer (some ⟨b2, 0, none⟩) ∧ s' 5 = .string x) (fun x s V V' h g => h) ?hassign ?hbody ?hdone (fun _ _ _ _ _ _ h => h.elim)
  case hJ =>
    rintro i V V' ⟨h1, h2, h3, v, h4, h5⟩ g
    exact ⟨h1.growB g hsz, g.kd h2, Nat.le_trans h3 g.size, v, h4.growB g hbk, h5.growB g fun e => by have := (h5.block _ e).1; omega⟩
  case hM1 => exact fun i V k ⟨h1, h2, h3, v, h4, h5⟩ h => MOb.lt h4 h5 hbk (by omega) h
  case hM2 => exact fun i V V' k ⟨h1, h2, h3, v, h4, h5⟩ g h => MOb.back h4 g hbk h
  case hassign =>
    rintro l i x V hx h hl hr
    (refine jjC ?_; apply jJ; exact eT rfl; refine jz ?_)
    exact ⟨rfl, Tr.refl _, Fr.refl _ _, h, rfl, rfl⟩
  case hbody =>
    rintro l i x s' V hx ⟨h1, h2, h3, v, h4, h5⟩ ⟨ha2, ha5⟩ hl hr
    have hlt := (List.getElem?_eq_some_iff.1 hx).1
    refine W.fix (d := 2) ha2 (W.fix (d := 5) ha5 ?_)
    (refine jjD ?_; refine jjC ?_; refine jN rfl rfl rfl ?_; apply jI; exact eT rfl)
    (refine jjP (v := .string _) rfl (by exact rfl) (by exact rfl) (by exact rfl) (by exact rfl) ?_; intro b10 w_b10 hb_b10 hs_b10 hS_b10 hk_b10; have hR_b10 := RowV.one (agg := false) (k := 1) rfl hk_b10)
    have e10 := hS_b10.ext
    have hz10 := e10.size
    have hR1 : RowV w_b10 false 1 (.slice (some ⟨b10, 0, none⟩) 1 1) ([x].map strV) := hR_b10
    refine Ops.appendL (h5.ext e10) (by omega) hR1 rfl rfl rfl rfl (str_one x) (by simp; omega) (by simp; omega) ?_
    intro v2 V2 hA hO _ hown2
    obtain ⟨a2, c2, rfl⟩ := hO.slice
    have hb2 : ∀ g, v.ownBlock = some g → w_b2.heap.size ≤ g := fun g hg => (h5.block g hg).1
    have hne : v.ownBlock ≠ some b2 := fun e => by have := hb2 b2 e; omega
    have hnk : v.ownBlock ≠ some kb := fun e => by have := hb2 kb e; omega
    have hB2 : Bk V2 b2 [v] 53 := hA.bk (h4.ext e10) hne
    skip
    refine Ops.store rfl rfl rfl rfl rfl ?_
    intro V3 hp3
    (refine jz ?_)
    have hB3 : Bk V3 b2 [.slice a2 (List.map strV (xs.take i) ++ List.map strV [x]).length c2] 53 := ⟨hp3.new⟩
    have hne2 : (Value.slice a2 (List.map strV (xs.take i) ++ List.map strV [x]).length c2).ownBlock ≠ some b2 := fun e => by rcases hown2 with h | h <;> rw [h] at e; exact hne e; cases e; omega
    have hkV : KbD kb V3 := by
      obtain ⟨o, q1, q2⟩ := h2
      exact ⟨o, (hp3.other kb (fun e => hbk e.symm)).trans (hA.other (e10.block' q1) hnk), q2⟩
    refine ⟨(e10.tr.trans hA.tr).trans (hp3.tr ⟨_, hB2.h, rfl⟩), (Fr.ofExt e10 fun k hk => .inl (MOb.same h4 (h4.ext e10) hk)).trans (MOb.append (h4.ext e10) hA hp3 hB3 hown2), ?_, hkV, ?_, _, hB3, ?_⟩
    · have hO1 : Only kb w_b2 V3 → Only kb w V3 := fun h => (Only.ofExt hS_b2.ext).trans h
      refine ⟨hp3.os.trans (hA.g.os.trans (e10.b.os.trans h1.os)), hp3.tape.trans (hA.g.tape.trans (e10.b.tape.trans h1.tape)), hp3.output.trans (hA.g.output.trans (e10.b.output.trans h1.output)), ?_, fun k hk hn => ?_⟩
      · have := hA.g.size; have := h1.size; rw [hp3.size]; omega
      · have hkV' : k < V.heap.size := by have := h1.size; omega
        refine (hp3.other k (by omega)).trans ((hA.g.block k (by omega) (fun e => by have := hb2 k e.symm; omega)).trans ((e10.block hkV').trans (h1.other k hk hn)))
    · have := hA.g.size; rw [hp3.size]; omega
    · rw [take_snoc_get hx, List.map_append]
      exact hO.put hp3 hne2
  case hdone =>
    rintro ds' V hmk ⟨h1, h2, h3, v, h4, h5⟩
    have := h4
    (refine jjB ?_; refine jjC ?_; refine jN rfl rfl rfl ?_; apply jJ; exact rfl; refine jz ?_; refine jjF ?_)
    refine fin1M rfl rfl hmk fun w' g => ⟨_, rfl, h1.growB (g.toB (kb := kb)) (Nat.le_refl _), ?_⟩
    rw [List.take_length] at h5
    exact (h5.grow g).mono hsz
theorem Collect_strH (xs : List ByteArray) (gf kb : Nat) (lb : List Value) (Fct I : World → Prop) (w : World) (hit : IterH Tryz.prog gf lb xs (fun s => [.string s]) kb Fct I) [he : Enters Tryz.prog gf] (hkb : kb < w.heap.size) (hkd : KbD kb w) (hF : ∀ V, Only kb w V → Fct V) (hI : ∀ V, Ext w V → I V) (hlen : xs.length ≤ 1000000) :
    Calls Tryz.prog 122 [.func (.func gf) #[] lb.toArray].toArray w fun e w' => ∃ v, e = .returned v ∧ Only kb w w' ∧ OwnL w' w.heap.size 9 false 1 v (xs.map strV) := by
  refine Calls.ofW (by simp) ?_
  (refine jjB ?_; refine jjC ?_; apply jJ; exact eS rfl; refine jz ?_; refine jjB ?_; refine jjC ?_; apply jI; exact eF rfl)
  refine Ops.callR rfl (Enters.h (P := Tryz.prog) (g := 137)) rfl (AppendSeq_strH xs gf kb lb Fct I w hit hkb hkd hF hI hlen) ?_
  rintro e w' ⟨v, rfl, hO, hL⟩
  refine ⟨v, rfl, ?_⟩
  (apply jJ; exact rfl; refine jz ?_; refine jjF ?_)
  refine jB rfl rfl ⟨_, rfl, hO, hL⟩
end Go.Proofs.YtpbkphaceljclaaGreatDoor

/- slices.SortFunc of texts by cmp.Compare: the contract of the library's shelf at this program. -/
namespace Go.Proofs.YtpbkphaceljclaaGreatDoor
open Go.Shelf Go.RowKit Go.Lib Go.Sort
def sh_laysSlF6_f123_ren : Go.Shelf.Ren := ⟨fun | 6 => 123 | 15 => 139 | 14 => 138 | 28 => 158 | 29 => 159 | 20 => 150 | 21 => 151 | 22 => 152 | 23 => 153 | 24 => 154 | 25 => 155 | 26 => 156 | 27 => 157 | 46 => 169 | 47 => 170 | 48 => 171 | 49 => 172 | 50 => 173 | 57 => 179 | n => n, fun | 22 => 53 | 24 => 9 | 25 => 129 | 3 => 3 | 39 => 207 | 0 => 0 | 53 => 227 | 55 => 229 | 4 => 4 | 46 => 220 | 45 => 219 | 50 => 224 | 5 => 5 | 9 => 9 | 66 => 239 | 70 => 243 | 76 => 246 | 77 => 247 | n => n, fun | n => n⟩

theorem sh_laysSlF6_f123 : Go.Proofs.SlLaysF.n6 Tryz.prog sh_laysSlF6_f123_ren := {
  mixed := by kernel_rfl
  f6 := ⟨Tryz.f123.name, by decide, Tryz.func123.trans (congrArg some (by kernel_rfl))⟩
  f14 := ⟨Tryz.f138.name, by decide, Tryz.func138.trans (congrArg some (by kernel_rfl))⟩
  f15 := Tryz.func139.trans (congrArg some (by kernel_rfl))
  f20 := ⟨Tryz.f150.name, by decide, Tryz.func150.trans (congrArg some (by kernel_rfl))⟩
  f21 := ⟨Tryz.f151.name, by decide, Tryz.func151.trans (congrArg some (by kernel_rfl))⟩
  f22 := ⟨Tryz.f152.name, by decide, Tryz.func152.trans (congrArg some (by kernel_rfl))⟩
  f23 := ⟨Tryz.f153.name, by decide, Tryz.func153.trans (congrArg some (by kernel_rfl))⟩
  f24 := ⟨Tryz.f154.name, by decide, Tryz.func154.trans (congrArg some (by kernel_rfl))⟩
  f25 := ⟨Tryz.f155.name, by decide, Tryz.func155.trans (congrArg some (by kernel_rfl))⟩
  f26 := ⟨Tryz.f156.name, by decide, Tryz.func156.trans (congrArg some (by kernel_rfl))⟩
  f27 := ⟨Tryz.f157.name, by decide, Tryz.func157.trans (congrArg some (by kernel_rfl))⟩
  f28 := Tryz.func158.trans (congrArg some (by kernel_rfl))
  f29 := Tryz.func159.trans (congrArg some (by kernel_rfl))
  f46 := ⟨Tryz.f169.name, by decide, Tryz.func169.trans (congrArg some (by kernel_rfl))⟩
  f47 := Tryz.func170.trans (congrArg some (by kernel_rfl))
  f48 := Tryz.func171.trans (congrArg some (by kernel_rfl))
  f49 := ⟨Tryz.f172.name, by decide, Tryz.func172.trans (congrArg some (by kernel_rfl))⟩
  f50 := ⟨Tryz.f173.name, by decide, Tryz.func173.trans (congrArg some (by kernel_rfl))⟩
  f57 := ⟨Tryz.f179.name, by decide, Tryz.func179.trans (congrArg some (by kernel_rfl))⟩
  t0 := Tryz.underlying0
  a0 := Tryz.isAgg0
  z0 := Tryz.sizeOf0
  v0 := Tryz.zeroValue0
  t3 := Tryz.underlying3
  a3 := Tryz.isAgg3
  z3 := Tryz.sizeOf3
  v3 := Tryz.zeroValue3
  t4 := Tryz.underlying4
  a4 := Tryz.isAgg4
  z4 := Tryz.sizeOf4
  v4 := Tryz.zeroValue4
  t5 := Tryz.underlying5
  a5 := Tryz.isAgg5
  z5 := Tryz.sizeOf5
  v5 := Tryz.zeroValue5
  t9 := Tryz.underlying9
  a9 := Tryz.isAgg9
  z9 := Tryz.sizeOf9
  v9 := Tryz.zeroValue9
  t22 := Tryz.underlying53
  a22 := Tryz.isAgg53
  z22 := Tryz.sizeOf53
  v22 := Tryz.zeroValue53
  a24 := Tryz.isAgg9
  z24 := Tryz.sizeOf9
  t25 := Tryz.underlying129
  a25 := Tryz.isAgg129
  z25 := Tryz.sizeOf129
  v25 := Tryz.zeroValue129
  t39 := Tryz.underlying207
  a39 := Tryz.isAgg207
  z39 := Tryz.sizeOf207
  v39 := Tryz.zeroValue207
  t45 := Tryz.underlying219
  a45 := Tryz.isAgg219
  z45 := Tryz.sizeOf219
  v45 := Tryz.zeroValue219
  t46 := Tryz.underlying220
  a46 := Tryz.isAgg220
  z46 := Tryz.sizeOf220
  v46 := Tryz.zeroValue220
  t50 := Tryz.underlying224
  a50 := Tryz.isAgg224
  z50 := Tryz.sizeOf224
  v50 := Tryz.zeroValue224
  t53 := Tryz.underlying227
  a53 := Tryz.isAgg227
  z53 := Tryz.sizeOf227
  v53 := Tryz.zeroValue227
  t55 := Tryz.underlying229
  a55 := Tryz.isAgg229
  z55 := Tryz.sizeOf229
  v55 := Tryz.zeroValue229
  t66 := Tryz.underlying239
  a66 := Tryz.isAgg239
  z66 := Tryz.sizeOf239
  v66 := Tryz.zeroValue239
  t70 := Tryz.underlying243
  a70 := Tryz.isAgg243
  z70 := Tryz.sizeOf243
  v70 := Tryz.zeroValue243
  t76 := Tryz.underlying246
  a76 := Tryz.isAgg246
  z76 := Tryz.sizeOf246
  v76 := Tryz.zeroValue246
  t77 := Tryz.underlying247
  a77 := Tryz.isAgg247
  z77 := Tryz.sizeOf247
  v77 := Tryz.zeroValue247 }

theorem sh_slices_SortFunc {α : Type} [Inhabited α] (enc : α → Value) (h1 : OneCell enc) (cf : α → α → Int) (hO : SWO (ltOf cf)) (g : Nat) (cb : Array Value) (blk off cap : Nat) (d : Array α) (w : World) (eg : ∀ args w, (callFunc g args).run Tryz.prog w = .ok (.enter g args) w) (hcmp : CmpLays1 Tryz.prog g cb enc cf blk off d.size w) (hH : Holds enc w blk off d) (hblk : blk < w.heap.size) (hsz : d.size < 4611686018427387904) :
    Calls Tryz.prog 123 #[.slice (some ⟨blk, off, none⟩) d.size cap, .func (.func g) #[] cb] w fun e w' =>
      e = .returned (.tuple #[]) ∧ ∃ d' n os, PermIn 0 d.size d d' ∧ SortedIn (ltOf cf) 0 d.size d' ∧ w' = sortWorld enc w blk off n d' os := Any.slices_SortFunc sh_laysSlF6_f123 enc h1 cf hO g cb blk off cap d w eg hcmp hH hblk hsz
theorem isNaN_strX (x : ByteArray) (w : World) : Calls Tryz.prog 95 [Value.string x].toArray w fun e w' => e = .returned (.bool false) ∧ w' = w := by
  refine Calls.ofW (by simp) ?_
  (refine jjB ?_; refine jjC ?_; apply jJ; exact eB rfl; refine jz ?_; refine jjB ?_; refine jjC ?_; apply jI; exact eT rfl; apply jI; exact eT rfl)
  refine Ops.neqS rfl rfl ?_
  (apply jJ; exact eB rfl; refine jz ?_; refine jjF ?_)
  exact jB rfl rfl ⟨congrArg Ending.returned (congrArg Value.bool (by simp)), rfl⟩
theorem Compare_strX (x y : ByteArray) (w : World) : Calls Tryz.prog 63 [Value.string x, Value.string y].toArray w fun e w' => e = .returned (.int .i64 (cmpS x y)) ∧ w' = w := by
  refine Calls.ofW (by simp) ?_
  (refine jjB ?_; refine jjC ?_; apply jJ; exact eI rfl; refine jz ?_; refine jjB ?_; refine jjC ?_; apply jI; exact eT rfl)
  refine Ops.callR rfl (Enters.h (P := Tryz.prog) (g := 95)) rfl (isNaN_strX x _) ?_
  rintro e w2 ⟨rfl, rfl⟩
  refine ⟨_, rfl, ?_⟩
  (apply jJ; exact eB rfl; refine jz ?_; refine jjB ?_; refine jjC ?_; apply jI; exact eT rfl)
  refine Ops.callR rfl (Enters.h (P := Tryz.prog) (g := 95)) rfl (isNaN_strX y _) ?_
  rintro e w3 ⟨rfl, rfl⟩
  refine ⟨_, rfl, ?_⟩
  (apply jJ; exact eB rfl; refine jz ?_; refine jjB ?_; refine jjB ?_; refine jjC ?_; apply jI; exact eB rfl; refine jz ?_; refine jjK rfl ?_; refine jjG ?_; refine jjB ?_; refine jjB ?_; refine jjC ?_; apply jI; exact eB rfl; refine jz ?_; refine jjK rfl ?_; refine jjG ?_; refine jjB ?_; refine jjB ?_; refine jjC ?_; apply jI; exact eT rfl; apply jI; exact eT rfl)
  refine Ops.lssS rfl rfl ?_
  obtain ⟨B, hB⟩ : ∃ B, Op.bytesLess x.toList y.toList = B := ⟨_, rfl⟩
  rw [cmpS, hB]
  cases B
  · (refine jz ?_; refine jjK rfl ?_; refine jjG ?_; refine jjB ?_; refine jjB ?_; refine jjC ?_; apply jI; exact eT rfl; apply jI; exact eT rfl)
    refine Ops.gtrS rfl rfl ?_
    rw [hB, beqS, Bool.false_or]
    by_cases e : x = y
    · rw [decide_eq_true e, if_pos e]
      (refine jz ?_; refine jjK rfl ?_; refine jjG ?_; refine jjB ?_; refine jjC ?_; apply jJ; exact eI rfl; refine jz ?_; refine jjF ?_)
      exact jB rfl rfl ⟨rfl, rfl⟩
    · rw [decide_eq_false e, if_neg e]
      (refine jz ?_; refine jjJ rfl ?_; refine jjB ?_; refine jjC ?_; apply jJ; exact eI rfl; refine jz ?_; refine jjF ?_)
      exact jB rfl rfl ⟨rfl, rfl⟩
  · (refine jz ?_; refine jjJ rfl ?_; refine jjB ?_; refine jjC ?_; apply jJ; exact eI rfl; refine jz ?_; refine jjF ?_)
    exact jB rfl rfl ⟨rfl, rfl⟩
theorem swo_str : SWO (ltOf cmpS) where
  irrefl x := by rw [ltOf, cmpS_self]; rfl
  trans x y z h1 h2 := by
    simp only [ltOf, decide_eq_true_eq] at h1 h2 ⊢
    have r1 := ord_cmpS.r x y
    have r2 := ord_cmpS.r y z
    have := ord_cmpS.tr x y z (by omega) (by omega)
    omega
  ntrans x y z h1 h2 := by
    simp only [ltOf, decide_eq_false_iff_not] at h1 h2 ⊢
    intro h3
    have r1 := ord_cmpS.r x y
    have r3 := ord_cmpS.r x z
    have a1 := ord_cmpS.anti x y
    by_cases e : cmpS x y = 0
    · obtain rfl := (ord_cmpS.z _ _).1 e
      omega
    · have := ord_cmpS.tr y x z (by omega) (by omega)
      omega
theorem Only.sorted {α : Type} [Inhabited α] {enc : α → Value} {w : World} {g m : Nat} {d : Array α} {os : Array Obj} : Only g w (sortWorld enc w g 0 m d os) := by
  refine ⟨rfl, rfl, rfl, by simp [sortWorld, grow, putRow, mapBlock, Go.Sort.ahead], fun k hk hn => ?_⟩
  have h1 : k < (putRow enc (Go.Sort.ahead w m) g 0 d).heap.size := by simpa [putRow, mapBlock, Go.Sort.ahead] using hk
  rw [sortWorld, heap_grow_old _ _ h1]
  simp only [putRow, mapBlock, Go.Sort.ahead, Array.getElem?_modify]
  rw [if_neg (fun e => hn e.symm)]
set_option maxHeartbeats 1000000 in
theorem SortFunc_str (g n c : Nat) (l : List ByteArray) (w : World) {B : Nat} (hO : OwnL w B 9 false 1 (.slice (some ⟨g, 0, none⟩) n c) (l.map strV)) (hn : n ≤ 1000000) :
    Calls Tryz.prog 123 [.slice (some ⟨g, 0, none⟩) n c, .func (.func 63) #[] #[]].toArray w fun e w' => (∃ v, e = .returned v) ∧ Only g w w' ∧ ∃ r : List ByteArray, r.Perm l ∧ r.Pairwise (fun a b => cmpS b a ≠ -1) ∧ OwnL w' g 9 false 1 (.slice (some ⟨g, 0, none⟩) n c) (r.map strV) := by
  obtain ⟨cs, hB, hcl, hnc, hcm, hln, htk, hBg⟩ := hO.cells
  rw [List.length_map] at hln
  have hsz : l.toArray.size = n := by simpa using hln
  have hcell : ∀ j, j < n → ∃ (h : j < l.length), cs[j]? = some (strV l[j]) := fun j hj => by
    have h1 : j < l.length := by omega
    refine ⟨h1, ?_⟩
    have h2 : (cs.take n)[j]? = some (strV l[j]) := by rw [htk, List.getElem?_map, List.getElem?_eq_getElem h1]; rfl
    rwa [List.getElem?_take, if_pos hj] at h2
  have hH : Holds strV w g 0 l.toArray := fun j hj => by
    rw [hsz] at hj
    obtain ⟨h1, h2⟩ := hcell j hj
    have e1 : l.toArray[j]! = l[j] := by rw [getElem!_pos _ j (by simpa using h1)]; rfl
    rw [e1, Nat.zero_add]
    constructor
    · simp only [World.cell?, hB.h]
      simpa using h2
    · simp [World.frozen?, hB.h]
  have hc := sh_slices_SortFunc strV (fun _ => rfl) cmpS swo_str 63 #[] g 0 c l.toArray w (Enters.h (P := Tryz.prog) (g := 63)) (fun m os dk _ x y => by
    refine (Compare_strX x y _).mono fun e w' ⟨h1, h2⟩ => ⟨h1, 0, #[], ?_⟩
    rw [h2, grow_empty]; rfl) hH hB.lt (by omega)
  rw [hsz] at hc
  refine Calls.mono hc fun e w' ⟨he, d', m, os, hp, hs, hw⟩ => ⟨⟨_, he⟩, by rw [hw]; exact Only.sorted, d'.toList, ?_, ?_, ?_⟩
  · obtain ⟨h1, _, h2⟩ := hp
    have ex : ∀ (x : Array ByteArray), x.size = n → x.extract 0 n = x := fun x hx => by subst hx; simp
    have e1 := ex d' (h1.trans hsz)
    have e2 := ex l.toArray hsz
    rw [e1, e2] at h2
    simpa using h2
  · have h1 : d'.size = n := hp.1.trans hsz
    rw [List.pairwise_iff_getElem]
    intro i j hi hj hij
    have := hs i j (Nat.zero_le _) hij (by simpa [h1] using hj)
    rw [getElem!_pos _ j (by simpa using hj), getElem!_pos _ i (by simpa using hi)] at this
    simp only [ltOf, decide_eq_false_iff_not] at this
    simp only [Array.getElem_toList]
    omega
  · have h1 : d'.size = n := hp.1.trans hsz
    have hBk : Bk w' g (putCells strV 0 d' cs.toArray).toList 9 := by
      refine ⟨?_⟩
      rw [hw, sortWorld, heap_grow_old _ _ (by simpa [putRow, mapBlock, Go.Sort.ahead] using hB.lt)]
      simp [putRow, mapBlock, Go.Sort.ahead, Array.getElem?_modify, hB.h, onCells]
    refine OwnL.ofCells hBk (by simp [putCells, hcl]) hnc hcm ?_ (by omega) (Nat.le_refl _) fun x hx => by obtain ⟨y, _, rfl⟩ := List.mem_map.1 hx; rfl
    apply List.ext_getElem?
    intro j
    rw [List.getElem?_take]
    by_cases hj : j < n
    · rw [if_pos hj]
      have hjc : j < cs.length := by omega
      have hjd : j < d'.size := by omega
      simp [putCells, hjc, h1, hj, getElem!_pos d' j hjd]
    · rw [if_neg hj, List.getElem?_eq_none (by simp; omega)]
end Go.Proofs.YtpbkphaceljclaaGreatDoor

/- leaf: Vocabulary. -/
namespace Go.Proofs.YtpbkphaceljclaaGreatDoor
open Go.RowKit

theorem SortedFunc_strH (xs : List ByteArray) (gf kb : Nat) (lb : List Value) (Fct I : World → Prop) (w : World) (hit : IterH Tryz.prog gf lb xs (fun s => [.string s]) kb Fct I) [he : Enters Tryz.prog gf] (hkb : kb < w.heap.size) (hkd : KbD kb w) (hF : ∀ V, Only kb w V → Fct V) (hI : ∀ V, Ext w V → I V) (hlen : xs.length ≤ 1000000) (h0 : 0 < xs.length) :
    Calls Tryz.prog 94 [.func (.func gf) #[] lb.toArray, .func (.func 63) #[] #[]].toArray w fun e w' => ∃ (v : Value) (r : List ByteArray), e = .returned v ∧ Only kb w w' ∧ r.Perm xs ∧ r.Pairwise (fun a b => cmpS b a ≠ -1) ∧ OwnL w' w.heap.size 9 false 1 v (r.map strV) := by
  refine Calls.ofW (by simp) ?_
  (refine jjB ?_; refine jjC ?_; apply jJ; exact eS rfl; refine jz ?_; refine jjB ?_; refine jjC ?_; apply jI; exact eF rfl)
  refine Ops.callR rfl (Enters.h (P := Tryz.prog) (g := 122)) rfl (Collect_strH xs gf kb lb Fct I w hit hkb hkd hF hI hlen) ?_
  rintro e w1 ⟨v, rfl, hOn, hO⟩
  obtain ⟨a, c, ev⟩ := hO.slice
  rw [List.length_map] at ev
  subst ev
  obtain ⟨g, rfl, hg, hOg⟩ := hO.self (by rw [List.length_map]; exact h0)
  refine ⟨_, rfl, ?_⟩
  (apply jJ; exact eS rfl; refine jz ?_; refine jjB ?_; refine jjC ?_; apply jI; exact eS rfl; apply jI; exact eF rfl)
  refine Ops.callR rfl (Enters.h (P := Tryz.prog) (g := 123)) rfl (SortFunc_str g xs.length c xs w1 hOg (by omega)) ?_
  rintro e w2 ⟨⟨v2, rfl⟩, hOn2, r, hp, hs, hO2⟩
  refine ⟨_, rfl, ?_⟩
  have hOn3 : Only kb w w2 := ⟨hOn2.os.trans hOn.os, hOn2.tape.trans hOn.tape, hOn2.output.trans hOn.output, Nat.le_trans hOn.size hOn2.size, fun k hk hn => (hOn2.other k (by have := hOn.size; omega) (by omega)).trans (hOn.other k hk hn)⟩
  (refine jz ?_; refine jjB ?_; refine jjC ?_; apply jI; exact eS rfl; apply jJ; exact eS rfl; refine jz ?_; refine jjF ?_)
  exact jB rfl rfl ⟨_, r, rfl, hOn3, hp, hs, hO2.mono hg⟩
theorem sorted_strH (xs : List ByteArray) (gf kb : Nat) (lb : List Value) (Fct I : World → Prop) (w : World) (hit : IterH Tryz.prog gf lb xs (fun s => [.string s]) kb Fct I) [he : Enters Tryz.prog gf] (hkb : kb < w.heap.size) (hkd : KbD kb w) (hF : ∀ V, Only kb w V → Fct V) (hI : ∀ V, Ext w V → I V) (hlen : xs.length ≤ 1000000) (h0 : 0 < xs.length) :
    Calls Tryz.prog 62 [.func (.func gf) #[] lb.toArray, .func (.func 63) #[] #[]].toArray w fun e w' => ∃ (v : Value) (r : List ByteArray), e = .returned v ∧ Only kb w w' ∧ r.Perm xs ∧ r.Pairwise (fun a b => cmpS b a ≠ -1) ∧ OwnL w' w.heap.size 9 false 1 v (r.map strV) := by
  refine Calls.ofW (by simp) ?_
  (refine jjB ?_; refine jjC ?_; apply jJ; exact eS rfl; refine jz ?_; refine jjB ?_; refine jjC ?_; apply jI; exact eF rfl; apply jI; exact eF rfl)
  refine Ops.callR rfl (Enters.h (P := Tryz.prog) (g := 94)) rfl (SortedFunc_strH xs gf kb lb Fct I w hit hkb hkd hF hI hlen h0) ?_
  rintro e w1 ⟨v, r, rfl, hOn, hp, hs, hO⟩
  refine ⟨_, rfl, ?_⟩
  (apply jJ; exact rfl; refine jz ?_; refine jjF ?_)
  exact jB rfl rfl ⟨_, r, rfl, hOn, hp, hs, hO⟩
/-- The words of a text in order, or the error. -/
def vocR (t : Tx) : List ByteArray × Int := if textB t then (vocL (wsOf t), 0) else ([], 10)
section
variable (a : Option Addr) (c : Nat) (cs : List Ch) (w : World) [hrow : RowI w (.slice a cs.length c) true 2 (cs.map encCh)] [hT : TextI w cs]
set_option maxHeartbeats 4000000 in
theorem Vocabulary_leaf (hs : SmallT cs) : Ct Tryz.prog 25 [.agg #[.slice a cs.length c]] w fun v w' => ∃ sv, v = .tuple #[sv, .int .i64 (vocR (txF cs)).2] ∧ OwnL w' w.heap.size 9 false 1 sv ((vocR (txF cs)).1.map strV) := by
  refine Ct.ofW (by simp) ?_
  (refine jjB ?_; refine jjC ?_)
  (refine jy rfl ?_; intro b1 w_b1 hb_b1 hs_b1 hS_b1 hk_b1; have hA_b1 := At.ofBlock hk_b1)
  (apply jJ; exact eS rfl; apply jJ; exact eI rfl; refine jz ?_; refine jjB ?_; refine jjC ?_; refine jO rfl rfl rfl rfl ?_)
  obtain ⟨B, hB⟩ : ∃ B, textB (txF cs) = B := ⟨_, rfl⟩
  refine jjQ ((open_leaf a c cs _ hs).mono fun v _ _ h => by rw [hB] at h; exact h) rfl rfl ?_
  rintro _ w2 hS2 ⟨o, rfl, ho⟩
  rw [vocR, hB]
  cases B with
  | false =>
    (apply jI; exact eU rfl; refine ju rfl rfl ?_; refine ju rfl rfl ?_)
    (apply jjR rfl; (intro _; first|exact eI rfl|exact eB rfl|exact eP rfl|exact eS rfl|exact eT rfl|exact eA rfl|exact eU rfl|exact eF rfl|exact eM rfl|exact eN rfl|exact rfl); exact rfl; exact rfl; exact rfl; exact rfl; intro b4 w_b4 hb_b4 hs_b4 hS_b4 hk_b4; have hA_b4 := Bk.of hk_b4)
    (apply jJ; exact eI rfl; refine jz ?_; refine jjB ?_; refine jjB ?_; refine jjC ?_; apply jI; exact eI rfl; refine jc rfl rfl ?_; refine jz ?_; refine jjJ rfl ?_; refine jjB ?_; refine jjC ?_; apply jI; exact eI rfl; apply jJ; exact eS rfl; apply jJ; exact eI rfl; refine jz ?_; refine jjF ?_; refine jC rfl rfl rfl ⟨inferInstance, ?_⟩)
    exact ⟨_, rfl, OwnL.nil _ _ _ _ _⟩
  | true =>
  obtain ⟨bk, hbk, rfl, hAk⟩ := ho rfl
  rw [if_pos rfl]
  (apply jI; exact eU rfl; refine ju rfl rfl ?_; refine ju rfl rfl ?_)
  (apply jjR rfl; (intro _; first|exact eI rfl|exact eB rfl|exact eP rfl|exact eS rfl|exact eT rfl|exact eA rfl|exact eU rfl|exact eF rfl|exact eM rfl|exact eN rfl|exact rfl); exact rfl; exact rfl; exact rfl; exact rfl; intro b4 w_b4 hb_b4 hs_b4 hS_b4 hk_b4; have hA_b4 := Bk.of hk_b4)
  have hAk4 : At w_b4 bk 0 [.slice a cs.length c] := hAk.ext hS_b4.ext
  (apply jJ; exact eI rfl; refine jz ?_; refine jjB ?_; refine jjB ?_; refine jjC ?_; apply jI; exact eI rfl; refine jc rfl rfl ?_; refine jz ?_; refine jjK rfl ?_; refine jjG ?_; refine jjB ?_; refine jjC ?_; refine jN rfl rfl rfl ?_)
  refine jjQ (index_leaf a c cs _ hs hB bk) rfl rfl ?_
  rintro _ w4 hS4 ⟨mb, m, rfl, hmb, hM, hnd, hO⟩
  skip
  (apply jjR rfl; (intro _; first|exact eI rfl|exact eB rfl|exact eP rfl|exact eS rfl|exact eT rfl|exact eA rfl|exact eU rfl|exact eF rfl|exact eM rfl|exact eN rfl|exact rfl); exact rfl; exact rfl; exact rfl; exact rfl; intro b6 w_b6 hb_b6 hs_b6 hS_b6 hk_b6; have hA_b6 := Bk.of hk_b6)
  (refine jz ?_; refine jjB ?_; refine jjC ?_; refine jv ?_; apply jJ; exact eF rfl; refine jz ?_; refine jjB ?_; refine jjC ?_; apply jI; exact eF rfl)
  have hE6 : Ext w w_b6 := inferInstance
  have z4 := hS_b4.size
  have z6 := hS4.size
  have hMl := hM.lt
  have hM6 : MapE Value.string w_b6 mb m := hM.ext hS_b6.ext
  have hA4 : At w_b6 b4 0 [.pointer (some ⟨bk, 0, none⟩)] := inferInstance
  have hA6 : At w_b6 b6 0 [.map (some mb)] := inferInstance
  have hAk6 : At w_b6 bk 0 [.slice a cs.length c] := inferInstance
  have hwm : w.heap.size ≤ mb := by
    have := (show Ext w w_b4 from inferInstance).size
    omega
  have n4 : b4 ≠ mb := by omega
  have n6 : b6 ≠ mb := by omega
  have hlk := hAk.lt
  have nk : bk ≠ mb := by omega
  have hws : (wsOf (txF cs)).length = (allW (txF cs) (txF cs).length).length := by rw [wsOf, List.length_map]
  have hal := allW_small hB
  have hdl := dstL_len (ws := wsOf (txF cs)) (wsOf (txF cs)).length
  have hd0 : 0 < (dstL (wsOf (txF cs)) (wsOf (txF cs)).length).length := by
    have hpos := allP_pos hB
    rw [← allW_len] at hpos
    obtain ⟨x, hx⟩ : ∃ x, (allW (txF cs) (txF cs).length)[0]? = some x := ⟨_, List.getElem?_eq_getElem hpos⟩
    have := dstL_at (wsOf_get hx) (by simp)
    exact Nat.lt_of_le_of_lt (Nat.zero_le _) (List.getElem?_eq_some_iff.1 this).1
  refine Ops.callR rfl (Enters.h (P := Tryz.prog) (g := 62)) rfl (sorted_strH (dstL (wsOf (txF cs)) (wsOf (txF cs)).length) 60 mb [.pointer (some ⟨b4, 0, none⟩), .pointer (some ⟨b6, 0, none⟩)] _ _ _ (each1_leaf b4 b6 bk mb a c cs hs) (by omega) hM6.loopy (fun V hV => ?hF) (fun V hV => ?hI) (by omega) hd0) ?_
  case hF =>
    have e := hV.ext hE6 hwm
    exact ⟨hV.at_ hA4 n4, hV.at_ hA6 n6, hV.at_ hAk6 nk, hrow.h.ext e, hT.ext e⟩
  case hI =>
    refine ⟨m, hM6.ext hV, hnd, fun s => ?_⟩
    obtain ⟨qa, qc, e⟩ := (hO s).slice
    exact ⟨qa, qc, by rw [e, List.length_map]; rfl⟩
  rintro e w7 ⟨v, r, rfl, hOn, hp, hs', hOr⟩
  refine ⟨_, rfl, ?_⟩
  have hr := voc_sort hp hs'
  rw [hr] at hOr
  obtain ⟨va, vl, vc, rfl⟩ := hOr.slice3
  (apply jJ; exact eS rfl; apply jJ; exact eI rfl; refine jz ?_; refine jjF ?_)
  exact jC rfl rfl rfl ⟨hOn.ext hE6 hwm, _, rfl, hOr.mono hE6.size⟩
end
end Go.Proofs.YtpbkphaceljclaaGreatDoor

/- The proof engine, part 33: ends of slices, told outright; rows beside what is appended. -/
namespace Go.Proofs.YtpbkphaceljclaaGreatDoor
open Go.RowKit

theorem App.row {B : Nat} {w w' : World} {u v : Value} {agg : Bool} {k : Nat} {xs : List Value} (a : App B w w' u) (h : RowV w agg k v xs) (hne : ∀ g, u.ownBlock = some g → v.ownBlock ≠ some g) : RowV w' agg k v xs :=
  ⟨h.len, h.fit, h.at_.imp id fun ⟨b, o, c, hv, hl, hc⟩ => ⟨b, o, c, hv, hl, fun j x hx => a.at_ (hc j x hx) (fun e => hne b e (by rw [hv]; rfl))⟩⟩
section rules
variable {P : Program} {ro : Option Nat} {n : Nat} {all rest : List Oper} {K : Sl → World → Prop} {s : Sl} {w : World} {d t e ty : Nat} {pos : String} {af : Array Edge} {x : Operand}
end rules
end Go.Proofs.YtpbkphaceljclaaGreatDoor
