/- Texts of the proof, part 4: Sr1, Sr2, Sr3, Sr4, Sr5, Sr6, Eng24, SrW, SlW, SlO, CmpL, SrO, Sw1, LibC, Sl9, Sw5, SameT, Sw6, Sw2. -/
import Derived.Lib.AppendZerosOnto
import Derived.Test.YtgmgiepdehlinaaGreatDoorPkSL3
/- The reference: Run, index, joined, Length. -/
namespace Go.Proofs.YtgmgiepdehlinaaGreatDoor
open Go.RowKit

section
variable (a : Option Addr) (c : Nat) (cs : List Ch) (w : World) [hrow : RowI w (.slice a cs.length c) true 2 (cs.map encCh)] [hT : TextI w cs]
set_option maxHeartbeats 4000000 in
theorem Run_ref3 (hs : SmallT cs) (k : Nat) (hk : k < cs.length) : Ct Tryz.prog 34 [.agg #[.slice a cs.length c], .int .i64 (k : Int)] w fun v w' =>
    ∃ wv av, v = .tuple #[wv, av] ∧ OwnL w' w.heap.size 9 false 1 wv ((rnW cs[k]).map strV) ∧ OwnL w' w.heap.size 28 true 3 av ((runA k (chW cs[k])).map encPl) := by
  have hs1 := hs.1
  have hsk := hs.2 _ (List.getElem_mem hk)
  have hsl := hsk.1
  have hsm := chW_small fun y hy => (hsk.2 y hy).1
  have hcl : (chW cs[k]).length = cs[k].2.2.2.length := by simp [chW]
  refine Ct.ofW (by simp) ?_
  (refine jjB ?_; refine jjC ?_)
  (refine jy rfl ?_; intro b2 w_b2 hb_b2 hs_b2 hS_b2 hk_b2; have hA_b2 := At.ofBlock hk_b2)
  have hgk := List.getElem?_eq_getElem hk
  (apply jJ; exact eS rfl; apply jJ; exact eS rfl; refine jz ?_; refine jjB ?_; refine jjC ?_; apply jJ; exact eS rfl; refine jz ?_; refine jjB ?_; refine jjC ?_; apply jJ; exact eS rfl; refine jz ?_; refine jjB ?_; refine jjC ?_; refine jm ?_; refine jn rfl ?_; refine jN rfl rfl rfl ?_; apply jI; exact eI rfl; refine jF rfl rfl rfl (map_get (by omega)) ?_; intro _ _ _; refine jm ?_; refine jn rfl ?_; refine jP rfl rfl rfl ?_; apply jJ; exact eS rfl; refine jz ?_; refine jjB ?_; refine jjB ?_; refine jjC ?_; apply jJ; exact eI rfl; refine jz ?_; refine jjD ?_)
  have i1 := hT.line hk
  have hE7 : Ext w w_b2 := inferInstance
  refine W.keep0 [(1, .int .i64 ((k : Nat) : Int)), (6, .slice none 0 0), (7, .slice none 0 0), (8, .slice cs[k].2.1 cs[k].2.2.2.length cs[k].2.2.1), (9, .int .i64 ((0 : Nat) : Int))] ⟨eI rfl, eS rfl, eS rfl, eS rfl, eI rfl, trivial⟩ fun s0 => ?_
  refine W.loopG (17 :: 18 :: 19 :: 20 :: 10 :: 23 :: 24 :: 25 :: 26 :: 27 :: 28 :: 29 :: 32 :: 33 :: 34 :: 35 :: 36 :: 37 :: 38 :: 39 :: 40 :: 41 :: 42 :: 43 :: 44 :: 45 :: 46 :: 47 :: 48 :: 6 :: 7 :: 30 :: 31 :: 21 :: 22 :: 9 :: []) (fun g s' V => ∃ (n : Nat) (wv av : Value), s' 9 = .int .i64 ((n : Nat) : Int) ∧ s' 6 = wv ∧ s' 7 = av ∧ g = cs[k].2.2.2.length - n ∧ n ≤ cs[k].2.2.2.length ∧ Ext w V ∧ w_b2.heap.size ≤ V.heap.size ∧ OwnL V w_b2.heap.size 9 false 1 wv (((chW cs[k]).take n).flatten.map strV) ∧ OwnL V w_b2.heap.size 28 true 3 av ((runAn k (chW cs[k]) n).map encPl)) cs[k].2.2.2.length ⟨0, _, _, rfl, rfl, rfl, rfl, Nat.zero_le _, hE7, Nat.le_refl _, OwnL.nil _ _ _ _ _, OwnL.nil _ _ _ _ _⟩ ?_
  rintro _ sd V ⟨n, wv, av, h9, h6, h7, rfl, hn, hE, hz, hOw, hOa⟩
  obtain ⟨wa, wl, wc, rfl⟩ := hOw.slice3
  obtain ⟨aa, al, ac, rfl⟩ := hOa.slice3
  refine W.fix h9 (W.fix (d := 6) h6 (W.fix (d := 7) h7 ?_))
  clear h9 h6 h7
  by_cases hnl : n < cs[k].2.2.2.length
  rotate_left
  · obtain rfl : n = cs[k].2.2.2.length := by omega
    rw [← hcl, List.take_length] at hOw
    rw [← hcl] at hOa
    (refine jjB ?_; refine jjB ?_; refine jjC ?_; apply jI; exact eI rfl; apply jI; exact eS rfl; refine jh rfl ?_; refine jja rfl rfl (by omega) ?_; refine jz ?_; refine jjK rfl ?_; refine jjE ?_; refine jjB ?_; refine jjC ?_; apply jI; exact eS rfl; apply jI; exact eS rfl; apply jJ; exact eS rfl; apply jJ; exact eS rfl; refine jz ?_; refine jjF ?_; refine jC rfl rfl rfl ⟨inferInstance, ?_⟩)
    exact ⟨_, _, rfl, hOw.mono hE7.size, hOa.mono hE7.size⟩
  have hsn := hsk.2 _ (List.getElem_mem hnl)
  have hgn := chW_get hnl
  have hTV : TextI V cs := hT.ext hE
  have i2 := hTV.line hk
  (refine jjB ?_; refine jjB ?_; refine jjC ?_; apply jI; exact eI rfl; apply jI; exact eS rfl; refine jh rfl ?_; refine jjZ rfl rfl (by omega) ?_; refine jz ?_; refine jjJ rfl ?_; refine jjG ?_; refine jjB ?_; refine jjD ?_; refine jjB ?_; refine jjC ?_; apply jJ; exact eI rfl; refine jz ?_; refine jjD ?_)
  refine W.keep [(1, .int .i64 ((k : Nat) : Int)), (6, .slice wa wl wc), (7, .slice aa al ac), (8, .slice cs[k].2.1 cs[k].2.2.2.length cs[k].2.2.1), (9, .int .i64 ((n : Nat) : Int)), (10, .int .i64 ((0 : Nat) : Int))] (D := (17 :: 18 :: 19 :: 20 :: 10 :: 23 :: 24 :: 25 :: 26 :: 27 :: 28 :: 29 :: 32 :: 33 :: 34 :: 35 :: 36 :: 37 :: 38 :: 39 :: 40 :: 41 :: 42 :: 43 :: 44 :: 45 :: 46 :: 47 :: 48 :: 6 :: 7 :: 30 :: 31 :: 21 :: 22 :: 9 :: [])) (sO := upds s0 _) (by ((refine Same.upd rfl ?_; refine Same.upd rfl ?_; refine Same.upd rfl ?_; refine Same.upd rfl ?_; refine Same.upd rfl ?_; refine Same.upd rfl ?_; refine Same.upd rfl ?_; refine Same.upd rfl ?_; exact Same.ovN))) ⟨eI rfl, eS rfl, eS rfl, eS rfl, eI rfl, eI rfl, trivial⟩ fun s1 hs1' => ?_
  refine W.loopG (23 :: 24 :: 25 :: 26 :: 27 :: 28 :: 29 :: 32 :: 33 :: 34 :: 35 :: 36 :: 37 :: 38 :: 39 :: 40 :: 41 :: 42 :: 43 :: 44 :: 45 :: 46 :: 47 :: 48 :: 6 :: 7 :: 30 :: 31 :: 10 :: []) (fun g s' V => ∃ (q : Nat) (wv av : Value), s' 10 = .int .i64 ((q : Nat) : Int) ∧ s' 6 = wv ∧ s' 7 = av ∧ g = cs[k].2.2.2[n].2.2.length - q ∧ q ≤ cs[k].2.2.2[n].2.2.length ∧ Ext w V ∧ w_b2.heap.size ≤ V.heap.size ∧ OwnL V w_b2.heap.size 9 false 1 wv ((((chW cs[k]).take n).flatten ++ cs[k].2.2.2[n].2.2.take q).map strV) ∧ OwnL V w_b2.heap.size 28 true 3 av ((runAn k (chW cs[k]) n ++ lnP k n q).map encPl)) cs[k].2.2.2[n].2.2.length ⟨0, _, _, rfl, rfl, rfl, rfl, Nat.zero_le _, hE, hz, by rw [List.take_zero, List.append_nil]; exact hOw, by rw [show lnP k n 0 = [] from rfl, List.append_nil]; exact hOa⟩ ?_
  rintro _ sd2 V2 ⟨q, wv, av, h10, h6, h7, rfl, hq, hE, hz, hOw, hOa⟩
  obtain ⟨wa, wl, wc, rfl⟩ := hOw.slice3
  obtain ⟨aa, al, ac, rfl⟩ := hOa.slice3
  refine W.fix h10 (W.fix (d := 6) h6 (W.fix (d := 7) h7 ?_))
  clear h10 h6 h7
  have hTV2 : TextI V2 cs := hT.ext hE
  have i3 := hTV2.line hk
  have i4 := hTV2.word hk hnl
  by_cases hql : q < cs[k].2.2.2[n].2.2.length
  rotate_left
  · obtain rfl : q = cs[k].2.2.2[n].2.2.length := by omega
    rw [List.take_length, flat_next hgn] at hOw
    rw [← runAn_succ k hgn] at hOa
    (refine jjB ?_; refine jjB ?_; refine jjC ?_; apply jI; exact eI rfl; apply jI; exact eS rfl; apply jI; exact eI rfl; refine jF rfl rfl rfl (map_get (by omega)) ?_; intro _ _ _; refine jQ rfl rfl ?_; refine jh rfl ?_; refine jja rfl rfl (by omega) ?_; refine jz ?_; refine jjK rfl ?_; refine jjE ?_; refine jjC ?_; apply jI; exact eI rfl; refine jY rfl rfl (by omega) ?_; apply jJ; exact eI rfl; refine jz ?_)
    exact ⟨rfl, by ((refine Same.upd rfl ?_; refine Same.upd rfl ?_; refine Same.upd rfl ?_; refine Same.upd rfl ?_; refine Same.upd rfl ?_; refine Same.upd rfl ?_; refine Same.upd rfl ?_; refine Same.upd rfl ?_; refine Same.upd rfl ?_; refine Same.upd rfl ?_; refine Same.upd rfl ?_; refine Same.upd rfl ?_; refine Same.upd rfl ?_; refine Same.ovN' rfl ?_; assumption)), cs[k].2.2.2.length - (n + 1), by omega, n + 1, _, _, congrArg (Value.int .i64) (by omega), rfl, rfl, rfl, by omega, hE, hz, hOw, hOa⟩
  have hl1 : (((chW cs[k]).take n).flatten ++ cs[k].2.2.2[n].2.2.take q).length ≤ 1001000 := by
    have := flat_take hsm (n := n) (by omega)
    rw [List.length_append, List.length_take]; omega
  have hl2 : (runAn k (chW cs[k]) n ++ lnP k n q).length ≤ 1001000 := by
    have := flat_take hsm (n := n) (by omega)
    rw [List.length_append, lnP_len, runAn_len k (by omega)]; omega
  (refine jjB ?_; refine jjB ?_; refine jjC ?_; apply jI; exact eI rfl; apply jI; exact eS rfl; apply jI; exact eI rfl; refine jF rfl rfl rfl (map_get (by omega)) ?_; intro _ _ _; refine jQ rfl rfl ?_; refine jh rfl ?_; refine jjZ rfl rfl (by omega) ?_; refine jz ?_; refine jjJ rfl ?_; refine jjG ?_; refine jjB ?_; refine jjD ?_; refine jjC ?_; apply jI; exact eS rfl; apply jI; exact eS rfl; apply jI; exact eI rfl; refine jF rfl rfl rfl (map_get (by omega)) ?_; intro _ _ _; refine jQ rfl rfl ?_; apply jI; exact eI rfl; refine jF rfl rfl rfl (map_get (by omega)) ?_; intro _ _ _; refine jQ rfl rfl ?_)
  (refine jjP (v := .string _) rfl (by exact rfl) (by exact rfl) (by exact rfl) (by exact rfl) ?_; intro b40 w_b40 hb_b40 hs_b40 hS_b40 hk_b40; have hR_b40 := RowV.one (agg := false) (k := 1) rfl hk_b40)
  have z40 := hS_b40.size
  refine Ops.appendL (hOw.ext hS_b40.ext) (by omega) hR_b40 rfl rfl rfl rfl (one_str _) ?_ ?_ ?_
  · rw [List.length_map]; simp only [List.length_cons, List.length_nil]; omega
  · rw [List.length_map]; simp only [List.length_cons, List.length_nil]; omega
  intro wv2 w41 hA41 hO41 _ hown41
  have z41 := hA41.g.size
  have hE41 : Ext w w41 := hA41.ext (hE.trans hS_b40.ext) (by omega)
  rw [← List.map_singleton, ← List.map_append, flat_step (List.getElem?_eq_getElem hql)] at hO41
  have hOa41 := (hOa.ext hS_b40.ext).app hA41 (OwnL.ne (hOa.ext hS_b40.ext) (hOw.ext hS_b40.ext) (by decide))
  (apply jI; exact eS rfl; apply jI; exact eI rfl; apply jI; exact eI rfl; apply jI; exact eI rfl)
  (refine jjS (cells := [.int .i64 (k : Int), .int .i64 (n : Int), .int .i64 (q : Int)]) ?_ ?_; exact rfl)
  (refine jjP (v := .agg _) rfl (by exact rfl) (by exact rfl) (by exact rfl) (by exact rfl) ?_; intro b47 w_b47 hb_b47 hs_b47 hS_b47 hk_b47; have hR_b47 := RowV.one (agg := true) (k := 3) rfl hk_b47)
  have z47 := hS_b47.size
  refine Ops.appendL (hOa41.ext hS_b47.ext) (by omega) hR_b47 rfl rfl rfl rfl (one_pl ((k : Int), (n : Int), (q : Int))) ?_ ?_ ?_
  · rw [List.length_map]; simp only [List.length_cons, List.length_nil]; omega
  · rw [List.length_map]; simp only [List.length_cons, List.length_nil]; omega
  intro av2 w48 hA48 hO48 _ hown48
  have z48 := hA48.g.size
  have hE48 : Ext w w48 := hA48.ext (hE41.trans hS_b47.ext) (by omega)
  have e48 : (runAn k (chW cs[k]) n ++ lnP k n q).map encPl ++ [encPl ((k : Int), (n : Int), (q : Int))] = (runAn k (chW cs[k]) n ++ lnP k n (q + 1)).map encPl := by rw [lnP_succ]; simp
  rw [e48] at hO48
  have hO49 := (hO41.ext hS_b47.ext).app hA48 (OwnL.ne (hO41.ext hS_b47.ext) (hOa41.ext hS_b47.ext) (by decide))
  obtain ⟨wa2, wl2, wc2, rfl⟩ := hO49.slice3
  obtain ⟨aa2, al2, ac2, rfl⟩ := hO48.slice3
  (apply jJ; exact eS rfl; apply jJ; exact eS rfl; refine jz ?_; refine jjC ?_; apply jI; exact eI rfl; refine jY rfl rfl (by omega) ?_; apply jJ; exact eI rfl; refine jz ?_)
  exact ⟨rfl, by ((refine Same.upd rfl ?_; refine Same.upd rfl ?_; refine Same.upd rfl ?_; refine Same.upd rfl ?_; refine Same.upd rfl ?_; refine Same.upd rfl ?_; refine Same.upd rfl ?_; refine Same.upd rfl ?_; refine Same.upd rfl ?_; refine Same.upd rfl ?_; refine Same.upd rfl ?_; refine Same.upd rfl ?_; refine Same.upd rfl ?_; refine Same.upd rfl ?_; refine Same.upd rfl ?_; refine Same.upd rfl ?_; refine Same.upd rfl ?_; refine Same.upd rfl ?_; refine Same.upd rfl ?_; refine Same.upd rfl ?_; refine Same.upd rfl ?_; refine Same.upd rfl ?_; refine Same.upd rfl ?_; refine Same.upd rfl ?_; refine Same.upd rfl ?_; refine Same.upd rfl ?_; refine Same.upd rfl ?_; refine Same.upd rfl ?_; refine Same.upd rfl ?_; refine Same.upd rfl ?_; refine Same.upd rfl ?_; refine Same.upd rfl ?_; exact Same.ovN)), cs[k].2.2.2[n].2.2.length - (q + 1), by omega, q + 1, _, _, congrArg (Value.int .i64) (by omega), rfl, rfl, rfl, by omega, hE48, by omega, hO49, hO48⟩
end
end Go.Proofs.YtgmgiepdehlinaaGreatDoor

/- The reference: index, joined, Length. -/
namespace Go.Proofs.YtgmgiepdehlinaaGreatDoor
open Go.RowKit

set_option maxHeartbeats 1000000 in
theorem index_ref3 (a : Option Addr) (c n : Nat) (l : List Pl) (p : Pl) (j : Nat) (w : World) (hn : l.length = n) (hrow : RowV w true 3 (.slice a n c) (l.map encPl)) (hj : l[j]? = some p) (hpre : ∀ (m : Nat) (hm : m < l.length), m < j → l[m] ≠ p) : Ct Tryz.prog 51 [.slice a n c, encPl p] w fun v _ => v = .int .i64 (j : Int) := by
  subst hn
  have hlen := hrow.len
  rw [List.length_map] at hlen
  have hjl := (List.getElem?_eq_some_iff.1 hj).1
  have hje := (List.getElem?_eq_some_iff.1 hj).2
  obtain ⟨b, o, rfl, _⟩ := hrow.place' (map_get hjl)
  refine Ct.ofW (by simp) ?_
  (refine jjB ?_; refine jjC ?_)
  (refine jy rfl ?_; intro b3 w_b3 hb_b3 hs_b3 hS_b3 hk_b3; have hA_b3 := At.ofBlock hk_b3)
  (apply jJ; exact eI rfl; refine jz ?_; refine jjB ?_; refine jjC ?_; apply jJ; exact eI rfl; refine jz ?_; refine jjB ?_; refine jjD ?_)
  refine W.keep0 [(0, .slice (some ⟨b, o, none⟩) l.length c), (3, .pointer (some ⟨b3, 0, none⟩)), (5, .int .i64 ((0 : Nat) : Int))] ⟨eS rfl, eP rfl, eI rfl, trivial⟩ fun s0 => ?_
  refine W.loop (6 :: 7 :: 8 :: 9 :: 10 :: 11 :: 12 :: 13 :: 5 :: []) (fun g s' V => ∃ k : Nat, s' 5 = .int .i64 ((k : Nat) : Int) ∧ g = j - k ∧ k ≤ j) j ⟨0, rfl, rfl, Nat.zero_le _⟩ ?_
  rintro _ sd w1 hS1 ⟨k, h5, rfl, hk⟩
  refine W.fix h5 ?_
  clear h5
  have hkl : k < l.length := by omega
  obtain ⟨b', o', e', hA⟩ := hrow.place' (map_get hkl)
  cases e'
  (refine jjB ?_; refine jjB ?_)
  refine W.draw (fun w' => Ext w_b3 w') ?_
  intro w2 hS2
  have hE2 : Ext w_b3 w2 := hS1.ext.trans hS2.ext
  (refine jjV [0, 1, 2, 3, 4] ?_ ?_ ?_; (decide +kernel); (exact hE2); (((apply jjT; exact rfl; rintro w' hq; have := hq.toStep; apply jI; exact eS rfl; refine jz ?_; exact ⟨rfl, rfl⟩; apply jjT; exact rfl; rintro w' hq; have := hq.toStep; apply jI; exact eI rfl; refine jz ?_; exact ⟨rfl, rfl⟩; apply jjT; exact rfl; rintro w' hq; have := hq.toStep; refine jH _ rfl rfl rfl (by omega) ?_; refine jz ?_; exact ⟨rfl, rfl⟩; apply jjT; exact rfl; rintro w' hq; have := hq.toStep; refine jQ rfl rfl ?_; refine jz ?_; exact ⟨rfl, rfl⟩; apply jjT; exact rfl; rintro w' hq; have := hq.toStep; refine jO rfl rfl rfl rfl ?_; refine jz ?_; exact ⟨rfl, rfl⟩; refine jjU ?_))))
  by_cases hkj : l[k] = p
  · have e : k = j := by
      by_cases h : k < j
      · exact absurd hkj (hpre k hkl h)
      · omega
    subst e
    refine jjV [5] (by decide +kernel) hE2 (jjT (v := .bool false) rfl (fun w' q1 => ?_) (jjU ?_))
    · refine Ops.neqT (enc := encPl) l[k] p rfl rfl ?_
      rw [decide_eq_false (by simp [hkj])]
      refine jz ?_
      exact ⟨rfl, rfl⟩
    refine jjX (by decide +kernel) hE2 ?_
    (refine jjK rfl ?_; refine jjE ?_; refine jjB ?_; refine jjC ?_; apply jI; exact eI rfl; apply jJ; exact eI rfl; refine jz ?_; refine jjF ?_; refine jB rfl rfl ⟨inferInstance, ?_⟩)
    exact rfl
  · refine jjV [5] (by decide +kernel) hE2 (jjT (v := .bool true) rfl (fun w' q1 => ?_) (jjU ?_))
    · refine Ops.neqT (enc := encPl) l[k] p rfl rfl ?_
      rw [decide_eq_true hkj]
      refine jz ?_
      exact ⟨rfl, rfl⟩
    refine jjX (by decide +kernel) hE2 ?_
    have hkj' : k < j := by
      rcases Nat.lt_or_ge k j with h | h
      · exact h
      · have e : k = j := by omega
        subst e; exact absurd hje hkj
    (refine jjJ rfl ?_; refine jjG ?_; refine jjD ?_; refine jjC ?_; apply jI; exact eI rfl; refine jY rfl rfl (by omega) ?_; apply jJ; exact eI rfl; refine jz ?_)
    exact ⟨rfl, by ((refine Same.upd rfl ?_; refine Same.upd rfl ?_; refine Same.upd rfl ?_; refine Same.upd rfl ?_; refine Same.upd rfl ?_; refine Same.upd rfl ?_; refine Same.upd rfl ?_; refine Same.upd rfl ?_; refine Same.upd rfl ?_; refine Same.upd rfl ?_; exact Same.ovN)), j - (k + 1), by omega, inferInstance, k + 1, congrArg (Value.int .i64) (by omega), rfl, by omega⟩

theorem sum_le {m : Nat} : ∀ {ws : List ByteArray} , (∀ s ∈ ws, s.size ≤ m) → (ws.map (·.size)).sum ≤ ws.length * m
  | [], _ => by simp
  | x :: ws, h => by
    rw [List.map_cons, List.sum_cons, List.length_cons, Nat.add_mul]
    have := sum_le (ws := ws) fun s hs => h s (by simp [hs])
    have := h x (by simp)
    omega
theorem Length_ref3 (a : Option Addr) (c n : Nat) (ws : List ByteArray) (w : World) (hn : ws.length = n) (hrow : RowV w false 1 (.slice a n c) (ws.map strV)) (hs : ∀ s ∈ ws, s.size ≤ 1000) (hl : ws.length ≤ 1001000) : Ct Tryz.prog 52 [.slice a n c] w fun v _ => v = .int .i64 ((ws.length : Int) - 1 + ((ws.map (·.size)).sum : Nat)) := by
  subst hn
  have hI : RowI w (.slice a ws.length c) false 1 (ws.map strV) := ⟨hrow⟩
  refine Ct.ofW (by simp) ?_
  (refine jjB ?_; refine jjC ?_; apply jJ; exact eI rfl; refine jz ?_; refine jjB ?_; refine jjC ?_; apply jI; exact eS rfl; refine jh rfl ?_; refine jZ rfl rfl (by omega) ?_; apply jJ; exact eI rfl; refine jz ?_; refine jjB ?_; refine jjB ?_; refine jjC ?_; apply jJ; exact eI rfl; refine jz ?_; refine jjD ?_)
  refine W.keep0 [(0, .slice a ws.length c), (3, .int .i64 ((ws.length : Int) - 1)), (4, .int .i64 ((0 : Nat) : Int))] ⟨eS rfl, eI rfl, eI rfl, trivial⟩ fun s0 => ?_
  refine W.loop (8 :: 9 :: 10 :: 11 :: 14 :: 15 :: 16 :: 17 :: 18 :: 19 :: 20 :: 3 :: 12 :: 13 :: 4 :: []) (fun g s' V => ∃ k : Nat, s' 4 = .int .i64 ((k : Nat) : Int) ∧ s' 3 = .int .i64 ((ws.length : Int) - 1 + (((ws.take k).map (·.size)).sum : Nat)) ∧ g = ws.length - k ∧ k ≤ ws.length) ws.length ⟨0, rfl, by show Value.int _ _ = _; simp, rfl, Nat.zero_le _⟩ ?_
  rintro _ sd w1 hS1 ⟨k, h4, h3, rfl, hk⟩
  refine W.fix h4 (W.fix (d := 3) h3 ?_)
  clear h4 h3
  have hb := sum_le (ws := ws.take k) (m := 1000) fun s h => hs s (List.mem_of_mem_take h)
  have hb2 : (ws.take k).length * 1000 ≤ 1001000 * 1000 := Nat.mul_le_mul_right _ (by rw [List.length_take]; omega)
  by_cases hkl : k < ws.length
  · have hsz := hs _ (List.getElem_mem hkl)
    (refine jjB ?_; refine jjB ?_; refine jjC ?_; apply jI; exact eI rfl; apply jI; exact eS rfl; refine jh rfl ?_; refine jjZ rfl rfl (by omega) ?_; refine jz ?_; refine jjJ rfl ?_; refine jjG ?_; refine jjB ?_; refine jjD ?_; refine jjC ?_; apply jI; exact eI rfl; apply jI; exact eS rfl; apply jI; exact eI rfl; refine jF rfl rfl rfl (map_get (by omega)) ?_; intro _ _ _; refine jQ rfl rfl ?_; refine ji rfl ?_; refine jY rfl rfl (by omega) ?_; apply jJ; exact eI rfl; refine jz ?_; refine jjC ?_; apply jI; exact eI rfl; refine jY rfl rfl (by omega) ?_; apply jJ; exact eI rfl; refine jz ?_)
    refine ⟨rfl, by ((refine Same.upd rfl ?_; refine Same.upd rfl ?_; refine Same.upd rfl ?_; refine Same.upd rfl ?_; refine Same.upd rfl ?_; refine Same.upd rfl ?_; refine Same.upd rfl ?_; refine Same.upd rfl ?_; refine Same.upd rfl ?_; refine Same.upd rfl ?_; refine Same.upd rfl ?_; refine Same.upd rfl ?_; refine Same.upd rfl ?_; refine Same.upd rfl ?_; refine Same.upd rfl ?_; refine Same.upd rfl ?_; refine Same.upd rfl ?_; exact Same.ovN)), ws.length - (k + 1), by omega, inferInstance, k + 1, congrArg (Value.int .i64) (by omega), ?_, rfl, by omega⟩
    refine congrArg (Value.int .i64) ?_
    rw [take_snoc_get (List.getElem?_eq_getElem hkl), List.map_append, List.sum_append]
    simp only [List.map_cons, List.map_nil, List.sum_cons, List.sum_nil]
    omega
  · (refine jjB ?_; refine jjB ?_; refine jjC ?_; apply jI; exact eI rfl; apply jI; exact eS rfl; refine jh rfl ?_; refine jja rfl rfl (by omega) ?_; refine jz ?_; refine jjK rfl ?_; refine jjE ?_; refine jjB ?_; refine jjC ?_; apply jI; exact eI rfl; apply jJ; exact eI rfl; refine jz ?_; refine jjF ?_; refine jB rfl rfl ⟨inferInstance, ?_⟩)
    have : k = ws.length := by omega
    subst this
    rw [List.take_length]; exact rfl
end Go.Proofs.YtgmgiepdehlinaaGreatDoor

/- The reference: joined. -/
namespace Go.Proofs.YtgmgiepdehlinaaGreatDoor
open Go.RowKit

theorem joined_ref3 (a : Option Addr) (c n : Nat) (ws : List ByteArray) (w : World) (hn : ws.length = n) (hrow : RowV w false 1 (.slice a n c) (ws.map strV)) (hs : ∀ s ∈ ws, s.size ≤ 1000) (hl : ws.length ≤ 1001000) : Ct Tryz.prog 53 [.slice a n c] w fun v _ => v = .string (joinB ws) := by
  subst hn
  have hI : RowI w (.slice a ws.length c) false 1 (ws.map strV) := ⟨hrow⟩
  refine Ct.ofW (by simp) ?_
  (refine jjB ?_; refine jjC ?_; apply jJ; exact eT rfl; refine jz ?_; refine jjB ?_; refine jjC ?_; apply jJ; exact eT rfl; refine jz ?_; refine jjB ?_; refine jjB ?_; refine jjC ?_; apply jJ; exact eI rfl; refine jz ?_; refine jjD ?_)
  refine W.keep0 [(0, .slice a ws.length c), (3, .string (joinB (ws.take 0))), (4, .int .i64 ((0 : Nat) : Int))] ⟨eS rfl, eT rfl, eI rfl, trivial⟩ fun s0 => ?_
  refine W.loop (5 :: 6 :: 7 :: 8 :: 11 :: 12 :: 13 :: 14 :: 3 :: 15 :: 16 :: 17 :: 18 :: 19 :: 20 :: 9 :: 10 :: 4 :: []) (fun g s' V => ∃ k : Nat, s' 4 = .int .i64 ((k : Nat) : Int) ∧ s' 3 = .string (joinB (ws.take k)) ∧ g = ws.length - k ∧ k ≤ ws.length) ws.length ⟨0, rfl, rfl, rfl, Nat.zero_le _⟩ ?_
  rintro _ sd w1 hS1 ⟨k, h4, h3, rfl, hk⟩
  refine W.fix h4 (W.fix (d := 3) h3 ?_)
  clear h4 h3
  have hb := joinB_size (ws.take k) (m := 1000) fun s h => hs s (List.mem_of_mem_take h)
  have hb2 : (ws.take k).length * (1000 + 1) ≤ 1001000 * (1000 + 1) := Nat.mul_le_mul_right _ (by rw [List.length_take]; omega)
  by_cases hkl : k < ws.length
  rotate_left
  · (refine jjB ?_; refine jjB ?_; refine jjC ?_; apply jI; exact eI rfl; apply jI; exact eS rfl; refine jh rfl ?_; refine jja rfl rfl (by omega) ?_; refine jz ?_; refine jjK rfl ?_; refine jjE ?_; refine jjB ?_; refine jjC ?_; apply jI; exact eT rfl; apply jJ; exact eT rfl; refine jz ?_; refine jjF ?_; refine jB rfl rfl ⟨inferInstance, ?_⟩)
    have : k = ws.length := by omega
    subst this
    rw [List.take_length]; exact rfl
  have hsz := hs _ (List.getElem_mem hkl)
  have hg := List.getElem?_eq_getElem hkl
  by_cases h0 : 0 < k
  · (refine jjB ?_; refine jjB ?_; refine jjC ?_; apply jI; exact eI rfl; apply jI; exact eS rfl; refine jh rfl ?_; refine jjZ rfl rfl (by omega) ?_; refine jz ?_; refine jjJ rfl ?_; refine jjG ?_; refine jjB ?_; refine jjD ?_; refine jjB ?_; refine jjB ?_; refine jjC ?_; apply jI; exact eI rfl; refine jjd rfl rfl (by omega) ?_; refine jz ?_; refine jjJ rfl ?_; refine jjC ?_; apply jI; exact eT rfl)
    refine Ops.cat (a := joinB (ws.take k)) (b := ⟨#[32]⟩) rfl rfl (by show _ + 1 ≤ _; omega) ?_
    (apply jJ; exact eT rfl; refine jz ?_; refine jjC ?_; apply jI; exact eT rfl; apply jI; exact eS rfl; apply jI; exact eI rfl; refine jF rfl rfl rfl (map_get (by omega)) ?_; intro _ _ _; refine jQ rfl rfl ?_)
    refine Ops.cat (a := joinB (ws.take k) ++ ⟨#[32]⟩) (b := ws[k]) rfl rfl (by rw [ByteArray.size_append]; show _ + 1 + _ ≤ _; omega) ?_
    (apply jJ; exact eT rfl; refine jz ?_; refine jjC ?_; apply jI; exact eI rfl; refine jY rfl rfl (by omega) ?_; apply jJ; exact eI rfl; refine jz ?_)
    exact ⟨rfl, by ((refine Same.upd rfl ?_; refine Same.upd rfl ?_; refine Same.upd rfl ?_; refine Same.upd rfl ?_; refine Same.upd rfl ?_; refine Same.upd rfl ?_; refine Same.upd rfl ?_; refine Same.upd rfl ?_; refine Same.upd rfl ?_; refine Same.upd rfl ?_; refine Same.upd rfl ?_; refine Same.upd rfl ?_; refine Same.upd rfl ?_; refine Same.upd rfl ?_; refine Same.upd rfl ?_; refine Same.upd rfl ?_; refine Same.upd rfl ?_; refine Same.upd rfl ?_; refine Same.upd rfl ?_; refine Same.upd rfl ?_; refine Same.upd rfl ?_; exact Same.ovN)), ws.length - (k + 1), by omega, inferInstance, k + 1, congrArg (Value.int .i64) (by omega), congrArg Value.string (joinB_step hg h0).symm, rfl, by omega⟩
  · obtain rfl : k = 0 := by omega
    (refine jjB ?_; refine jjB ?_; refine jjC ?_; apply jI; exact eI rfl; apply jI; exact eS rfl; refine jh rfl ?_; refine jjZ rfl rfl (by omega) ?_; refine jz ?_; refine jjJ rfl ?_; refine jjG ?_; refine jjB ?_; refine jjD ?_; refine jjB ?_; refine jjB ?_; refine jjC ?_; apply jI; exact eI rfl; refine jje rfl rfl (by omega) ?_; refine jz ?_; refine jjK rfl ?_; refine jjG ?_; refine jjC ?_; apply jI; exact eT rfl; apply jI; exact eS rfl; apply jI; exact eI rfl; refine jF rfl rfl rfl (map_get (by omega)) ?_; intro _ _ _; refine jQ rfl rfl ?_)
    refine Ops.cat (a := joinB (ws.take 0)) (b := ws[0]) rfl rfl (by show 0 + _ ≤ _; omega) ?_
    (apply jJ; exact eT rfl; refine jz ?_; refine jjC ?_; apply jI; exact eI rfl; refine jY rfl rfl (by omega) ?_; apply jJ; exact eI rfl; refine jz ?_)
    refine ⟨rfl, by ((refine Same.upd rfl ?_; refine Same.upd rfl ?_; refine Same.upd rfl ?_; refine Same.upd rfl ?_; refine Same.upd rfl ?_; refine Same.upd rfl ?_; refine Same.upd rfl ?_; refine Same.upd rfl ?_; refine Same.upd rfl ?_; refine Same.upd rfl ?_; refine Same.upd rfl ?_; refine Same.upd rfl ?_; refine Same.upd rfl ?_; refine Same.upd rfl ?_; refine Same.upd rfl ?_; refine Same.upd rfl ?_; refine Same.upd rfl ?_; refine Same.upd rfl ?_; exact Same.ovN)), ws.length - (0 + 1), by omega, inferInstance, 0 + 1, congrArg (Value.int .i64) (by omega), congrArg Value.string ?_, rfl, by omega⟩
    rw [take_snoc_get hg]
    show joinB [] ++ _ = joinB [_]
    rw [joinB_one]
    apply ByteArray.ext
    simp [joinB_nil, ByteArray.data_append]
end Go.Proofs.YtgmgiepdehlinaaGreatDoor

/- The reference: slip. -/
namespace Go.Proofs.YtgmgiepdehlinaaGreatDoor
open Go.RowKit

theorem OwnL.nth {w : World} {B e : Nat} {agg : Bool} {k : Nat} {v : Value} {xs : List Value} (h : OwnL w B e agg k v xs) : ∃ a c, v = .slice a xs.length c := h.slice
section
variable (a : Option Addr) (c : Nat) (cs : List Ch) (w : World) [hrow : RowI w (.slice a cs.length c) true 2 (cs.map encCh)] [hT : TextI w cs]
set_option maxHeartbeats 4000000 in
theorem slip_ref3 (hs : SmallT cs) (wd side : Int) (k i : Nat) (m : Int × Int) (hk : k < cs.length) (hi : (runA k (chW cs[k]))[i]? = some ((k : Int), m)) : Ct Tryz.prog 26 [.agg #[.slice a cs.length c], encCut wd side, encPl ((k : Int), m)] w fun v _ => v = encSl (slipX (rnW cs[k]) side wd i ((k : Int), m)) := by
  obtain ⟨hn, hsz⟩ := rnW_small hs hk
  have hal := runA_len k (chW cs[k])
  have hil := (List.getElem?_eq_some_iff.1 hi).1
  refine Ct.ofW (by simp) ?_
  (refine jjB ?_; refine jjC ?_)
  (refine jy rfl ?_; intro b3 w_b3 hb_b3 hs_b3 hS_b3 hk_b3; have hA_b3 := At.ofBlock hk_b3)
  skip
  (refine jy rfl ?_; intro b4 w_b4 hb_b4 hs_b4 hS_b4 hk_b4; have hA_b4 := At.ofBlock hk_b4)
  skip
  (refine jy rfl ?_; intro b5 w_b5 hb_b5 hs_b5 hS_b5 hk_b5; have hA_b5 := At.ofBlock hk_b5)
  ((skip); refine jjY ?_; intro b6 w_b6 hb_b6 hs_b6 hS_b6 hk_b6; have hA_b6 := Bk.of hk_b6)
  (refine jz ?_; refine jjB ?_; refine jjC ?_; refine jO rfl rfl rfl rfl ?_; refine jm ?_; refine jn rfl ?_; refine jN rfl rfl rfl ?_)
  refine jjQ (Run_ref3 a c cs _ hs k hk) rfl rfl ?_
  rintro _ w7 hS7 ⟨_, _, rfl, hOw, hOa⟩
  have hinj := runA_nodup k (chW cs[k])
  generalize hws : rnW cs[k] = ws at hn hsz hOw
  have hlen : (runA k (chW cs[k])).length = ws.length := by rw [hal, ← hws]
  generalize runA k (chW cs[k]) = ps at *
  obtain ⟨wa, wc, rfl⟩ := hOw.slice
  obtain ⟨aa, ac, rfl⟩ := hOa.slice
  have hR := hOw.row
  have hRa := hOa.row
  rw [List.length_map] at hR hRa
  have hi' : i < ws.length := by omega
  have h32 : TextI w7 cs := inferInstance
  have z7 := hS7.size
  have hb6 : Bk w7 b6 [.int .i64 0, .int .i64 0, .int .i64 0, .string ⟨#[]⟩, .string ⟨#[]⟩, .string ⟨#[]⟩] 30 := hA_b6.ext hS7.ext
  have hb4 : At w7 b4 0 [.int .i64 wd, .int .u8 side] := inferInstance
  have hb5 : At w7 b5 0 [.int .i64 (k : Int), .int .i64 m.1, .int .i64 m.2] := inferInstance
  have hE7 : Ext w w7 := inferInstance
  (apply jI; exact eU rfl; refine ju rfl rfl ?_; refine ju rfl rfl ?_; apply jJ; exact eS rfl; apply jJ; exact eS rfl; refine jz ?_; refine jjB ?_; refine jjC ?_; apply jI; exact eS rfl; refine jO rfl rfl rfl rfl ?_)
  refine jjQ (index_ref3 aa _ _ ps ((k : Int), m) i _ (by rw [List.length_map]) hOa.row hi (fun q hq hqi => fun e => by
    have := nodup_inj hinj (List.getElem?_eq_getElem hq) (hi.trans (by rw [e]))
    omega)) rfl rfl ?_
  rintro _ w8 hS8 rfl
  have hlm : (ws.map strV).length = ws.length := List.length_map _
  rw [hlm] at hOw
  obtain ⟨bw, ow, rfl, _⟩ := hOw.row.place' (map_get hi')
  have hcw := hOw.row.cap.2
  rw [hlm] at hcw
  rw [hlm]
  (apply jJ; exact eI rfl; refine jz ?_; refine jjB ?_)
  have hE8 : Ext w w8 := inferInstance
  refine W.draw (fun w' => Ext w8 w') ?_
  intro w9 hS9
  have hA9 : At w8 bw (ow + i) (strV ws[i]).cells.toList := by
    obtain ⟨b', o', e', hA⟩ := hOw.row.place' (map_get hi')
    cases e'
    rw [Nat.mul_one] at hA
    exact hA.ext hS8.ext
  (refine jjV [0, 1, 2, 3, 4, 5, 6, 7, 8, 9] ?_ ?_ ?_; (decide +kernel); (exact hS9.ext); (((apply jjT; exact rfl; rintro w' hq; have := hq.toStep; apply jI; exact eI rfl; refine jz ?_; exact ⟨rfl, rfl⟩; apply jjT; exact rfl; rintro w' hq; have := hq.toStep; apply jI; exact eI rfl; refine jz ?_; exact ⟨rfl, rfl⟩; apply jjT; exact rfl; rintro w' hq; have := hq.toStep; apply jI; exact eS rfl; refine jz ?_; exact ⟨rfl, rfl⟩; apply jjT; exact rfl; rintro w' hq; have := hq.toStep; apply jI; exact eI rfl; refine jz ?_; exact ⟨rfl, rfl⟩; apply jjT; exact rfl; rintro w' hq; have := hq.toStep; refine jG rfl rfl rfl (by omega) ?_; refine jz ?_; exact ⟨rfl, rfl⟩; apply jjT; exact rfl; rintro w' hq; have := hq.toStep; refine jQ rfl rfl ?_; refine jz ?_; exact ⟨rfl, rfl⟩; apply jjT; exact rfl; rintro w' hq; have := hq.toStep; refine ji rfl ?_; refine jz ?_; exact ⟨rfl, rfl⟩; apply jjT; exact rfl; rintro w' hq; have := hq.toStep; apply jJ; exact eI rfl; refine jz ?_; exact ⟨rfl, rfl⟩; apply jjT; exact rfl; rintro w' hq; have := hq.toStep; apply jJ; exact eI rfl; refine jz ?_; exact ⟨rfl, rfl⟩; apply jjT; exact rfl; rintro w' hq; have := hq.toStep; apply jJ; exact eI rfl; refine jz ?_; exact ⟨rfl, rfl⟩; refine jjU ?_))))
  refine jjX (by decide +kernel) hS9.ext ?_
  have hsi := hsz _ (List.getElem_mem hi')
  have hE9 : Ext w7 w9 := hS8.ext.trans hS9.ext
  have hw9 : Ext w w9 := hE8.trans hS9.ext
  have hb49 : At w9 b4 0 [.int .i64 wd, .int .u8 side] := hb4.ext hE9
  (refine jjB ?_; refine jjB ?_; refine jjC ?_; apply jJ; exact eI rfl; refine jz ?_; refine jjD ?_)
  refine W.keep0 [(4, .pointer (some ⟨b4, 0, none⟩)), (5, .pointer (some ⟨b5, 0, none⟩)), (6, .pointer (some ⟨b6, 0, none⟩)), (7, .slice (some ⟨bw, ow, none⟩) ws.length wc), (9, .int .i64 ((i : Nat) : Int)), (10, .int .i64 (((stA ws side wd i 0).1 : Nat) : Int)), (11, .int .i64 (((stA ws side wd i 0).2 : Nat) : Int)), (12, .int .i64 (lenX ws (stA ws side wd i 0))), (13, .int .i64 ((0 : Nat) : Int))] ⟨eP rfl, eP rfl, eP rfl, eS rfl, eI rfl, eI rfl, eI rfl, congrArg (Value.int .i64) (lenX_self hi').symm, eI rfl, trivial⟩ fun s0 => ?_
  refine W.loop (36 :: 37 :: 38 :: 41 :: 14 :: 42 :: 43 :: 44 :: 45 :: 48 :: 49 :: 50 :: 51 :: 52 :: 53 :: 15 :: 54 :: 55 :: 56 :: 57 :: 58 :: 59 :: 60 :: 61 :: 62 :: 63 :: 64 :: 65 :: 66 :: 67 :: 68 :: 69 :: 70 :: 71 :: 72 :: 73 :: 74 :: 75 :: 76 :: 16 :: 17 :: 77 :: 78 :: 79 :: 18 :: 106 :: 105 :: 108 :: 109 :: 110 :: 107 :: 111 :: 112 :: 113 :: 115 :: 116 :: 117 :: 114 :: 118 :: 119 :: 120 :: 80 :: 81 :: 82 :: 83 :: 84 :: 85 :: 86 :: 87 :: 88 :: 89 :: 90 :: 91 :: 92 :: 93 :: 94 :: 95 :: 96 :: 97 :: 98 :: 99 :: 100 :: 101 :: 102 :: 103 :: 104 :: 121 :: 122 :: 123 :: 124 :: 10 :: 11 :: 12 :: 46 :: 47 :: 39 :: 40 :: 13 :: []) (fun g s' V => ∃ q : Nat, s' 13 = .int .i64 ((q : Nat) : Int) ∧ s' 10 = .int .i64 (((stA ws side wd i q).1 : Nat) : Int) ∧ s' 11 = .int .i64 (((stA ws side wd i q).2 : Nat) : Int) ∧ s' 12 = .int .i64 (lenX ws (stA ws side wd i q)) ∧ g = i + 1 - q ∧ q ≤ i + 1) (i + 1) ⟨0, rfl, rfl, rfl, rfl, rfl, Nat.zero_le _⟩ ?_
  rintro _ sd wA hSA ⟨q, h13, h10, h11, h12, rfl, hq⟩
  refine W.fix h13 (W.fix (d := 10) h10 (W.fix (d := 11) h11 (W.fix (d := 12) h12 ?_)))
  clear h13 h10 h11 h12
  by_cases hqi : q ≤ i
  · (refine jjB ?_; refine jjB ?_; refine jjC ?_; apply jI; exact eI rfl; apply jI; exact eI rfl; refine jjb rfl rfl (by omega) ?_; refine jz ?_; refine jjJ rfl ?_; refine jjG ?_; refine jjB ?_; refine jjD ?_; refine jjB ?_; refine jjC ?_; apply jI; exact eI rfl; apply jJ; exact eI rfl; refine jz ?_; refine jjD ?_)
    refine W.keep [(4, .pointer (some ⟨b4, 0, none⟩)), (5, .pointer (some ⟨b5, 0, none⟩)), (6, .pointer (some ⟨b6, 0, none⟩)), (7, .slice (some ⟨bw, ow, none⟩) ws.length wc), (9, .int .i64 ((i : Nat) : Int)), (10, .int .i64 (((stB ws side wd i q 0).1 : Nat) : Int)), (11, .int .i64 (((stB ws side wd i q 0).2 : Nat) : Int)), (12, .int .i64 (lenX ws (stB ws side wd i q 0))), (13, .int .i64 ((q : Nat) : Int)), (14, .int .i64 ((i + 0 : Nat) : Int))] (D := (36 :: 37 :: 38 :: 41 :: 14 :: 42 :: 43 :: 44 :: 45 :: 48 :: 49 :: 50 :: 51 :: 52 :: 53 :: 15 :: 54 :: 55 :: 56 :: 57 :: 58 :: 59 :: 60 :: 61 :: 62 :: 63 :: 64 :: 65 :: 66 :: 67 :: 68 :: 69 :: 70 :: 71 :: 72 :: 73 :: 74 :: 75 :: 76 :: 16 :: 17 :: 77 :: 78 :: 79 :: 18 :: 106 :: 105 :: 108 :: 109 :: 110 :: 107 :: 111 :: 112 :: 113 :: 115 :: 116 :: 117 :: 114 :: 118 :: 119 :: 120 :: 80 :: 81 :: 82 :: 83 :: 84 :: 85 :: 86 :: 87 :: 88 :: 89 :: 90 :: 91 :: 92 :: 93 :: 94 :: 95 :: 96 :: 97 :: 98 :: 99 :: 100 :: 101 :: 102 :: 103 :: 104 :: 121 :: 122 :: 123 :: 124 :: 10 :: 11 :: 12 :: 46 :: 47 :: 39 :: 40 :: 13 :: [])) (sO := upds s0 _) (by ((refine Same.upd rfl ?_; refine Same.upd rfl ?_; refine Same.upd rfl ?_; refine Same.upd rfl ?_; refine Same.upd rfl ?_; refine Same.upd rfl ?_; refine Same.upd rfl ?_; refine Same.upd rfl ?_; refine Same.upd rfl ?_; exact Same.ovN))) ⟨eP rfl, eP rfl, eP rfl, eS rfl, eI rfl, eI rfl, eI rfl, eI rfl, eI rfl, eI rfl, trivial⟩ fun s1 hs1 => ?_
    refine W.loop (42 :: 43 :: 44 :: 45 :: 48 :: 49 :: 50 :: 51 :: 52 :: 53 :: 15 :: 54 :: 55 :: 56 :: 57 :: 58 :: 59 :: 60 :: 61 :: 62 :: 63 :: 64 :: 65 :: 66 :: 67 :: 68 :: 69 :: 70 :: 71 :: 72 :: 73 :: 74 :: 75 :: 76 :: 16 :: 17 :: 77 :: 78 :: 79 :: 18 :: 106 :: 105 :: 108 :: 109 :: 110 :: 107 :: 111 :: 112 :: 113 :: 115 :: 116 :: 117 :: 114 :: 118 :: 119 :: 120 :: 80 :: 81 :: 82 :: 83 :: 84 :: 85 :: 86 :: 87 :: 88 :: 89 :: 90 :: 91 :: 92 :: 93 :: 94 :: 95 :: 96 :: 97 :: 98 :: 99 :: 100 :: 101 :: 102 :: 103 :: 104 :: 121 :: 122 :: 123 :: 124 :: 10 :: 11 :: 12 :: 46 :: 47 :: 14 :: []) (fun g s' V => ∃ m : Nat, s' 14 = .int .i64 ((i + m : Nat) : Int) ∧ s' 10 = .int .i64 (((stB ws side wd i q m).1 : Nat) : Int) ∧ s' 11 = .int .i64 (((stB ws side wd i q m).2 : Nat) : Int) ∧ s' 12 = .int .i64 (lenX ws (stB ws side wd i q m)) ∧ g = ws.length - (i + m) ∧ i + m ≤ ws.length) (ws.length - i) ⟨0, rfl, rfl, rfl, rfl, rfl, by omega⟩ ?_
    rintro _ sd2 wB hSB ⟨m, h14, h10, h11, h12, rfl, hm⟩
    have hin := stB_in (side := side) (W := wd) (m := m) hi' (show q ≤ i + 1 by omega) hm (.inl hqi)
    have hsucc := stB_succ ws side wd i q m
    have hend := stB_end ws side wd i q
    generalize hst : stB ws side wd i q m = st at h10 h11 h12 hin hsucc
    obtain ⟨hin1, hin2, hin3⟩ := hin
    have hbd := lenX_bound (ws := ws) (a := st.1) (b := st.2) hsz hn (by omega) hin3
    refine W.fix h14 (W.fix (d := 10) h10 (W.fix (d := 11) h11 (W.fix (d := 12) h12 ?_)))
    clear h14 h10 h11 h12
    by_cases hml : i + m < ws.length
    rotate_left
    · have hme : m = ws.length - i := by omega
      subst hme
      rw [hend] at hst
      subst hst
      (refine jjB ?_; refine jjB ?_; refine jjC ?_; apply jI; exact eI rfl; apply jI; exact eS rfl; refine jh rfl ?_; refine jja rfl rfl (by omega) ?_; refine jz ?_; refine jjK rfl ?_; refine jjE ?_; refine jjC ?_; apply jI; exact eI rfl; refine jY rfl rfl (by omega) ?_; apply jJ; exact eI rfl; refine jz ?_)
      exact ⟨rfl, by ((refine Same.upd rfl ?_; refine Same.upd rfl ?_; refine Same.upd rfl ?_; refine Same.upd rfl ?_; refine Same.upd rfl ?_; refine Same.upd rfl ?_; refine Same.upd rfl ?_; refine Same.upd rfl ?_; refine Same.upd rfl ?_; refine Same.upd rfl ?_; refine Same.upd rfl ?_; refine Same.ovN' rfl ?_; assumption)), i + 1 - (q + 1), by omega, inferInstance, q + 1, congrArg (Value.int .i64) (by omega), rfl, rfl, rfl, rfl, by omega⟩
    have hSeg := seg_len (ws := ws) (a := q) (b := i + m) (by omega)
    have hbn := lenX_bound (ws := ws) (a := q) (b := i + m) hsz hn (by omega) hml
    have hEB : Ext w8 wB := hS9.ext.trans (hSA.ext.trans hSB.ext)
    have hb4B : At wB b4 0 [.int .i64 wd, .int .u8 side] := hb49.ext (hSA.ext.trans hSB.ext)
    have hRB : RowV wB false 1 (.slice (some ⟨bw, ow, none⟩) ws.length wc) (ws.map strV) := by
      have := hOw.row.ext (hS8.ext.trans hEB)
      exact this
    (refine jjB ?_; refine jjB ?_; refine jjC ?_; apply jI; exact eI rfl; apply jI; exact eS rfl; refine jh rfl ?_; refine jjZ rfl rfl (by omega) ?_; refine jz ?_; refine jjJ rfl ?_; refine jjG ?_; refine jjB ?_; refine jjD ?_; refine jjB ?_; refine jjC ?_; apply jI; exact eS rfl; apply jI; exact eI rfl; apply jI; exact eI rfl; refine jY rfl rfl (by omega) ?_)
    refine Ops.sliceLHv (lo := q) (hi := i + m + 1) rfl rfl rfl rfl (by omega) (by omega) (by omega) ?_
    have hcut := hRB.cut (lo := q) (hi := i + m + 1) (by omega) (by rw [hlm]; omega)
    rw [← List.map_take, ← List.map_drop] at hcut
    refine jjQ ((Length_ref3 _ _ _ ((ws.take (i + m + 1)).drop q) _ (by rw [List.length_drop, List.length_take]; omega) hcut (fun s h => hsz s (List.mem_of_mem_take (List.mem_of_mem_drop h))) (by rw [List.length_drop, List.length_take]; omega)).mono fun v _ _ e => e.trans (by rw [hSeg])) rfl rfl ?_
    rintro _ w14 hS14 rfl
    have hb414 : At w14 b4 0 [.int .i64 wd, .int .u8 side] := hb4B.ext hS14.ext
    clear hSeg hcut hRB
    generalize hnl : lenX ws (q, i + m) = nl at *
    repeat' (first|refine jjm rfl (by omega) ?_|((first|apply jI|apply jJ|apply jK rfl|apply jL rfl); (first|exact eI rfl|exact eB rfl))|(refine jM ?_; refine jN rfl rfl rfl ?_)|(refine jS ?_; (first|refine jT rfl rfl rfl ?_|refine jU rfl rfl rfl rfl ?_|refine jV rfl rfl ?_))|(refine jW ?_; (first|refine jX rfl rfl ?_|refine jY rfl rfl (by omega) ?_|refine jZ rfl rfl (by omega) ?_|refine jb rfl rfl ?_|refine je rfl rfl ?_))|(refine jg ?_; refine jk rfl rfl ?_)|(refine jm ?_; refine jn rfl ?_)|refine jz ?_|(refine jjA ?_; (first|refine jjB ?_|refine jjC ?_|refine jjD ?_|refine jjE ?_|refine jjG ?_|refine jjJ rfl ?_|refine jjK rfl ?_))|(refine jS ?_; (refine jjL rfl rfl ?_ ?_ <;> intro _))|(refine jjA ?_; (refine jjN rfl ?_ ?_ <;> intro _)))
    all_goals first
      | (have e : stB ws side wd i q (m + 1) = (q, i + m) := by rw [hsucc, if_pos ⟨by omega, by rw [ordI_lt, sdI_lt]; simp only [unE, hnl]; omega⟩]
         exact ⟨rfl, by (repeat' (first|exact Same.ovN|refine Same.upd rfl ?_)), ws.length - (i + (m + 1)), by omega, inferInstance, m + 1, congrArg (Value.int .i64) (by omega), by rw [e]; exact rfl, by rw [e]; exact rfl, by rw [e, hnl]; exact rfl, rfl, by omega⟩)
      | (have e : stB ws side wd i q (m + 1) = st := by rw [hsucc, if_neg (fun h => by rw [ordI_lt, sdI_lt] at h; simp only [unE, hnl] at h; omega)]
         exact ⟨rfl, by (repeat' (first|exact Same.ovN|refine Same.upd rfl ?_)), ws.length - (i + (m + 1)), by omega, inferInstance, m + 1, congrArg (Value.int .i64) (by omega), by rw [e]; exact rfl, by rw [e]; exact rfl, by rw [e]; exact rfl, rfl, by omega⟩)
  have hqe : q = i + 1 := by omega
  subst hqe
  have hin := stB_in (side := side) (W := wd) (a := i + 1) (m := 0) hi' (Nat.le_refl _) (by omega) (.inr rfl)
  rw [stB_zero, stA_end] at hin
  rw [stA_end, slipX]
  generalize bestA ws side wd i = st at hin
  obtain ⟨hin1, hin2, hin3⟩ := hin
  have hEA : Ext w8 wA := hS9.ext.trans hSA.ext
  have hwA : Ext w wA := hE8.trans hEA
  have hRB : RowV w8 false 1 (.slice (some ⟨bw, ow, none⟩) ws.length wc) (ws.map strV) := hOw.row.ext hS8.ext
  have hb58 : At w8 b5 0 [.int .i64 (k : Int), .int .i64 m.1, .int .i64 m.2] := hb5.ext hS8.ext
  have hc1 := hRB.cut (lo := st.1) (hi := i) hin1 (by rw [hlm]; omega)
  have hc2 := hRB.cut (lo := i + 1) (hi := st.2 + 1) (by omega) (by rw [hlm]; omega)
  rw [← List.map_take, ← List.map_drop] at hc1 hc2
  have hd : ws.getD i ⟨#[]⟩ = ws[i] := by rw [List.getD_eq_getElem?_getD, List.getElem?_eq_getElem hi', Option.getD_some]
  rw [hd]
  (refine jjB ?_; refine jjB ?_; refine jjC ?_; apply jI; exact eI rfl; apply jI; exact eI rfl; refine jjc rfl rfl (by omega) ?_; refine jz ?_; refine jjK rfl ?_; refine jjE ?_; refine jjB ?_)
  have n5 : b5 ≠ b6 := by omega
  have n4 : bw ≠ b6 := by have : w_b6.heap.size ≤ bw := (hOw.block _ rfl).1; omega
  refine W.draw (fun w' => Only b6 w8 w') ?_
  intro wC hSC
  have hSC' : Ext w8 wC := hEA.trans hSC.ext
  (refine jjV [0, 1, 2, 3, 4, 5, 6, 7] ?_ ?_ ?_; (decide +kernel); (exact .ofExt hSC'); (((apply jjT; exact rfl; rintro w' hq; have := hq.at_ hb58 n5; have := hq.at_ hA9 n4; refine jO rfl rfl rfl rfl ?_; refine jz ?_; exact ⟨rfl, rfl⟩; apply jjT; exact rfl; rintro w' hq; have := hq.at_ hb58 n5; have := hq.at_ hA9 n4; apply jI; exact eS rfl; refine jz ?_; exact ⟨rfl, rfl⟩; apply jjT; exact rfl; rintro w' hq; have := hq.at_ hb58 n5; have := hq.at_ hA9 n4; apply jI; exact eI rfl; refine jz ?_; exact ⟨rfl, rfl⟩; apply jjT; exact rfl; rintro w' hq; have := hq.at_ hb58 n5; have := hq.at_ hA9 n4; refine jG rfl rfl rfl (by omega) ?_; refine jz ?_; exact ⟨rfl, rfl⟩; apply jjT; exact rfl; rintro w' hq; have := hq.at_ hb58 n5; have := hq.at_ hA9 n4; refine jQ rfl rfl ?_; refine jz ?_; exact ⟨rfl, rfl⟩; apply jjT; exact rfl; rintro w' hq; have := hq.at_ hb58 n5; have := hq.at_ hA9 n4; apply jI; exact eS rfl; refine jz ?_; exact ⟨rfl, rfl⟩; apply jjT; exact rfl; rintro w' hq; have := hq.at_ hb58 n5; have := hq.at_ hA9 n4; apply jI; exact eI rfl; refine jz ?_; exact ⟨rfl, rfl⟩; apply jjT; exact rfl; rintro w' hq; have := hq.at_ hb58 n5; have := hq.at_ hA9 n4; apply jI; exact eI rfl; refine jz ?_; exact ⟨rfl, rfl⟩; refine jjU ?_))))
  refine jjV [8] (by decide +kernel) (.ofExt hSC') (jjT (v := cutV (some ⟨bw, ow, none⟩) wc 1 st.1 i) rfl (fun w' q1 => ?_) (jjU ?_)); (refine Ops.sliceLHv (lo := st.1) (hi := i) rfl rfl rfl rfl rfl (by omega) (by omega) ?_; refine jz ?_; exact ⟨rfl, rfl⟩)
  (refine jjV [10, 11, 12, 13, 14] ?_ ?_ ?_; (decide +kernel); (exact .ofExt hSC'); (((apply jjT; exact rfl; rintro w' hq; have := hq.at_ hb58 n5; have := hq.at_ hA9 n4; apply jI; exact eS rfl; refine jz ?_; exact ⟨rfl, rfl⟩; apply jjT; exact rfl; rintro w' hq; have := hq.at_ hb58 n5; have := hq.at_ hA9 n4; apply jI; exact eI rfl; refine jz ?_; exact ⟨rfl, rfl⟩; apply jjT; exact rfl; rintro w' hq; have := hq.at_ hb58 n5; have := hq.at_ hA9 n4; refine jY rfl rfl (by omega) ?_; refine jz ?_; exact ⟨rfl, rfl⟩; apply jjT; exact rfl; rintro w' hq; have := hq.at_ hb58 n5; have := hq.at_ hA9 n4; apply jI; exact eI rfl; refine jz ?_; exact ⟨rfl, rfl⟩; apply jjT; exact rfl; rintro w' hq; have := hq.at_ hb58 n5; have := hq.at_ hA9 n4; refine jY rfl rfl (by omega) ?_; refine jz ?_; exact ⟨rfl, rfl⟩; refine jjU ?_))))
  refine jjV [15] (by decide +kernel) (.ofExt hSC') (jjT (v := cutV (some ⟨bw, ow, none⟩) wc 1 (i + 1) (st.2 + 1)) rfl (fun w' q1 => ?_) (jjU ?_)); (refine Ops.sliceLHv (lo := i + 1) (hi := st.2 + 1) rfl rfl rfl rfl rfl (by omega) (by omega) ?_; refine jz ?_; exact ⟨rfl, rfl⟩)
  (apply jjW 9; (decide +kernel); exact rfl; (exact .ofExt hSC'))
  refine jjQ (joined_ref3 _ _ _ ((ws.take i).drop st.1) _ (by rw [List.length_drop, List.length_take]; omega) (hc1.ext hSC') (fun s h => hsz s (List.mem_of_mem_take (List.mem_of_mem_drop h))) (by rw [List.length_drop, List.length_take]; omega)) rfl rfl ?_
  rintro _ wC2 hSC2 rfl
  refine jz ?_
  have hSC2' := hSC'.trans hSC2.ext
  (apply jjW 16; (decide +kernel); exact rfl; (exact .ofExt hSC2'))
  refine jjQ (joined_ref3 _ _ _ ((ws.take (st.2 + 1)).drop (i + 1)) _ (by rw [List.length_drop, List.length_take]; omega) (hc2.ext hSC2') (fun s h => hsz s (List.mem_of_mem_take (List.mem_of_mem_drop h))) (by rw [List.length_drop, List.length_take]; omega)) rfl rfl ?_
  rintro _ wD hSD' rfl
  refine jz ?_
  have hSD := hSC2'.trans hSD'.ext
  (apply jjW 17; (decide +kernel); exact rfl; (exact .ofExt hSD))
  (refine jjS (cells := [.int .i64 (k : Int), .int .i64 m.1, .int .i64 m.2, .string ws[i], .string (joinB ((ws.take i).drop st.1)), .string (joinB ((ws.take (st.2 + 1)).drop (i + 1)))]) ?_ ?_; exact rfl)
  refine jz ?_
  (apply jjW 18; (decide +kernel); exact rfl; (exact .ofExt hSD))
  have h6D : Bk wD b6 [.int .i64 0, .int .i64 0, .int .i64 0, .string ⟨#[]⟩, .string ⟨#[]⟩, .string ⟨#[]⟩] 30 := hb6.ext (hS8.ext.trans hSD)
  refine Ops.store rfl rfl rfl rfl rfl ?_
  intro wE hpE
  refine jz ?_
  refine jjX (by decide +kernel) ((Only.ofExt hSD).trans (.ofPut hpE)) ?_
  have h6E : At wE b6 0 [.int .i64 (k : Int), .int .i64 m.1, .int .i64 m.2, .string ws[i], .string (joinB ((ws.take i).drop st.1)), .string (joinB ((ws.take (st.2 + 1)).drop (i + 1)))] := Bk.toAt (h := ⟨hpE.new⟩)
  (refine jjF ?_)
  refine fin1C rfl rfl rfl rfl rfl ⟨hpE.ext (hE8.trans hSD) (by omega), rfl⟩
end
end Go.Proofs.YtgmgiepdehlinaaGreatDoor

/- The reference: All places. -/
namespace Go.Proofs.YtgmgiepdehlinaaGreatDoor
open Go.RowKit

theorem allP_small {cs : List Ch} (hs : SmallT cs) : ∀ {n : Nat}, n ≤ cs.length → (allP (txF cs) n).length ≤ n * 1000000
  | 0, _ => by simp [allP]
  | n + 1, hn => by
    rw [allP_succ, List.length_append, runA_len, wsT_get (by omega)]
    have h1 := allP_small hs (n := n) (by omega)
    have h2 : (chW cs[n]).flatten.length ≤ 1000000 := (rnW_small hs (k := n) (by omega)).1
    omega
section
variable (a : Option Addr) (c : Nat) (cs : List Ch) (w : World) [hrow : RowI w (.slice a cs.length c) true 2 (cs.map encCh)] [hT : TextI w cs]
set_option maxHeartbeats 4000000 in
theorem All_ref1 (hs : SmallT cs) : Ct Tryz.prog 63 [.agg #[.slice a cs.length c]] w fun v w' => OwnL w' w.heap.size 28 true 3 v ((allP (txF cs) (txF cs).length).map encPl) := by
  have hs1 := hs.1
  rw [txF_len]
  refine Ct.ofW (by simp) ?_
  (refine jjB ?_; refine jjC ?_)
  (refine jy rfl ?_; intro b1 w_b1 hb_b1 hs_b1 hS_b1 hk_b1; have hA_b1 := At.ofBlock hk_b1)
  (apply jJ; exact eS rfl; refine jz ?_; refine jjB ?_; refine jjC ?_; apply jJ; exact eS rfl; refine jz ?_; refine jjB ?_; refine jjB ?_; refine jjC ?_; apply jJ; exact eI rfl; refine jz ?_; refine jjD ?_)
  have hE1 : Ext w w_b1 := inferInstance
  refine W.keep0 [(1, .pointer (some ⟨b1, 0, none⟩)), (3, .slice none 0 0), (4, .int .i64 ((0 : Nat) : Int))] ⟨eP rfl, eS rfl, eI rfl, trivial⟩ fun s0 => ?_
  refine W.loopG (7 :: 8 :: 9 :: 10 :: 11 :: 5 :: 14 :: 15 :: 16 :: 17 :: 18 :: 19 :: 20 :: 21 :: 22 :: 6 :: 25 :: 26 :: 27 :: 28 :: 29 :: 30 :: 31 :: 32 :: 33 :: 34 :: 35 :: 36 :: 39 :: 40 :: 41 :: 42 :: 43 :: 44 :: 45 :: 3 :: 37 :: 38 :: 23 :: 24 :: 12 :: 13 :: 4 :: []) (fun g s' V => ∃ (k : Nat) (av : Value), s' 4 = .int .i64 ((k : Nat) : Int) ∧ s' 3 = av ∧ g = cs.length - k ∧ k ≤ cs.length ∧ Ext w V ∧ w_b1.heap.size ≤ V.heap.size ∧ At V b1 0 [.slice a cs.length c] ∧ OwnL V w_b1.heap.size 28 true 3 av ((allP (txF cs) k).map encPl)) cs.length ⟨0, _, rfl, rfl, rfl, Nat.zero_le _, hE1, Nat.le_refl _, inferInstance, OwnL.nil _ _ _ _ _⟩ ?_
  rintro _ sd V ⟨k, av, h4, h3, rfl, hk, hE, hz, hb1, hOa⟩
  obtain ⟨aa, al, ac, rfl⟩ := hOa.slice3
  refine W.fix h4 (W.fix (d := 3) h3 ?_)
  clear h4 h3
  by_cases hkc : k < cs.length
  rotate_left
  · obtain rfl : k = cs.length := by omega
    (refine jjB ?_; refine jjB ?_; refine jjC ?_; apply jI; exact eI rfl; refine jm ?_; refine jn rfl ?_; refine jN rfl rfl rfl ?_; refine jh rfl ?_; refine jja rfl rfl (by omega) ?_; refine jz ?_; refine jjK rfl ?_; refine jjE ?_; refine jjB ?_; refine jjC ?_; apply jI; exact eS rfl; apply jJ; exact eS rfl; refine jz ?_; refine jjF ?_; refine jB rfl rfl ⟨inferInstance, ?_⟩)
    exact hOa.mono hE1.size
  have hgk := List.getElem?_eq_getElem hkc
  have hsk := hs.2 _ (List.getElem_mem hkc)
  have hsm := chW_small fun y hy => (hsk.2 y hy).1
  have hcl : (chW cs[k]).length = cs[k].2.2.2.length := by simp [chW]
  have hapl := allP_small hs (n := k) (by omega)
  have hap1 : k * 1000000 ≤ 1000 * 1000000 := Nat.mul_le_mul_right _ (by omega)
  have hnext : allP (txF cs) (k + 1) = allP (txF cs) k ++ runAn k (chW cs[k]) (chW cs[k]).length := by rw [allP_succ, wsT_get hkc, runA]
  (refine jjB ?_; refine jjB ?_; refine jjC ?_; apply jI; exact eI rfl; refine jm ?_; refine jn rfl ?_; refine jN rfl rfl rfl ?_; refine jh rfl ?_; refine jjZ rfl rfl (by omega) ?_; refine jz ?_; refine jjJ rfl ?_; refine jjG ?_; refine jjB ?_; refine jjD ?_; refine jjB ?_; refine jjC ?_; apply jJ; exact eI rfl; refine jz ?_; refine jjD ?_)
  refine W.keep [(1, .pointer (some ⟨b1, 0, none⟩)), (3, .slice aa al ac), (4, .int .i64 ((k : Nat) : Int)), (5, .int .i64 ((0 : Nat) : Int))] (D := (7 :: 8 :: 9 :: 10 :: 11 :: 5 :: 14 :: 15 :: 16 :: 17 :: 18 :: 19 :: 20 :: 21 :: 22 :: 6 :: 25 :: 26 :: 27 :: 28 :: 29 :: 30 :: 31 :: 32 :: 33 :: 34 :: 35 :: 36 :: 39 :: 40 :: 41 :: 42 :: 43 :: 44 :: 45 :: 3 :: 37 :: 38 :: 23 :: 24 :: 12 :: 13 :: 4 :: [])) (sO := upds s0 _) (by ((refine Same.upd rfl ?_; refine Same.upd rfl ?_; refine Same.upd rfl ?_; refine Same.upd rfl ?_; refine Same.upd rfl ?_; refine Same.upd rfl ?_; refine Same.upd rfl ?_; refine Same.upd rfl ?_; exact Same.ovN))) ⟨eP rfl, eS rfl, eI rfl, eI rfl, trivial⟩ fun s1 hs1' => ?_
  refine W.loopG (14 :: 15 :: 16 :: 17 :: 18 :: 19 :: 20 :: 21 :: 22 :: 6 :: 25 :: 26 :: 27 :: 28 :: 29 :: 30 :: 31 :: 32 :: 33 :: 34 :: 35 :: 36 :: 39 :: 40 :: 41 :: 42 :: 43 :: 44 :: 45 :: 3 :: 37 :: 38 :: 23 :: 24 :: 5 :: []) (fun g s' V => ∃ (n : Nat) (av : Value), s' 5 = .int .i64 ((n : Nat) : Int) ∧ s' 3 = av ∧ g = cs[k].2.2.2.length - n ∧ n ≤ cs[k].2.2.2.length ∧ Ext w V ∧ w_b1.heap.size ≤ V.heap.size ∧ At V b1 0 [.slice a cs.length c] ∧ OwnL V w_b1.heap.size 28 true 3 av ((allP (txF cs) k ++ runAn k (chW cs[k]) n).map encPl)) cs[k].2.2.2.length ⟨0, _, rfl, rfl, rfl, Nat.zero_le _, hE, hz, hb1, by rw [runAn_zero, List.append_nil]; exact hOa⟩ ?_
  rintro _ sd1 V1 ⟨n, av, h5, h3, rfl, hn, hE, hz, hb1, hOa⟩
  obtain ⟨aa, al, ac, rfl⟩ := hOa.slice3
  refine W.fix h5 (W.fix (d := 3) h3 ?_)
  clear h5 h3
  have i0 : RowI V1 (.slice a cs.length c) true 2 (cs.map encCh) := ⟨hrow.h.ext hE⟩
  have hTV : TextI V1 cs := hT.ext hE
  have i2 := hTV.line hkc
  by_cases hnl : n < cs[k].2.2.2.length
  rotate_left
  · have hne : n = (chW cs[k]).length := by omega
    rw [hne, ← hnext] at hOa
    (refine jjB ?_; refine jjB ?_; refine jjC ?_; apply jI; exact eI rfl; refine jm ?_; refine jn rfl ?_; refine jN rfl rfl rfl ?_; apply jI; exact eI rfl; refine jF rfl rfl rfl (map_get (by omega)) ?_; intro _ _ _; refine jm ?_; refine jn rfl ?_; refine jP rfl rfl rfl ?_; refine jh rfl ?_; refine jja rfl rfl (by omega) ?_; refine jz ?_; refine jjK rfl ?_; refine jjE ?_; refine jjC ?_; apply jI; exact eI rfl; refine jY rfl rfl (by omega) ?_; apply jJ; exact eI rfl; refine jz ?_)
    exact ⟨rfl, by ((refine Same.upd rfl ?_; refine Same.upd rfl ?_; refine Same.upd rfl ?_; refine Same.upd rfl ?_; refine Same.upd rfl ?_; refine Same.upd rfl ?_; refine Same.upd rfl ?_; refine Same.upd rfl ?_; refine Same.upd rfl ?_; refine Same.upd rfl ?_; refine Same.upd rfl ?_; refine Same.upd rfl ?_; refine Same.upd rfl ?_; refine Same.upd rfl ?_; refine Same.ovN' rfl ?_; assumption)), cs.length - (k + 1), by omega, k + 1, _, congrArg (Value.int .i64) (by omega), rfl, rfl, by omega, hE, hz, hb1, hOa⟩
  have hgn := chW_get hnl
  have hsn := hsk.2 _ (List.getElem_mem hnl)
  (refine jjB ?_; refine jjB ?_; refine jjC ?_; apply jI; exact eI rfl; refine jm ?_; refine jn rfl ?_; refine jN rfl rfl rfl ?_; apply jI; exact eI rfl; refine jF rfl rfl rfl (map_get (by omega)) ?_; intro _ _ _; refine jm ?_; refine jn rfl ?_; refine jP rfl rfl rfl ?_; refine jh rfl ?_; refine jjZ rfl rfl (by omega) ?_; refine jz ?_; refine jjJ rfl ?_; refine jjG ?_; refine jjB ?_; refine jjD ?_; refine jjB ?_; refine jjC ?_; apply jJ; exact eI rfl; refine jz ?_; refine jjD ?_)
  refine W.keep [(1, .pointer (some ⟨b1, 0, none⟩)), (3, .slice aa al ac), (4, .int .i64 ((k : Nat) : Int)), (5, .int .i64 ((n : Nat) : Int)), (6, .int .i64 ((0 : Nat) : Int))] (D := (14 :: 15 :: 16 :: 17 :: 18 :: 19 :: 20 :: 21 :: 22 :: 6 :: 25 :: 26 :: 27 :: 28 :: 29 :: 30 :: 31 :: 32 :: 33 :: 34 :: 35 :: 36 :: 39 :: 40 :: 41 :: 42 :: 43 :: 44 :: 45 :: 3 :: 37 :: 38 :: 23 :: 24 :: 5 :: [])) (sO := upds s1 _) (by ((refine Same.upd rfl ?_; refine Same.upd rfl ?_; refine Same.upd rfl ?_; refine Same.upd rfl ?_; refine Same.upd rfl ?_; refine Same.upd rfl ?_; refine Same.upd rfl ?_; refine Same.upd rfl ?_; refine Same.upd rfl ?_; refine Same.upd rfl ?_; refine Same.upd rfl ?_; refine Same.upd rfl ?_; exact Same.ovN))) ⟨eP rfl, eS rfl, eI rfl, eI rfl, eI rfl, trivial⟩ fun s2 hs2' => ?_
  refine W.loopG (25 :: 26 :: 27 :: 28 :: 29 :: 30 :: 31 :: 32 :: 33 :: 34 :: 35 :: 36 :: 39 :: 40 :: 41 :: 42 :: 43 :: 44 :: 45 :: 3 :: 37 :: 38 :: 6 :: []) (fun g s' V => ∃ (q : Nat) (av : Value), s' 6 = .int .i64 ((q : Nat) : Int) ∧ s' 3 = av ∧ g = cs[k].2.2.2[n].2.2.length - q ∧ q ≤ cs[k].2.2.2[n].2.2.length ∧ Ext w V ∧ w_b1.heap.size ≤ V.heap.size ∧ At V b1 0 [.slice a cs.length c] ∧ OwnL V w_b1.heap.size 28 true 3 av ((allP (txF cs) k ++ (runAn k (chW cs[k]) n ++ lnP k n q)).map encPl)) cs[k].2.2.2[n].2.2.length ⟨0, _, rfl, rfl, rfl, Nat.zero_le _, hE, hz, hb1, by rw [show lnP k n 0 = [] from rfl, List.append_nil]; exact hOa⟩ ?_
  rintro _ sd2 V2 ⟨q, av, h6, h3, rfl, hq, hE, hz, hb1, hOa⟩
  obtain ⟨aa, al, ac, rfl⟩ := hOa.slice3
  refine W.fix h6 (W.fix (d := 3) h3 ?_)
  clear h6 h3
  have i0 : RowI V2 (.slice a cs.length c) true 2 (cs.map encCh) := ⟨hrow.h.ext hE⟩
  have hTV2 : TextI V2 cs := hT.ext hE
  have i3 := hTV2.line hkc
  have i4 := hTV2.word hkc hnl
  by_cases hql : q < cs[k].2.2.2[n].2.2.length
  rotate_left
  · obtain rfl : q = cs[k].2.2.2[n].2.2.length := by omega
    rw [← runAn_succ k hgn] at hOa
    (refine jjB ?_; refine jjB ?_; refine jjC ?_; apply jI; exact eI rfl; refine jm ?_; refine jn rfl ?_; refine jN rfl rfl rfl ?_; apply jI; exact eI rfl; refine jF rfl rfl rfl (map_get (by omega)) ?_; intro _ _ _; refine jm ?_; refine jn rfl ?_; refine jP rfl rfl rfl ?_; apply jI; exact eI rfl; refine jF rfl rfl rfl (map_get (by omega)) ?_; intro _ _ _; refine jQ rfl rfl ?_; refine jh rfl ?_; refine jja rfl rfl (by omega) ?_; refine jz ?_; refine jjK rfl ?_; refine jjE ?_; refine jjC ?_; apply jI; exact eI rfl; refine jY rfl rfl (by omega) ?_; apply jJ; exact eI rfl; refine jz ?_)
    exact ⟨rfl, by ((refine Same.upd rfl ?_; refine Same.upd rfl ?_; refine Same.upd rfl ?_; refine Same.upd rfl ?_; refine Same.upd rfl ?_; refine Same.upd rfl ?_; refine Same.upd rfl ?_; refine Same.upd rfl ?_; refine Same.upd rfl ?_; refine Same.upd rfl ?_; refine Same.upd rfl ?_; refine Same.upd rfl ?_; refine Same.upd rfl ?_; refine Same.upd rfl ?_; refine Same.upd rfl ?_; refine Same.upd rfl ?_; refine Same.upd rfl ?_; refine Same.ovN' rfl ?_; assumption)), cs[k].2.2.2.length - (n + 1), by omega, n + 1, _, congrArg (Value.int .i64) (by omega), rfl, rfl, by omega, hE, hz, hb1, hOa⟩
  have hl2 : (allP (txF cs) k ++ (runAn k (chW cs[k]) n ++ lnP k n q)).length ≤ 1002000000 := by
    have := flat_take hsm (n := n) (by omega)
    rw [List.length_append, List.length_append, lnP_len, runAn_len k (by omega)]; omega
  (refine jjB ?_; refine jjB ?_; refine jjC ?_; apply jI; exact eI rfl; refine jm ?_; refine jn rfl ?_; refine jN rfl rfl rfl ?_; apply jI; exact eI rfl; refine jF rfl rfl rfl (map_get (by omega)) ?_; intro _ _ _; refine jm ?_; refine jn rfl ?_; refine jP rfl rfl rfl ?_; apply jI; exact eI rfl; refine jF rfl rfl rfl (map_get (by omega)) ?_; intro _ _ _; refine jQ rfl rfl ?_; refine jh rfl ?_; refine jjZ rfl rfl (by omega) ?_; refine jz ?_; refine jjJ rfl ?_; refine jjG ?_; refine jjB ?_; refine jjD ?_; refine jjC ?_; apply jI; exact eS rfl; apply jI; exact eI rfl; apply jI; exact eI rfl; apply jI; exact eI rfl)
  (refine jjS (cells := [.int .i64 (k : Int), .int .i64 (n : Int), .int .i64 (q : Int)]) ?_ ?_; exact rfl)
  (refine jjP (v := .agg _) rfl (by exact rfl) (by exact rfl) (by exact rfl) (by exact rfl) ?_; intro b47 w_b47 hb_b47 hs_b47 hS_b47 hk_b47; have hR_b47 := RowV.one (agg := true) (k := 3) rfl hk_b47)
  have z47 := hS_b47.size
  refine Ops.appendL (hOa.ext hS_b47.ext) (by omega) hR_b47 rfl rfl rfl rfl (one_pl ((k : Int), (n : Int), (q : Int))) ?_ ?_ ?_
  · rw [List.length_map]; simp only [List.length_cons, List.length_nil]; omega
  · rw [List.length_map]; simp only [List.length_cons, List.length_nil]; omega
  intro av2 w48 hA48 hO48 _ hown48
  have z48 := hA48.g.size
  have hE48 : Ext w w48 := hA48.ext (hE.trans hS_b47.ext) (by omega)
  have e48 : (allP (txF cs) k ++ (runAn k (chW cs[k]) n ++ lnP k n q)).map encPl ++ [encPl ((k : Int), (n : Int), (q : Int))] = (allP (txF cs) k ++ (runAn k (chW cs[k]) n ++ lnP k n (q + 1))).map encPl := by rw [lnP_succ]; simp
  rw [e48] at hO48
  have hb148 := hA48.at_ (hb1.ext hS_b47.ext) (fun e => by have := (hOa.block _ e).1; omega)
  obtain ⟨aa2, al2, ac2, rfl⟩ := hO48.slice3
  (apply jJ; exact eS rfl; refine jz ?_; refine jjC ?_; apply jI; exact eI rfl; refine jY rfl rfl (by omega) ?_; apply jJ; exact eI rfl; refine jz ?_)
  exact ⟨rfl, by ((refine Same.upd rfl ?_; refine Same.upd rfl ?_; refine Same.upd rfl ?_; refine Same.upd rfl ?_; refine Same.upd rfl ?_; refine Same.upd rfl ?_; refine Same.upd rfl ?_; refine Same.upd rfl ?_; refine Same.upd rfl ?_; refine Same.upd rfl ?_; refine Same.upd rfl ?_; refine Same.upd rfl ?_; refine Same.upd rfl ?_; refine Same.upd rfl ?_; refine Same.upd rfl ?_; refine Same.upd rfl ?_; refine Same.upd rfl ?_; refine Same.upd rfl ?_; refine Same.upd rfl ?_; refine Same.upd rfl ?_; refine Same.upd rfl ?_; refine Same.upd rfl ?_; refine Same.upd rfl ?_; refine Same.upd rfl ?_; refine Same.upd rfl ?_; exact Same.ovN)), cs[k].2.2.2[n].2.2.length - (q + 1), by omega, q + 1, _, congrArg (Value.int .i64) (by omega), rfl, rfl, by omega, hE48, by omega, hb148, hO48⟩
end
end Go.Proofs.YtgmgiepdehlinaaGreatDoor

/- The reference: Make, All, Part. -/
namespace Go.Proofs.YtgmgiepdehlinaaGreatDoor
open Go.RowKit

theorem makeF_mem {t : Tx} {side wd : Int} {p : Pl} {n : Nat} (h : p ∈ allP t n) (hn : n ≤ t.length) : makeF t side wd p = some (slP t side wd p) := by
  obtain ⟨k, hk, hm⟩ := mem_allP.1 h
  obtain ⟨i, hi, e⟩ := List.mem_iff_getElem.1 hm
  have hg : (runA k (wsT t k))[i]? = some p := by rw [List.getElem?_eq_getElem hi, e]
  rw [makeF_yes (by omega) hg, slP_eq (by omega) hg]
section
variable (a : Option Addr) (c : Nat) (cs : List Ch) (wd side : Int) (w : World) [hrow : RowI w (.slice a cs.length c) true 2 (cs.map encCh)] [hT : TextI w cs]
theorem slipM_ref3 (hs : SmallT cs) (p : Pl) (s : Slp) (h : makeF (txF cs) side wd p = some s) : Ct Tryz.prog 26 [.agg #[.slice a cs.length c], encCut wd side, encPl p] w fun v _ => v = encSl s := by
  obtain ⟨k, i, hk, hi, rfl⟩ := makeF_some h
  rw [txF_len] at hk
  rw [wsT_get hk] at hi ⊢
  obtain ⟨p1, m⟩ := p
  obtain rfl : p1 = (k : Int) := runA_fst (List.mem_of_getElem? hi)
  exact slip_ref3 a c cs w hs wd side k i m hk hi
set_option maxHeartbeats 4000000 in
theorem All_ref3 (hs : SmallT cs) (hd : 0 ≤ side ∧ side ≤ 255) : Ct Tryz.prog 38 [.agg #[.slice a cs.length c], encCut wd side] w fun v w' => ∃ sv, v = .tuple #[sv, .int .i64 (askE (txF cs) wd side)] ∧ OwnL w' w.heap.size 30 true 6 sv ((allR (txF cs) wd side).map encSl) := by
  refine Ct.ofW (by simp) ?_
  (refine jjB ?_; refine jjC ?_)
  (refine jy rfl ?_; intro b2 w_b2 hb_b2 hs_b2 hS_b2 hk_b2; have hA_b2 := At.ofBlock hk_b2)
  skip
  (refine jy rfl ?_; intro b3 w_b3 hb_b3 hs_b3 hS_b3 hk_b3; have hA_b3 := At.ofBlock hk_b3)
  (apply jJ; exact eS rfl; apply jJ; exact eI rfl; refine jz ?_; refine jjB ?_; refine jjB ?_; refine jjC ?_; refine jO rfl rfl rfl rfl ?_; refine jO rfl rfl rfl rfl ?_)
  obtain ⟨e, he⟩ : ∃ e, askE (txF cs) wd side = e := ⟨_, rfl⟩
  have h3 := askE_in (txF cs) wd side
  rw [he] at h3
  refine jjQ ((asked_ref3 a c cs wd side _ hs hd).mono fun v _ _ h => h.trans (by rw [he])) rfl rfl ?_
  rintro _ w8 hS8 rfl
  by_cases h0 : e = 0
  rotate_left
  · (apply jJ; exact eI rfl; refine jz ?_; refine jjB ?_; refine jjC ?_; apply jI; exact eI rfl; refine jjj rfl rfl (by omega) ?_; refine jz ?_; refine jjJ rfl ?_; refine jjB ?_; refine jjC ?_; apply jI; exact eI rfl; apply jJ; exact eS rfl; apply jJ; exact eI rfl; refine jz ?_; refine jjF ?_; refine jC rfl rfl rfl ⟨inferInstance, ?_⟩)
    rw [he, allR, if_neg (by rw [he]; exact h0)]
    exact ⟨_, rfl, OwnL.nil _ _ _ _ _⟩
  subst h0
  obtain ⟨ht, hc⟩ := askE_zero he
  rw [he, allR, if_pos he, allS]
  have hal := allS_len (side := side) (wd := wd) ht
  rw [allS, List.length_map] at hal
  (apply jJ; exact eI rfl; refine jz ?_; refine jjB ?_; refine jjC ?_; apply jI; exact eI rfl; refine jjk rfl rfl (by omega) ?_; refine jz ?_; refine jjK rfl ?_; refine jjG ?_; refine jjB ?_; refine jjC ?_; apply jJ; exact eS rfl; refine jz ?_; refine jjB ?_; refine jjC ?_; refine jO rfl rfl rfl rfl ?_)
  refine jjQ (All_ref1 a c cs _ hs) rfl rfl ?_
  rintro av w9 hS9 hOa
  have hmf : ∀ i (hi : i < (allP (txF cs) (txF cs).length).length), makeF (txF cs) side wd (allP (txF cs) (txF cs).length)[i] = some (slP (txF cs) side wd (allP (txF cs) (txF cs).length)[i]) := fun i hi => makeF_mem (List.getElem_mem hi) (Nat.le_refl _)
  generalize allP (txF cs) (txF cs).length = ps at *
  obtain ⟨aa, ac, rfl⟩ := hOa.slice
  rw [List.length_map] at hOa ⊢
  have hE9 : Ext w w9 := inferInstance
  (apply jJ; exact eS rfl; refine jz ?_; refine jjB ?_; refine jjB ?_; refine jjC ?_; apply jJ; exact eI rfl; refine jz ?_; refine jjD ?_)
  refine W.keep0 [(2, .pointer (some ⟨b2, 0, none⟩)), (3, .pointer (some ⟨b3, 0, none⟩)), (7, .slice none 0 0), (8, .slice aa ps.length ac), (9, .int .i64 ((0 : Nat) : Int))] ⟨eP rfl, eP rfl, eS rfl, eS rfl, eI rfl, trivial⟩ fun s0 => ?_
  refine W.loopG (18 :: 19 :: 20 :: 21 :: 24 :: 25 :: 26 :: 27 :: 28 :: 29 :: 30 :: 31 :: 32 :: 33 :: 7 :: 22 :: 23 :: 9 :: []) (fun g s' V => ∃ (i : Nat) (sv : Value), s' 9 = .int .i64 ((i : Nat) : Int) ∧ s' 7 = sv ∧ g = ps.length - i ∧ i ≤ ps.length ∧ Ext w V ∧ w9.heap.size ≤ V.heap.size ∧ At V b2 0 [.slice a cs.length c] ∧ At V b3 0 [.int .i64 wd, .int .u8 side] ∧ OwnL V w8.heap.size 28 true 3 (.slice aa ps.length ac) (ps.map encPl) ∧ OwnL V w9.heap.size 30 true 6 sv (((ps.take i).map (slP (txF cs) side wd)).map encSl)) ps.length ⟨0, _, rfl, rfl, rfl, Nat.zero_le _, hE9, Nat.le_refl _, inferInstance, inferInstance, hOa, OwnL.nil _ _ _ _ _⟩ ?_
  rintro _ sd V ⟨i, sv, h9, h7, rfl, hi, hE, hz, hb2, hb3, hOaV, hO⟩
  obtain ⟨va, vl, vc, rfl⟩ := hO.slice3
  refine W.fix h9 (W.fix (d := 7) h7 ?_)
  clear h9 h7
  by_cases hil : i < ps.length
  rotate_left
  · obtain rfl : i = ps.length := by omega
    rw [List.take_length] at hO
    (refine jjB ?_; refine jjB ?_; refine jjC ?_; apply jI; exact eI rfl; apply jI; exact eS rfl; refine jh rfl ?_; refine jja rfl rfl (by omega) ?_; refine jz ?_; refine jjK rfl ?_; refine jjE ?_; refine jjB ?_; refine jjC ?_; apply jI; exact eS rfl; apply jJ; exact eS rfl; apply jJ; exact eI rfl; refine jz ?_; refine jjF ?_; refine jC rfl rfl rfl ⟨inferInstance, ?_⟩)
    exact ⟨_, rfl, hO.mono hE9.size⟩
  have hb2l := hb2.lt
  obtain ⟨ba, oa, rfl, hAp⟩ := hOaV.row.place' (by rw [List.getElem?_map, List.getElem?_eq_getElem hil]; rfl)
  have i0 : RowI V (.slice a cs.length c) true 2 (cs.map encCh) := ⟨hrow.h.ext hE⟩
  have hTV : TextI V cs := hT.ext hE
  (refine jjB ?_; refine jjB ?_; refine jjC ?_; apply jI; exact eI rfl; apply jI; exact eS rfl; refine jh rfl ?_; refine jjZ rfl rfl (by omega) ?_; refine jz ?_; refine jjJ rfl ?_; refine jjG ?_; refine jjB ?_; refine jjD ?_)
  have z8 := hS8.size
  have z9 := hS9.size
  have hba : ba < w9.heap.size := (hOa.block ba rfl).2
  refine W.draw (fun w' => Ext w w' ∧ At w' b2 0 [.slice a cs.length c] ∧ At w' b3 0 [.int .i64 wd, .int .u8 side] ∧ At w' ba (oa + i * 3) (encPl ps[i]).cells.toList) ?_
  intro w1 hS1
  have s1 := And.intro (hE.trans hS1.ext) (And.intro (hb2.ext hS1.ext) (And.intro (hb3.ext hS1.ext) (hAp.ext hS1.ext)))
  (refine jjV [0, 1, 2, 3, 4, 5, 6] ?_ ?_ ?_; (decide +kernel); (exact s1); (((apply jjT; exact rfl; rintro w' ⟨q0, q1, q2, q3⟩; apply jI; exact eS rfl; refine jz ?_; exact ⟨rfl, rfl⟩; apply jjT; exact rfl; rintro w' ⟨q0, q1, q2, q3⟩; refine jO rfl rfl rfl rfl ?_; refine jz ?_; exact ⟨rfl, rfl⟩; apply jjT; exact rfl; rintro w' ⟨q0, q1, q2, q3⟩; refine jO rfl rfl rfl rfl ?_; refine jz ?_; exact ⟨rfl, rfl⟩; apply jjT; exact rfl; rintro w' ⟨q0, q1, q2, q3⟩; apply jI; exact eS rfl; refine jz ?_; exact ⟨rfl, rfl⟩; apply jjT; exact rfl; rintro w' ⟨q0, q1, q2, q3⟩; apply jI; exact eI rfl; refine jz ?_; exact ⟨rfl, rfl⟩; apply jjT; exact rfl; rintro w' ⟨q0, q1, q2, q3⟩; refine jH _ rfl rfl rfl (by omega) ?_; refine jz ?_; exact ⟨rfl, rfl⟩; apply jjT; exact rfl; rintro w' ⟨q0, q1, q2, q3⟩; refine jQ rfl rfl ?_; refine jz ?_; exact ⟨rfl, rfl⟩; refine jjU ?_))))
  (apply jjW 7; (decide +kernel); exact rfl; (exact s1))
  have j0 : RowI w1 (.slice a cs.length c) true 2 (cs.map encCh) := ⟨hrow.h.ext (hE.trans hS1.ext)⟩
  have j1 : TextI w1 cs := hTV.ext hS1.ext
  refine jjQ (slipM_ref3 a c cs wd side _ hs ps[i] _ (hmf i hil)) rfl rfl ?_
  rintro _ w2 hS2 rfl
  have e2 := hS1.ext.trans hS2.ext
  have s2 := And.intro (hE.trans e2) (And.intro (hb2.ext e2) (And.intro (hb3.ext e2) (hAp.ext e2)))
  refine jz ?_
  (apply jjW 8; (decide +kernel); exact rfl; (exact s2))
  (refine jjP (v := .agg _) rfl (by exact rfl) (by exact rfl) (by exact rfl) (by exact rfl) ?_; intro b10 w_b10 hb_b10 hs_b10 hS_b10 hk_b10; have hR_b10 := RowV.one (agg := true) (k := 6) rfl hk_b10)
  refine jz ?_
  have e10 := e2.trans hS_b10.ext
  have z10 := e10.size
  have s10 := And.intro (hE.trans e10) (And.intro (hb2.ext e10) (And.intro (hb3.ext e10) (hAp.ext e10)))
  have hR1 : RowV w_b10 true 6 (.slice (some ⟨b10, 0, none⟩) 1 1) [encSl (slP (txF cs) side wd ps[i])] := hR_b10
  (apply jjW 9; (decide +kernel); exact rfl; (exact s10))
  refine Ops.appendL (hO.ext e10) (by omega) hR1 rfl rfl rfl rfl (one_sl _) ?_ ?_ ?_
  · rw [List.length_map, List.length_map, List.length_take]; simp only [List.length_cons, List.length_nil]; omega
  · rw [List.length_map, List.length_map, List.length_take]; simp only [List.length_cons, List.length_nil]; omega
  intro sv2 w3 hA hO3 _ hown
  refine jz ?_
  have hE3 : Ext w w3 := hA.ext (hE.trans e10) hE9.size
  have hnb : ∀ b, b < w9.heap.size → (Value.slice va vl vc).ownBlock ≠ some b := fun b h e => by have := (hO.block _ e).1; omega
  have k2 := hA.at_ (hb2.ext e10) (hnb _ (by omega))
  have k3 := hA.at_ (hb3.ext e10) (hnb _ (by omega))
  have s3 := And.intro hE3 (And.intro k2 (And.intro k3 (hA.at_ (hAp.ext e10) (hnb _ hba))))
  obtain ⟨va3, vl3, vc3, rfl⟩ := hO3.slice3
  (apply jjW 10; (decide +kernel); exact rfl; (exact s3))
  (apply jJ; exact eS rfl; refine jz ?_)
  refine jjX (by decide +kernel) s3 ?_
  have zA := hA.g.size
  have hnx : (ps.take i).map (slP (txF cs) side wd) ++ [slP (txF cs) side wd ps[i]] = (ps.take (i + 1)).map (slP (txF cs) side wd) := by rw [take_snoc_get (List.getElem?_eq_getElem hil), List.map_append]; rfl
  rw [← List.map_singleton, ← List.map_append, hnx] at hO3
  have hOa3 := (hOaV.ext e10).app hA (OwnL.ne (hOaV.ext e10) (hO.ext e10) (by decide))
  (refine jjC ?_; apply jI; exact eI rfl; refine jY rfl rfl (by omega) ?_; apply jJ; exact eI rfl; refine jz ?_)
  exact ⟨rfl, by ((refine Same.upd rfl ?_; refine Same.upd rfl ?_; refine Same.upd rfl ?_; refine Same.upd rfl ?_; refine Same.upd rfl ?_; refine Same.upd rfl ?_; refine Same.upd rfl ?_; refine Same.upd rfl ?_; refine Same.upd rfl ?_; refine Same.upd rfl ?_; refine Same.upd rfl ?_; refine Same.upd rfl ?_; refine Same.upd rfl ?_; refine Same.upd rfl ?_; refine Same.upd rfl ?_; refine Same.upd rfl ?_; refine Same.upd rfl ?_; refine Same.upd rfl ?_; refine Same.upd rfl ?_; refine Same.upd rfl ?_; exact Same.ovN)), ps.length - (i + 1), by omega, i + 1, _, congrArg (Value.int .i64) (by omega), rfl, rfl, by omega, hE3, by omega, k2, k3, hOa3, hO3⟩
end
end Go.Proofs.YtgmgiepdehlinaaGreatDoor

/- The proof engine, part 24: parts of strings; the first elements of a slice of the call's own; structs as keys of maps. -/
namespace Go.Proofs.YtgmgiepdehlinaaGreatDoor
open Go.RowKit

section rules
variable {P : Program} {ro : Option Nat} {n : Nat} {all rest : List Oper} {K : Sl → World → Prop} {s : Sl} {w : World} {d : Nat} {ty : Nat} {pos : String} {af : Array Edge}
variable {x y : Operand} {t t' e : Nat}
theorem Ops.sliceStr {lo hi : Nat} {b : ByteArray} {i j : Int} {k1 k2 : IntKind} {xl xh : Operand} (hx : ev n s x = .string b) (hl : ev n s xl = .int k1 i) (hh : ev n s xh = .int k2 j) (hi' : i = (lo : Int)) (hj' : j = (hi : Int)) (h1 : lo ≤ hi) (h2 : hi ≤ b.size) [ht : TU P t .string]
    (h : Ops P ro n all rest K (upd s d (.string (b.extract lo hi))) w) : Ops P ro n all (⟨some d, .slice t x (some xl) (some xh) none, ty, pos, af, none⟩ :: rest) K s w := by
  subst hi' hj'
  refine Ops.ofRun (v := .string (b.extract lo hi)) (w' := w) rfl ?_ h
  simp [execOp, Instr.sliceAt, Instr.slice, Instr.sliceBounds, Instr.sliceBound, hx, hl, hh, run_underlying ht.h, asIntOf, h1, h2]
theorem flatMap_take {k : Nat} : ∀ {xs : List Value} (m : Nat), (∀ x ∈ xs, x.cells.toList.length = k) → (xs.take m).flatMap (·.cells.toList) = (xs.flatMap (·.cells.toList)).take (m * k)
  | [], m, _ => by simp
  | y :: xs, 0, _ => by simp
  | y :: xs, m + 1, h => by
    have hy := h y List.mem_cons_self
    rw [List.take_succ_cons, List.flatMap_cons, List.flatMap_cons, flatMap_take m fun x hx => h x (List.mem_cons_of_mem _ hx), List.take_append, hy, Nat.add_mul, Nat.one_mul, Nat.add_sub_cancel]
    rw [List.take_of_length_le (l := y.cells.toList) (by omega)]
/-- The first m elements of a slice of the call's own. -/
theorem OwnL.cut {w : World} {B e k l c : Nat} {agg : Bool} {a : Option Addr} {xs : List Value} (h : OwnL w B e agg k (.slice a l c) xs) {m : Nat} (hm : m ≤ xs.length) (h0 : 0 < c) : OwnL w B e agg k (.slice a m c) (xs.take m) := by
  have hl : (xs.take m).length = m := by rw [List.length_take]; omega
  have hf : ∀ x ∈ xs.take m, fitsV agg k x = true := fun x hx => h.fit x (List.mem_of_mem_take hx)
  have hlen := h.len
  refine ⟨⟨?_, ?_⟩, hf, by omega⟩
  · rw [flatMap_take (k := k) m fun x hx => by rw [Array.length_toList]; exact fitsV_cells (h.fit x hx)]
    rw [List.length_take, hl, flat_len (k := k) (xs := xs) fun y hy => fitsV_cells (h.fit y hy)]
    exact Nat.min_eq_left (Nat.mul_le_mul_right _ hm)
  · rcases h.own.2 with ⟨e0, _⟩ | ⟨g, cap, cur, e0, hB, hh, hn, hm', hs, ht⟩
    · simp only [Value.slice.injEq] at e0; omega
    · simp only [Value.slice.injEq] at e0
      obtain ⟨rfl, _, rfl⟩ := e0
      refine .inr ⟨g, c, cur, by rw [hl], hB, hh, by omega, hm', hs, ?_⟩
      rw [hl, flatMap_take (k := k) m fun x hx => by rw [Array.length_toList]; exact fitsV_cells (h.fit x hx), ← ht, List.take_take, Nat.min_eq_left (Nat.mul_le_mul_right _ hm)]
theorem Ops.sliceXHv {l c hi k bytes : Nat} {j : Int} {k2 : IntKind} {xh : Operand} {a : Option Addr} {z : Value} (hx : ev n s x = .slice a l c) (hh : ev n s xh = .int k2 j) (hj : j = (hi : Int)) (h2 : hi ≤ c) (h0 : 0 < c) [ht : TSl P t e] [hz : TS P e z k bytes]
    (h : Ops P ro n all rest K (upd s d (.slice a hi c)) w) : Ops P ro n all (⟨some d, .slice t x none (some xh) none, ty, pos, af, none⟩ :: rest) K s w := by
  subst hj
  refine Ops.ofRun rfl ?_ h
  have hc : ¬ c = 0 := by omega
  cases a <;> simp [execOp, Instr.sliceAt, Instr.slice, Instr.sliceBounds, Instr.sliceBound, hx, hh, run_underlying ht.h, asIntOf, h2, run_sizeOf' w hz, hc, Addr.add]
end rules
end Go.Proofs.YtgmgiepdehlinaaGreatDoor

/- The reference: parts of a text, slips that are valid. -/
namespace Go.Proofs.YtgmgiepdehlinaaGreatDoor
open Go.RowKit

/-- The words of the first letters of a text. -/
def splT (s : ByteArray) (i : Nat) : List ByteArray := (spl (s.data.toList.take i)).map bytesL
theorem splT_0 (s : ByteArray) : splT s 0 = [⟨#[]⟩] := rfl
theorem splT_all (s : ByteArray) : splT s s.size = splB s := by
  rw [splT, List.take_of_length_le (by rw [Array.length_toList]; exact Nat.le_refl _)]; rfl
theorem splT_len (s : ByteArray) (i : Nat) : 0 < (splT s i).length ∧ (splT s i).length ≤ i + 1 := by
  rw [splT, List.length_map]
  refine ⟨spl_len _, Nat.le_trans (spl_bound _).1 ?_⟩
  have := List.length_take_le i s.data.toList
  omega
theorem splT_size (s : ByteArray) (i : Nat) : ∀ x ∈ splT s i, x.size ≤ i := fun x hx => by
  obtain ⟨y, hy, rfl⟩ := List.mem_map.1 hx
  have h := (spl_bound _).2 y hy
  have h2 := List.length_take_le i s.data.toList
  have e2 : (bytesL y).size = y.length := List.size_toArray
  omega
theorem take_byte {s : ByteArray} {i : Nat} (hi : i < s.size) : s.data.toList.take (i + 1) = s.data.toList.take i ++ [s[i]] := by
  have h : s.data.toList[i]? = some s[i] := by
    have hi' : i < s.data.size := hi
    rw [Array.getElem?_toList, Array.getElem?_eq_getElem hi']; rfl
  exact take_snoc_get h
theorem splT_sp {s : ByteArray} {i : Nat} (hi : i < s.size) (h : s[i] = 32) : splT s (i + 1) = splT s i ++ [⟨#[]⟩] := by
  rw [splT, take_byte hi, spl_snoc, if_pos h, List.map_append]; rfl
theorem last_set {α : Type} {l : List α} {x y : α} (h : l[l.length - 1]? = some x) : l.dropLast ++ [y] = l.set (l.length - 1) y ∧ l.getLastD y = x := by
  rcases List.eq_nil_or_concat l with rfl | ⟨i, z, rfl⟩
  · simp at h
  · rw [List.concat_eq_append] at *
    have e : (i ++ [z]).length - 1 = i.length := by simp
    rw [e] at h ⊢
    constructor
    · simp
    · simpa using h
theorem splT_ch {s : ByteArray} {i : Nat} (hi : i < s.size) (h : s[i] ≠ 32) {x : ByteArray} (hx : (splT s i)[(splT s i).length - 1]? = some x) : splT s (i + 1) = (splT s i).set ((splT s i).length - 1) (x ++ s.extract i (i + 1)) := by
  have hl : (splT s i).length = (spl (s.data.toList.take i)).length := by rw [splT, List.length_map]
  rw [hl] at hx ⊢
  rw [splT, take_byte hi, spl_snoc, if_neg h]
  rw [splT, List.getElem?_map] at hx
  obtain ⟨y, hy, rfl⟩ := Option.map_eq_some_iff.1 hx
  obtain ⟨h1, h2⟩ := last_set (y := []) hy
  rw [h2]
  obtain ⟨h3, _⟩ := last_set (y := y ++ [s[i]]) hy
  rw [h3, List.map_set, splT]
  congr 1
  apply ByteArray.ext
  have hi' : i < s.data.size := hi
  rw [ByteArray.data_append, ByteArray.data_extract]
  apply Array.ext'
  simp only [Array.toList_append, Array.toList_extract, List.extract_eq_take_drop, List.append_cancel_left_eq]
  rw [show i + 1 - i = 1 by omega, List.take_one, List.head?_drop, Array.getElem?_toList, Array.getElem?_eq_getElem hi']; rfl
theorem splT_last (s : ByteArray) (i : Nat) : ∃ x, (splT s i)[(splT s i).length - 1]? = some x := ⟨_, List.getElem?_eq_getElem (by have := (splT_len s i).1; omega)⟩
theorem wordsB_yes {s : ByteArray} (h0 : s.size ≠ 0) (h80 : s.size ≤ 80) (h : ∀ (j : Nat) (hj : j < (splB s).length), wordB (splB s)[j] = true) : wordsB s = true := by
  have : (splB s).all wordB = true := all_yes h
  simp [wordsB, h0, h80, this]
theorem wordsB_no {s : ByteArray} (h0 : s.size ≠ 0) {j : Nat} (hj : j < (splB s).length) (h : wordB (splB s)[j] = false) : wordsB s = false := by
  have : (splB s).all wordB = false := all_no hj h
  simp [wordsB, h0, this]

set_option maxHeartbeats 2000000 in
theorem parts_ref3 (s : ByteArray) (w : World) (hs : s.size ≤ 1000) : Ct Tryz.prog 33 [.string s] w fun v w' => ∃ sv, v = .tuple #[sv, .bool (wordsB s)] ∧ (wordsB s = true → OwnL w' w.heap.size 9 false 1 sv ((wordsL s).map strV)) := by
  refine Ct.ofW (by simp) ?_
  (refine jjB ?_; refine jjC ?_; apply jJ; exact eS rfl; apply jJ; exact eB rfl; refine jz ?_; refine jjB ?_; refine jjB ?_; refine jjC ?_; apply jI; exact eT rfl)
  refine Ops.eqlS rfl rfl ?_
  by_cases h0 : s.size = 0
  · have e0 := str_nil.2 h0
    subst e0
    rw [decide_eq_true rfl]
    (refine jz ?_; refine jjJ rfl ?_; refine jjB ?_; refine jjC ?_; apply jJ; exact eS rfl; apply jJ; exact eB rfl; refine jz ?_; refine jjF ?_; refine jC rfl rfl rfl ⟨inferInstance, ?_⟩)
    exact ⟨_, rfl, fun _ => OwnL.nil _ _ _ _ _⟩
  have hne : ¬ s = ⟨#[]⟩ := fun e => h0 (str_nil.1 e)
  rw [decide_eq_false hne]
  have hL : wordsL s = splB s := by rw [wordsL, if_neg h0]
  by_cases h80 : s.size ≤ 80
  rotate_left
  · have hwb : wordsB s = false := by simp [wordsB, h0, h80]
    (refine jz ?_; refine jjK rfl ?_; refine jjG ?_; refine jjB ?_; refine jjB ?_; refine jjC ?_; apply jI; exact eT rfl; refine ji rfl ?_; refine jjd rfl rfl (by omega) ?_; refine jz ?_; refine jjJ rfl ?_; refine jjB ?_; refine jjC ?_; apply jJ; exact eS rfl; apply jJ; exact eB rfl; refine jz ?_; refine jjF ?_; refine jC rfl rfl rfl ⟨inferInstance, ?_⟩)
    exact ⟨_, congrArg (fun b => Value.tuple #[.slice none 0 0, .bool b]) hwb.symm, fun e => by rw [hwb] at e; cases e⟩
  (refine jz ?_; refine jjK rfl ?_; refine jjG ?_; refine jjB ?_; refine jjB ?_; refine jjC ?_; apply jI; exact eT rfl; refine ji rfl ?_; refine jje rfl rfl (by omega) ?_; refine jz ?_; refine jjK rfl ?_; refine jjG ?_; refine jjB ?_; refine jjC ?_)
  (refine jjP (v := .string _) rfl (by exact rfl) (by exact rfl) (by exact rfl) (by exact rfl) ?_; intro b4 w_b4 hb_b4 hs_b4 hS_b4 hk_b4; have hR_b4 := RowV.one (agg := false) (k := 1) rfl hk_b4)
  have hE4 : Ext w w_b4 := inferInstance
  have hO4 : OwnL w_b4 w.heap.size 9 false 1 (.slice (some ⟨b4, 0, none⟩) 1 1) ((splT s 0).map strV) := OwnL.one rfl (by have := hE4.size; omega) hk_b4
  (apply jJ; exact eS rfl; refine jz ?_; refine jjB ?_; refine jjB ?_; refine jjC ?_; apply jJ; exact eI rfl; refine jz ?_; refine jjD ?_)
  refine W.keep0 [(0, .string s), (5, .int .i64 ((0 : Nat) : Int)), (4, .slice (some ⟨b4, 0, none⟩) 1 1)] ⟨eT rfl, eI rfl, eS rfl, trivial⟩ fun s0 => ?_
  refine W.loopG (13 :: 14 :: 15 :: 16 :: 19 :: 20 :: 21 :: 22 :: 23 :: 24 :: 25 :: 4 :: 26 :: 27 :: 28 :: 29 :: 30 :: 31 :: 32 :: 33 :: 34 :: 35 :: 36 :: 37 :: 38 :: 17 :: 18 :: 5 :: []) (fun g s' V => ∃ (k n c b : Nat), s' 5 = .int .i64 ((k : Nat) : Int) ∧ s' 4 = .slice (some ⟨b, 0, none⟩) n c ∧ g = s.size - k ∧ k ≤ s.size ∧ n = (splT s k).length ∧ Ext w V ∧ OwnL V w.heap.size 9 false 1 (.slice (some ⟨b, 0, none⟩) n c) ((splT s k).map strV)) s.size ⟨0, 1, 1, b4, rfl, rfl, rfl, Nat.zero_le _, rfl, hE4, hO4⟩ ?_
  rintro _ sd V ⟨k, n, c, b, h5, h4, rfl, hk, hn, hE, hO⟩
  refine W.fix h5 (W.fix (d := 4) h4 ?_)
  clear h5 h4
  have hlen := splT_len s k
  by_cases hkc : k < s.size
  rotate_left
  · obtain rfl : k = s.size := by omega
    rw [splT_all] at hO hn
    subst hn
    have i1 : RowI V (.slice (some ⟨b, 0, none⟩) (splB s).length c) false 1 ((splB s).map strV) := ⟨hO.row⟩
    have hbd := splB_bound s
    (refine jjB ?_; refine jjB ?_; refine jjC ?_; apply jI; exact eI rfl; apply jI; exact eT rfl; refine ji rfl ?_; refine jja rfl rfl (by omega) ?_; refine jz ?_; refine jjK rfl ?_; refine jjE ?_; refine jjB ?_; refine jjB ?_; refine jjC ?_; apply jJ; exact eI rfl; refine jz ?_; refine jjD ?_)
    refine W.keep0 [(0, .string s), (6, .int .i64 ((0 : Nat) : Int)), (4, .slice (some ⟨b, 0, none⟩) (splB s).length c)] ⟨eT rfl, eI rfl, eS rfl, trivial⟩ fun s1 => ?_
    refine W.loop (39 :: 40 :: 41 :: 42 :: 45 :: 46 :: 47 :: 48 :: 49 :: 50 :: 2 :: 3 :: 43 :: 44 :: 6 :: []) (fun g s' V2 => ∃ k : Nat, s' 6 = .int .i64 ((k : Nat) : Int) ∧ g = (splB s).length - k ∧ k ≤ (splB s).length ∧ ∀ (j : Nat) (hj : j < (splB s).length), j < k → wordB (splB s)[j] = true) (splB s).length ⟨0, rfl, rfl, Nat.zero_le _, by intros; omega⟩ ?_
    rintro _ sd2 V2 hS2 ⟨q, h6, rfl, hq, hpre⟩
    refine W.fix h6 ?_
    clear h6
    by_cases hql : q < (splB s).length
    rotate_left
    · have hwb := wordsB_yes h0 h80 fun j hj => hpre j hj (by omega)
      (refine jjB ?_; refine jjB ?_; refine jjC ?_; apply jI; exact eI rfl; apply jI; exact eS rfl; refine jh rfl ?_; refine jja rfl rfl (by omega) ?_; refine jz ?_; refine jjK rfl ?_; refine jjE ?_; refine jjB ?_; refine jjC ?_; apply jI; exact eS rfl; apply jJ; exact eS rfl; apply jJ; exact eB rfl; refine jz ?_; refine jjF ?_; refine jC rfl rfl rfl ⟨inferInstance, ?_⟩)
      have := hE.toStep
      skip
      rw [hwb, hL]
      exact ⟨_, rfl, fun _ => hO.ext hS2.ext⟩
    have hsz := hbd.2 _ (List.getElem_mem hql)
    have := hE.toStep
    obtain ⟨B, hB⟩ : ∃ B, wordB (splB s)[q] = B := ⟨_, rfl⟩
    (refine jjB ?_; refine jjB ?_; refine jjC ?_; apply jI; exact eI rfl; apply jI; exact eS rfl; refine jh rfl ?_; refine jjZ rfl rfl (by omega) ?_; refine jz ?_; refine jjJ rfl ?_; refine jjG ?_; refine jjB ?_; refine jjD ?_; refine jjB ?_; refine jjC ?_; apply jI; exact eS rfl; apply jI; exact eI rfl; refine jF rfl rfl rfl (map_get (by omega)) ?_; intro _ _ _; refine jQ rfl rfl ?_)
    refine jjQ ((Word_ref (splB s)[q] _ (by omega)).mono fun v _ _ e => e.trans (by rw [hB])) rfl rfl ?_
    rintro _ w4 hS4 rfl
    cases B
    · have hwb := wordsB_no h0 hql hB
      (refine jq rfl ?_; refine jz ?_; refine jjJ rfl ?_; refine jjB ?_; refine jjC ?_; apply jJ; exact eS rfl; apply jJ; exact eB rfl; refine jz ?_; refine jjF ?_; refine jC rfl rfl rfl ⟨inferInstance, ?_⟩)
      exact ⟨_, congrArg (fun b => Value.tuple #[.slice none 0 0, .bool b]) hwb.symm, fun e => by rw [hwb] at e; cases e⟩
    · (refine jp rfl ?_; refine jz ?_; refine jjK rfl ?_; refine jjG ?_; refine jjC ?_; apply jI; exact eI rfl; refine jY rfl rfl (by omega) ?_; apply jJ; exact eI rfl; refine jz ?_)
      refine ⟨rfl, by ((refine Same.upd rfl ?_; refine Same.upd rfl ?_; refine Same.upd rfl ?_; refine Same.upd rfl ?_; refine Same.upd rfl ?_; refine Same.upd rfl ?_; refine Same.upd rfl ?_; refine Same.upd rfl ?_; refine Same.upd rfl ?_; refine Same.upd rfl ?_; refine Same.upd rfl ?_; refine Same.upd rfl ?_; refine Same.upd rfl ?_; refine Same.upd rfl ?_; exact Same.ovN)), (splB s).length - (q + 1), by omega, inferInstance, q + 1, congrArg (Value.int .i64) (by omega), rfl, by omega, fun j hj hjk => ?_⟩
      by_cases e : j = q
      · subst e; exact hB
      · exact hpre j hj (by omega)
  subst hn
  by_cases hsp : s[k] = 32
  · have hi : ((s[k].toNat : Nat) : Int) = 32 := by rw [hsp]; rfl
    (refine jjB ?_; refine jjB ?_; refine jjC ?_; apply jI; exact eI rfl; apply jI; exact eT rfl; refine ji rfl ?_; refine jjZ rfl rfl (by omega) ?_; refine jz ?_; refine jjJ rfl ?_; refine jjG ?_; refine jjB ?_; refine jjD ?_; refine jjB ?_; refine jjC ?_; apply jI; exact eT rfl; apply jI; exact eI rfl; refine jt rfl rfl rfl (by omega) ?_; refine jjh rfl rfl (by omega) ?_; refine jz ?_; refine jjJ rfl ?_; refine jjC ?_; apply jI; exact eS rfl)
    (refine jjP (v := .string _) rfl (by exact rfl) (by exact rfl) (by exact rfl) (by exact rfl) ?_; intro b5 w_b5 hb_b5 hs_b5 hS_b5 hk_b5; have hR_b5 := RowV.one (agg := false) (k := 1) rfl hk_b5)
    have hz := hE.size
    refine Ops.appendL (hO.ext hS_b5.ext) (by have := hS_b5.size; omega) hR_b5 rfl rfl rfl rfl rfl ?_ ?_ ?_
    · rw [List.length_map]; simp only [List.length_cons, List.length_nil]; omega
    · rw [List.length_map]; simp only [List.length_cons, List.length_nil]; omega
    intro v2 V4 hA hO4 _ _
    have e1 : (splT s k).map strV ++ [.string ⟨#[]⟩] = (splT s (k + 1)).map strV := by rw [splT_sp hkc hsp, List.map_append]; rfl
    rw [e1] at hO4
    obtain ⟨a4, c4, rfl⟩ := hO4.slice
    obtain ⟨g4, rfl, hg4, _⟩ := hO4.self (by rw [List.length_map]; exact (splT_len s (k + 1)).1)
    rw [List.length_map] at hO4 ⊢
    (apply jJ; exact eS rfl; refine jz ?_; refine jjC ?_; apply jI; exact eI rfl; refine jY rfl rfl (by omega) ?_; apply jJ; exact eI rfl; refine jz ?_)
    exact ⟨rfl, by ((refine Same.upd rfl ?_; refine Same.upd rfl ?_; refine Same.upd rfl ?_; refine Same.upd rfl ?_; refine Same.upd rfl ?_; refine Same.upd rfl ?_; refine Same.upd rfl ?_; refine Same.upd rfl ?_; refine Same.upd rfl ?_; refine Same.upd rfl ?_; refine Same.upd rfl ?_; refine Same.upd rfl ?_; refine Same.upd rfl ?_; refine Same.upd rfl ?_; refine Same.upd rfl ?_; refine Same.upd rfl ?_; refine Same.upd rfl ?_; exact Same.ovN)), s.size - (k + 1), by omega, k + 1, _, c4, g4, congrArg (Value.int .i64) (by omega), rfl, rfl, by omega, rfl, hA.ext (hE.trans hS_b5.ext) (Nat.le_refl _), hO4⟩
  · have hi : ¬ ((s[k].toNat : Nat) : Int) = 32 := fun e => hsp (by
      have : s[k].toNat = 32 := by omega
      exact UInt8.toNat_inj.1 this)
    obtain ⟨x, hx⟩ := splT_last s k
    have hxs : x.size ≤ k := splT_size s k x (List.mem_of_getElem? hx)
    have hj : ((((splT s k).length : Nat) : Int) - 1) = (((splT s k).length - 1 : Nat) : Int) := by omega
    obtain ⟨cs, hB, hcl, hnc, hcm, hll, htk, hBg⟩ := hO.cells
    have hcell : ∀ w', Ext V w' → w'.cell? ⟨b, 0 + ((splT s k).length - 1), none⟩ = some (.string x) := fun w' e => by
      have h1 : cs[(splT s k).length - 1]? = some (.string x) := by
        have h2 : (cs.take (splT s k).length)[(splT s k).length - 1]? = some (.string x) := by rw [htk, List.getElem?_map, hx]; rfl
        rwa [List.getElem?_take, if_pos (by omega)] at h2
      have h3 := (hB.ext e).cellO h1
      rwa [Nat.zero_add]
    (refine jjB ?_; refine jjB ?_; refine jjC ?_; apply jI; exact eI rfl; apply jI; exact eT rfl; refine ji rfl ?_; refine jjZ rfl rfl (by omega) ?_; refine jz ?_; refine jjJ rfl ?_; refine jjG ?_; refine jjB ?_; refine jjD ?_; refine jjB ?_; refine jjC ?_; apply jI; exact eT rfl; apply jI; exact eI rfl; refine jt rfl rfl rfl (by omega) ?_; refine jji rfl rfl (by omega) ?_; refine jz ?_; refine jjK rfl ?_)
    refine W.drawX 13 (fun w' => Ext V w') ?_
    intro w1 hS1
    (refine AnyX.take [0, 1, 2, 3, 4] ?_ ?_ ?_; (decide +kernel); (exact hS1.ext); (((apply jjT; exact rfl; rintro w' hq; apply jI; exact eS rfl; refine jz ?_; exact ⟨rfl, rfl⟩; apply jjT; exact rfl; rintro w' hq; apply jI; exact eS rfl; refine jz ?_; exact ⟨rfl, rfl⟩; apply jjT; exact rfl; rintro w' hq; refine jh rfl ?_; refine jz ?_; exact ⟨rfl, rfl⟩; apply jjT; exact rfl; rintro w' hq; refine jZ rfl rfl (by omega) ?_; refine jz ?_; exact ⟨rfl, rfl⟩; apply jjT; exact rfl; rintro w' hq; refine jG rfl rfl (by assumption) (by omega) ?_; refine jz ?_; exact ⟨rfl, rfl⟩; refine jjU ?_))))
    refine AnyX.take [5] (by decide +kernel) hS1.ext (jjT (v := .string x) rfl (fun w' q1 => ?_) (jjU ?_)); (refine jR (hcell _ q1) rfl rfl ?_; refine jz ?_; exact ⟨rfl, rfl⟩)
    (refine AnyX.take [6, 7, 8, 9] ?_ ?_ ?_; (decide +kernel); (exact hS1.ext); (((apply jjT; exact rfl; rintro w' hq; apply jI; exact eT rfl; refine jz ?_; exact ⟨rfl, rfl⟩; apply jjT; exact rfl; rintro w' hq; apply jI; exact eI rfl; refine jz ?_; exact ⟨rfl, rfl⟩; apply jjT; exact rfl; rintro w' hq; apply jI; exact eI rfl; refine jz ?_; exact ⟨rfl, rfl⟩; apply jjT; exact rfl; rintro w' hq; refine jY rfl rfl (by omega) ?_; refine jz ?_; exact ⟨rfl, rfl⟩; refine jjU ?_))))
    refine AnyX.take [10] (by decide +kernel) hS1.ext (jjT (v := .string (s.extract k (k + 1))) rfl (fun w' q1 => ?_) (jjU ?_)); (refine Ops.sliceStr (lo := k) (hi := k + 1) rfl rfl rfl rfl rfl (by omega) (by omega) ?_; refine jz ?_; exact ⟨rfl, rfl⟩)
    refine AnyX.take [11] (by decide +kernel) hS1.ext (jjT (v := .string (x ++ s.extract k (k + 1))) rfl (fun w' q1 => ?_) (jjU ?_)); (refine Ops.cat rfl rfl (by rw [ByteArray.size_extract]; omega) ?_; refine jz ?_; exact ⟨rfl, rfl⟩)
    (refine AnyX.take [12] ?_ ?_ ?_; (decide +kernel); (exact hS1.ext); (((apply jjT; exact rfl; rintro w' hq; refine jG rfl rfl (by assumption) (by omega) ?_; refine jz ?_; exact ⟨rfl, rfl⟩; refine jjU ?_))))
    (apply AnyX.one 13; (decide +kernel); exact rfl; (exact hS1.ext))
    refine Ops.storeL (j := (splT s k).length - 1) (i := 0) (X := .string x) (X' := .string (x ++ s.extract k (k + 1))) (u := .string (x ++ s.extract k (k + 1))) (hO.ext hS1.ext) rfl (by rw [List.getElem?_map, hx]; rfl) rfl rfl rfl (by exact congrArg (fun o => Value.pointer (some ⟨b, o, none⟩)) (by omega)) rfl rfl rfl ?_
    intro w2 o2 hp2 hO2
    refine jz ?_
    refine AnyX.done (by decide +kernel) ?_
    have e1 : ((splT s k).map strV).set ((splT s k).length - 1) (.string (x ++ s.extract k (k + 1))) = (splT s (k + 1)).map strV := by rw [splT_ch hkc hsp hx, List.map_set]
    rw [e1] at hO2
    have e2 : (splT s (k + 1)).length = (splT s k).length := by rw [splT_ch hkc hsp hx, List.length_set]
    (refine jjC ?_; apply jI; exact eI rfl; refine jY rfl rfl (by omega) ?_; apply jJ; exact eI rfl; refine jz ?_)
    exact ⟨rfl, by ((refine Same.upd rfl ?_; refine Same.upd rfl ?_; refine Same.upd rfl ?_; refine Same.upd rfl ?_; refine Same.upd rfl ?_; refine Same.upd rfl ?_; refine Same.upd rfl ?_; refine Same.upd rfl ?_; refine Same.upd rfl ?_; refine Same.upd rfl ?_; refine Same.upd rfl ?_; refine Same.upd rfl ?_; refine Same.upd rfl ?_; refine Same.upd rfl ?_; refine Same.upd rfl ?_; refine Same.upd rfl ?_; refine Same.upd rfl ?_; refine Same.upd rfl ?_; refine Same.upd rfl ?_; refine Same.upd rfl ?_; refine Same.upd rfl ?_; refine Same.upd rfl ?_; refine Same.upd rfl ?_; refine Same.upd rfl ?_; refine Same.upd rfl ?_; refine Same.upd rfl ?_; exact Same.ovN)), s.size - (k + 1), by omega, k + 1, _, c, b, congrArg (Value.int .i64) (by omega), rfl, rfl, by omega, e2.symm, hp2.ext (hE.trans hS1.ext) (by omega), hO2⟩
end Go.Proofs.YtgmgiepdehlinaaGreatDoor

/- slip: words of a text, slips that are right. -/
namespace Go.Proofs.YtgmgiepdehlinaaGreatDoor
open Go.RowKit

theorem wordsB_len {s : ByteArray} (h0 : s.size ≠ 0) (h : ¬ s.size ≤ 80) : wordsB s = false := by simp [wordsB, h0, h]
theorem wordsB_all {s : ByteArray} (h0 : s.size ≠ 0) (h : s.size ≤ 80) : wordsB s = (splB s).all wordB := by simp [wordsB, h0, h]
theorem wordsB_nil {s : ByteArray} (h0 : s.size = 0) : wordsB s = true := by simp [wordsB, h0]
section
variable (w : World) [hm : MxI w]
set_option maxHeartbeats 1000000 in
theorem words_slip (s : ByteArray) (hs : s.size ≤ 1000) : Ct Tryz.prog 28 [.string s] w fun v w' => ∃ sv, v = .tuple #[sv, .bool (wordsB s)] ∧ OwnL w' w.heap.size 9 false 1 sv ((wordsL s).map strV) := by
  refine Ct.ofW (by simp) ?_
  (refine jjB ?_; refine jjC ?_; apply jJ; exact eS rfl; apply jJ; exact eB rfl; refine jz ?_; refine jjH ?_; refine jjB ?_; refine jjB ?_; refine jjC ?_; apply jI; exact eT rfl)
  refine Ops.eqlS rfl rfl ?_
  by_cases h0 : s.size = 0
  · have e0 := str_nil.2 h0
    subst e0
    rw [decide_eq_true rfl]
    (refine jz ?_; refine jjJ rfl ?_; refine jjB ?_; refine jjC ?_; apply jJ; exact eS rfl; apply jJ; exact eB rfl; refine jz ?_; refine jjF ?_; refine jC rfl rfl rfl ⟨inferInstance, ?_⟩)
    exact ⟨_, rfl, OwnL.nil _ _ _ _ _⟩
  have hne : ¬ s = ⟨#[]⟩ := fun e => h0 (str_nil.1 e)
  rw [decide_eq_false hne]
  have hb := splB_bound s
  (refine jz ?_; refine jjK rfl ?_; refine jjG ?_; refine jjB ?_; refine jjC ?_; apply jI; exact eT rfl)
  refine jjQ (Split_str s _ (by omega)) rfl rfl ?_
  rintro _ w2 hS2 ⟨sv, rfl, hO⟩
  obtain ⟨a, c, rfl⟩ := hO.slice
  rw [List.length_map] at hO ⊢
  have hE2 : Ext w w2 := inferInstance
  have hL : wordsL s = splB s := by rw [wordsL, if_neg h0]
  rw [hL]
  by_cases h80 : s.size ≤ 80
  · have hwb := wordsB_all h0 h80
    (apply jJ; exact eS rfl; refine jz ?_; refine jjB ?_; refine jjC ?_; apply jI; exact eT rfl; refine ji rfl ?_; refine jjb rfl rfl (by omega) ?_; apply jJ; exact eB rfl; refine jz ?_; refine jjB ?_; refine jjI ?_; refine jjB ?_; refine jjB ?_; refine jjC ?_; apply jI; exact eS rfl; refine jh rfl ?_; apply jI; exact eI rfl; refine jz ?_; refine jjD ?_)
    refine W.keep0 [(4, .slice a (splB s).length c), (5, .bool true), (15, .slice a (splB s).length c), (16, .int .i64 (((splB s).length : Nat) : Int)), (17, .int .i64 ((0 : Nat) : Int))] ⟨eS rfl, eB rfl, eS rfl, eI rfl, eI rfl, trivial⟩ fun s0 => ?_
    refine W.loop (18 :: 19 :: 20 :: 7 :: 21 :: 22 :: 23 :: 5 :: 24 :: 17 :: []) (fun g s' V => ∃ k : Nat, s' 17 = .int .i64 ((k : Nat) : Int) ∧ s' 5 = .bool true ∧ g = (splB s).length - k ∧ k ≤ (splB s).length ∧ ∀ (j : Nat) (hj : j < (splB s).length), j < k → wordB (splB s)[j] = true) (splB s).length ⟨0, rfl, rfl, rfl, Nat.zero_le _, by intros; omega⟩ ?_
    rintro _ sd w3 hS3 ⟨k, h17, h5, rfl, hk, hpre⟩
    refine W.fix h17 (W.fix (d := 5) h5 ?_)
    clear h17 h5
    by_cases hkl : k < (splB s).length
    rotate_left
    · have hall : (splB s).all wordB = true := all_yes fun j hj => hpre j hj (by omega)
      (refine jjB ?_; refine jjC ?_; refine jja rfl rfl (by omega) ?_; refine jz ?_; refine jjB ?_; refine jjK rfl ?_; refine jjE ?_; refine jjB ?_; refine jjC ?_; apply jI; exact eS rfl; apply jI; exact eB rfl; apply jJ; exact eS rfl; apply jJ; exact eB rfl; refine jz ?_; refine jjF ?_; refine jC rfl rfl rfl ⟨inferInstance, ?_⟩)
      rw [hwb, hall]
      exact ⟨_, rfl, (hO.ext hS3.ext)⟩
    have hsz := hb.2 _ (List.getElem_mem hkl)
    have i3 : RowI w3 (.slice a (splB s).length c) false 1 ((splB s).map strV) := ⟨(hO.ext hS3.ext).row⟩
    obtain ⟨B, hB⟩ : ∃ B, wordB (splB s)[k] = B := ⟨_, rfl⟩
    (refine jjB ?_; refine jjC ?_; refine jjZ rfl rfl (by omega) ?_; refine jz ?_; refine jjB ?_; refine jjJ rfl ?_; refine jjG ?_; refine jjB ?_; refine jjD ?_; refine jjB ?_; refine jjC ?_; refine jF rfl rfl rfl (map_get (by omega)) ?_; intro _ _ _; refine jQ rfl rfl ?_; apply jJ; exact eT rfl; refine jz ?_; refine jjB ?_; refine jjC ?_; apply jI; exact eT rfl)
    refine jjQ ((word_slip (splB s)[k] _ (by omega)).mono fun v _ _ e => e.trans (by rw [hB])) rfl rfl ?_
    rintro _ w4 hS4 rfl
    cases B
    · have hall : (splB s).all wordB = false := all_no hkl hB
      (refine jq rfl ?_; refine jz ?_; refine jjJ rfl ?_; refine jjB ?_; refine jjC ?_; apply jJ; exact eB rfl; refine jz ?_; refine jjE ?_; refine jjB ?_; refine jjC ?_; apply jI; exact eS rfl; apply jI; exact eB rfl; apply jJ; exact eS rfl; apply jJ; exact eB rfl; refine jz ?_; refine jjF ?_; refine jC rfl rfl rfl ⟨inferInstance, ?_⟩)
      rw [hwb, hall]
      exact ⟨_, rfl, hO.ext (hS3.ext.trans hS4.ext)⟩
    · (refine jp rfl ?_; refine jz ?_; refine jjK rfl ?_; refine jjG ?_; refine jjC ?_; refine jY rfl rfl (by omega) ?_; apply jI; exact eI rfl; refine jz ?_)
      refine ⟨rfl, by ((refine Same.upd rfl ?_; refine Same.upd rfl ?_; refine Same.upd rfl ?_; refine Same.upd rfl ?_; refine Same.upd rfl ?_; refine Same.upd rfl ?_; refine Same.upd rfl ?_; refine Same.upd rfl ?_; refine Same.upd rfl ?_; refine Same.upd rfl ?_; refine Same.upd rfl ?_; exact Same.ovN)), (splB s).length - (k + 1), by omega, inferInstance, k + 1, congrArg (Value.int .i64) (by omega), rfl, rfl, by omega, fun j hj hjk => ?_⟩
      by_cases e : j = k
      · subst e; exact hB
      · exact hpre j hj (by omega)
  · have hwb := wordsB_len h0 h80
    (apply jJ; exact eS rfl; refine jz ?_; refine jjB ?_; refine jjC ?_; apply jI; exact eT rfl; refine ji rfl ?_; refine jjc rfl rfl (by omega) ?_; apply jJ; exact eB rfl; refine jz ?_; refine jjB ?_; refine jjI ?_; refine jjB ?_; refine jjB ?_; refine jjC ?_; apply jI; exact eS rfl; refine jh rfl ?_; apply jI; exact eI rfl; refine jz ?_; refine jjD ?_)
    refine W.keep0 [(4, .slice a (splB s).length c), (5, .bool false), (15, .slice a (splB s).length c), (16, .int .i64 (((splB s).length : Nat) : Int)), (17, .int .i64 ((0 : Nat) : Int))] ⟨eS rfl, eB rfl, eS rfl, eI rfl, eI rfl, trivial⟩ fun s0 => ?_
    refine W.loop (18 :: 19 :: 20 :: 7 :: 21 :: 22 :: 23 :: 5 :: 24 :: 17 :: []) (fun g s' V => ∃ k : Nat, s' 17 = .int .i64 ((k : Nat) : Int) ∧ s' 5 = .bool false ∧ g = (splB s).length - k ∧ k ≤ (splB s).length) (splB s).length ⟨0, rfl, rfl, rfl, Nat.zero_le _⟩ ?_
    rintro _ sd w3 hS3 ⟨k, h17, h5, rfl, hk⟩
    refine W.fix h17 (W.fix (d := 5) h5 ?_)
    clear h17 h5
    by_cases hkl : k < (splB s).length
    rotate_left
    · (refine jjB ?_; refine jjC ?_; refine jja rfl rfl (by omega) ?_; refine jz ?_; refine jjB ?_; refine jjK rfl ?_; refine jjE ?_; refine jjB ?_; refine jjC ?_; apply jI; exact eS rfl; apply jI; exact eB rfl; apply jJ; exact eS rfl; apply jJ; exact eB rfl; refine jz ?_; refine jjF ?_; refine jC rfl rfl rfl ⟨inferInstance, ?_⟩)
      rw [hwb]
      exact ⟨_, rfl, (hO.ext hS3.ext)⟩
    have hsz := hb.2 _ (List.getElem_mem hkl)
    have i3 : RowI w3 (.slice a (splB s).length c) false 1 ((splB s).map strV) := ⟨(hO.ext hS3.ext).row⟩
    obtain ⟨B, hB⟩ : ∃ B, wordB (splB s)[k] = B := ⟨_, rfl⟩
    (refine jjB ?_; refine jjC ?_; refine jjZ rfl rfl (by omega) ?_; refine jz ?_; refine jjB ?_; refine jjJ rfl ?_; refine jjG ?_; refine jjB ?_; refine jjD ?_; refine jjB ?_; refine jjC ?_; refine jF rfl rfl rfl (map_get (by omega)) ?_; intro _ _ _; refine jQ rfl rfl ?_; apply jJ; exact eT rfl; refine jz ?_; refine jjB ?_; refine jjC ?_; apply jI; exact eT rfl)
    refine jjQ ((word_slip (splB s)[k] _ (by omega)).mono fun v _ _ e => e.trans (by rw [hB])) rfl rfl ?_
    rintro _ w4 hS4 rfl
    cases B
    · (refine jq rfl ?_; refine jz ?_; refine jjJ rfl ?_; refine jjB ?_; refine jjC ?_; apply jJ; exact eB rfl; refine jz ?_; refine jjE ?_; refine jjB ?_; refine jjC ?_; apply jI; exact eS rfl; apply jI; exact eB rfl; apply jJ; exact eS rfl; apply jJ; exact eB rfl; refine jz ?_; refine jjF ?_; refine jC rfl rfl rfl ⟨inferInstance, ?_⟩)
      rw [hwb]
      exact ⟨_, rfl, hO.ext (hS3.ext.trans hS4.ext)⟩
    · (refine jp rfl ?_; refine jz ?_; refine jjK rfl ?_; refine jjG ?_; refine jjC ?_; refine jY rfl rfl (by omega) ?_; apply jI; exact eI rfl; refine jz ?_)
      exact ⟨rfl, by ((refine Same.upd rfl ?_; refine Same.upd rfl ?_; refine Same.upd rfl ?_; refine Same.upd rfl ?_; refine Same.upd rfl ?_; refine Same.upd rfl ?_; refine Same.upd rfl ?_; refine Same.upd rfl ?_; refine Same.upd rfl ?_; refine Same.upd rfl ?_; refine Same.upd rfl ?_; exact Same.ovN)), (splB s).length - (k + 1), by omega, inferInstance, k + 1, congrArg (Value.int .i64) (by omega), rfl, rfl, by omega⟩
end
end Go.Proofs.YtgmgiepdehlinaaGreatDoor

/- The order of texts and of slips: cmp.Compare of texts, slip.right, slip.Order. -/
namespace Go.Proofs.YtgmgiepdehlinaaGreatDoor
open Go.RowKit

/-- The order of two texts. -/
def cmpS (x y : ByteArray) : Int := if Op.bytesLess x.toList y.toList then -1 else if x = y then 0 else 1
def slipB (x : Slp) : Bool := wordsB x.2.2.1 && (wordsB x.2.2.2 && wordB x.2.1)
def SmallS (x : Slp) : Prop := x.2.1.size ≤ 1000 ∧ x.2.2.1.size ≤ 1000 ∧ x.2.2.2.size ≤ 1000
/-- The order of two slips. -/
def ordS (a b : Slp) : Int := orF [cmpS a.2.1 b.2.1, cmpP a.1 b.1, cmpS a.2.2.2 b.2.2.2, cmpS a.2.2.1 b.2.2.1]
def ordR (a b : Slp) : Int × Int := if slipB a && slipB b then (ordS a b, 0) else (0, 31)

section
variable (w : World) [hm : MxI w]
set_option maxHeartbeats 1000000 in
theorem right_slip (x : Slp) (hx : SmallS x) : Ct Tryz.prog 21 [encSl x] w fun v _ => v = .bool (slipB x) := by
  obtain ⟨h1, h2, h3⟩ := hx
  refine Ct.ofW (by simp) ?_
  (refine jjB ?_; refine jjC ?_)
  (refine jy rfl ?_; intro b1 w_b1 hb_b1 hs_b1 hS_b1 hk_b1; have hA_b1 := At.ofBlock hk_b1)
  (apply jJ; exact eB rfl; refine jz ?_; refine jjB ?_; refine jjC ?_; refine jm ?_; refine jn rfl ?_; refine jN rfl rfl rfl ?_)
  obtain ⟨B1, e1⟩ : ∃ B, wordsB x.2.2.1 = B := ⟨_, rfl⟩
  obtain ⟨B2, e2⟩ : ∃ B, wordsB x.2.2.2 = B := ⟨_, rfl⟩
  obtain ⟨B3, e3⟩ : ∃ B, wordB x.2.1 = B := ⟨_, rfl⟩
  refine jjQ ((words_slip _ x.2.2.1 h2).mono fun v _ _ h => by rw [e1] at h; exact h) rfl rfl ?_
  rintro _ w2 hS2 ⟨sv, rfl, -⟩
  (apply jI; exact eU rfl; refine ju rfl rfl ?_; refine ju rfl rfl ?_; apply jJ; exact rfl; apply jJ; exact eB rfl; refine jz ?_; refine jjB ?_; refine jjC ?_; refine jm ?_; refine jn rfl ?_; refine jN rfl rfl rfl ?_)
  refine jjQ ((words_slip _ x.2.2.2 h3).mono fun v _ _ h => by rw [e2] at h; exact h) rfl rfl ?_
  rintro _ w3 hS3 ⟨sv2, rfl, -⟩
  rw [slipB, e1, e2, e3]
  cases B1
  · (apply jI; exact eU rfl; refine ju rfl rfl ?_; refine ju rfl rfl ?_; apply jJ; exact rfl; apply jJ; exact eB rfl; refine jz ?_; refine jjB ?_; refine jjC ?_; apply jI; exact eB rfl; apply jI; exact eB rfl; refine jU rfl rfl rfl rfl ?_; apply jL rfl; exact eB rfl; apply jI; exact eB rfl; refine jU rfl rfl rfl rfl ?_; refine jU rfl rfl rfl rfl ?_; refine jU rfl rfl rfl rfl ?_; apply jL rfl; exact eB rfl; apply jJ; exact eB rfl; refine jz ?_; refine jjF ?_; refine jB rfl rfl ⟨inferInstance, ?_⟩)
    exact rfl
  cases B2
  · (apply jI; exact eU rfl; refine ju rfl rfl ?_; refine ju rfl rfl ?_; apply jJ; exact rfl; apply jJ; exact eB rfl; refine jz ?_; refine jjB ?_; refine jjC ?_; apply jI; exact eB rfl; apply jI; exact eB rfl; refine jT rfl rfl rfl ?_; apply jI; exact eB rfl; apply jK rfl; exact eB rfl; apply jI; exact eB rfl; refine jU rfl rfl rfl rfl ?_; refine jU rfl rfl rfl rfl ?_; refine jU rfl rfl rfl rfl ?_; apply jL rfl; exact eB rfl; apply jJ; exact eB rfl; refine jz ?_; refine jjF ?_; refine jB rfl rfl ⟨inferInstance, ?_⟩)
    exact rfl
  (apply jI; exact eU rfl; refine ju rfl rfl ?_; refine ju rfl rfl ?_; apply jJ; exact rfl; apply jJ; exact eB rfl; refine jz ?_; refine jjB ?_; refine jjC ?_; apply jI; exact eB rfl; apply jI; exact eB rfl; refine jT rfl rfl rfl ?_; apply jI; exact eB rfl; apply jK rfl; exact eB rfl; apply jI; exact eB rfl; refine jT rfl rfl rfl ?_; refine jm ?_; refine jn rfl ?_; refine jT rfl rfl rfl ?_; refine jN rfl rfl rfl ?_; refine jT rfl rfl rfl ?_)
  refine jjQ ((word_slip x.2.1 _ (by omega)).mono fun v _ _ h => h.trans (by rw [e3])) rfl rfl ?_
  rintro _ w4 hS4 rfl
  (apply jK rfl; exact eB rfl; apply jJ; exact eB rfl; refine jz ?_; refine jjF ?_; refine jB rfl rfl ⟨inferInstance, ?_⟩)
  exact rfl
end
end Go.Proofs.YtgmgiepdehlinaaGreatDoor

/- The order of places: its three answers. -/
namespace Go.Proofs.YtgmgiepdehlinaaGreatDoor
open Go.RowKit

theorem cmpP_self (a : Pl) : cmpP a a = 0 := by simp [cmpP, cmp1, orF]
theorem cmpP_lt {a b : Pl} (h : befP a b = true) : cmpP a b = -1 := by
  unfold cmpP orF orF orF orF cmp1
  rw [befP_iff] at h
  repeat' split
  all_goals omega
theorem cmpP_gt {a b : Pl} (h : befP a b = false) (hne : a ≠ b) : cmpP a b = 1 := by
  have h2 : befP b a = true := by
    rcases befP_tri a b with h3 | h3 | h3
    · rw [h] at h3; cases h3
    · exact absurd h3 hne
    · exact h3
  unfold cmpP orF orF orF orF cmp1
  rw [befP_iff] at h2
  repeat' split
  all_goals omega
end Go.Proofs.YtgmgiepdehlinaaGreatDoor

/- The reference: the order of slips. -/
namespace Go.Proofs.YtgmgiepdehlinaaGreatDoor
open Go.RowKit

set_option maxHeartbeats 1000000 in
theorem Slip_ref3 (x : Slp) (w : World) (hx : SmallS x) : Ct Tryz.prog 24 [encSl x] w fun v _ => v = .bool (slipB x) := by
  obtain ⟨h1, h2, h3⟩ := hx
  refine Ct.ofW (by simp) ?_
  (refine jjB ?_; refine jjC ?_)
  (refine jy rfl ?_; intro b1 w_b1 hb_b1 hs_b1 hS_b1 hk_b1; have hA_b1 := At.ofBlock hk_b1)
  (apply jJ; exact eB rfl; refine jz ?_; refine jjB ?_; refine jjC ?_; refine jm ?_; refine jn rfl ?_; refine jN rfl rfl rfl ?_)
  obtain ⟨B1, e1⟩ : ∃ B, wordsB x.2.2.1 = B := ⟨_, rfl⟩
  obtain ⟨B2, e2⟩ : ∃ B, wordsB x.2.2.2 = B := ⟨_, rfl⟩
  obtain ⟨B3, e3⟩ : ∃ B, wordB x.2.1 = B := ⟨_, rfl⟩
  refine jjQ ((parts_ref3 x.2.2.1 _ h2).mono fun v _ _ h => by rw [e1] at h; exact h) rfl rfl ?_
  rintro _ w2 hS2 ⟨sv, rfl, -⟩
  (apply jI; exact eU rfl; refine ju rfl rfl ?_; refine ju rfl rfl ?_; apply jJ; exact rfl; apply jJ; exact eB rfl; refine jz ?_; refine jjB ?_; refine jjC ?_; refine jm ?_; refine jn rfl ?_; refine jN rfl rfl rfl ?_)
  refine jjQ ((parts_ref3 x.2.2.2 _ h3).mono fun v _ _ h => by rw [e2] at h; exact h) rfl rfl ?_
  rintro _ w3 hS3 ⟨sv2, rfl, -⟩
  rw [slipB, e1, e2, e3]
  cases B1
  · (apply jI; exact eU rfl; refine ju rfl rfl ?_; refine ju rfl rfl ?_; apply jJ; exact rfl; apply jJ; exact eB rfl; refine jz ?_; refine jjB ?_; refine jjC ?_; apply jI; exact eB rfl; apply jI; exact eB rfl; refine jU rfl rfl rfl rfl ?_; apply jL rfl; exact eB rfl; apply jI; exact eB rfl; refine jU rfl rfl rfl rfl ?_; refine jU rfl rfl rfl rfl ?_; refine jU rfl rfl rfl rfl ?_; apply jL rfl; exact eB rfl; apply jJ; exact eB rfl; refine jz ?_; refine jjF ?_; refine jB rfl rfl ⟨inferInstance, ?_⟩)
    exact rfl
  cases B2
  · (apply jI; exact eU rfl; refine ju rfl rfl ?_; refine ju rfl rfl ?_; apply jJ; exact rfl; apply jJ; exact eB rfl; refine jz ?_; refine jjB ?_; refine jjC ?_; apply jI; exact eB rfl; apply jI; exact eB rfl; refine jT rfl rfl rfl ?_; apply jI; exact eB rfl; apply jK rfl; exact eB rfl; apply jI; exact eB rfl; refine jU rfl rfl rfl rfl ?_; refine jU rfl rfl rfl rfl ?_; refine jU rfl rfl rfl rfl ?_; apply jL rfl; exact eB rfl; apply jJ; exact eB rfl; refine jz ?_; refine jjF ?_; refine jB rfl rfl ⟨inferInstance, ?_⟩)
    exact rfl
  (apply jI; exact eU rfl; refine ju rfl rfl ?_; refine ju rfl rfl ?_; apply jJ; exact rfl; apply jJ; exact eB rfl; refine jz ?_; refine jjB ?_; refine jjC ?_; apply jI; exact eB rfl; apply jI; exact eB rfl; refine jT rfl rfl rfl ?_; apply jI; exact eB rfl; apply jK rfl; exact eB rfl; apply jI; exact eB rfl; refine jT rfl rfl rfl ?_; refine jm ?_; refine jn rfl ?_; refine jT rfl rfl rfl ?_; refine jN rfl rfl rfl ?_; refine jT rfl rfl rfl ?_)
  refine jjQ ((Word_ref x.2.1 _ (by omega)).mono fun v _ _ h => h.trans (by rw [e3])) rfl rfl ?_
  rintro _ w4 hS4 rfl
  (apply jK rfl; exact eB rfl; apply jJ; exact eB rfl; refine jz ?_; refine jjF ?_; refine jB rfl rfl ⟨inferInstance, ?_⟩)
  exact rfl
theorem bytesLess_irr : ∀ l : List UInt8, Op.bytesLess l l = false
  | [] => rfl
  | c :: l => by simp [Op.bytesLess, bytesLess_irr l]
theorem cmpS_self (x : ByteArray) : cmpS x x = 0 := by rw [cmpS, bytesLess_irr]; simp
theorem cmpS_ne {x y : ByteArray} (h : x ≠ y) : cmpS x y ≠ 0 := by
  unfold cmpS
  repeat' split
  all_goals (first | decide | (exfalso; exact h ‹_›))
end Go.Proofs.YtgmgiepdehlinaaGreatDoor

/- slip: Wrong; the reference: Wrong. -/
namespace Go.Proofs.YtgmgiepdehlinaaGreatDoor
open Go.RowKit

/-- What is wrong with a slip, and the error. -/
noncomputable def wrongR (t : Tx) (wd side : Int) (s : Slp) : Int × Int := if askE t wd side ≠ 0 then (0, askE t wd side) else if slipB s = false then (0, 31) else match makeF t side wd s.1 with
  | none => (1, 0)
  | some x => if x.2.1 ≠ s.2.1 then (2, 0) else if x.2.2.1 ≠ s.2.2.1 then (3, 0) else if x.2.2.2 ≠ s.2.2.2 then (4, 0) else (0, 0)
theorem wrongR_no {t : Tx} {wd side : Int} {s : Slp} (h : askE t wd side ≠ 0) : wrongR t wd side s = (0, askE t wd side) := by rw [wrongR, if_pos h]
theorem wrongR_bad {t : Tx} {wd side : Int} {s : Slp} (h : askE t wd side = 0) (h2 : slipB s = false) : wrongR t wd side s = (0, 31) := by rw [wrongR, if_neg (by simp [h]), if_pos h2]
theorem wrongR_none {t : Tx} {wd side : Int} {s : Slp} (h : askE t wd side = 0) (h2 : slipB s = true) (h3 : makeF t side wd s.1 = none) : wrongR t wd side s = (1, 0) := by rw [wrongR, if_neg (by simp [h]), if_neg (by simp [h2]), h3]
theorem wrongR_some {t : Tx} {wd side : Int} {s x : Slp} (h : askE t wd side = 0) (h2 : slipB s = true) (h3 : makeF t side wd s.1 = some x) : wrongR t wd side s = if x.2.1 ≠ s.2.1 then (2, 0) else if x.2.2.1 ≠ s.2.2.1 then (3, 0) else if x.2.2.2 ≠ s.2.2.2 then (4, 0) else (0, 0) := by rw [wrongR, if_neg (by simp [h]), if_neg (by simp [h2]), h3]
section
variable (a : Option Addr) (c : Nat) (cs : List Ch) (wd side : Int) (w : World) [hrow : RowI w (.slice a cs.length c) true 2 (cs.map encCh)] [hT : TextI w cs]
set_option maxHeartbeats 2000000 in
theorem Wrong_slip [hgs : At w 0 0 sidesC] [hmx : MxI w] (s : Slp) (hs : SmallT cs) (hd : 0 ≤ side ∧ side ≤ 255) (hss : SmallS s) : Ct Tryz.prog 8 [.agg #[.slice a cs.length c], encCut wd side, encSl s] w fun v _ => v = .tuple #[.int .u8 (wrongR (txF cs) wd side s).1, .int .i64 (wrongR (txF cs) wd side s).2] := by
  refine Ct.ofW (by simp) ?_
  (refine jjB ?_; refine jjC ?_)
  (refine jy rfl ?_; intro b3 w_b3 hb_b3 hs_b3 hS_b3 hk_b3; have hA_b3 := At.ofBlock hk_b3)
  skip
  (refine jy rfl ?_; intro b4 w_b4 hb_b4 hs_b4 hS_b4 hk_b4; have hA_b4 := At.ofBlock hk_b4)
  skip
  (refine jy rfl ?_; intro b5 w_b5 hb_b5 hs_b5 hS_b5 hk_b5; have hA_b5 := At.ofBlock hk_b5)
  (apply jJ; exact eI rfl; apply jJ; exact eI rfl; refine jz ?_; refine jjB ?_; refine jjB ?_; refine jjC ?_; refine jO rfl rfl rfl rfl ?_; refine jO rfl rfl rfl rfl ?_)
  obtain ⟨e, he⟩ : ∃ e, askE (txF cs) wd side = e := ⟨_, rfl⟩
  have h3 := askE_in (txF cs) wd side
  rw [he] at h3
  refine jjQ ((open_slip a c cs wd side _ hs hd).mono fun v _ _ h => h.trans (by rw [he])) rfl rfl ?_
  rintro _ w8 hS8 rfl
  by_cases h0 : e = 0
  rotate_left
  · (apply jJ; exact eI rfl; refine jz ?_; refine jjB ?_; refine jjC ?_; apply jI; exact eI rfl; refine jjj rfl rfl (by omega) ?_; refine jz ?_; refine jjJ rfl ?_; refine jjB ?_; refine jjC ?_; apply jI; exact eI rfl; apply jJ; exact eI rfl; apply jJ; exact eI rfl; refine jz ?_; refine jjF ?_; refine jC rfl rfl rfl ⟨inferInstance, ?_⟩)
    rw [wrongR_no (by rw [he]; exact h0), he]; exact rfl
  subst h0
  obtain ⟨ht, hc⟩ := askE_zero he
  obtain ⟨B, hB⟩ : ∃ B, slipB s = B := ⟨_, rfl⟩
  (apply jJ; exact eI rfl; refine jz ?_; refine jjB ?_; refine jjC ?_; apply jI; exact eI rfl; refine jjk rfl rfl (by omega) ?_; refine jz ?_; refine jjK rfl ?_; refine jjG ?_; refine jjB ?_; refine jjB ?_; refine jjC ?_; refine jO rfl rfl rfl rfl ?_)
  refine jjQ ((right_slip _ s hss).mono fun v _ _ h => h.trans (by rw [hB])) rfl rfl ?_
  rintro _ w9 hS9 rfl
  cases B with
  | false =>
    (refine jq rfl ?_; refine jz ?_; refine jjJ rfl ?_; refine jjB ?_; refine jjC ?_; apply jJ; exact eI rfl; apply jJ; exact eI rfl; refine jz ?_; refine jjF ?_; refine jC rfl rfl rfl ⟨inferInstance, ?_⟩)
    rw [wrongR_bad he hB]; exact rfl
  | true =>
  obtain ⟨o, ho⟩ : ∃ o, makeF (txF cs) side wd s.1 = o := ⟨_, rfl⟩
  (refine jp rfl ?_; refine jz ?_; refine jjK rfl ?_; refine jjG ?_; refine jjB ?_; refine jjC ?_; refine jO rfl rfl rfl rfl ?_; refine jO rfl rfl rfl rfl ?_; refine jm ?_; refine jn rfl ?_; refine jO rfl rfl rfl rfl ?_)
  refine jjQ ((made_slip a c cs wd side _ s.1 hs ht hc).mono fun v _ _ h => h.trans (by rw [ho])) rfl rfl ?_
  rintro _ wA hSA rfl
  cases o with
  | none =>
    (apply jI; exact eU rfl; refine ju rfl rfl ?_; refine ju rfl rfl ?_)
    (apply jjR rfl; (intro _; first|exact eI rfl|exact eB rfl|exact eP rfl|exact eS rfl|exact eT rfl|exact eA rfl|exact eU rfl|exact eF rfl|exact eM rfl|exact eN rfl|exact rfl); exact rfl; exact rfl; exact rfl; exact rfl; intro b9 w_b9 hb_b9 hs_b9 hS_b9 hk_b9; have hA_b9 := Bk.of hk_b9)
    (apply jJ; exact eB rfl; refine jz ?_; refine jjB ?_; refine jjD ?_; refine jjB ?_; refine jjC ?_; apply jI; exact eB rfl; refine jq rfl ?_; apply jJ; exact eB rfl; refine jz ?_; refine jjJ rfl ?_; refine jjB ?_; refine jjC ?_; apply jJ; exact eI rfl; apply jJ; exact eI rfl; refine jz ?_; refine jjF ?_; refine jC rfl rfl rfl ⟨inferInstance, ?_⟩)
    rw [wrongR_none he hB ho]; exact rfl
  | some x =>
  rw [wrongR_some he hB ho]
  have hu : Option.getD (some x) noSl = x := rfl
  rw [hu]
  (apply jI; exact eU rfl; refine ju rfl rfl ?_; refine ju rfl rfl ?_)
  (apply jjR rfl; (intro _; first|exact eI rfl|exact eB rfl|exact eP rfl|exact eS rfl|exact eT rfl|exact eA rfl|exact eU rfl|exact eF rfl|exact eM rfl|exact eN rfl|exact rfl); exact rfl; exact rfl; exact rfl; exact rfl; intro b9 w_b9 hb_b9 hs_b9 hS_b9 hk_b9; have hA_b9 := Bk.of hk_b9)
  (apply jJ; exact eB rfl; refine jz ?_; refine jjB ?_; refine jjD ?_; refine jjB ?_; refine jjC ?_; apply jI; exact eB rfl; refine jp rfl ?_; apply jJ; exact eB rfl; refine jz ?_; refine jjK rfl ?_; refine jjB ?_; refine jjC ?_; refine jm ?_; refine jn rfl ?_; refine jN rfl rfl rfl ?_; refine jm ?_; refine jn rfl ?_; refine jN rfl rfl rfl ?_)
  refine Ops.neqS rfl rfl ?_
  by_cases c1 : x.2.1 = s.2.1
  rotate_left
  · rw [decide_eq_true c1, if_pos c1]
    (apply jJ; exact eB rfl; refine jz ?_; refine jjJ rfl ?_; refine jjB ?_; refine jjC ?_; apply jJ; exact eI rfl; apply jJ; exact eI rfl; refine jz ?_; refine jjF ?_; refine jC rfl rfl rfl ⟨inferInstance, ?_⟩)
    exact rfl
  rw [decide_eq_false (fun h => h c1), if_neg (fun h => h c1)]
  (apply jJ; exact eB rfl; refine jz ?_; refine jjK rfl ?_; refine jjB ?_; refine jjC ?_; refine jm ?_; refine jn rfl ?_; refine jN rfl rfl rfl ?_; refine jm ?_; refine jn rfl ?_; refine jN rfl rfl rfl ?_)
  refine Ops.neqS rfl rfl ?_
  by_cases c2 : x.2.2.1 = s.2.2.1
  rotate_left
  · rw [decide_eq_true c2, if_pos c2]
    (apply jJ; exact eB rfl; refine jz ?_; refine jjJ rfl ?_; refine jjB ?_; refine jjC ?_; apply jJ; exact eI rfl; apply jJ; exact eI rfl; refine jz ?_; refine jjF ?_; refine jC rfl rfl rfl ⟨inferInstance, ?_⟩)
    exact rfl
  rw [decide_eq_false (fun h => h c2), if_neg (fun h => h c2)]
  (apply jJ; exact eB rfl; refine jz ?_; refine jjK rfl ?_; refine jjB ?_; refine jjC ?_; refine jm ?_; refine jn rfl ?_; refine jN rfl rfl rfl ?_; refine jm ?_; refine jn rfl ?_; refine jN rfl rfl rfl ?_)
  refine Ops.neqS rfl rfl ?_
  by_cases c3 : x.2.2.2 = s.2.2.2
  rotate_left
  · rw [decide_eq_true c3, if_pos c3]
    (apply jJ; exact eB rfl; refine jz ?_; refine jjJ rfl ?_; refine jjB ?_; refine jjC ?_; apply jJ; exact eI rfl; apply jJ; exact eI rfl; refine jz ?_; refine jjF ?_; refine jC rfl rfl rfl ⟨inferInstance, ?_⟩)
    exact rfl
  rw [decide_eq_false (fun h => h c3), if_neg (fun h => h c3)]
  (apply jJ; exact eB rfl; refine jz ?_; refine jjK rfl ?_; refine jjG ?_; refine jjB ?_; refine jjC ?_; apply jJ; exact eI rfl; apply jJ; exact eI rfl; refine jz ?_; refine jjF ?_; refine jC rfl rfl rfl ⟨inferInstance, ?_⟩)
  exact rfl
set_option maxHeartbeats 2000000 in
theorem Wrong_ref3 (s : Slp) (hs : SmallT cs) (hd : 0 ≤ side ∧ side ≤ 255) (hss : SmallS s) : Ct Tryz.prog 9 [.agg #[.slice a cs.length c], encCut wd side, encSl s] w fun v _ => v = .tuple #[.int .u8 (wrongR (txF cs) wd side s).1, .int .i64 (wrongR (txF cs) wd side s).2] := by
  refine Ct.ofW (by simp) ?_
  (refine jjB ?_; refine jjC ?_)
  (refine jy rfl ?_; intro b3 w_b3 hb_b3 hs_b3 hS_b3 hk_b3; have hA_b3 := At.ofBlock hk_b3)
  skip
  (refine jy rfl ?_; intro b4 w_b4 hb_b4 hs_b4 hS_b4 hk_b4; have hA_b4 := At.ofBlock hk_b4)
  skip
  (refine jy rfl ?_; intro b5 w_b5 hb_b5 hs_b5 hS_b5 hk_b5; have hA_b5 := At.ofBlock hk_b5)
  (apply jJ; exact eI rfl; apply jJ; exact eI rfl; refine jz ?_; refine jjB ?_; refine jjB ?_; refine jjC ?_; refine jO rfl rfl rfl rfl ?_; refine jO rfl rfl rfl rfl ?_)
  obtain ⟨e, he⟩ : ∃ e, askE (txF cs) wd side = e := ⟨_, rfl⟩
  have h3 := askE_in (txF cs) wd side
  rw [he] at h3
  refine jjQ ((asked_ref3 a c cs wd side _ hs hd).mono fun v _ _ h => h.trans (by rw [he])) rfl rfl ?_
  rintro _ w8 hS8 rfl
  by_cases h0 : e = 0
  rotate_left
  · (apply jJ; exact eI rfl; refine jz ?_; refine jjB ?_; refine jjC ?_; apply jI; exact eI rfl; refine jjj rfl rfl (by omega) ?_; refine jz ?_; refine jjJ rfl ?_; refine jjB ?_; refine jjC ?_; apply jI; exact eI rfl; apply jJ; exact eI rfl; apply jJ; exact eI rfl; refine jz ?_; refine jjF ?_; refine jC rfl rfl rfl ⟨inferInstance, ?_⟩)
    rw [wrongR_no (by rw [he]; exact h0), he]; exact rfl
  subst h0
  obtain ⟨ht, hc⟩ := askE_zero he
  obtain ⟨B, hB⟩ : ∃ B, slipB s = B := ⟨_, rfl⟩
  (apply jJ; exact eI rfl; refine jz ?_; refine jjB ?_; refine jjC ?_; apply jI; exact eI rfl; refine jjk rfl rfl (by omega) ?_; refine jz ?_; refine jjK rfl ?_; refine jjG ?_; refine jjB ?_; refine jjB ?_; refine jjC ?_; refine jO rfl rfl rfl rfl ?_)
  refine jjQ ((Slip_ref3 s _ hss).mono fun v _ _ h => h.trans (by rw [hB])) rfl rfl ?_
  rintro _ w9 hS9 rfl
  cases B with
  | false =>
    (refine jq rfl ?_; refine jz ?_; refine jjJ rfl ?_; refine jjB ?_; refine jjC ?_; apply jJ; exact eI rfl; apply jJ; exact eI rfl; refine jz ?_; refine jjF ?_; refine jC rfl rfl rfl ⟨inferInstance, ?_⟩)
    rw [wrongR_bad he hB]; exact rfl
  | true =>
  obtain ⟨o, ho⟩ : ∃ o, makeF (txF cs) side wd s.1 = o := ⟨_, rfl⟩
  (refine jp rfl ?_; refine jz ?_; refine jjK rfl ?_; refine jjG ?_; refine jjB ?_; refine jjB ?_; refine jjC ?_; refine jO rfl rfl rfl rfl ?_; refine jm ?_; refine jn rfl ?_; refine jO rfl rfl rfl rfl ?_)
  refine jjQ ((Place_ref1 a c cs _ s.1 hs).mono fun v _ _ h => h.trans (by rw [placeC_iff side wd, ho])) rfl rfl ?_
  rintro _ wA hSA rfl
  cases o with
  | none =>
    (refine jq rfl ?_; refine jz ?_; refine jjJ rfl ?_; refine jjB ?_; refine jjC ?_; apply jJ; exact eI rfl; apply jJ; exact eI rfl; refine jz ?_; refine jjF ?_; refine jC rfl rfl rfl ⟨inferInstance, ?_⟩)
    rw [wrongR_none he hB ho]; exact rfl
  | some x =>
  rw [wrongR_some he hB ho]
  (refine jp rfl ?_; refine jz ?_; refine jjK rfl ?_; refine jjG ?_; refine jjB ?_; refine jjC ?_; refine jO rfl rfl rfl rfl ?_; refine jO rfl rfl rfl rfl ?_; refine jm ?_; refine jn rfl ?_; refine jO rfl rfl rfl rfl ?_)
  refine jjQ (slipM_ref3 a c cs wd side _ hs s.1 x ho) rfl rfl ?_
  rintro _ wB hSB rfl
  skip
  (apply jjR rfl; (intro _; first|exact eI rfl|exact eB rfl|exact eP rfl|exact eS rfl|exact eT rfl|exact eA rfl|exact eU rfl|exact eF rfl|exact eM rfl|exact eN rfl|exact rfl); exact rfl; exact rfl; exact rfl; exact rfl; intro b9 w_b9 hb_b9 hs_b9 hS_b9 hk_b9; have hA_b9 := Bk.of hk_b9)
  (refine jz ?_; refine jjB ?_; refine jjD ?_; refine jjB ?_; refine jjC ?_; refine jm ?_; refine jn rfl ?_; refine jN rfl rfl rfl ?_; refine jm ?_; refine jn rfl ?_; refine jN rfl rfl rfl ?_)
  refine Ops.neqS rfl rfl ?_
  by_cases c1 : x.2.1 = s.2.1
  rotate_left
  · rw [decide_eq_true c1, if_pos c1]
    (apply jJ; exact eB rfl; refine jz ?_; refine jjJ rfl ?_; refine jjB ?_; refine jjC ?_; apply jJ; exact eI rfl; apply jJ; exact eI rfl; refine jz ?_; refine jjF ?_; refine jC rfl rfl rfl ⟨inferInstance, ?_⟩)
    exact rfl
  rw [decide_eq_false (fun h => h c1), if_neg (fun h => h c1)]
  (apply jJ; exact eB rfl; refine jz ?_; refine jjK rfl ?_; refine jjB ?_; refine jjC ?_; refine jm ?_; refine jn rfl ?_; refine jN rfl rfl rfl ?_; refine jm ?_; refine jn rfl ?_; refine jN rfl rfl rfl ?_)
  refine Ops.neqS rfl rfl ?_
  by_cases c2 : x.2.2.1 = s.2.2.1
  rotate_left
  · rw [decide_eq_true c2, if_pos c2]
    (apply jJ; exact eB rfl; refine jz ?_; refine jjJ rfl ?_; refine jjB ?_; refine jjC ?_; apply jJ; exact eI rfl; apply jJ; exact eI rfl; refine jz ?_; refine jjF ?_; refine jC rfl rfl rfl ⟨inferInstance, ?_⟩)
    exact rfl
  rw [decide_eq_false (fun h => h c2), if_neg (fun h => h c2)]
  (apply jJ; exact eB rfl; refine jz ?_; refine jjK rfl ?_; refine jjB ?_; refine jjC ?_; refine jm ?_; refine jn rfl ?_; refine jN rfl rfl rfl ?_; refine jm ?_; refine jn rfl ?_; refine jN rfl rfl rfl ?_)
  refine Ops.neqS rfl rfl ?_
  by_cases c3 : x.2.2.2 = s.2.2.2
  rotate_left
  · rw [decide_eq_true c3, if_pos c3]
    (apply jJ; exact eB rfl; refine jz ?_; refine jjJ rfl ?_; refine jjB ?_; refine jjC ?_; apply jJ; exact eI rfl; apply jJ; exact eI rfl; refine jz ?_; refine jjF ?_; refine jC rfl rfl rfl ⟨inferInstance, ?_⟩)
    exact rfl
  rw [decide_eq_false (fun h => h c3), if_neg (fun h => h c3)]
  (apply jJ; exact eB rfl; refine jz ?_; refine jjK rfl ?_; refine jjG ?_; refine jjB ?_; refine jjC ?_; apply jJ; exact eI rfl; apply jJ; exact eI rfl; refine jz ?_; refine jjF ?_; refine jC rfl rfl rfl ⟨inferInstance, ?_⟩)
  exact rfl
end
end Go.Proofs.YtgmgiepdehlinaaGreatDoor

/- slices.Grow of nothing, slices.Concat, slices.Equal (of strings). -/
namespace Go.Proofs.YtgmgiepdehlinaaGreatDoor
open Go.RowKit

section rules
variable {P : Program} {ro : Option Nat} {n : Nat} {all rest : List Oper} {K : Sl → World → Prop} {s : Sl} {w : World} {d : Nat} {ty : Nat} {pos : String} {af : Array Edge}
variable {x y : Operand} {t tn e : Nat}
/-- append(nil, make([]T, k)...). -/
theorem Ops.appendZeros {m bytes : Nat} {z : Value} {q : Int} (hx : ev n s x = .slice none 0 0) (hy : ev n s y = .int .i64 q) (hq : q = (m : Int)) (h0 : 0 < m) (hm : m ≤ 1000000) [ht : TSl P t e] [hz : TS P e z 1 bytes] [htn : TU P tn (.int .i64)] (hzz : z.cells.size = 1) (hb : bytes ≤ 1000)
    (h : ∀ b c w' cs, b = w.heap.size → Ext w w' → m ≤ c → c ≤ maxLen → cs.length = c → Bk w' b cs e → Ops P ro n all rest K (upd s d (.slice (some ⟨b, 0, none⟩) m c)) w') :
    Ops P ro n all (⟨some d, .call { callee := .builtin .append, args := #[x, y], argTypes := #[t, tn] }, ty, pos, af, none⟩ :: rest) K s w := by
  subst hq
  obtain ⟨i, hi, hiz, his, hib⟩ := hz.info
  have hold : (Builtin.firstCells i.size 0 (.slice none 0 0)).run P w.drew = .ok ([] : List Value).toArray w.drew := run_firstCells_none w.drew i.size 0 0 0
  have hmb : m * bytes ≤ 1000000 * 1000 := Nat.mul_le_mul hm hb
  have hcap : Builtin.nextslicecap (0 + m) 0 ≤ m := by unfold Builtin.nextslicecap; simp [h0]
  have hr := Lib.run_append_grow_zeros w t tn ty e i z .i64 .i64 ht.h htn.h hi hiz none 0 0 [] hold m h0 (by omega) (by omega) (by omega) (by rw [hib]; omega)
    (by
      have : Builtin.nextslicecap (0 + m) 0 * i.bytes ≤ m * bytes := by rw [hib]; exact Nat.mul_le_mul_right _ hcap
      omega)
  rw [Nat.zero_add] at hr
  have hge := grownCap_ge w m 0 e
  have hle := grownCap_le_maxLen w m 0 e (by unfold maxLen; omega)
  obtain ⟨cells, hcs⟩ : ∃ cells, cells = ([] : List Value).toArray ++ Builtin.zeroCells z.cells m ++ Builtin.zeroCells z.cells (grownCap w m 0 e - m) := ⟨_, rfl⟩
  have hsz : cells.size = grownCap w m 0 e := by
    rw [hcs]; simp [Builtin.zeroCells, hzz]; omega
  rw [← hcs] at hr
  clear hcs
  generalize grownCap w m 0 e = c at *
  refine Ops.ofRun (w' := w.drew.alloc (.cells cells e)) rfl (by simp [execOp, resolve, invoke, builtin, hx, hy, hr]) (h w.heap.size c _ cells.toList rfl ⟨((Below.refl _ w).drew).alloc (Nat.le_refl _) _⟩ hge hle (by simpa using hsz) (Bk.of ?_))
  have := World.alloc_heap_new w.drew (.cells cells e)
  simpa using this
theorem Ops.sliceNil {k bytes : Nat} {j : Int} {k2 : IntKind} {xh : Operand} {z : Value} (hx : ev n s x = .slice none 0 0) (hh : ev n s xh = .int k2 j) (hj : j = 0) [ht : TSl P t e] [hz : TS P e z k bytes]
    (h : Ops P ro n all rest K (upd s d (.slice none 0 0)) w) : Ops P ro n all (⟨some d, .slice t x none (some xh) none, ty, pos, af, none⟩ :: rest) K s w := by
  subst hj
  refine Ops.ofRun rfl ?_ h
  simp [execOp, Instr.sliceAt, Instr.slice, Instr.sliceBounds, Instr.sliceBound, hx, hh, run_underlying ht.h, asIntOf, run_sizeOf' w hz]
end rules
theorem Grow_str (m : Nat) (h0 : 0 < m) (hm : m ≤ 1000000) (w : World) : Ct Tryz.prog 59 [.slice none 0 0, .int .i64 (m : Int)] w fun v w' => OwnL w' w.heap.size 9 false 1 v [] := by
  refine Ct.ofW (by simp) ?_
  (refine jjB ?_; refine jjC ?_; apply jJ; exact eS rfl; refine jz ?_; refine jjB ?_; refine jjB ?_; refine jjC ?_; apply jI; exact eI rfl; refine jja rfl rfl (by omega) ?_; refine jz ?_; refine jjK rfl ?_; refine jjG ?_; refine jjB ?_; refine jjB ?_; refine jjC ?_; apply jI; exact eI rfl; apply jI; exact eS rfl; refine jl rfl ?_; apply jI; exact eS rfl; refine jh rfl ?_; refine jZ rfl rfl (by omega) ?_; refine jZ rfl rfl (by omega) ?_; apply jJ; exact eI rfl; refine jz ?_; refine jjB ?_; refine jjC ?_; apply jI; exact eI rfl; refine jjd rfl rfl (by omega) ?_; refine jz ?_; refine jjJ rfl ?_; refine jjC ?_; apply jI; exact eS rfl; apply jI; exact eS rfl; refine jl rfl ?_)
  refine Ops.sliceNil rfl rfl (by omega) ?_
  (apply jI; exact eI rfl)
  refine Ops.appendZeros (m := m) rfl rfl (by omega) h0 hm rfl (by omega) ?_
  intro b c w2 cs hb hE hmc hcm hlen hB
  have := hE.toStep
  (apply jI; exact eS rfl; refine jh rfl ?_)
  refine Ops.sliceXHv (hi := 0) rfl rfl rfl (Nat.zero_le _) (by omega) ?_
  (apply jJ; exact eS rfl; refine jz ?_; refine jjB ?_; refine jjC ?_; apply jI; exact eS rfl; apply jJ; exact eS rfl; refine jz ?_; refine jjF ?_; refine jB rfl rfl ⟨inferInstance, ?_⟩)
  exact OwnL.ofCells hB hlen (Nat.zero_le _) hcm rfl (by omega) (by omega) (by simp)
/-- All strings of some lines. -/
def catL (ls : List Ln) : List ByteArray := ls.flatMap (·.2.2)
theorem catL_len {ls : List Ln} {k : Nat} (hk : k < ls.length) : (catL (ls.take (k + 1))).length = (catL (ls.take k)).length + ls[k].2.2.length := by
  rw [catL, take_snoc_get (List.getElem?_eq_getElem hk), List.flatMap_append, List.length_append]
  simp [catL]
theorem catL_snoc {ls : List Ln} {k : Nat} (hk : k < ls.length) : catL (ls.take (k + 1)) = catL (ls.take k) ++ ls[k].2.2 := by
  rw [catL, take_snoc_get (List.getElem?_eq_getElem hk), List.flatMap_append]
  simp [catL]
theorem catL_le {ls : List Ln} (k : Nat) : (catL (ls.take k)).length ≤ (catL ls).length := by
  have h : catL ls = catL (ls.take k) ++ catL (ls.drop k) := by rw [catL, catL, catL, ← List.flatMap_append, List.take_append_drop]
  rw [h, List.length_append]; omega
theorem all_strC (l : List ByteArray) : (l.map strV).all (fun v => v.cells.toList.all (·.oneCell')) = true := by
  rw [List.all_eq_true]; intro x hx; obtain ⟨y, _, rfl⟩ := List.mem_map.1 hx; rfl
set_option maxHeartbeats 1000000 in
theorem Concat_str (a : Option Addr) (c : Nat) (ls : List Ln) (w : World) (hrow : RowV w false 1 (.slice a ls.length c) (ls.map encLn)) (hrows : ∀ y ∈ ls, RowV w false 1 (encLn y) (y.2.2.map strV)) (h0 : 0 < (catL ls).length) (hm : (catL ls).length ≤ 1000000) :
    Ct Tryz.prog 29 [.slice a ls.length c] w fun v w' => OwnL w' w.heap.size 9 false 1 v ((catL ls).map strV) := by
  have hlen := hrow.len
  rw [List.length_map] at hlen
  refine Ct.ofW (by simp) ?_
  (refine jjB ?_; refine jjC ?_; apply jJ; exact eS rfl; refine jz ?_; refine jjB ?_; refine jjC ?_; apply jJ; exact eI rfl; refine jz ?_; refine jjB ?_; refine jjB ?_; refine jjC ?_; apply jI; exact eS rfl; refine jh rfl ?_; apply jI; exact eI rfl; refine jz ?_; refine jjD ?_)
  refine W.keep0 [(0, .slice a ls.length c), (3, .int .i64 ((0 : Nat) : Int)), (9, .slice a ls.length c), (10, .int .i64 (ls.length : Int)), (11, .int .i64 ((0 : Nat) : Int))] ⟨eS rfl, eI rfl, eS rfl, eI rfl, eI rfl, trivial⟩ fun s0 => ?_
  refine W.loop (12 :: 13 :: 14 :: 5 :: 15 :: 16 :: 17 :: 18 :: 3 :: 19 :: 20 :: 21 :: 22 :: 11 :: []) (fun g s' V => ∃ k : Nat, s' 11 = .int .i64 ((k : Nat) : Int) ∧ s' 3 = .int .i64 ((catL (ls.take k)).length : Int) ∧ g = ls.length - k ∧ k ≤ ls.length) ls.length ⟨0, rfl, rfl, rfl, Nat.zero_le _⟩ ?_
  rintro _ sd V hS1 ⟨k, h11, h3, rfl, hk⟩
  refine W.fix h11 (W.fix (d := 3) h3 ?_)
  clear h11 h3
  have hle := catL_le (ls := ls) k
  by_cases hkl : k < ls.length
  · obtain ⟨b1, o1, rfl, hA1⟩ := hrow.place' (map_get hkl)
    have hsu := catL_len hkl
    have hle2 := catL_le (ls := ls) (k + 1)
    have hA1' := hA1.ext hS1.ext
    rw [Nat.mul_one] at hA1'
    (refine jjB ?_; refine jjC ?_; refine jjZ rfl rfl (by omega) ?_; refine jz ?_; refine jjB ?_; refine jjJ rfl ?_; refine jjG ?_; refine jjB ?_; refine jjD ?_; refine jjB ?_; refine jjC ?_; refine jG rfl rfl rfl (by omega) ?_; refine jQ rfl rfl ?_; apply jJ; exact eS rfl; refine jz ?_; refine jjB ?_; refine jjC ?_; apply jI; exact eI rfl; apply jI; exact eS rfl; refine jh rfl ?_; refine jY rfl rfl (by omega) ?_; apply jJ; exact eI rfl; refine jz ?_; refine jjB ?_; refine jjC ?_; apply jI; exact eI rfl; refine jja rfl rfl (by omega) ?_; refine jz ?_; refine jjK rfl ?_; refine jjG ?_; refine jjC ?_; refine jY rfl rfl (by omega) ?_; apply jI; exact eI rfl; refine jz ?_)
    exact ⟨rfl, by ((refine Same.upd rfl ?_; refine Same.upd rfl ?_; refine Same.upd rfl ?_; refine Same.upd rfl ?_; refine Same.upd rfl ?_; refine Same.upd rfl ?_; refine Same.upd rfl ?_; refine Same.upd rfl ?_; refine Same.upd rfl ?_; refine Same.upd rfl ?_; refine Same.upd rfl ?_; refine Same.upd rfl ?_; refine Same.upd rfl ?_; refine Same.upd rfl ?_; refine Same.upd rfl ?_; exact Same.ovN)), ls.length - (k + 1), by omega, inferInstance, k + 1, congrArg (Value.int .i64) (by omega), congrArg (Value.int .i64) (by omega), rfl, by omega⟩
  obtain rfl : k = ls.length := by omega
  rw [List.take_length]
  (refine jjB ?_; refine jjC ?_; refine jja rfl rfl (by omega) ?_; refine jz ?_; refine jjB ?_; refine jjK rfl ?_; refine jjE ?_; refine jjB ?_; refine jjC ?_; apply jI; exact eI rfl)
  refine jjQ (Grow_str (catL ls).length h0 hm _) rfl rfl ?_
  rintro sv w2 hS2 hO2
  have hE2 : Ext w w2 := inferInstance
  (apply jJ; exact rfl; refine jz ?_; refine jjB ?_; refine jjB ?_; refine jjC ?_; apply jI; exact eS rfl; refine jh rfl ?_; apply jI; exact eI rfl; refine jz ?_; refine jjD ?_)
  obtain ⟨ga, gl, gc, rfl⟩ := hO2.slice3
  refine W.keep0 [(0, .slice a ls.length c), (6, .slice ga gl gc), (25, .slice a ls.length c), (26, .int .i64 (ls.length : Int)), (27, .int .i64 ((0 : Nat) : Int))] ⟨eS rfl, eS rfl, eS rfl, eI rfl, eI rfl, trivial⟩ fun s0 => ?_
  refine W.loopG (28 :: 29 :: 30 :: 8 :: 31 :: 32 :: 33 :: 6 :: 34 :: 27 :: []) (fun g s' V => ∃ (k : Nat) (sv : Value), s' 27 = .int .i64 ((k : Nat) : Int) ∧ s' 6 = sv ∧ g = ls.length - k ∧ k ≤ ls.length ∧ Ext w V ∧ w2.heap.size ≤ V.heap.size ∧ OwnL V w.heap.size 9 false 1 sv ((catL (ls.take k)).map strV)) ls.length ⟨0, _, rfl, rfl, rfl, Nat.zero_le _, hE2, Nat.le_refl _, hO2.mono (hS1.ext.size)⟩ ?_
  clear hO2
  rintro _ sd V3 ⟨k, sv, h27, h6, rfl, hk, hE, hz, hO⟩
  obtain ⟨va, vl, vc, rfl⟩ := hO.slice3
  refine W.fix h27 (W.fix (d := 6) h6 ?_)
  clear h27 h6
  by_cases hkl : k < ls.length
  · obtain ⟨b1, o1, rfl, hA1⟩ := hrow.place' (map_get hkl)
    have hle2 := catL_le (ls := ls) (k + 1)
    have hsu := catL_len hkl
    have hA1' := hA1.ext hE
    rw [Nat.mul_one] at hA1'
    have hr1 := (hrows _ (List.getElem_mem hkl)).ext hE
    (refine jjB ?_; refine jjC ?_; refine jjZ rfl rfl (by omega) ?_; refine jz ?_; refine jjB ?_; refine jjJ rfl ?_; refine jjG ?_; refine jjB ?_; refine jjD ?_; refine jjB ?_; refine jjC ?_; refine jG rfl rfl rfl (by omega) ?_; refine jQ rfl rfl ?_; apply jJ; exact eS rfl; refine jz ?_; refine jjC ?_; apply jI; exact eS rfl; apply jI; exact eS rfl)
    refine Ops.appendL hO (by have := hE.size; omega) hr1 rfl rfl rfl rfl (all_strC _) ?_ ?_ ?_
    · rw [List.length_map, List.length_map]; omega
    · rw [List.length_map, List.length_map]; omega
    intro v2 V4 hA hO4 _ _
    rw [← List.map_append, ← catL_snoc hkl] at hO4
    obtain ⟨va4, vl4, vc4, rfl⟩ := hO4.slice3
    have zA := hA.g.size
    (apply jJ; exact eS rfl; refine jz ?_; refine jjC ?_; refine jY rfl rfl (by omega) ?_; apply jI; exact eI rfl; refine jz ?_)
    exact ⟨rfl, by ((refine Same.upd rfl ?_; refine Same.upd rfl ?_; refine Same.upd rfl ?_; refine Same.upd rfl ?_; refine Same.upd rfl ?_; refine Same.upd rfl ?_; refine Same.upd rfl ?_; refine Same.upd rfl ?_; refine Same.upd rfl ?_; refine Same.upd rfl ?_; refine Same.upd rfl ?_; refine Same.upd rfl ?_; exact Same.ovN)), ls.length - (k + 1), by omega, k + 1, _, congrArg (Value.int .i64) (by omega), rfl, rfl, by omega, hA.ext hE (Nat.le_refl _), by omega, hO4⟩
  obtain rfl : k = ls.length := by omega
  rw [List.take_length] at hO
  (refine jjB ?_; refine jjC ?_; refine jja rfl rfl (by omega) ?_; refine jz ?_; refine jjB ?_; refine jjK rfl ?_; refine jjE ?_; refine jjB ?_; refine jjC ?_; apply jI; exact eS rfl; apply jJ; exact eS rfl; refine jz ?_; refine jjF ?_; refine jB rfl rfl ⟨inferInstance, ?_⟩)
  exact hO
set_option maxHeartbeats 1000000 in
theorem Equal_str (a1 a2 : Option Addr) (c1 c2 n1 n2 : Nat) (xs ys : List ByteArray) (w : World) (h1 : xs.length = n1) (h2 : ys.length = n2) (hx : RowV w false 1 (.slice a1 n1 c1) (xs.map strV)) (hy : RowV w false 1 (.slice a2 n2 c2) (ys.map strV)) : Ct Tryz.prog 31 [.slice a1 n1 c1, .slice a2 n2 c2] w fun v _ => v = .bool (decide (xs = ys)) := by
  subst h1 h2
  have hlx := hx.len
  have hly := hy.len
  rw [List.length_map] at hlx hly
  refine Ct.ofW (by simp) ?_
  by_cases hl : xs.length = ys.length
  rotate_left
  · (refine jjB ?_; refine jjC ?_; apply jJ; exact eB rfl; refine jz ?_; refine jjB ?_; refine jjB ?_; refine jjC ?_; apply jI; exact eS rfl; refine jh rfl ?_; apply jI; exact eS rfl; refine jh rfl ?_; refine jjj rfl rfl (by omega) ?_; refine jz ?_; refine jjJ rfl ?_; refine jjB ?_; refine jjC ?_; apply jJ; exact eB rfl; refine jz ?_; refine jjF ?_; refine jB rfl rfl ⟨inferInstance, ?_⟩)
    rw [decide_eq_false (fun e => hl (by rw [e]))]; exact rfl
  (refine jjB ?_; refine jjC ?_; apply jJ; exact eB rfl; refine jz ?_; refine jjB ?_; refine jjB ?_; refine jjC ?_; apply jI; exact eS rfl; refine jh rfl ?_; apply jI; exact eS rfl; refine jh rfl ?_; refine jjk rfl rfl (by omega) ?_; refine jz ?_; refine jjK rfl ?_; refine jjG ?_; refine jjB ?_; refine jjB ?_; refine jjC ?_; apply jI; exact eS rfl; refine jh rfl ?_; apply jI; exact eI rfl; refine jz ?_; refine jjD ?_)
  refine W.keep0 [(0, .slice a1 xs.length c1), (1, .slice a2 ys.length c2), (12, .int .i64 (xs.length : Int)), (13, .int .i64 ((0 : Nat) : Int))] ⟨eS rfl, eS rfl, eI rfl, eI rfl, trivial⟩ fun s0 => ?_
  refine W.loop (14 :: 15 :: 5 :: 16 :: 17 :: 18 :: 19 :: 20 :: 21 :: 22 :: 23 :: 24 :: 4 :: 25 :: 13 :: []) (fun g s' V => ∃ k : Nat, s' 13 = .int .i64 ((k : Nat) : Int) ∧ g = xs.length - k ∧ k ≤ xs.length ∧ ∀ (j : Nat) (hj : j < xs.length), j < k → xs[j] = ys[j]'(by omega)) xs.length ⟨0, rfl, rfl, Nat.zero_le _, by intros; omega⟩ ?_
  rintro _ sd w1 hS1 ⟨k, h13, rfl, hk, hpre⟩
  refine W.fix h13 ?_
  clear h13
  by_cases hkl : k < xs.length
  rotate_left
  · have e : xs = ys := List.ext_getElem hl fun j hj _ => hpre j hj (by omega)
    (refine jjB ?_; refine jjC ?_; refine jja rfl rfl (by omega) ?_; refine jz ?_; refine jjB ?_; refine jjK rfl ?_; refine jjE ?_; refine jjB ?_; refine jjC ?_; apply jJ; exact eB rfl; refine jz ?_; refine jjF ?_; refine jB rfl rfl ⟨inferInstance, ?_⟩)
    rw [decide_eq_true e]; exact rfl
  have hkl2 : k < ys.length := by omega
  obtain ⟨b1, o1, rfl, hA1⟩ := hx.place' (map_get hkl)
  obtain ⟨b2, o2, rfl, hA2⟩ := hy.place' (map_get hkl2)
  rw [Nat.mul_one] at hA1 hA2
  (refine jjB ?_; refine jjC ?_; refine jjZ rfl rfl (by omega) ?_; refine jz ?_; refine jjB ?_; refine jjJ rfl ?_; refine jjG ?_; refine jjB ?_; refine jjD ?_; refine jjB ?_; refine jjC ?_; apply jI; exact eI rfl; apply jJ; exact eI rfl; refine jz ?_; refine jjB ?_)
  refine W.draw (fun w' => Ext w w') ?_
  intro w2 hS2
  have hE2 : Ext w w2 := hS1.ext.trans hS2.ext
  (refine jjV [0, 1, 2, 3, 4, 5, 6, 7] ?_ ?_ ?_; (decide +kernel); (exact hE2); (((apply jjT; exact rfl; rintro w' hq; have := hq.toStep; apply jI; exact eS rfl; refine jz ?_; exact ⟨rfl, rfl⟩; apply jjT; exact rfl; rintro w' hq; have := hq.toStep; apply jI; exact eI rfl; refine jz ?_; exact ⟨rfl, rfl⟩; apply jjT; exact rfl; rintro w' hq; have := hq.toStep; refine jG rfl rfl rfl (by omega) ?_; refine jz ?_; exact ⟨rfl, rfl⟩; apply jjT; exact rfl; rintro w' hq; have := hq.toStep; refine jQ rfl rfl ?_; refine jz ?_; exact ⟨rfl, rfl⟩; apply jjT; exact rfl; rintro w' hq; have := hq.toStep; apply jI; exact eS rfl; refine jz ?_; exact ⟨rfl, rfl⟩; apply jjT; exact rfl; rintro w' hq; have := hq.toStep; apply jI; exact eI rfl; refine jz ?_; exact ⟨rfl, rfl⟩; apply jjT; exact rfl; rintro w' hq; have := hq.toStep; refine jG rfl rfl rfl (by omega) ?_; refine jz ?_; exact ⟨rfl, rfl⟩; apply jjT; exact rfl; rintro w' hq; have := hq.toStep; refine jQ rfl rfl ?_; refine jz ?_; exact ⟨rfl, rfl⟩; refine jjU ?_))))
  by_cases hkj : xs[k] = ys[k]
  · refine jjV [8] (by decide +kernel) hE2 (jjT (v := .bool false) rfl (fun w' q1 => ?_) (jjU ?_)); (refine Ops.neqS (a := xs[k]) (b := ys[k]) rfl rfl ?_; rw [decide_eq_false (by simp [hkj])]; refine jz ?_; exact ⟨rfl, rfl⟩)
    refine jjX (by decide +kernel) hE2 ?_
    (refine jjK rfl ?_; refine jjG ?_; refine jjC ?_; refine jY rfl rfl (by omega) ?_; apply jI; exact eI rfl; refine jz ?_)
    refine ⟨rfl, by ((refine Same.upd rfl ?_; refine Same.upd rfl ?_; refine Same.upd rfl ?_; refine Same.upd rfl ?_; refine Same.upd rfl ?_; refine Same.upd rfl ?_; refine Same.upd rfl ?_; refine Same.upd rfl ?_; refine Same.upd rfl ?_; refine Same.upd rfl ?_; refine Same.upd rfl ?_; refine Same.upd rfl ?_; refine Same.upd rfl ?_; refine Same.upd rfl ?_; refine Same.upd rfl ?_; exact Same.ovN)), xs.length - (k + 1), by omega, inferInstance, k + 1, congrArg (Value.int .i64) (by omega), rfl, by omega, fun j hj hjk => ?_⟩
    by_cases e : j = k
    · subst e; exact hkj
    · exact hpre j hj (by omega)
  · refine jjV [8] (by decide +kernel) hE2 (jjT (v := .bool true) rfl (fun w' q1 => ?_) (jjU ?_)); (refine Ops.neqS (a := xs[k]) (b := ys[k]) rfl rfl ?_; rw [decide_eq_true hkj]; refine jz ?_; exact ⟨rfl, rfl⟩)
    refine jjX (by decide +kernel) hE2 ?_
    (refine jjJ rfl ?_; refine jjB ?_; refine jjC ?_; apply jJ; exact eB rfl; refine jz ?_; refine jjF ?_; refine jB rfl rfl ⟨inferInstance, ?_⟩)
    rw [decide_eq_false (fun e => hkj (by simp only [e]))]; exact rfl
end Go.Proofs.YtgmgiepdehlinaaGreatDoor

/- slip: Part. -/
namespace Go.Proofs.YtgmgiepdehlinaaGreatDoor
open Go.RowKit

theorem filter_snoc {α : Type} {f : α → Bool} {l : List α} {i : Nat} {x : α} (h : l[i]? = some x) : (l.take (i + 1)).filter f = (l.take i).filter f ++ (if f x then [x] else []) := by
  rw [take_snoc_get h, List.filter_append]
  congr 1
  cases hf : f x <;> simp [hf]
section
variable (a : Option Addr) (c : Nat) (cs : List Ch) (wd side : Int) (w : World) [hrow : RowI w (.slice a cs.length c) true 2 (cs.map encCh)] [hT : TextI w cs] [hgs : At w 0 0 sidesC]
end
end Go.Proofs.YtgmgiepdehlinaaGreatDoor

/- slip: Where. -/
namespace Go.Proofs.YtgmgiepdehlinaaGreatDoor
open Go.RowKit

/-- The words of a slip, in their order. -/
def wantS (s : Slp) : List ByteArray := wordsL s.2.2.1 ++ ([s.2.1] ++ wordsL s.2.2.2)
def hitB (want ws : List ByteArray) (i : Nat) : Bool := decide ((ws.drop i).take want.length = want)
/-- Where these words stand in a chapter: the places of the word nb of them. -/
def whK (want : List ByteArray) (nb : Nat) (ws : List ByteArray) (ps : List Pl) (m : Nat) : List Pl := ((List.range m).filter (hitB want ws)).map fun i => ps.getD (i + nb) (0, 0, 0)
theorem whK_succ (want : List ByteArray) (nb : Nat) (ws : List ByteArray) (ps : List Pl) (m : Nat) : whK want nb ws ps (m + 1) = whK want nb ws ps m ++ (if hitB want ws m then [ps.getD (m + nb) (0, 0, 0)] else []) := by
  rw [whK, List.range_succ, List.filter_append, List.map_append]
  congr 1
  cases h : hitB want ws m <;> simp [h]
theorem whK_len (want : List ByteArray) (nb : Nat) (ws : List ByteArray) (ps : List Pl) (m : Nat) : (whK want nb ws ps m).length ≤ m := by
  rw [whK, List.length_map]
  exact Nat.le_trans (List.length_filter_le _ _) (by simp)
def whN (t : Tx) (want : List ByteArray) (nb n : Nat) : List Pl := (List.range n).flatMap fun k => whK want nb (wsT t k).flatten (runA k (wsT t k)) (wsT t k).flatten.length
theorem whN_succ (t : Tx) (want : List ByteArray) (nb n : Nat) : whN t want nb (n + 1) = whN t want nb n ++ whK want nb (wsT t n).flatten (runA n (wsT t n)) (wsT t n).flatten.length := by
  rw [whN, List.range_succ, List.flatMap_append]; simp [whN]
def whereF (t : Tx) (s : Slp) : List Pl := whN t (wantS s) (wordsL s.2.2.1).length t.length
def whereR (t : Tx) (s : Slp) : List Pl × Int := if textB t = false then ([], 10) else if slipB s = false then ([], 31) else (whereF t s, 0)
theorem whereR_no {t : Tx} {s : Slp} (h : textB t = false) : whereR t s = ([], 10) := by rw [whereR, if_pos h]
theorem whereR_bad {t : Tx} {s : Slp} (h : textB t = true) (h2 : slipB s = false) : whereR t s = ([], 31) := by rw [whereR, if_neg (by simp [h]), if_pos h2]
theorem whereR_yes {t : Tx} {s : Slp} (h : textB t = true) (h2 : slipB s = true) : whereR t s = (whereF t s, 0) := by rw [whereR, if_neg (by simp [h]), if_neg (by simp [h2])]
theorem wordsL_len (s : ByteArray) : (wordsL s).length ≤ s.size + 1 := by
  unfold wordsL
  split
  · simp
  · exact (splB_bound s).1
theorem wantS_len (s : Slp) (h : SmallS s) : 0 < (wantS s).length ∧ (wordsL s.2.2.1).length < (wantS s).length ∧ (wantS s).length ≤ 10000 := by
  have h1 := wordsL_len s.2.2.1
  have h2 := wordsL_len s.2.2.2
  obtain ⟨h3, h4, h5⟩ := h
  simp only [wantS, List.length_append, List.length_cons, List.length_nil]
  omega
theorem hit_fit {want ws : List ByteArray} {i : Nat} (h : hitB want ws i = true) : want.length = 0 ∨ i + want.length ≤ ws.length := by
  have := congrArg List.length (of_decide_eq_true h)
  rw [List.length_take, List.length_drop] at this
  omega
section
variable (a : Option Addr) (c : Nat) (cs : List Ch) (w : World) [hrow : RowI w (.slice a cs.length c) true 2 (cs.map encCh)] [hT : TextI w cs]
set_option maxHeartbeats 8000000 in
theorem Where_slip [hmx : MxI w] (s : Slp) (hs : SmallT cs) (hss : SmallS s) : Ct Tryz.prog 10 [.agg #[.slice a cs.length c], encSl s] w fun v w' => ∃ sv, v = .tuple #[sv, .int .i64 (whereR (txF cs) s).2] ∧ OwnL w' w.heap.size 28 true 3 sv ((whereR (txF cs) s).1.map encPl) := by
  have hs1 := hs.1
  obtain ⟨hw0, hwb, hwl⟩ := wantS_len s hss
  refine Ct.ofW (by simp) ?_
  (refine jjB ?_; refine jjC ?_)
  (refine jy rfl ?_; intro b2 w_b2 hb_b2 hs_b2 hS_b2 hk_b2; have hA_b2 := At.ofBlock hk_b2)
  skip
  (refine jy rfl ?_; intro b3 w_b3 hb_b3 hs_b3 hS_b3 hk_b3; have hA_b3 := At.ofBlock hk_b3)
  (apply jJ; exact eS rfl; apply jJ; exact eI rfl; refine jz ?_; refine jjB ?_; refine jjB ?_; refine jjC ?_; refine jO rfl rfl rfl rfl ?_)
  obtain ⟨B1, hB1⟩ : ∃ B, textB (txF cs) = B := ⟨_, rfl⟩
  refine jjQ ((Check_leaf a c cs _ hs).mono fun v _ _ h => h.trans (by rw [hB1])) rfl rfl ?_
  rintro _ w4 hS4 rfl
  cases B1 with
  | false =>
    (apply jJ; exact eI rfl; refine jz ?_; refine jjB ?_; refine jjC ?_; apply jI; exact eI rfl; refine jc rfl rfl ?_; refine jz ?_; refine jjJ rfl ?_; refine jjB ?_; refine jjC ?_; apply jI; exact eI rfl; apply jJ; exact eS rfl; apply jJ; exact eI rfl; refine jz ?_; refine jjF ?_; refine jC rfl rfl rfl ⟨inferInstance, ?_⟩)
    rw [whereR_no hB1]
    exact ⟨_, rfl, OwnL.nil _ _ _ _ _⟩
  | true =>
  obtain ⟨B2, hB2⟩ : ∃ B, slipB s = B := ⟨_, rfl⟩
  rw [if_pos rfl]
  (apply jJ; exact eI rfl; refine jz ?_; refine jjB ?_; refine jjC ?_; apply jI; exact eI rfl; refine jjk rfl rfl (by omega) ?_; refine jz ?_; refine jjK rfl ?_; refine jjG ?_; refine jjB ?_; refine jjB ?_; refine jjC ?_; refine jO rfl rfl rfl rfl ?_)
  refine jjQ ((right_slip _ s hss).mono fun v _ _ h => h.trans (by rw [hB2])) rfl rfl ?_
  rintro _ w5 hS5 rfl
  cases B2 with
  | false =>
    (refine jq rfl ?_; refine jz ?_; refine jjJ rfl ?_; refine jjB ?_; refine jjC ?_; apply jJ; exact eS rfl; apply jJ; exact eI rfl; refine jz ?_; refine jjF ?_; refine jC rfl rfl rfl ⟨inferInstance, ?_⟩)
    rw [whereR_bad hB1 hB2]
    exact ⟨_, rfl, OwnL.nil _ _ _ _ _⟩
  | true =>
  rw [whereR_yes hB1 hB2]
  (refine jp rfl ?_; refine jz ?_; refine jjK rfl ?_; refine jjG ?_; refine jjB ?_; refine jjC ?_; refine jm ?_; refine jn rfl ?_; refine jN rfl rfl rfl ?_)
  refine jjQ (words_slip _ s.2.2.1 hss.2.1) rfl rfl ?_
  rintro _ w6 hS6 ⟨bv, rfl, hOb⟩
  (apply jI; exact eU rfl; refine ju rfl rfl ?_; refine ju rfl rfl ?_; apply jJ; exact rfl; apply jJ; exact eB rfl; refine jz ?_; refine jjB ?_; refine jjC ?_; refine jm ?_; refine jn rfl ?_; refine jN rfl rfl rfl ?_)
  refine jjQ (words_slip _ s.2.2.2 hss.2.2) rfl rfl ?_
  rintro _ w7 hS7 ⟨av, rfl, hOa⟩
  obtain ⟨ba, bc, rfl⟩ := hOb.slice
  obtain ⟨aa, ac, rfl⟩ := hOa.slice
  rw [List.length_map] at hOa hOb
  rw [List.length_map, List.length_map]
  (apply jI; exact eU rfl; refine ju rfl rfl ?_; refine ju rfl rfl ?_; apply jJ; exact eS rfl; apply jJ; exact eB rfl; refine jz ?_; refine jjB ?_; refine jjC ?_; apply jI; exact eS rfl; refine jm ?_; refine jn rfl ?_; refine jN rfl rfl rfl ?_)
  (refine jjP (v := .string _) rfl (by exact rfl) (by exact rfl) (by exact rfl) (by exact rfl) ?_; intro b39 w_b39 hb_b39 hs_b39 hS_b39 hk_b39; have hR_b39 := RowV.one (agg := false) (k := 1) rfl hk_b39)
  (apply jI; exact eS rfl)
  refine Ops.buildSlice3 rfl rfl rfl rfl rfl rfl rfl ?_
  intro b41 w41 hb41 hs41 hS41 hk41
  have hE39 : Ext w7 w_b39 := hS_b39.ext
  have hrows : RowV w41 false 1 (.slice (some ⟨b41, 0, none⟩) 3 3) ([(ba, bc, wordsL s.2.2.1), (some ⟨b39, 0, none⟩, 1, [s.2.1]), (aa, ac, wordsL s.2.2.2)].map encLn) := hk41.row (fun x hx => by simp at hx; rcases hx with rfl | rfl | rfl <;> rfl) (by simp)
  have hcat : catL [(ba, bc, wordsL s.2.2.1), (some ⟨b39, 0, none⟩, 1, [s.2.1]), (aa, ac, wordsL s.2.2.2)] = wantS s := by simp [catL, wantS]
  have hOb41 := ((hOb.ext hS7.ext).ext hE39).ext hS41.ext
  have hOa41 := (hOa.ext hE39).ext hS41.ext
  skip
  refine jjQ ((Concat_str _ 3 [(ba, bc, wordsL s.2.2.1), (some ⟨b39, 0, none⟩, 1, [s.2.1]), (aa, ac, wordsL s.2.2.2)] _ hrows (fun y hy => by
    simp only [List.mem_cons, List.not_mem_nil, or_false] at hy
    rcases hy with rfl | rfl | rfl
    · exact hOb41.row
    · exact hR_b39.ext hS41.ext
    · exact hOa41.row) (by rw [hcat]; exact hw0) (by rw [hcat]; omega)).mono fun v _ _ h => by rw [hcat] at h; exact h) rfl rfl ?_
  rintro wv wX hSX hOw
  obtain ⟨wa, wc, rfl⟩ := hOw.slice
  rw [List.length_map] at hOw ⊢
  have hEX : Ext w wX := inferInstance
  have hAX : At wX b2 0 [.slice a cs.length c] := inferInstance
  have hWR := hOw.row
  rw [whereF, txF_len]
  generalize hwant : wantS s = want at *
  generalize (wordsL s.2.2.1).length = nb at *
  (apply jJ; exact eS rfl; refine jz ?_; refine jjB ?_; refine jjC ?_; apply jJ; exact eS rfl; refine jz ?_; refine jjB ?_; refine jjB ?_; refine jjC ?_; refine jm ?_; refine jn rfl ?_; refine jN rfl rfl rfl ?_; refine jh rfl ?_; apply jI; exact eI rfl; refine jz ?_; refine jjD ?_)
  refine W.keep0 [(2, .pointer (some ⟨b2, 0, none⟩)), (7, .slice ba nb bc), (11, .slice wa want.length wc), (12, .slice none 0 0), (45, .int .i64 (cs.length : Int)), (46, .int .i64 ((0 : Nat) : Int))] ⟨eP rfl, eS rfl, eS rfl, eS rfl, eI rfl, eI rfl, trivial⟩ fun s0 => ?_
  refine W.loopG (47 :: 48 :: 13 :: 49 :: 50 :: 51 :: 52 :: 14 :: 53 :: 54 :: 55 :: 56 :: 57 :: 58 :: 15 :: 59 :: 60 :: 61 :: 62 :: 63 :: 64 :: 65 :: 66 :: 67 :: 68 :: 69 :: 70 :: 71 :: 72 :: 73 :: 74 :: 75 :: 76 :: 77 :: 78 :: 79 :: 80 :: 81 :: 82 :: 83 :: 84 :: 85 :: 86 :: 87 :: 88 :: 89 :: 12 :: 90 :: 91 :: 46 :: []) (fun g s' V => ∃ (k : Nat) (lv : Value), s' 46 = .int .i64 ((k : Nat) : Int) ∧ s' 12 = lv ∧ g = cs.length - k ∧ k ≤ cs.length ∧ Ext wX V ∧ OwnL V wX.heap.size 28 true 3 lv ((whN (txF cs) want nb k).map encPl) ∧ (whN (txF cs) want nb k).length ≤ k * 1000000) cs.length ⟨0, _, rfl, rfl, rfl, Nat.zero_le _, .refl _, OwnL.nil _ _ _ _ _, by simp [whN]⟩ ?_
  rintro _ sd V ⟨k, lv, h46, h12, rfl, hk, hE, hO, hwn⟩
  obtain ⟨va, vl, vc, rfl⟩ := hO.slice3
  refine W.fix h46 (W.fix (d := 12) h12 ?_)
  clear h46 h12
  have hA2 := hAX.ext hE
  have zE := hE.size
  by_cases hkl : k < cs.length
  rotate_left
  · obtain rfl : k = cs.length := by omega
    have hEV := hEX.trans hE
    (refine jjB ?_; refine jjC ?_; refine jja rfl rfl (by omega) ?_; refine jz ?_; refine jjB ?_; refine jjK rfl ?_; refine jjE ?_; refine jjB ?_; refine jjC ?_; apply jI; exact eS rfl; apply jJ; exact eS rfl; apply jJ; exact eI rfl; refine jz ?_; refine jjF ?_; refine jC rfl rfl rfl ⟨inferInstance, ?_⟩)
    exact ⟨_, rfl, hO.mono hEX.size⟩
  have i0 : RowI V (.slice a cs.length c) true 2 (cs.map encCh) := ⟨hrow.h.ext (hEX.trans hE)⟩
  have i1 : TextI V cs := hT.ext (hEX.trans hE)
  obtain ⟨hn, hsz⟩ := rnW_small hs hkl
  have hrl : (runA k (chW cs[k])).length = (rnW cs[k]).length := runA_len _ _
  have hwk : (wsT (txF cs) k).flatten = rnW cs[k] := by rw [wsT_get hkl]
  have hrk : runA k (wsT (txF cs) k) = runA k (chW cs[k]) := by rw [wsT_get hkl]
  have hnx := whN_succ (txF cs) want nb k
  rw [hwk, hrk] at hnx
  (refine jjB ?_; refine jjC ?_; refine jjZ rfl rfl (by omega) ?_; refine jz ?_; refine jjB ?_; refine jjJ rfl ?_; refine jjG ?_; refine jjB ?_; refine jjD ?_; refine jjB ?_; refine jjC ?_; apply jI; exact eI rfl; apply jJ; exact eI rfl; refine jz ?_; refine jjB ?_; refine jjC ?_; refine jO rfl rfl rfl rfl ?_)
  (refine jjS (cells := [.int .i64 0, .int .u8 0]) ?_ ?_; exact rfl)
  (apply jI; exact eI rfl)
  refine jjQ (runs_slip a c cs _ hs 0 0 k hkl) rfl rfl ?_
  rintro _ V1 hS1 ⟨wv, av, rfl, hOs, hOp⟩
  generalize rnW cs[k] = ws at *
  generalize runA k (chW cs[k]) = ps at *
  obtain ⟨sa, sc, rfl⟩ := hOs.slice
  obtain ⟨pa, pc, rfl⟩ := hOp.slice
  rw [List.length_map] at hOs hOp ⊢
  rw [List.length_map]
  skip
  (apply jjR rfl; (intro _; first|exact eI rfl|exact eB rfl|exact eP rfl|exact eS rfl|exact eT rfl|exact eA rfl|exact eU rfl|exact eF rfl|exact eM rfl|exact eN rfl|exact rfl); exact rfl; exact rfl; exact rfl; exact rfl; intro b14 w_b14 hb_b14 hs_b14 hS_b14 hk_b14; have hA_b14 := Bk.of hk_b14)
  (refine jz ?_; refine jjB ?_; refine jjC ?_; refine jm ?_; refine jn rfl ?_; refine jN rfl rfl rfl ?_; refine jh rfl ?_; apply jI; exact eI rfl; refine jz ?_; refine jjD ?_)
  have e14 := hS1.ext.trans hS_b14.ext
  have z14 := e14.size
  have z1 := hS1.size
  have zb14 := hS_b14.size
  have hOl : ∀ g, (Value.slice va vl vc).ownBlock = some g → g < V.heap.size ∨ w_b14.heap.size ≤ g := fun g hg => .inl (hO.block g hg).2
  refine W.keep [(2, .pointer (some ⟨b2, 0, none⟩)), (7, .slice ba nb bc), (11, .slice wa want.length wc), (12, .slice va vl vc), (14, .pointer (some ⟨b14, 0, none⟩)), (45, .int .i64 (cs.length : Int)), (46, .int .i64 ((k : Nat) : Int)), (55, .int .i64 (ws.length : Int)), (56, .int .i64 ((0 : Nat) : Int))] (D := (47 :: 48 :: 13 :: 49 :: 50 :: 51 :: 52 :: 14 :: 53 :: 54 :: 55 :: 56 :: 57 :: 58 :: 15 :: 59 :: 60 :: 61 :: 62 :: 63 :: 64 :: 65 :: 66 :: 67 :: 68 :: 69 :: 70 :: 71 :: 72 :: 73 :: 74 :: 75 :: 76 :: 77 :: 78 :: 79 :: 80 :: 81 :: 82 :: 83 :: 84 :: 85 :: 86 :: 87 :: 88 :: 89 :: 12 :: 90 :: 91 :: 46 :: [])) (sO := upds s0 _) (by ((refine Same.upd rfl ?_; refine Same.upd rfl ?_; refine Same.upd rfl ?_; refine Same.upd rfl ?_; refine Same.upd rfl ?_; refine Same.upd rfl ?_; refine Same.upd rfl ?_; refine Same.upd rfl ?_; refine Same.upd rfl ?_; refine Same.upd rfl ?_; refine Same.upd rfl ?_; refine Same.upd rfl ?_; refine Same.upd rfl ?_; refine Same.upd rfl ?_; exact Same.ovN))) ⟨eP rfl, eS rfl, eS rfl, eS rfl, eP rfl, eI rfl, eI rfl, eI rfl, eI rfl, trivial⟩ fun s1 hs1' => ?_
  refine W.loopG (57 :: 58 :: 15 :: 59 :: 60 :: 61 :: 62 :: 63 :: 64 :: 65 :: 66 :: 67 :: 68 :: 69 :: 70 :: 71 :: 72 :: 73 :: 74 :: 75 :: 76 :: 77 :: 78 :: 79 :: 80 :: 81 :: 82 :: 83 :: 84 :: 85 :: 86 :: 87 :: 88 :: 89 :: 12 :: 90 :: 56 :: []) (fun g s' V' => ∃ (i : Nat) (lv : Value), s' 56 = .int .i64 ((i : Nat) : Int) ∧ s' 12 = lv ∧ g = ws.length - i ∧ i ≤ ws.length ∧ Ext wX V' ∧ w_b14.heap.size ≤ V'.heap.size ∧ Bk V' b14 [.int .i64 0, .int .u8 0, .slice sa ws.length sc, .slice pa ps.length pc] 73 ∧ OwnL V' V.heap.size 9 false 1 (.slice sa ws.length sc) (ws.map strV) ∧ OwnL V' V.heap.size 28 true 3 (.slice pa ps.length pc) (ps.map encPl) ∧ OwnL V' wX.heap.size 28 true 3 lv ((whN (txF cs) want nb k ++ whK want nb ws ps i).map encPl) ∧ ∀ g, lv.ownBlock = some g → g < V.heap.size ∨ w_b14.heap.size ≤ g) ws.length ⟨0, _, rfl, rfl, rfl, Nat.zero_le _, hE.trans e14, Nat.le_refl _, inferInstance, hOs.ext hS_b14.ext, hOp.ext hS_b14.ext, by rw [show whK want nb ws ps 0 = [] from rfl, List.append_nil]; exact hO.ext e14, hOl⟩ ?_
  have hOs1 := hOs
  have hOp1 := hOp
  clear hOl hOs hOp hO
  rintro _ sd2 V2 ⟨i, lv, h56, h12, rfl, hi, hE2, hz2, hB14, hOs, hOp, hO, hOl⟩
  obtain ⟨va2, vl2, vc2, rfl⟩ := hO.slice3
  refine W.fix h56 (W.fix (d := 12) h12 ?_)
  clear h56 h12
  have hA14 := Bk.toAt (h := hB14)
  by_cases hil : i < ws.length
  rotate_left
  · obtain rfl : i = ws.length := by omega
    rw [← hnx] at hO
    have hwl2 := whK_len want nb ws ps ws.length
    (refine jjB ?_; refine jjC ?_; refine jja rfl rfl (by omega) ?_; refine jz ?_; refine jjB ?_; refine jjK rfl ?_; refine jjE ?_; refine jjC ?_; refine jY rfl rfl (by omega) ?_; apply jI; exact eI rfl; refine jz ?_)
    exact ⟨rfl, by ((refine Same.upd rfl ?_; refine Same.upd rfl ?_; refine Same.upd rfl ?_; refine Same.upd rfl ?_; refine Same.upd rfl ?_; refine Same.ovN' rfl ?_; assumption)), cs.length - (k + 1), by omega, k + 1, _, congrArg (Value.int .i64) (by omega), rfl, rfl, by omega, hE2, hO, by rw [hnx, List.length_append]; omega⟩
  have hsn := whK_succ want nb ws ps i
  obtain ⟨B, hB⟩ : ∃ B, hitB want ws i = B := ⟨_, rfl⟩
  rw [hB] at hsn
  have hwl2 := whK_len want nb ws ps i
  by_cases hfit : want.length ≤ ws.length - i
  rotate_left
  · have hBf : B = false := by
      cases B with
      | false => rfl
      | true => have := hit_fit hB; omega
    subst hBf
    rw [if_neg (by simp), List.append_nil] at hsn
    (refine jjB ?_; refine jjC ?_; refine jjZ rfl rfl (by omega) ?_; refine jz ?_; refine jjB ?_; refine jjJ rfl ?_; refine jjG ?_; refine jjB ?_; refine jjD ?_; refine jjB ?_; refine jjC ?_; apply jI; exact eI rfl; apply jJ; exact eI rfl; refine jz ?_; refine jjB ?_; refine jjC ?_; refine jm ?_; refine jn rfl ?_; refine jN rfl rfl rfl ?_; refine jh rfl ?_; apply jI; exact eI rfl; refine jZ rfl rfl (by omega) ?_; apply jI; exact eS rfl; refine jh rfl ?_; refine jjg rfl rfl (by omega) ?_; apply jI; exact eB rfl; refine jU rfl rfl rfl rfl ?_; refine jU rfl rfl rfl rfl ?_; refine jU rfl rfl rfl rfl ?_; refine jU rfl rfl rfl rfl ?_; refine jU rfl rfl rfl rfl ?_; refine jU rfl rfl rfl rfl ?_; refine jU rfl rfl rfl rfl ?_; refine jU rfl rfl rfl rfl ?_; refine jU rfl rfl rfl rfl ?_; refine jU rfl rfl rfl rfl ?_; apply jL rfl; exact eB rfl; refine jz ?_; refine jjK rfl ?_; refine jjG ?_; refine jjC ?_; refine jY rfl rfl (by omega) ?_; apply jI; exact eI rfl; refine jz ?_)
    refine ⟨rfl, by ((refine Same.upd rfl ?_; refine Same.upd rfl ?_; refine Same.upd rfl ?_; refine Same.upd rfl ?_; refine Same.upd rfl ?_; refine Same.upd rfl ?_; refine Same.upd rfl ?_; refine Same.upd rfl ?_; refine Same.upd rfl ?_; refine Same.upd rfl ?_; refine Same.upd rfl ?_; refine Same.upd rfl ?_; refine Same.upd rfl ?_; refine Same.upd rfl ?_; refine Same.upd rfl ?_; refine Same.upd rfl ?_; refine Same.upd rfl ?_; refine Same.upd rfl ?_; refine Same.upd rfl ?_; refine Same.upd rfl ?_; refine Same.upd rfl ?_; refine Same.upd rfl ?_; refine Same.upd rfl ?_; refine Same.upd rfl ?_; refine Same.upd rfl ?_; refine Same.upd rfl ?_; refine Same.upd rfl ?_; exact Same.ovN)), ws.length - (i + 1), by omega, i + 1, _, congrArg (Value.int .i64) (by omega), rfl, rfl, by omega, hE2, hz2, hB14, hOs, hOp, by rw [hsn]; exact hO, hOl⟩
  have hB' : decide ((ws.take (i + want.length)).drop i = want) = B := by
    rw [← hB, hitB, List.drop_take, Nat.add_sub_cancel_left]
  (refine jjB ?_; refine jjC ?_; refine jjZ rfl rfl (by omega) ?_; refine jz ?_; refine jjB ?_; refine jjJ rfl ?_; refine jjG ?_; refine jjB ?_; refine jjD ?_; refine jjB ?_; refine jjC ?_; apply jI; exact eI rfl; apply jJ; exact eI rfl; refine jz ?_; refine jjB ?_; refine jjC ?_; refine jm ?_; refine jn rfl ?_; refine jN rfl rfl rfl ?_; refine jh rfl ?_; apply jI; exact eI rfl; refine jZ rfl rfl (by omega) ?_; apply jI; exact eS rfl; refine jh rfl ?_; refine jjf rfl rfl (by omega) ?_; apply jI; exact eB rfl; refine jT rfl rfl rfl ?_; refine jm ?_; refine jn rfl ?_; refine jT rfl rfl rfl ?_; refine jN rfl rfl rfl ?_; refine jT rfl rfl rfl ?_; apply jI; exact eI rfl; refine jT rfl rfl rfl ?_; apply jI; exact eI rfl; refine jT rfl rfl rfl ?_; apply jI; exact eS rfl; refine jT rfl rfl rfl ?_; refine jh rfl ?_; refine jT rfl rfl rfl ?_; refine jY rfl rfl (by omega) ?_; refine jT rfl rfl rfl ?_)
  refine Ops.sliceLH (lo := i) (hi := i + want.length) hOs.row rfl rfl rfl rfl (by omega) (by omega) (by rw [List.length_map]; omega) ?_
  rintro _ hR75 ⟨a75, c75, rfl⟩
  rw [← List.map_take, ← List.map_drop] at hR75
  (refine jT rfl rfl rfl ?_; apply jI; exact eS rfl; refine jT rfl rfl rfl ?_)
  refine jjQ ((Equal_str a75 wa c75 wc _ _ ((ws.take (i + want.length)).drop i) want _ (by rw [List.length_drop, List.length_take]; omega) rfl hR75 (hWR.ext hE2)).mono fun v _ _ h => h.trans (by rw [hB'])) rfl rfl ?_
  rintro _ V3 hS3 rfl
  have e3 := hS3.ext
  have z3 := e3.size
  cases B with
  | false =>
    rw [if_neg (by simp), List.append_nil] at hsn
    (apply jK rfl; exact eB rfl; refine jz ?_; refine jjK rfl ?_; refine jjG ?_; refine jjC ?_; refine jY rfl rfl (by omega) ?_; apply jI; exact eI rfl; refine jz ?_)
    refine ⟨rfl, by ((refine Same.upd rfl ?_; refine Same.upd rfl ?_; refine Same.upd rfl ?_; refine Same.upd rfl ?_; refine Same.upd rfl ?_; refine Same.upd rfl ?_; refine Same.upd rfl ?_; refine Same.upd rfl ?_; refine Same.upd rfl ?_; refine Same.upd rfl ?_; refine Same.upd rfl ?_; refine Same.upd rfl ?_; refine Same.upd rfl ?_; refine Same.upd rfl ?_; refine Same.upd rfl ?_; refine Same.upd rfl ?_; refine Same.upd rfl ?_; refine Same.upd rfl ?_; refine Same.upd rfl ?_; refine Same.upd rfl ?_; refine Same.upd rfl ?_; refine Same.upd rfl ?_; refine Same.upd rfl ?_; refine Same.upd rfl ?_; refine Same.upd rfl ?_; refine Same.upd rfl ?_; refine Same.upd rfl ?_; exact Same.ovN)), ws.length - (i + 1), by omega, i + 1, _, congrArg (Value.int .i64) (by omega), rfl, rfl, by omega, hE2.trans e3, by omega, hB14.ext e3, hOs.ext e3, hOp.ext e3, by rw [hsn]; exact hO.ext e3, hOl⟩
  | true =>
    rw [if_pos rfl] at hsn
    have hin : i + nb < ps.length := by omega
    have hgd : ps.getD (i + nb) (0, 0, 0) = ps[i + nb] := by rw [List.getD_eq_getElem?_getD, List.getElem?_eq_getElem hin, Option.getD_some]
    rw [hgd] at hsn
    have i5 : RowI V3 (.slice pa ps.length pc) true 3 (ps.map encPl) := ⟨(hOp.ext e3).row⟩
    (apply jK rfl; exact eB rfl; refine jz ?_; refine jjJ rfl ?_; refine jjC ?_; apply jI; exact eS rfl; refine jm ?_; refine jn rfl ?_; refine jN rfl rfl rfl ?_; apply jI; exact eI rfl; apply jI; exact eS rfl; refine jh rfl ?_; refine jY rfl rfl (by omega) ?_; refine jF rfl rfl rfl (map_get (by omega)) ?_; intro _ _ _; refine jQ rfl rfl ?_)
    (refine jjP (v := .agg _) rfl (by exact rfl) (by exact rfl) (by exact rfl) (by exact rfl) ?_; intro b20 w_b20 hb_b20 hs_b20 hS_b20 hk_b20; have hR_b20 := RowV.one (agg := true) (k := 3) rfl hk_b20)
    have hR1 : RowV w_b20 true 3 (.slice (some ⟨b20, 0, none⟩) 1 1) [encPl ps[i + nb]] := hR_b20
    have e20 := e3.trans hS_b20.ext
    have z20 := e20.size
    refine Ops.appendL (hO.ext e20) (by omega) hR1 rfl rfl rfl rfl (one_pl _) ?_ ?_ ?_
    · rw [List.length_map, List.length_append]; simp only [List.length_cons, List.length_nil]; omega
    · rw [List.length_map, List.length_append]; simp only [List.length_cons, List.length_nil]; omega
    intro v2 V4 hA hO4 _ hown2
    obtain ⟨va4, vl4, vc4, rfl⟩ := hO4.slice3
    have zA := hA.g.size
    have hOs20 := hOs.ext e20
    have hOp20 := hOp.ext e20
    have ltB : b14 < w_b14.heap.size := hA_b14.lt
    have hnb : ∀ g, V.heap.size ≤ g → g < w_b14.heap.size → (Value.slice va2 vl2 vc2).ownBlock ≠ some g := fun g h1 h2 h => by have := hOl g h; omega
    (apply jJ; exact eS rfl; refine jz ?_; refine jjC ?_; refine jY rfl rfl (by omega) ?_; apply jI; exact eI rfl; refine jz ?_)
    refine ⟨rfl, by ((refine Same.upd rfl ?_; refine Same.upd rfl ?_; refine Same.upd rfl ?_; refine Same.upd rfl ?_; refine Same.upd rfl ?_; refine Same.upd rfl ?_; refine Same.upd rfl ?_; refine Same.upd rfl ?_; refine Same.upd rfl ?_; refine Same.upd rfl ?_; refine Same.upd rfl ?_; refine Same.upd rfl ?_; refine Same.upd rfl ?_; refine Same.upd rfl ?_; refine Same.upd rfl ?_; refine Same.upd rfl ?_; refine Same.upd rfl ?_; refine Same.upd rfl ?_; refine Same.upd rfl ?_; refine Same.upd rfl ?_; refine Same.upd rfl ?_; refine Same.upd rfl ?_; refine Same.upd rfl ?_; refine Same.upd rfl ?_; refine Same.upd rfl ?_; refine Same.upd rfl ?_; refine Same.upd rfl ?_; refine Same.upd rfl ?_; refine Same.upd rfl ?_; refine Same.upd rfl ?_; refine Same.upd rfl ?_; refine Same.upd rfl ?_; refine Same.upd rfl ?_; refine Same.upd rfl ?_; refine Same.upd rfl ?_; refine Same.upd rfl ?_; refine Same.upd rfl ?_; refine Same.upd rfl ?_; refine Same.upd rfl ?_; exact Same.ovN)), ws.length - (i + 1), by omega, i + 1, _, congrArg (Value.int .i64) (by omega), rfl, rfl, by omega, hA.ext (hE2.trans e20) (by omega), by omega, hA.bk (hB14.ext e20) (hnb _ (by omega) ltB), hOs20.app hA (fun g hg => hnb g (hOs1.block g hg).1 (by have := (hOs1.block g hg).2; omega)), hOp20.app hA (fun g hg => hnb g (hOp1.block g hg).1 (by have := (hOp1.block g hg).2; omega)), ?_, ?_⟩
    · rw [hsn, ← List.append_assoc, List.map_append]
      exact hO4
    · intro g (hg : (Value.slice va4 vl4 vc4).ownBlock = some g)
      rcases hown2 with h | h
      · exact hOl g (h ▸ hg)
      · rw [h] at hg; cases hg; right; omega
end
end Go.Proofs.YtgmgiepdehlinaaGreatDoor

/- Comparisons of lists, element by element. -/
namespace Go.Proofs.YtgmgiepdehlinaaGreatDoor
open Go.RowKit

set_option maxHeartbeats 1000000 in
theorem same_words1 (a1 a2 : Option Addr) (c1 c2 n1 n2 : Nat) (xs ys : List ByteArray) (w : World) (h1 : xs.length = n1) (h2 : ys.length = n2) (hx : RowV w false 1 (.slice a1 n1 c1) (xs.map strV)) (hy : RowV w false 1 (.slice a2 n2 c2) (ys.map strV)) : Ct Tryz.prog 35 [.slice a1 n1 c1, .slice a2 n2 c2] w fun v _ => v = .bool (decide (xs = ys)) := by
  subst h1 h2
  have hlx := hx.len
  have hly := hy.len
  rw [List.length_map] at hlx hly
  refine Ct.ofW (by simp) ?_
  by_cases hl : xs.length = ys.length
  rotate_left
  · (refine jjB ?_; refine jjC ?_; apply jJ; exact eB rfl; refine jz ?_; refine jjB ?_; refine jjB ?_; refine jjC ?_; apply jI; exact eS rfl; refine jh rfl ?_; apply jI; exact eS rfl; refine jh rfl ?_; refine jjj rfl rfl (by omega) ?_; refine jz ?_; refine jjJ rfl ?_; refine jjB ?_; refine jjC ?_; apply jJ; exact eB rfl; refine jz ?_; refine jjF ?_; refine jB rfl rfl ⟨inferInstance, ?_⟩)
    rw [decide_eq_false (fun e => hl (by rw [e]))]; exact rfl
  (refine jjB ?_; refine jjC ?_; apply jJ; exact eB rfl; refine jz ?_; refine jjB ?_; refine jjB ?_; refine jjC ?_; apply jI; exact eS rfl; refine jh rfl ?_; apply jI; exact eS rfl; refine jh rfl ?_; refine jjk rfl rfl (by omega) ?_; refine jz ?_; refine jjK rfl ?_; refine jjG ?_; refine jjB ?_; refine jjB ?_; refine jjC ?_; apply jJ; exact eI rfl; refine jz ?_; refine jjD ?_)
  refine W.keep0 [(0, .slice a1 xs.length c1), (1, .slice a2 ys.length c2), (5, .int .i64 ((0 : Nat) : Int))] ⟨eS rfl, eS rfl, eI rfl, trivial⟩ fun s0 => ?_
  refine W.loop (11 :: 12 :: 13 :: 14 :: 17 :: 18 :: 19 :: 20 :: 21 :: 22 :: 23 :: 24 :: 25 :: 4 :: 15 :: 16 :: 5 :: []) (fun g s' V => ∃ k : Nat, s' 5 = .int .i64 ((k : Nat) : Int) ∧ g = xs.length - k ∧ k ≤ xs.length ∧ ∀ (j : Nat) (hj : j < xs.length), j < k → xs[j] = ys[j]'(by omega)) xs.length ⟨0, rfl, rfl, Nat.zero_le _, by intros; omega⟩ ?_
  rintro _ sd w1 hS1 ⟨k, h5, rfl, hk, hpre⟩
  refine W.fix h5 ?_
  clear h5
  by_cases hkl : k < xs.length
  rotate_left
  · have e : xs = ys := List.ext_getElem hl fun j hj _ => hpre j hj (by omega)
    (refine jjB ?_; refine jjB ?_; refine jjC ?_; apply jI; exact eI rfl; apply jI; exact eS rfl; refine jh rfl ?_; refine jja rfl rfl (by omega) ?_; refine jz ?_; refine jjK rfl ?_; refine jjE ?_; refine jjB ?_; refine jjC ?_; apply jJ; exact eB rfl; refine jz ?_; refine jjF ?_; refine jB rfl rfl ⟨inferInstance, ?_⟩)
    rw [decide_eq_true e]; exact rfl
  have hkl2 : k < ys.length := by omega
  obtain ⟨b1, o1, rfl, hA1⟩ := hx.place' (map_get hkl)
  obtain ⟨b2, o2, rfl, hA2⟩ := hy.place' (map_get hkl2)
  rw [Nat.mul_one] at hA1 hA2
  (refine jjB ?_; refine jjB ?_; refine jjC ?_; apply jI; exact eI rfl; apply jI; exact eS rfl; refine jh rfl ?_; refine jjZ rfl rfl (by omega) ?_; refine jz ?_; refine jjJ rfl ?_; refine jjG ?_; refine jjB ?_; refine jjD ?_; refine jjB ?_)
  refine W.draw (fun w' => Ext w w') ?_
  intro w2 hS2
  have hE2 : Ext w w2 := hS1.ext.trans hS2.ext
  (refine jjV [0, 1, 2, 3, 4, 5, 6, 7] ?_ ?_ ?_; (decide +kernel); (exact hE2); (((apply jjT; exact rfl; rintro w' hq; have := hq.toStep; apply jI; exact eS rfl; refine jz ?_; exact ⟨rfl, rfl⟩; apply jjT; exact rfl; rintro w' hq; have := hq.toStep; apply jI; exact eI rfl; refine jz ?_; exact ⟨rfl, rfl⟩; apply jjT; exact rfl; rintro w' hq; have := hq.toStep; refine jG rfl rfl rfl (by omega) ?_; refine jz ?_; exact ⟨rfl, rfl⟩; apply jjT; exact rfl; rintro w' hq; have := hq.toStep; refine jQ rfl rfl ?_; refine jz ?_; exact ⟨rfl, rfl⟩; apply jjT; exact rfl; rintro w' hq; have := hq.toStep; apply jI; exact eS rfl; refine jz ?_; exact ⟨rfl, rfl⟩; apply jjT; exact rfl; rintro w' hq; have := hq.toStep; apply jI; exact eI rfl; refine jz ?_; exact ⟨rfl, rfl⟩; apply jjT; exact rfl; rintro w' hq; have := hq.toStep; refine jG rfl rfl rfl (by omega) ?_; refine jz ?_; exact ⟨rfl, rfl⟩; apply jjT; exact rfl; rintro w' hq; have := hq.toStep; refine jQ rfl rfl ?_; refine jz ?_; exact ⟨rfl, rfl⟩; refine jjU ?_))))
  by_cases hkj : xs[k] = ys[k]
  · refine jjV [8] (by decide +kernel) hE2 (jjT (v := .bool false) rfl (fun w' q1 => ?_) (jjU ?_)); (refine Ops.neqS (a := xs[k]) (b := ys[k]) rfl rfl ?_; rw [decide_eq_false (by simp [hkj])]; refine jz ?_; exact ⟨rfl, rfl⟩)
    refine jjX (by decide +kernel) hE2 ?_
    (refine jjK rfl ?_; refine jjG ?_; refine jjC ?_; apply jI; exact eI rfl; refine jY rfl rfl (by omega) ?_; apply jJ; exact eI rfl; refine jz ?_)
    refine ⟨rfl, by ((refine Same.upd rfl ?_; refine Same.upd rfl ?_; refine Same.upd rfl ?_; refine Same.upd rfl ?_; refine Same.upd rfl ?_; refine Same.upd rfl ?_; refine Same.upd rfl ?_; refine Same.upd rfl ?_; refine Same.upd rfl ?_; refine Same.upd rfl ?_; refine Same.upd rfl ?_; refine Same.upd rfl ?_; refine Same.upd rfl ?_; refine Same.upd rfl ?_; refine Same.upd rfl ?_; refine Same.upd rfl ?_; refine Same.upd rfl ?_; exact Same.ovN)), xs.length - (k + 1), by omega, inferInstance, k + 1, congrArg (Value.int .i64) (by omega), rfl, by omega, fun j hj hjk => ?_⟩
    by_cases e : j = k
    · subst e; exact hkj
    · exact hpre j hj (by omega)
  · refine jjV [8] (by decide +kernel) hE2 (jjT (v := .bool true) rfl (fun w' q1 => ?_) (jjU ?_)); (refine Ops.neqS (a := xs[k]) (b := ys[k]) rfl rfl ?_; rw [decide_eq_true hkj]; refine jz ?_; exact ⟨rfl, rfl⟩)
    refine jjX (by decide +kernel) hE2 ?_
    (refine jjJ rfl ?_; refine jjB ?_; refine jjC ?_; apply jJ; exact eB rfl; refine jz ?_; refine jjF ?_; refine jB rfl rfl ⟨inferInstance, ?_⟩)
    rw [decide_eq_false (fun e => hkj (by simp only [e]))]; exact rfl

set_option maxHeartbeats 1000000 in
theorem same_places1 (a1 a2 : Option Addr) (c1 c2 n1 n2 : Nat) (xs ys : List Pl) (w : World) (h1 : xs.length = n1) (h2 : ys.length = n2) (hx : RowV w true 3 (.slice a1 n1 c1) (xs.map encPl)) (hy : RowV w true 3 (.slice a2 n2 c2) (ys.map encPl)) : Ct Tryz.prog 16 [.slice a1 n1 c1, .slice a2 n2 c2] w fun v _ => v = .bool (decide (xs = ys)) := by
  subst h1 h2
  have hlx := hx.len
  have hly := hy.len
  rw [List.length_map] at hlx hly
  refine Ct.ofW (by simp) ?_
  by_cases hl : xs.length = ys.length
  rotate_left
  · (refine jjB ?_; refine jjC ?_; apply jJ; exact eB rfl; refine jz ?_; refine jjB ?_; refine jjB ?_; refine jjC ?_; apply jI; exact eS rfl; refine jh rfl ?_; apply jI; exact eS rfl; refine jh rfl ?_; refine jjj rfl rfl (by omega) ?_; refine jz ?_; refine jjJ rfl ?_; refine jjB ?_; refine jjC ?_; apply jJ; exact eB rfl; refine jz ?_; refine jjF ?_; refine jB rfl rfl ⟨inferInstance, ?_⟩)
    rw [decide_eq_false (fun e => hl (by rw [e]))]; exact rfl
  (refine jjB ?_; refine jjC ?_; apply jJ; exact eB rfl; refine jz ?_; refine jjB ?_; refine jjB ?_; refine jjC ?_; apply jI; exact eS rfl; refine jh rfl ?_; apply jI; exact eS rfl; refine jh rfl ?_; refine jjk rfl rfl (by omega) ?_; refine jz ?_; refine jjK rfl ?_; refine jjG ?_; refine jjB ?_; refine jjB ?_; refine jjC ?_; apply jJ; exact eI rfl; refine jz ?_; refine jjD ?_)
  refine W.keep0 [(0, .slice a1 xs.length c1), (1, .slice a2 ys.length c2), (5, .int .i64 ((0 : Nat) : Int))] ⟨eS rfl, eS rfl, eI rfl, trivial⟩ fun s0 => ?_
  refine W.loop (11 :: 12 :: 13 :: 14 :: 17 :: 18 :: 19 :: 20 :: 21 :: 22 :: 23 :: 24 :: 25 :: 4 :: 15 :: 16 :: 5 :: []) (fun g s' V => ∃ k : Nat, s' 5 = .int .i64 ((k : Nat) : Int) ∧ g = xs.length - k ∧ k ≤ xs.length ∧ ∀ (j : Nat) (hj : j < xs.length), j < k → xs[j] = ys[j]'(by omega)) xs.length ⟨0, rfl, rfl, Nat.zero_le _, by intros; omega⟩ ?_
  rintro _ sd w1 hS1 ⟨k, h5, rfl, hk, hpre⟩
  refine W.fix h5 ?_
  clear h5
  by_cases hkl : k < xs.length
  rotate_left
  · have e : xs = ys := List.ext_getElem hl fun j hj _ => hpre j hj (by omega)
    (refine jjB ?_; refine jjB ?_; refine jjC ?_; apply jI; exact eI rfl; apply jI; exact eS rfl; refine jh rfl ?_; refine jja rfl rfl (by omega) ?_; refine jz ?_; refine jjK rfl ?_; refine jjE ?_; refine jjB ?_; refine jjC ?_; apply jJ; exact eB rfl; refine jz ?_; refine jjF ?_; refine jB rfl rfl ⟨inferInstance, ?_⟩)
    rw [decide_eq_true e]; exact rfl
  have hkl2 : k < ys.length := by omega
  obtain ⟨b1, o1, rfl, hA1⟩ := hx.place' (map_get hkl)
  obtain ⟨b2, o2, rfl, hA2⟩ := hy.place' (map_get hkl2)
  (refine jjB ?_; refine jjB ?_; refine jjC ?_; apply jI; exact eI rfl; apply jI; exact eS rfl; refine jh rfl ?_; refine jjZ rfl rfl (by omega) ?_; refine jz ?_; refine jjJ rfl ?_; refine jjG ?_; refine jjB ?_; refine jjD ?_; refine jjB ?_)
  refine W.draw (fun w' => Ext w w') ?_
  intro w2 hS2
  have hE2 : Ext w w2 := hS1.ext.trans hS2.ext
  (refine jjV [0, 1, 2, 3, 4, 5, 6, 7] ?_ ?_ ?_; (decide +kernel); (exact hE2); (((apply jjT; exact rfl; rintro w' hq; have := hq.toStep; apply jI; exact eS rfl; refine jz ?_; exact ⟨rfl, rfl⟩; apply jjT; exact rfl; rintro w' hq; have := hq.toStep; apply jI; exact eI rfl; refine jz ?_; exact ⟨rfl, rfl⟩; apply jjT; exact rfl; rintro w' hq; have := hq.toStep; refine jH _ rfl rfl rfl (by omega) ?_; refine jz ?_; exact ⟨rfl, rfl⟩; apply jjT; exact rfl; rintro w' hq; have := hq.toStep; refine jQ rfl rfl ?_; refine jz ?_; exact ⟨rfl, rfl⟩; apply jjT; exact rfl; rintro w' hq; have := hq.toStep; apply jI; exact eS rfl; refine jz ?_; exact ⟨rfl, rfl⟩; apply jjT; exact rfl; rintro w' hq; have := hq.toStep; apply jI; exact eI rfl; refine jz ?_; exact ⟨rfl, rfl⟩; apply jjT; exact rfl; rintro w' hq; have := hq.toStep; refine jH _ rfl rfl rfl (by omega) ?_; refine jz ?_; exact ⟨rfl, rfl⟩; apply jjT; exact rfl; rintro w' hq; have := hq.toStep; refine jQ rfl rfl ?_; refine jz ?_; exact ⟨rfl, rfl⟩; refine jjU ?_))))
  by_cases hkj : xs[k] = ys[k]
  · refine jjV [8] (by decide +kernel) hE2 (jjT (v := .bool false) rfl (fun w' q1 => ?_) (jjU ?_)); (refine Ops.neqT (enc := encPl) xs[k] ys[k] rfl rfl ?_; rw [decide_eq_false (by simp [hkj])]; refine jz ?_; exact ⟨rfl, rfl⟩)
    refine jjX (by decide +kernel) hE2 ?_
    (refine jjK rfl ?_; refine jjG ?_; refine jjC ?_; apply jI; exact eI rfl; refine jY rfl rfl (by omega) ?_; apply jJ; exact eI rfl; refine jz ?_)
    refine ⟨rfl, by ((refine Same.upd rfl ?_; refine Same.upd rfl ?_; refine Same.upd rfl ?_; refine Same.upd rfl ?_; refine Same.upd rfl ?_; refine Same.upd rfl ?_; refine Same.upd rfl ?_; refine Same.upd rfl ?_; refine Same.upd rfl ?_; refine Same.upd rfl ?_; refine Same.upd rfl ?_; refine Same.upd rfl ?_; refine Same.upd rfl ?_; refine Same.upd rfl ?_; refine Same.upd rfl ?_; refine Same.upd rfl ?_; refine Same.upd rfl ?_; exact Same.ovN)), xs.length - (k + 1), by omega, inferInstance, k + 1, congrArg (Value.int .i64) (by omega), rfl, by omega, fun j hj hjk => ?_⟩
    by_cases e : j = k
    · subst e; exact hkj
    · exact hpre j hj (by omega)
  · refine jjV [8] (by decide +kernel) hE2 (jjT (v := .bool true) rfl (fun w' q1 => ?_) (jjU ?_)); (refine Ops.neqT (enc := encPl) xs[k] ys[k] rfl rfl ?_; rw [decide_eq_true hkj]; refine jz ?_; exact ⟨rfl, rfl⟩)
    refine jjX (by decide +kernel) hE2 ?_
    (refine jjJ rfl ?_; refine jjB ?_; refine jjC ?_; apply jJ; exact eB rfl; refine jz ?_; refine jjF ?_; refine jB rfl rfl ⟨inferInstance, ?_⟩)
    rw [decide_eq_false (fun e => hkj (by simp only [e]))]; exact rfl

set_option maxHeartbeats 1000000 in
theorem same_slips3 (a1 a2 : Option Addr) (c1 c2 n1 n2 : Nat) (xs ys : List Slp) (w : World) (h1 : xs.length = n1) (h2 : ys.length = n2) (hx : RowV w true 6 (.slice a1 n1 c1) (xs.map encSl)) (hy : RowV w true 6 (.slice a2 n2 c2) (ys.map encSl)) : Ct Tryz.prog 19 [.slice a1 n1 c1, .slice a2 n2 c2] w fun v _ => v = .bool (decide (xs = ys)) := by
  subst h1 h2
  have hlx := hx.len
  have hly := hy.len
  rw [List.length_map] at hlx hly
  refine Ct.ofW (by simp) ?_
  by_cases hl : xs.length = ys.length
  rotate_left
  · (refine jjB ?_; refine jjC ?_; apply jJ; exact eB rfl; refine jz ?_; refine jjB ?_; refine jjB ?_; refine jjC ?_; apply jI; exact eS rfl; refine jh rfl ?_; apply jI; exact eS rfl; refine jh rfl ?_; refine jjj rfl rfl (by omega) ?_; refine jz ?_; refine jjJ rfl ?_; refine jjB ?_; refine jjC ?_; apply jJ; exact eB rfl; refine jz ?_; refine jjF ?_; refine jB rfl rfl ⟨inferInstance, ?_⟩)
    rw [decide_eq_false (fun e => hl (by rw [e]))]; exact rfl
  (refine jjB ?_; refine jjC ?_; apply jJ; exact eB rfl; refine jz ?_; refine jjB ?_; refine jjB ?_; refine jjC ?_; apply jI; exact eS rfl; refine jh rfl ?_; apply jI; exact eS rfl; refine jh rfl ?_; refine jjk rfl rfl (by omega) ?_; refine jz ?_; refine jjK rfl ?_; refine jjG ?_; refine jjB ?_; refine jjB ?_; refine jjC ?_; apply jJ; exact eI rfl; refine jz ?_; refine jjD ?_)
  refine W.keep0 [(0, .slice a1 xs.length c1), (1, .slice a2 ys.length c2), (5, .int .i64 ((0 : Nat) : Int))] ⟨eS rfl, eS rfl, eI rfl, trivial⟩ fun s0 => ?_
  refine W.loop (11 :: 12 :: 13 :: 14 :: 17 :: 18 :: 19 :: 20 :: 21 :: 22 :: 23 :: 24 :: 25 :: 4 :: 15 :: 16 :: 5 :: []) (fun g s' V => ∃ k : Nat, s' 5 = .int .i64 ((k : Nat) : Int) ∧ g = xs.length - k ∧ k ≤ xs.length ∧ ∀ (j : Nat) (hj : j < xs.length), j < k → xs[j] = ys[j]'(by omega)) xs.length ⟨0, rfl, rfl, Nat.zero_le _, by intros; omega⟩ ?_
  rintro _ sd w1 hS1 ⟨k, h5, rfl, hk, hpre⟩
  refine W.fix h5 ?_
  clear h5
  by_cases hkl : k < xs.length
  rotate_left
  · have e : xs = ys := List.ext_getElem hl fun j hj _ => hpre j hj (by omega)
    (refine jjB ?_; refine jjB ?_; refine jjC ?_; apply jI; exact eI rfl; apply jI; exact eS rfl; refine jh rfl ?_; refine jja rfl rfl (by omega) ?_; refine jz ?_; refine jjK rfl ?_; refine jjE ?_; refine jjB ?_; refine jjC ?_; apply jJ; exact eB rfl; refine jz ?_; refine jjF ?_; refine jB rfl rfl ⟨inferInstance, ?_⟩)
    rw [decide_eq_true e]; exact rfl
  have hkl2 : k < ys.length := by omega
  obtain ⟨b1, o1, rfl, hA1⟩ := hx.place' (map_get hkl)
  obtain ⟨b2, o2, rfl, hA2⟩ := hy.place' (map_get hkl2)
  (refine jjB ?_; refine jjB ?_; refine jjC ?_; apply jI; exact eI rfl; apply jI; exact eS rfl; refine jh rfl ?_; refine jjZ rfl rfl (by omega) ?_; refine jz ?_; refine jjJ rfl ?_; refine jjG ?_; refine jjB ?_; refine jjD ?_; refine jjB ?_)
  refine W.draw (fun w' => Ext w w') ?_
  intro w2 hS2
  have hE2 : Ext w w2 := hS1.ext.trans hS2.ext
  (refine jjV [0, 1, 2, 3, 4, 5, 6, 7] ?_ ?_ ?_; (decide +kernel); (exact hE2); (((apply jjT; exact rfl; rintro w' hq; have := hq.toStep; apply jI; exact eS rfl; refine jz ?_; exact ⟨rfl, rfl⟩; apply jjT; exact rfl; rintro w' hq; have := hq.toStep; apply jI; exact eI rfl; refine jz ?_; exact ⟨rfl, rfl⟩; apply jjT; exact rfl; rintro w' hq; have := hq.toStep; refine jH _ rfl rfl rfl (by omega) ?_; refine jz ?_; exact ⟨rfl, rfl⟩; apply jjT; exact rfl; rintro w' hq; have := hq.toStep; refine jQ rfl rfl ?_; refine jz ?_; exact ⟨rfl, rfl⟩; apply jjT; exact rfl; rintro w' hq; have := hq.toStep; apply jI; exact eS rfl; refine jz ?_; exact ⟨rfl, rfl⟩; apply jjT; exact rfl; rintro w' hq; have := hq.toStep; apply jI; exact eI rfl; refine jz ?_; exact ⟨rfl, rfl⟩; apply jjT; exact rfl; rintro w' hq; have := hq.toStep; refine jH _ rfl rfl rfl (by omega) ?_; refine jz ?_; exact ⟨rfl, rfl⟩; apply jjT; exact rfl; rintro w' hq; have := hq.toStep; refine jQ rfl rfl ?_; refine jz ?_; exact ⟨rfl, rfl⟩; refine jjU ?_))))
  by_cases hkj : xs[k] = ys[k]
  · refine jjV [8] (by decide +kernel) hE2 (jjT (v := .bool false) rfl (fun w' q1 => ?_) (jjU ?_)); (refine Ops.neqT (enc := encSl) xs[k] ys[k] rfl rfl ?_; rw [decide_eq_false (by simp [hkj])]; refine jz ?_; exact ⟨rfl, rfl⟩)
    refine jjX (by decide +kernel) hE2 ?_
    (refine jjK rfl ?_; refine jjG ?_; refine jjC ?_; apply jI; exact eI rfl; refine jY rfl rfl (by omega) ?_; apply jJ; exact eI rfl; refine jz ?_)
    refine ⟨rfl, by ((refine Same.upd rfl ?_; refine Same.upd rfl ?_; refine Same.upd rfl ?_; refine Same.upd rfl ?_; refine Same.upd rfl ?_; refine Same.upd rfl ?_; refine Same.upd rfl ?_; refine Same.upd rfl ?_; refine Same.upd rfl ?_; refine Same.upd rfl ?_; refine Same.upd rfl ?_; refine Same.upd rfl ?_; refine Same.upd rfl ?_; refine Same.upd rfl ?_; refine Same.upd rfl ?_; refine Same.upd rfl ?_; refine Same.upd rfl ?_; exact Same.ovN)), xs.length - (k + 1), by omega, inferInstance, k + 1, congrArg (Value.int .i64) (by omega), rfl, by omega, fun j hj hjk => ?_⟩
    by_cases e : j = k
    · subst e; exact hkj
    · exact hpre j hj (by omega)
  · refine jjV [8] (by decide +kernel) hE2 (jjT (v := .bool true) rfl (fun w' q1 => ?_) (jjU ?_)); (refine Ops.neqT (enc := encSl) xs[k] ys[k] rfl rfl ?_; rw [decide_eq_true hkj]; refine jz ?_; exact ⟨rfl, rfl⟩)
    refine jjX (by decide +kernel) hE2 ?_
    (refine jjJ rfl ?_; refine jjB ?_; refine jjC ?_; apply jJ; exact eB rfl; refine jz ?_; refine jjF ?_; refine jB rfl rfl ⟨inferInstance, ?_⟩)
    rw [decide_eq_false (fun e => hkj (by simp only [e]))]; exact rfl

set_option maxHeartbeats 1000000 in
theorem same_ints3 (a1 a2 : Option Addr) (c1 c2 n1 n2 : Nat) (xs ys : List Int) (w : World) (h1 : xs.length = n1) (h2 : ys.length = n2) (hx : RowV w false 1 (.slice a1 n1 c1) (xs.map intV)) (hy : RowV w false 1 (.slice a2 n2 c2) (ys.map intV)) : Ct Tryz.prog 17 [.slice a1 n1 c1, .slice a2 n2 c2] w fun v _ => v = .bool (decide (xs = ys)) := by
  subst h1 h2
  have hlx := hx.len
  have hly := hy.len
  rw [List.length_map] at hlx hly
  refine Ct.ofW (by simp) ?_
  by_cases hl : xs.length = ys.length
  rotate_left
  · (refine jjB ?_; refine jjC ?_; apply jJ; exact eB rfl; refine jz ?_; refine jjB ?_; refine jjB ?_; refine jjC ?_; apply jI; exact eS rfl; refine jh rfl ?_; apply jI; exact eS rfl; refine jh rfl ?_; refine jjj rfl rfl (by omega) ?_; refine jz ?_; refine jjJ rfl ?_; refine jjB ?_; refine jjC ?_; apply jJ; exact eB rfl; refine jz ?_; refine jjF ?_; refine jB rfl rfl ⟨inferInstance, ?_⟩)
    rw [decide_eq_false (fun e => hl (by rw [e]))]; exact rfl
  (refine jjB ?_; refine jjC ?_; apply jJ; exact eB rfl; refine jz ?_; refine jjB ?_; refine jjB ?_; refine jjC ?_; apply jI; exact eS rfl; refine jh rfl ?_; apply jI; exact eS rfl; refine jh rfl ?_; refine jjk rfl rfl (by omega) ?_; refine jz ?_; refine jjK rfl ?_; refine jjG ?_; refine jjB ?_; refine jjB ?_; refine jjC ?_; apply jJ; exact eI rfl; refine jz ?_; refine jjD ?_)
  refine W.keep0 [(0, .slice a1 xs.length c1), (1, .slice a2 ys.length c2), (5, .int .i64 ((0 : Nat) : Int))] ⟨eS rfl, eS rfl, eI rfl, trivial⟩ fun s0 => ?_
  refine W.loop (11 :: 12 :: 13 :: 14 :: 17 :: 18 :: 19 :: 20 :: 21 :: 22 :: 23 :: 24 :: 25 :: 4 :: 15 :: 16 :: 5 :: []) (fun g s' V => ∃ k : Nat, s' 5 = .int .i64 ((k : Nat) : Int) ∧ g = xs.length - k ∧ k ≤ xs.length ∧ ∀ (j : Nat) (hj : j < xs.length), j < k → xs[j] = ys[j]'(by omega)) xs.length ⟨0, rfl, rfl, Nat.zero_le _, by intros; omega⟩ ?_
  rintro _ sd w1 hS1 ⟨k, h5, rfl, hk, hpre⟩
  refine W.fix h5 ?_
  clear h5
  by_cases hkl : k < xs.length
  rotate_left
  · have e : xs = ys := List.ext_getElem hl fun j hj _ => hpre j hj (by omega)
    (refine jjB ?_; refine jjB ?_; refine jjC ?_; apply jI; exact eI rfl; apply jI; exact eS rfl; refine jh rfl ?_; refine jja rfl rfl (by omega) ?_; refine jz ?_; refine jjK rfl ?_; refine jjE ?_; refine jjB ?_; refine jjC ?_; apply jJ; exact eB rfl; refine jz ?_; refine jjF ?_; refine jB rfl rfl ⟨inferInstance, ?_⟩)
    rw [decide_eq_true e]; exact rfl
  have hkl2 : k < ys.length := by omega
  obtain ⟨b1, o1, rfl, hA1⟩ := hx.place' (map_get hkl)
  obtain ⟨b2, o2, rfl, hA2⟩ := hy.place' (map_get hkl2)
  rw [Nat.mul_one] at hA1 hA2
  (refine jjB ?_; refine jjB ?_; refine jjC ?_; apply jI; exact eI rfl; apply jI; exact eS rfl; refine jh rfl ?_; refine jjZ rfl rfl (by omega) ?_; refine jz ?_; refine jjJ rfl ?_; refine jjG ?_; refine jjB ?_; refine jjD ?_; refine jjB ?_)
  refine W.draw (fun w' => Ext w w') ?_
  intro w2 hS2
  have hE2 : Ext w w2 := hS1.ext.trans hS2.ext
  (refine jjV [0, 1, 2, 3, 4, 5, 6, 7] ?_ ?_ ?_; (decide +kernel); (exact hE2); (((apply jjT; exact rfl; rintro w' hq; have := hq.toStep; apply jI; exact eS rfl; refine jz ?_; exact ⟨rfl, rfl⟩; apply jjT; exact rfl; rintro w' hq; have := hq.toStep; apply jI; exact eI rfl; refine jz ?_; exact ⟨rfl, rfl⟩; apply jjT; exact rfl; rintro w' hq; have := hq.toStep; refine jG rfl rfl rfl (by omega) ?_; refine jz ?_; exact ⟨rfl, rfl⟩; apply jjT; exact rfl; rintro w' hq; have := hq.toStep; refine jQ rfl rfl ?_; refine jz ?_; exact ⟨rfl, rfl⟩; apply jjT; exact rfl; rintro w' hq; have := hq.toStep; apply jI; exact eS rfl; refine jz ?_; exact ⟨rfl, rfl⟩; apply jjT; exact rfl; rintro w' hq; have := hq.toStep; apply jI; exact eI rfl; refine jz ?_; exact ⟨rfl, rfl⟩; apply jjT; exact rfl; rintro w' hq; have := hq.toStep; refine jG rfl rfl rfl (by omega) ?_; refine jz ?_; exact ⟨rfl, rfl⟩; apply jjT; exact rfl; rintro w' hq; have := hq.toStep; refine jQ rfl rfl ?_; refine jz ?_; exact ⟨rfl, rfl⟩; refine jjU ?_))))
  by_cases hkj : xs[k] = ys[k]
  · refine jjV [8] (by decide +kernel) hE2 (jjT (v := .bool false) rfl (fun w' q1 => ?_) (jjU ?_)); (refine jc (a := xs[k]) (b := ys[k]) rfl rfl ?_; rw [decide_eq_false (by simp [hkj])]; refine jz ?_; exact ⟨rfl, rfl⟩)
    refine jjX (by decide +kernel) hE2 ?_
    (refine jjK rfl ?_; refine jjG ?_; refine jjC ?_; apply jI; exact eI rfl; refine jY rfl rfl (by omega) ?_; apply jJ; exact eI rfl; refine jz ?_)
    refine ⟨rfl, by ((refine Same.upd rfl ?_; refine Same.upd rfl ?_; refine Same.upd rfl ?_; refine Same.upd rfl ?_; refine Same.upd rfl ?_; refine Same.upd rfl ?_; refine Same.upd rfl ?_; refine Same.upd rfl ?_; refine Same.upd rfl ?_; refine Same.upd rfl ?_; refine Same.upd rfl ?_; refine Same.upd rfl ?_; refine Same.upd rfl ?_; refine Same.upd rfl ?_; refine Same.upd rfl ?_; refine Same.upd rfl ?_; refine Same.upd rfl ?_; exact Same.ovN)), xs.length - (k + 1), by omega, inferInstance, k + 1, congrArg (Value.int .i64) (by omega), rfl, by omega, fun j hj hjk => ?_⟩
    by_cases e : j = k
    · subst e; exact hkj
    · exact hpre j hj (by omega)
  · refine jjV [8] (by decide +kernel) hE2 (jjT (v := .bool true) rfl (fun w' q1 => ?_) (jjU ?_)); (refine jc (a := xs[k]) (b := ys[k]) rfl rfl ?_; rw [decide_eq_true hkj]; refine jz ?_; exact ⟨rfl, rfl⟩)
    refine jjX (by decide +kernel) hE2 ?_
    (refine jjJ rfl ?_; refine jjB ?_; refine jjC ?_; apply jJ; exact eB rfl; refine jz ?_; refine jjF ?_; refine jB rfl rfl ⟨inferInstance, ?_⟩)
    rw [decide_eq_false (fun e => hkj (by simp only [e]))]; exact rfl
end Go.Proofs.YtgmgiepdehlinaaGreatDoor

/- The reference: Where. -/
namespace Go.Proofs.YtgmgiepdehlinaaGreatDoor
open Go.RowKit

theorem whK_stop {want ws : List ByteArray} {nb : Nat} {ps : List Pl} {i : Nat} (h0 : 0 < want.length) (h : ws.length < i + want.length) : ∀ m, i ≤ m → whK want nb ws ps m = whK want nb ws ps i := by
  intro m hm
  obtain ⟨d, rfl⟩ := Nat.exists_eq_add_of_le hm
  clear hm
  induction d with
  | zero => rfl
  | succ d ih =>
    rw [← Nat.add_assoc, whK_succ, ih]
    have : hitB want ws (i + d) = false := by
      cases hb : hitB want ws (i + d) with
      | false => rfl
      | true => have := hit_fit hb; omega
    rw [this]; simp
section
variable (a : Option Addr) (c : Nat) (cs : List Ch) (w : World) [hrow : RowI w (.slice a cs.length c) true 2 (cs.map encCh)] [hT : TextI w cs]
set_option maxHeartbeats 8000000 in
theorem Where_ref3 (s : Slp) (hs : SmallT cs) (hss : SmallS s) : Ct Tryz.prog 11 [.agg #[.slice a cs.length c], encSl s] w fun v w' => ∃ sv, v = .tuple #[sv, .int .i64 (whereR (txF cs) s).2] ∧ OwnL w' w.heap.size 28 true 3 sv ((whereR (txF cs) s).1.map encPl) := by
  have hs1 := hs.1
  obtain ⟨hw0, hwb, hwl⟩ := wantS_len s hss
  refine Ct.ofW (by simp) ?_
  (refine jjB ?_; refine jjC ?_)
  (refine jy rfl ?_; intro b2 w_b2 hb_b2 hs_b2 hS_b2 hk_b2; have hA_b2 := At.ofBlock hk_b2)
  skip
  (refine jy rfl ?_; intro b3 w_b3 hb_b3 hs_b3 hS_b3 hk_b3; have hA_b3 := At.ofBlock hk_b3)
  (apply jJ; exact eS rfl; apply jJ; exact eI rfl; refine jz ?_; refine jjB ?_; refine jjB ?_; refine jjC ?_; refine jO rfl rfl rfl rfl ?_)
  obtain ⟨B1, hB1⟩ : ∃ B, textB (txF cs) = B := ⟨_, rfl⟩
  refine jjQ ((Check_ref1 a c cs _ hs).mono fun v _ _ h => h.trans (by rw [hB1])) rfl rfl ?_
  rintro _ w4 hS4 rfl
  cases B1 with
  | false =>
    (apply jJ; exact eI rfl; refine jz ?_; refine jjB ?_; refine jjC ?_; apply jI; exact eI rfl; refine jc rfl rfl ?_; refine jz ?_; refine jjJ rfl ?_; refine jjB ?_; refine jjC ?_; apply jI; exact eI rfl; apply jJ; exact eS rfl; apply jJ; exact eI rfl; refine jz ?_; refine jjF ?_; refine jC rfl rfl rfl ⟨inferInstance, ?_⟩)
    rw [whereR_no hB1]
    exact ⟨_, rfl, OwnL.nil _ _ _ _ _⟩
  | true =>
  obtain ⟨B2, hB2⟩ : ∃ B, slipB s = B := ⟨_, rfl⟩
  rw [if_pos rfl]
  (apply jJ; exact eI rfl; refine jz ?_; refine jjB ?_; refine jjC ?_; apply jI; exact eI rfl; refine jjk rfl rfl (by omega) ?_; refine jz ?_; refine jjK rfl ?_; refine jjG ?_; refine jjB ?_; refine jjB ?_; refine jjC ?_; refine jO rfl rfl rfl rfl ?_)
  refine jjQ ((Slip_ref3 s _ hss).mono fun v _ _ h => h.trans (by rw [hB2])) rfl rfl ?_
  rintro _ w5 hS5 rfl
  cases B2 with
  | false =>
    (refine jq rfl ?_; refine jz ?_; refine jjJ rfl ?_; refine jjB ?_; refine jjC ?_; apply jJ; exact eS rfl; apply jJ; exact eI rfl; refine jz ?_; refine jjF ?_; refine jC rfl rfl rfl ⟨inferInstance, ?_⟩)
    rw [whereR_bad hB1 hB2]
    exact ⟨_, rfl, OwnL.nil _ _ _ _ _⟩
  | true =>
  rw [whereR_yes hB1 hB2]
  have hB22 := hB2
  simp only [slipB, Bool.and_eq_true] at hB22
  (refine jp rfl ?_; refine jz ?_; refine jjK rfl ?_; refine jjG ?_; refine jjB ?_; refine jjC ?_; refine jm ?_; refine jn rfl ?_; refine jN rfl rfl rfl ?_)
  refine jjQ (parts_ref3 s.2.2.1 _ hss.2.1) rfl rfl ?_
  rintro _ w6 hS6 ⟨bv, rfl, hOb⟩
  (apply jI; exact eU rfl; refine ju rfl rfl ?_; refine ju rfl rfl ?_; apply jJ; exact rfl; apply jJ; exact eB rfl; refine jz ?_; refine jjB ?_; refine jjC ?_; refine jm ?_; refine jn rfl ?_; refine jN rfl rfl rfl ?_)
  refine jjQ (parts_ref3 s.2.2.2 _ hss.2.2) rfl rfl ?_
  rintro _ w7 hS7 ⟨av, rfl, hOa⟩
  replace hOb := hOb hB22.1
  replace hOa := hOa hB22.2.1
  obtain ⟨ba, bc, rfl⟩ := hOb.slice
  obtain ⟨aa, ac, rfl⟩ := hOa.slice
  rw [List.length_map] at hOa hOb
  rw [List.length_map, List.length_map]
  have hl1 := wordsL_len s.2.2.1
  have hl2 := wordsL_len s.2.2.2
  obtain ⟨hs0, hsb, hsa⟩ := hss
  have hE7 : Ext w w7 := inferInstance
  have zE7 := hE7.size
  have hRb := (hOb.ext hS7.ext).row
  have hRa := hOa.row
  (apply jI; exact eU rfl; refine ju rfl rfl ?_; refine ju rfl rfl ?_; apply jJ; exact eS rfl; apply jJ; exact eB rfl; refine jz ?_; refine jjB ?_; refine jjC ?_; apply jJ; exact eS rfl; refine jz ?_; refine jjB ?_; refine jjC ?_; apply jI; exact eS rfl; apply jI; exact eS rfl)
  refine Ops.appendL (OwnL.nil w7 w7.heap.size 9 false 1) (Nat.le_refl _) hRb rfl rfl rfl rfl (all_strC _) ?_ ?_ ?_
  · rw [List.length_map]; simp only [List.length_nil]; omega
  · rw [List.length_map]; simp only [List.length_nil]; omega
  intro v1 w8 hA1 hO1 _ _
  rw [List.nil_append] at hO1
  obtain ⟨x1, l1, k1, rfl⟩ := hO1.slice3
  have hE8 : Ext w7 w8 := hA1.ext (.refl _) (Nat.le_refl _)
  have zE8 := hE8.size
  have hS8 := hE8.toStep
  (apply jJ; exact eS rfl; refine jz ?_; refine jjB ?_; refine jjC ?_; apply jI; exact eS rfl; refine jm ?_; refine jn rfl ?_; refine jN rfl rfl rfl ?_)
  (refine jjP (v := .string _) rfl (by exact rfl) (by exact rfl) (by exact rfl) (by exact rfl) ?_; intro b43 w_b43 hb_b43 hs_b43 hS_b43 hk_b43; have hR_b43 := RowV.one (agg := false) (k := 1) rfl hk_b43)
  refine Ops.appendL (hO1.ext hS_b43.ext) (by have := hS_b43.size; omega) hR_b43 rfl rfl rfl rfl (all_strC [s.2.1]) ?_ ?_ ?_
  · rw [List.length_map]; simp only [List.length_cons, List.length_nil]; omega
  · rw [List.length_map]; simp only [List.length_cons, List.length_nil]; omega
  intro v2 w9 hA2 hO2 _ _
  obtain ⟨x2, l2, k2, rfl⟩ := hO2.slice3
  have hE9 : Ext w7 w9 := hA2.ext (hE8.trans hS_b43.ext) (Nat.le_refl _)
  have zE9 := hE9.size
  have hS9 := hE9.toStep
  (apply jJ; exact eS rfl; refine jz ?_; refine jjB ?_; refine jjC ?_; apply jI; exact eS rfl; apply jI; exact eS rfl)
  refine Ops.appendL hO2 (by omega) (hRa.ext hE9) rfl rfl rfl rfl (all_strC _) ?_ ?_ ?_
  · rw [List.length_map, List.length_append, List.length_map]; simp only [List.length_cons, List.length_nil]; omega
  · rw [List.length_map, List.length_append, List.length_map]; simp only [List.length_cons, List.length_nil]; omega
  intro v3 wX hA3 hO3 _ _
  have hwS : (wordsL s.2.2.1).map strV ++ [Value.string s.2.1] ++ (wordsL s.2.2.2).map strV = (wantS s).map strV := by simp [wantS]
  rw [hwS] at hO3
  obtain ⟨wa, wc, rfl⟩ := hO3.slice
  rw [List.length_map] at hO3 ⊢
  have hE7X : Ext w7 wX := hA3.ext hE9 (Nat.le_refl _)
  have hEX : Ext w wX := hE7.trans hE7X
  have hAX : At wX b2 0 [.slice a cs.length c] := (inferInstance : At w7 b2 0 [.slice a cs.length c]).ext hE7X
  have hSX := hE7X.toStep
  have hWR := hO3.row
  rw [whereF, txF_len]
  generalize hwant : wantS s = want at *
  generalize (wordsL s.2.2.1).length = nb at *
  (apply jJ; exact eS rfl; refine jz ?_; refine jjB ?_; refine jjC ?_; apply jJ; exact eS rfl; refine jz ?_; refine jjB ?_; refine jjB ?_; refine jjC ?_; apply jJ; exact eI rfl; refine jz ?_; refine jjD ?_)
  refine W.keep0 [(2, .pointer (some ⟨b2, 0, none⟩)), (7, .slice ba nb bc), (11, .slice wa want.length wc), (12, .slice none 0 0), (13, .int .i64 ((0 : Nat) : Int))] ⟨eP rfl, eS rfl, eS rfl, eS rfl, eI rfl, trivial⟩ fun s0 => ?_
  refine W.loopG (48 :: 49 :: 50 :: 51 :: 52 :: 56 :: 57 :: 58 :: 55 :: 59 :: 60 :: 14 :: 15 :: 16 :: 61 :: 62 :: 63 :: 64 :: 65 :: 66 :: 67 :: 70 :: 71 :: 72 :: 73 :: 74 :: 75 :: 76 :: 77 :: 78 :: 79 :: 80 :: 81 :: 82 :: 83 :: 84 :: 85 :: 86 :: 87 :: 88 :: 12 :: 68 :: 69 :: 53 :: 54 :: 13 :: []) (fun g s' V => ∃ (k : Nat) (lv : Value), s' 13 = .int .i64 ((k : Nat) : Int) ∧ s' 12 = lv ∧ g = cs.length - k ∧ k ≤ cs.length ∧ Ext wX V ∧ OwnL V wX.heap.size 28 true 3 lv ((whN (txF cs) want nb k).map encPl) ∧ (whN (txF cs) want nb k).length ≤ k * 1000000) cs.length ⟨0, _, rfl, rfl, rfl, Nat.zero_le _, .refl _, OwnL.nil _ _ _ _ _, by simp [whN]⟩ ?_
  rintro _ sd V ⟨k, lv, h13, h12, rfl, hk, hE, hO, hwn⟩
  obtain ⟨va, vl, vc, rfl⟩ := hO.slice3
  refine W.fix h13 (W.fix (d := 12) h12 ?_)
  clear h13 h12
  have hA2' := hAX.ext hE
  have zE := hE.size
  by_cases hkl : k < cs.length
  rotate_left
  · obtain rfl : k = cs.length := by omega
    have hEV := hEX.trans hE
    (refine jjB ?_; refine jjB ?_; refine jjC ?_; apply jI; exact eI rfl; refine jm ?_; refine jn rfl ?_; refine jN rfl rfl rfl ?_; refine jh rfl ?_; refine jja rfl rfl (by omega) ?_; refine jz ?_; refine jjK rfl ?_; refine jjE ?_; refine jjB ?_; refine jjC ?_; apply jI; exact eS rfl; apply jJ; exact eS rfl; apply jJ; exact eI rfl; refine jz ?_; refine jjF ?_; refine jC rfl rfl rfl ⟨inferInstance, ?_⟩)
    exact ⟨_, rfl, hO.mono hEX.size⟩
  have i0 : RowI V (.slice a cs.length c) true 2 (cs.map encCh) := ⟨hrow.h.ext (hEX.trans hE)⟩
  have i1 : TextI V cs := hT.ext (hEX.trans hE)
  obtain ⟨hn, hsz⟩ := rnW_small hs hkl
  have hrl : (runA k (chW cs[k])).length = (rnW cs[k]).length := runA_len _ _
  have hwk : (wsT (txF cs) k).flatten = rnW cs[k] := by rw [wsT_get hkl]
  have hrk : runA k (wsT (txF cs) k) = runA k (chW cs[k]) := by rw [wsT_get hkl]
  have hnx := whN_succ (txF cs) want nb k
  rw [hwk, hrk] at hnx
  (refine jjB ?_; refine jjB ?_; refine jjC ?_; apply jI; exact eI rfl; refine jm ?_; refine jn rfl ?_; refine jN rfl rfl rfl ?_; refine jh rfl ?_; refine jjZ rfl rfl (by omega) ?_; refine jz ?_; refine jjJ rfl ?_; refine jjG ?_; refine jjB ?_; refine jjD ?_; refine jjB ?_; refine jjC ?_; refine jO rfl rfl rfl rfl ?_; apply jI; exact eI rfl)
  refine jjQ (Run_ref3 a c cs _ hs k hkl) rfl rfl ?_
  rintro _ V1 hS1 ⟨wv, av, rfl, hOs, hOp⟩
  generalize rnW cs[k] = ws at *
  generalize runA k (chW cs[k]) = ps at *
  obtain ⟨sa, sc, rfl⟩ := hOs.slice
  obtain ⟨pa, pc, rfl⟩ := hOp.slice
  rw [List.length_map] at hOs hOp ⊢
  rw [List.length_map]
  have z1 := hS1.size
  have hOl : ∀ g, (Value.slice va vl vc).ownBlock = some g → g < V.heap.size ∨ V1.heap.size ≤ g := fun g hg => .inl (hO.block g hg).2
  (apply jI; exact eU rfl; refine ju rfl rfl ?_; refine ju rfl rfl ?_; apply jJ; exact eS rfl; apply jJ; exact eS rfl; refine jz ?_; refine jjB ?_; refine jjC ?_; apply jJ; exact eI rfl; refine jz ?_; refine jjD ?_)
  refine W.keep [(2, .pointer (some ⟨b2, 0, none⟩)), (7, .slice ba nb bc), (11, .slice wa want.length wc), (12, .slice va vl vc), (13, .int .i64 ((k : Nat) : Int)), (14, .slice sa ws.length sc), (15, .slice pa ps.length pc), (16, .int .i64 ((0 : Nat) : Int))] (D := (48 :: 49 :: 50 :: 51 :: 52 :: 56 :: 57 :: 58 :: 55 :: 59 :: 60 :: 14 :: 15 :: 16 :: 61 :: 62 :: 63 :: 64 :: 65 :: 66 :: 67 :: 70 :: 71 :: 72 :: 73 :: 74 :: 75 :: 76 :: 77 :: 78 :: 79 :: 80 :: 81 :: 82 :: 83 :: 84 :: 85 :: 86 :: 87 :: 88 :: 12 :: 68 :: 69 :: 53 :: 54 :: 13 :: [])) (sO := upds s0 _) (by ((refine Same.upd rfl ?_; refine Same.upd rfl ?_; refine Same.upd rfl ?_; refine Same.upd rfl ?_; refine Same.upd rfl ?_; refine Same.upd rfl ?_; refine Same.upd rfl ?_; refine Same.upd rfl ?_; refine Same.upd rfl ?_; refine Same.upd rfl ?_; refine Same.upd rfl ?_; refine Same.upd rfl ?_; refine Same.upd rfl ?_; refine Same.upd rfl ?_; refine Same.upd rfl ?_; refine Same.upd rfl ?_; exact Same.ovN))) ⟨eP rfl, eS rfl, eS rfl, eS rfl, eI rfl, eS rfl, eS rfl, eI rfl, trivial⟩ fun s1 hs1' => ?_
  refine W.loopG (61 :: 62 :: 63 :: 64 :: 65 :: 66 :: 67 :: 70 :: 71 :: 72 :: 73 :: 74 :: 75 :: 76 :: 77 :: 78 :: 79 :: 80 :: 81 :: 82 :: 83 :: 84 :: 85 :: 86 :: 87 :: 88 :: 12 :: 68 :: 69 :: 16 :: []) (fun g s' V' => ∃ (i : Nat) (lv : Value), s' 16 = .int .i64 ((i : Nat) : Int) ∧ s' 12 = lv ∧ g = ws.length - i ∧ i ≤ ws.length ∧ Ext wX V' ∧ V1.heap.size ≤ V'.heap.size ∧ OwnL V' V.heap.size 9 false 1 (.slice sa ws.length sc) (ws.map strV) ∧ OwnL V' V.heap.size 28 true 3 (.slice pa ps.length pc) (ps.map encPl) ∧ OwnL V' wX.heap.size 28 true 3 lv ((whN (txF cs) want nb k ++ whK want nb ws ps i).map encPl) ∧ ∀ g, lv.ownBlock = some g → g < V.heap.size ∨ V1.heap.size ≤ g) ws.length ⟨0, _, rfl, rfl, rfl, Nat.zero_le _, hE.trans hS1.ext, Nat.le_refl _, hOs, hOp, by rw [show whK want nb ws ps 0 = [] from rfl, List.append_nil]; exact hO.ext hS1.ext, hOl⟩ ?_
  have hOs1 := hOs
  have hOp1 := hOp
  clear hOl hOs hOp hO
  rintro _ sd2 V2 ⟨i, lv, h16, h12, rfl, hi, hE2, hz2, hOs, hOp, hO, hOl⟩
  obtain ⟨va2, vl2, vc2, rfl⟩ := hO.slice3
  refine W.fix h16 (W.fix (d := 12) h12 ?_)
  clear h16 h12
  by_cases hil : i + want.length ≤ ws.length
  rotate_left
  · have hst := whK_stop (nb := nb) (ps := ps) hw0 (show ws.length < i + want.length by omega) ws.length hi
    rw [← hst, ← hnx] at hO
    have hwl2 := whK_len want nb ws ps ws.length
    (refine jjB ?_; refine jjB ?_; refine jjC ?_; apply jI; exact eI rfl; apply jI; exact eS rfl; refine jh rfl ?_; refine jY rfl rfl (by omega) ?_; apply jI; exact eS rfl; refine jh rfl ?_; refine jjc rfl rfl (by omega) ?_; refine jz ?_; refine jjK rfl ?_; refine jjE ?_; refine jjC ?_; apply jI; exact eI rfl; refine jY rfl rfl (by omega) ?_; apply jJ; exact eI rfl; refine jz ?_)
    exact ⟨rfl, by ((refine Same.upd rfl ?_; refine Same.upd rfl ?_; refine Same.upd rfl ?_; refine Same.upd rfl ?_; refine Same.upd rfl ?_; refine Same.upd rfl ?_; refine Same.upd rfl ?_; refine Same.upd rfl ?_; refine Same.upd rfl ?_; refine Same.upd rfl ?_; refine Same.upd rfl ?_; refine Same.upd rfl ?_; refine Same.ovN' rfl ?_; assumption)), cs.length - (k + 1), by omega, k + 1, _, congrArg (Value.int .i64) (by omega), rfl, rfl, by omega, hE2, hO, by rw [hnx, List.length_append]; omega⟩
  have hsn := whK_succ want nb ws ps i
  obtain ⟨B, hB⟩ : ∃ B, hitB want ws i = B := ⟨_, rfl⟩
  rw [hB] at hsn
  have hwl2 := whK_len want nb ws ps i
  have hB' : decide ((ws.take (i + want.length)).drop i = want) = B := by
    rw [← hB, hitB, List.drop_take, Nat.add_sub_cancel_left]
  (refine jjB ?_; refine jjB ?_; refine jjC ?_; apply jI; exact eI rfl; apply jI; exact eS rfl; refine jh rfl ?_; refine jY rfl rfl (by omega) ?_; apply jI; exact eS rfl; refine jh rfl ?_; refine jjb rfl rfl (by omega) ?_; refine jz ?_; refine jjJ rfl ?_; refine jjG ?_; refine jjB ?_; refine jjD ?_; refine jjB ?_; refine jjC ?_; apply jI; exact eS rfl; apply jI; exact eI rfl; apply jI; exact eI rfl; apply jI; exact eS rfl; refine jh rfl ?_; refine jY rfl rfl (by omega) ?_)
  refine Ops.sliceLH (lo := i) (hi := i + want.length) hOs.row rfl rfl rfl rfl (by omega) (by omega) (by rw [List.length_map]; omega) ?_
  rintro _ hR75 ⟨a75, c75, rfl⟩
  rw [← List.map_take, ← List.map_drop] at hR75
  (apply jI; exact eS rfl)
  refine jjQ ((same_words1 a75 wa c75 wc _ _ ((ws.take (i + want.length)).drop i) want _ (by rw [List.length_drop, List.length_take]; omega) rfl hR75 (hWR.ext hE2)).mono fun v _ _ h => h.trans (by rw [hB'])) rfl rfl ?_
  rintro _ V3 hS3 rfl
  have e3 := hS3.ext
  have z3 := e3.size
  cases B with
  | false =>
    rw [if_neg (by simp), List.append_nil] at hsn
    (refine jz ?_; refine jjK rfl ?_; refine jjG ?_; refine jjC ?_; apply jI; exact eI rfl; refine jY rfl rfl (by omega) ?_; apply jJ; exact eI rfl; refine jz ?_)
    refine ⟨rfl, by ((refine Same.upd rfl ?_; refine Same.upd rfl ?_; refine Same.upd rfl ?_; refine Same.upd rfl ?_; refine Same.upd rfl ?_; refine Same.upd rfl ?_; refine Same.upd rfl ?_; refine Same.upd rfl ?_; refine Same.upd rfl ?_; refine Same.upd rfl ?_; refine Same.upd rfl ?_; refine Same.upd rfl ?_; refine Same.upd rfl ?_; refine Same.upd rfl ?_; refine Same.upd rfl ?_; refine Same.upd rfl ?_; refine Same.upd rfl ?_; refine Same.upd rfl ?_; refine Same.upd rfl ?_; refine Same.upd rfl ?_; refine Same.upd rfl ?_; exact Same.ovN)), ws.length - (i + 1), by omega, i + 1, _, congrArg (Value.int .i64) (by omega), rfl, rfl, by omega, hE2.trans e3, by omega, hOs.ext e3, hOp.ext e3, by rw [hsn]; exact hO.ext e3, hOl⟩
  | true =>
    rw [if_pos rfl] at hsn
    have hin : i + nb < ps.length := by omega
    have hgd : ps.getD (i + nb) (0, 0, 0) = ps[i + nb] := by rw [List.getD_eq_getElem?_getD, List.getElem?_eq_getElem hin, Option.getD_some]
    rw [hgd] at hsn
    have i5 : RowI V3 (.slice pa ps.length pc) true 3 (ps.map encPl) := ⟨(hOp.ext e3).row⟩
    (refine jz ?_; refine jjJ rfl ?_; refine jjC ?_; apply jI; exact eS rfl; apply jI; exact eS rfl; apply jI; exact eI rfl; apply jI; exact eS rfl; refine jh rfl ?_; refine jY rfl rfl (by omega) ?_; refine jF rfl rfl rfl (map_get (by omega)) ?_; intro _ _ _; refine jQ rfl rfl ?_)
    (refine jjP (v := .agg _) rfl (by exact rfl) (by exact rfl) (by exact rfl) (by exact rfl) ?_; intro b20 w_b20 hb_b20 hs_b20 hS_b20 hk_b20; have hR_b20 := RowV.one (agg := true) (k := 3) rfl hk_b20)
    have hR1 : RowV w_b20 true 3 (.slice (some ⟨b20, 0, none⟩) 1 1) [encPl ps[i + nb]] := hR_b20
    have e20 := e3.trans hS_b20.ext
    have z20 := e20.size
    refine Ops.appendL (hO.ext e20) (by omega) hR1 rfl rfl rfl rfl (one_pl _) ?_ ?_ ?_
    · rw [List.length_map, List.length_append]; simp only [List.length_cons, List.length_nil]; omega
    · rw [List.length_map, List.length_append]; simp only [List.length_cons, List.length_nil]; omega
    intro v2 V4 hA hO4 _ hown2
    obtain ⟨va4, vl4, vc4, rfl⟩ := hO4.slice3
    have zA := hA.g.size
    have hOs20 := hOs.ext e20
    have hOp20 := hOp.ext e20
    have hnb : ∀ g, V.heap.size ≤ g → g < V1.heap.size → (Value.slice va2 vl2 vc2).ownBlock ≠ some g := fun g h1 h2 h => by have := hOl g h; omega
    (apply jJ; exact eS rfl; refine jz ?_; refine jjC ?_; apply jI; exact eI rfl; refine jY rfl rfl (by omega) ?_; apply jJ; exact eI rfl; refine jz ?_)
    refine ⟨rfl, by ((refine Same.upd rfl ?_; refine Same.upd rfl ?_; refine Same.upd rfl ?_; refine Same.upd rfl ?_; refine Same.upd rfl ?_; refine Same.upd rfl ?_; refine Same.upd rfl ?_; refine Same.upd rfl ?_; refine Same.upd rfl ?_; refine Same.upd rfl ?_; refine Same.upd rfl ?_; refine Same.upd rfl ?_; refine Same.upd rfl ?_; refine Same.upd rfl ?_; refine Same.upd rfl ?_; refine Same.upd rfl ?_; refine Same.upd rfl ?_; refine Same.upd rfl ?_; refine Same.upd rfl ?_; refine Same.upd rfl ?_; refine Same.upd rfl ?_; refine Same.upd rfl ?_; refine Same.upd rfl ?_; refine Same.upd rfl ?_; refine Same.upd rfl ?_; refine Same.upd rfl ?_; refine Same.upd rfl ?_; refine Same.upd rfl ?_; refine Same.upd rfl ?_; refine Same.upd rfl ?_; refine Same.upd rfl ?_; refine Same.upd rfl ?_; exact Same.ovN)), ws.length - (i + 1), by omega, i + 1, _, congrArg (Value.int .i64) (by omega), rfl, rfl, by omega, hA.ext (hE2.trans e20) (by omega), by omega, hOs20.app hA (fun g hg => hnb g (hOs1.block g hg).1 (by have := (hOs1.block g hg).2; omega)), hOp20.app hA (fun g hg => hnb g (hOp1.block g hg).1 (by have := (hOp1.block g hg).2; omega)), ?_, ?_⟩
    · rw [hsn, ← List.append_assoc, List.map_append]
      exact hO4
    · intro g (hg : (Value.slice va4 vl4 vc4).ownBlock = some g)
      rcases hown2 with h | h
      · exact hOl g (h ▸ hg)
      · rw [h] at hg; cases hg; right; omega
end
end Go.Proofs.YtgmgiepdehlinaaGreatDoor

/- Lists of slips: listed, Twice; of the code and of the reference. -/
namespace Go.Proofs.YtgmgiepdehlinaaGreatDoor
open Go.RowKit

def SmallSs (ls : List Slp) : Prop := ls.length ≤ 1000 ∧ ∀ x ∈ ls, SmallS x
/-- The error of a list of slips. -/
def listE (ls : List Slp) : Int := if 700 < ls.length then 4 else if ls.all slipB then 0 else 31
theorem listE_in (ls : List Slp) : 0 ≤ listE ls ∧ listE ls ≤ 31 := by
  unfold listE
  split
  · omega
  · split <;> omega
theorem listed1_slip (x : Slp) (w : World) [hmx : MxI w] (hx : SmallS x) : Ct Tryz.prog 61 [encSl x] w fun v _ => v = .bool (!slipB x) := by
  refine Ct.ofW (by simp) ?_
  (refine jjB ?_; refine jjC ?_)
  (refine jy rfl ?_; intro b1 w_b1 hb_b1 hs_b1 hS_b1 hk_b1; have hA_b1 := At.ofBlock hk_b1)
  (apply jJ; exact eB rfl; refine jz ?_; refine jjB ?_; refine jjC ?_; refine jO rfl rfl rfl rfl ?_)
  refine jjQ (right_slip _ x hx) rfl rfl ?_
  rintro _ w2 hS2 rfl
  (refine js rfl ?_; apply jJ; exact eB rfl; refine jz ?_; refine jjF ?_; refine jB rfl rfl ⟨inferInstance, ?_⟩)
  exact rfl
theorem listed_slip (a : Option Addr) (c : Nat) (ls : List Slp) (w : World) [hmx : MxI w] [hrow : RowI w (.slice a ls.length c) true 6 (ls.map encSl)] (hs : SmallSs ls) : Ct Tryz.prog 36 [.slice a ls.length c] w fun v _ => v = .int .i64 (listE ls) := by
  refine Ct.ofW (by simp) ?_
  by_cases h7 : 700 < ls.length
  · (refine jjB ?_; refine jjC ?_; apply jJ; exact eI rfl; refine jz ?_; refine jjB ?_; refine jjB ?_; refine jjC ?_; apply jI; exact eS rfl; refine jh rfl ?_; refine jjd rfl rfl (by omega) ?_; refine jz ?_; refine jjJ rfl ?_; refine jjB ?_; refine jjC ?_; apply jJ; exact eI rfl; refine jz ?_; refine jjF ?_; refine jB rfl rfl ⟨inferInstance, ?_⟩)
    rw [listE, if_pos h7]; exact rfl
  obtain ⟨B, hB⟩ : ∃ B, ls.all slipB = B := ⟨_, rfl⟩
  (refine jjB ?_; refine jjC ?_; apply jJ; exact eI rfl; refine jz ?_; refine jjB ?_; refine jjB ?_; refine jjC ?_; apply jI; exact eS rfl; refine jh rfl ?_; refine jje rfl rfl (by omega) ?_; refine jz ?_; refine jjK rfl ?_; refine jjG ?_; refine jjB ?_; refine jjB ?_; refine jjC ?_; apply jI; exact eS rfl)
  refine jjQ ((ContainsFunc_Slip _ _ (.func (.func 61) #[] #[]) encSl ls (fun s => !slipB s) (hrow.h) ⟨_, [], rfl, inferInstance, fun w' x hx hs' => listed1_slip x w' (hmx := hmx.ext hs') (hs.2 x hx)⟩).mono fun v _ _ e => e.trans (by rw [any_not, hB])) rfl rfl ?_
  rintro _ w2 hS2 rfl
  rw [listE, if_neg h7, hB]
  cases B
  · (refine jz ?_; refine jjJ rfl ?_; refine jjB ?_; refine jjC ?_; apply jJ; exact eI rfl; refine jz ?_; refine jjF ?_; refine jB rfl rfl ⟨inferInstance, ?_⟩)
    exact rfl
  · (refine jz ?_; refine jjK rfl ?_; refine jjG ?_; refine jjB ?_; refine jjC ?_; apply jJ; exact eI rfl; refine jz ?_; refine jjF ?_; refine jB rfl rfl ⟨inferInstance, ?_⟩)
    exact rfl
/-! ### Twice -/
def hasB (ls : List Slp) (i : Nat) : Bool := (ls.take i).any fun x => decide (x = ls.getD i noSl)
def idxI (p : Nat → Bool) (n : Nat) : List Int := ((List.range n).filter p).map fun (i : Nat) => (i : Int)
theorem idxI_succ (p : Nat → Bool) (n : Nat) : idxI p (n + 1) = idxI p n ++ (if p n then [(n : Int)] else []) := by
  rw [idxI, List.range_succ, List.filter_append, List.map_append]
  congr 1
  cases h : p n <;> simp [h]
theorem idxI_len (p : Nat → Bool) (n : Nat) : (idxI p n).length ≤ n := by
  rw [idxI, List.length_map]
  exact Nat.le_trans (List.length_filter_le _ _) (by simp)
def twiceR (ls : List Slp) : List Int × Int := if listE ls ≠ 0 then ([], listE ls) else (idxI (hasB ls) ls.length, 0)
theorem Twice1_slip (x y : Slp) (b : Nat) (w : World) [hb : At w b 0 (encSl y).cells.toList] : Ct Tryz.prog 41 [encSl x, .pointer (some ⟨b, 0, none⟩)] w fun v _ => v = .bool (decide (x = y)) := by
  refine Ct.ofW (by simp) ?_
  (refine jjB ?_; refine jjC ?_)
  (refine jy rfl ?_; intro b2 w_b2 hb_b2 hs_b2 hS_b2 hk_b2; have hA_b2 := At.ofBlock hk_b2)
  (apply jJ; exact eB rfl; refine jz ?_; refine jjB ?_; refine jjC ?_; refine jO rfl rfl rfl rfl ?_; refine jO rfl rfl rfl rfl ?_)
  refine Ops.eqlT (enc := encSl) x y rfl rfl ?_
  (apply jJ; exact eB rfl; refine jz ?_; refine jjF ?_; refine jB rfl rfl ⟨inferInstance, ?_⟩)
  exact rfl
set_option maxHeartbeats 1000000 in
theorem Twice_slip (a : Option Addr) (c : Nat) (ls : List Slp) (w : World) [hmx : MxI w] [hrow : RowI w (.slice a ls.length c) true 6 (ls.map encSl)] (hs : SmallSs ls) : Ct Tryz.prog 14 [.slice a ls.length c] w fun v w' => ∃ sv, v = .tuple #[sv, .int .i64 (twiceR ls).2] ∧ OwnL w' w.heap.size 3 false 1 sv ((twiceR ls).1.map intV) := by
  have hs1 := hs.1
  refine Ct.ofW (by simp) ?_
  (refine jjB ?_; refine jjC ?_; apply jJ; exact eS rfl; apply jJ; exact eI rfl; refine jz ?_; refine jjB ?_; refine jjB ?_; refine jjC ?_; apply jI; exact eS rfl)
  obtain ⟨e, he⟩ : ∃ e, listE ls = e := ⟨_, rfl⟩
  have h3 := listE_in ls
  rw [he] at h3
  refine jjQ ((listed_slip a c ls _ hs).mono fun v _ _ h => h.trans (by rw [he])) rfl rfl ?_
  rintro _ w2 hS2 rfl
  by_cases h0 : e = 0
  rotate_left
  · (apply jJ; exact eI rfl; refine jz ?_; refine jjB ?_; refine jjC ?_; apply jI; exact eI rfl; refine jjj rfl rfl (by omega) ?_; refine jz ?_; refine jjJ rfl ?_; refine jjB ?_; refine jjC ?_; apply jI; exact eI rfl; apply jJ; exact eS rfl; apply jJ; exact eI rfl; refine jz ?_; refine jjF ?_; refine jC rfl rfl rfl ⟨inferInstance, ?_⟩)
    rw [twiceR, if_pos (by rw [he]; exact h0), he]
    exact ⟨_, rfl, OwnL.nil _ _ _ _ _⟩
  subst h0
  rw [twiceR, if_neg (by rw [he]; simp)]
  have hE2 : Ext w w2 := inferInstance
  (apply jJ; exact eI rfl; refine jz ?_; refine jjB ?_; refine jjC ?_; apply jI; exact eI rfl; refine jjk rfl rfl (by omega) ?_; refine jz ?_; refine jjK rfl ?_; refine jjG ?_; refine jjB ?_; refine jjC ?_; apply jJ; exact eS rfl; refine jz ?_; refine jjB ?_; refine jjB ?_; refine jjC ?_; apply jI; exact eS rfl; refine jh rfl ?_; apply jI; exact eI rfl; refine jz ?_; refine jjD ?_)
  refine W.keep0 [(0, .slice a ls.length c), (5, .slice none 0 0), (13, .slice a ls.length c), (14, .int .i64 (ls.length : Int)), (15, .int .i64 ((0 : Nat) : Int))] ⟨eS rfl, eS rfl, eS rfl, eI rfl, eI rfl, trivial⟩ fun s0 => ?_
  refine W.loopG (16 :: 17 :: 18 :: 19 :: 7 :: 6 :: 20 :: 21 :: 22 :: 23 :: 24 :: 25 :: 26 :: 27 :: 28 :: 5 :: 29 :: 15 :: []) (fun g s' V => ∃ (i : Nat) (sv : Value), s' 15 = .int .i64 ((i : Nat) : Int) ∧ s' 5 = sv ∧ g = ls.length - i ∧ i ≤ ls.length ∧ Ext w V ∧ w2.heap.size ≤ V.heap.size ∧ OwnL V w2.heap.size 3 false 1 sv ((idxI (hasB ls) i).map intV)) ls.length ⟨0, _, rfl, rfl, rfl, Nat.zero_le _, hE2, Nat.le_refl _, OwnL.nil _ _ _ _ _⟩ ?_
  rintro _ sd V ⟨i, sv, h15, h5, rfl, hi, hE, hz, hO⟩
  obtain ⟨va, vl, vc, rfl⟩ := hO.slice3
  refine W.fix h15 (W.fix (d := 5) h5 ?_)
  clear h15 h5
  by_cases hil : i < ls.length
  rotate_left
  · obtain rfl : i = ls.length := by omega
    (refine jjB ?_; refine jjC ?_; refine jja rfl rfl (by omega) ?_; refine jz ?_; refine jjB ?_; refine jjK rfl ?_; refine jjE ?_; refine jjB ?_; refine jjC ?_; apply jI; exact eS rfl; apply jJ; exact eS rfl; apply jJ; exact eI rfl; refine jz ?_; refine jjF ?_; refine jC rfl rfl rfl ⟨inferInstance, ?_⟩)
    exact ⟨_, rfl, hO.mono hE2.size⟩
  have i0 : RowI V (.slice a ls.length c) true 6 (ls.map encSl) := ⟨hrow.h.ext hE⟩
  have hgd : ls.getD i noSl = ls[i] := by rw [List.getD_eq_getElem?_getD, List.getElem?_eq_getElem hil, Option.getD_some]
  have hsn := idxI_succ (hasB ls) i
  have hln := idxI_len (hasB ls) i
  obtain ⟨B, hB⟩ : ∃ B, hasB ls i = B := ⟨_, rfl⟩
  have hB' : ((ls.take i).any fun x => decide (x = ls[i])) = B := by rw [← hB, hasB, hgd]
  rw [hB] at hsn
  (refine jjB ?_; refine jjC ?_; refine jjZ rfl rfl (by omega) ?_; refine jz ?_; refine jjB ?_; refine jjJ rfl ?_; refine jjG ?_; refine jjB ?_; refine jjD ?_; refine jjB ?_; refine jjC ?_; apply jI; exact eI rfl; refine jF rfl rfl rfl (map_get (by omega)) ?_; intro _ _ _; refine jQ rfl rfl ?_)
  ((skip); refine jjY ?_; intro b7 w_b7 hb_b7 hs_b7 hS_b7 hk_b7; have hA_b7 := Bk.of hk_b7)
  (apply jJ; exact eI rfl)
  refine Ops.store rfl rfl rfl rfl rfl ?_
  intro V1 hp1
  have e1 : Ext V V1 := hp1.ext hS_b7.ext (by omega)
  (refine jz ?_; refine jjB ?_; refine jjC ?_; apply jI; exact eS rfl; apply jI; exact eI rfl)
  refine Ops.sliceH (hi := i) (hrow.h.ext (hE.trans e1)) rfl rfl rfl (by rw [List.length_map]; omega) ?_
  rintro _ hR ⟨a3, c3, rfl⟩
  have hA7 : At V1 b7 0 (encSl ls[i]).cells.toList := Bk.toAt (h := Bk.of hp1.new)
  rw [← List.map_take] at hR
  (refine jv ?_)
  refine jjQ ((ContainsFunc_Slip _ _ (.func (.func 41) #[] ([.pointer (some ⟨b7, 0, none⟩)] : List Value).toArray) encSl (ls.take i) (fun x => decide (x = ls[i])) hR ⟨_, [.pointer (some ⟨b7, 0, none⟩)], rfl, inferInstance, fun w' x _ hs' => Twice1_slip x ls[i] b7 w' (hb := hA7.ext hs')⟩).mono fun v _ _ h => h.trans (by rw [hB'])) rfl rfl ?_
  rintro _ V2 hS2 rfl
  have e2 := e1.trans hS2.ext
  cases B with
  | false =>
    (refine jz ?_; refine jjK rfl ?_; refine jjG ?_; refine jjC ?_; refine jY rfl rfl (by omega) ?_; apply jI; exact eI rfl; refine jz ?_)
    refine ⟨rfl, by ((refine Same.upd rfl ?_; refine Same.upd rfl ?_; refine Same.upd rfl ?_; refine Same.upd rfl ?_; refine Same.upd rfl ?_; refine Same.upd rfl ?_; refine Same.upd rfl ?_; refine Same.upd rfl ?_; refine Same.upd rfl ?_; refine Same.upd rfl ?_; refine Same.upd rfl ?_; refine Same.upd rfl ?_; refine Same.upd rfl ?_; refine Same.upd rfl ?_; refine Same.upd rfl ?_; exact Same.ovN)), ls.length - (i + 1), by omega, i + 1, _, congrArg (Value.int .i64) (by omega), rfl, rfl, by omega, hE.trans e2, by have := e2.size; omega, ?_⟩
    rw [hsn, if_neg (by simp), List.append_nil]; exact hO.ext e2
  | true =>
    (refine jz ?_; refine jjJ rfl ?_; refine jjC ?_; apply jI; exact eS rfl; apply jI; exact eI rfl)
    (refine jjP (v := .int _ _) rfl (by exact rfl) (by exact rfl) (by exact rfl) (by exact rfl) ?_; intro b10 w_b10 hb_b10 hs_b10 hS_b10 hk_b10; have hR_b10 := RowV.one (agg := false) (k := 1) rfl hk_b10)
    have e10 := e2.trans hS_b10.ext
    have y10 := e10.size
    refine Ops.appendL (hO.ext e10) (by omega) hR_b10 rfl rfl rfl rfl (one_int _) ?_ ?_ ?_
    · rw [List.length_map]; simp only [List.length_cons, List.length_nil]; omega
    · rw [List.length_map]; simp only [List.length_cons, List.length_nil]; omega
    intro sv2 u3 hA hO3 _ hown
    obtain ⟨va3, vl3, vc3, rfl⟩ := hO3.slice3
    have zA := hA.g.size
    (apply jJ; exact eS rfl; refine jz ?_; refine jjC ?_; refine jY rfl rfl (by omega) ?_; apply jI; exact eI rfl; refine jz ?_)
    refine ⟨rfl, by ((refine Same.upd rfl ?_; refine Same.upd rfl ?_; refine Same.upd rfl ?_; refine Same.upd rfl ?_; refine Same.upd rfl ?_; refine Same.upd rfl ?_; refine Same.upd rfl ?_; refine Same.upd rfl ?_; refine Same.upd rfl ?_; refine Same.upd rfl ?_; refine Same.upd rfl ?_; refine Same.upd rfl ?_; refine Same.upd rfl ?_; refine Same.upd rfl ?_; refine Same.upd rfl ?_; refine Same.upd rfl ?_; refine Same.upd rfl ?_; refine Same.upd rfl ?_; refine Same.upd rfl ?_; refine Same.upd rfl ?_; exact Same.ovN)), ls.length - (i + 1), by omega, i + 1, _, congrArg (Value.int .i64) (by omega), rfl, rfl, by omega, hA.ext (hE.trans e10) hE2.size, by omega, ?_⟩
    rw [hsn, if_pos rfl, List.map_append]; exact hO3
end Go.Proofs.YtgmgiepdehlinaaGreatDoor
