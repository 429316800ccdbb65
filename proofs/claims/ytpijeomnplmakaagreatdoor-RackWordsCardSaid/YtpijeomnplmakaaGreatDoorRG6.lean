/- Texts of the proof, part 6: Rk5, Lib3, Ra6, Ra7, Ra8, Ra9, Ra10, Ra12, Gk3, Rb1, Rb3, Rb4, Rb6, Rb7, Rb8, Eng43, Eng44, Eng45, Gk4. -/
import Derived.Test.YtpijeomnplmakaaGreatDoorRG5
/- rack.File: slips that are filed. -/
namespace Go.Proofs.YtpijeomnplmakaaGreatDoor
open Go.RowKit

/-- Results: a variable of its own (no struct), and two slots, where marks lie. -/
theorem fin3SM {P : Program} {fn : Func} {n N t ty b t1 t2 : Nat} {R : Value → World → Prop} {s : Sl} {ds : List Deferred} {w : World} {v : Value} {dd : TypeDesc} {e : Nat} (hf : fn.results = #[.cell t ty, .tmp t1, .tmp t2]) (ht : Nat.blt t n = true) (h1 : Nat.blt t1 n = true) (h2 : Nat.blt t2 n = true) (hs : s t = .pointer (some ⟨b, 0, none⟩)) (hb : Bk w b [v] e) [hu : TU P ty dd] (hag : TypeDesc.isAgg dd = false) (hm : Mks N w ds)
    (h : ∀ w', Grow N w w' → R (.tuple #[v, s t1, s t2]) w') : finM P fn n N R s ds w := by
  unfold finM
  refine ⟨hm, fun w' g => ⟨.tuple #[v, s t1, s t2], ?_, h w' g⟩⟩
  have e : (mkA n s []).tmps[t]?.getD undef = .pointer (some ⟨b, 0, none⟩) := by
    rw [mkA_getElem?, if_pos (by simpa using ht)]; exact hs
  have e1 : (mkA n s []).tmps[t1]?.getD undef = s t1 := by rw [mkA_getElem?, if_pos (by simpa using h1)]; rfl
  have e2 : (mkA n s []).tmps[t2]?.getD undef = s t2 := by rw [mkA_getElem?, if_pos (by simpa using h2)]; rfl
  have hc1 : w'.cell? ⟨b, 0, none⟩ = some v := Bk.cell1 (hb.grow g)
  have r1 := run_loadVar_cell (P := P) (w := w') hu hag hc1
  simp [results, hf, e, e1, e2, asAddr, r1]
section
variable (a : Option Addr) (c : Nat) (l : List Slp) (by_ boxes : Int) (w : World) [hgb : At w 0 0 bysC] [hmx : MxI w] [hrow : RowI w (.slice a l.length c) true 6 (l.map encSl)]
set_option maxHeartbeats 4000000 in
theorem File_rack (hq1 : by_ = 1 → CmpQ 224 (cmpBy 1)) (hs : ∀ x ∈ l, SmallS x) (hb : 0 ≤ by_ ∧ by_ ≤ 255) : Ct Tryz.prog 24 [.slice a l.length c, .int .u8 by_, .int .i64 boxes] w fun v w' => FileR l by_ boxes w.heap.size v w' := by
  refine Ct.ofWM (by simp) ?_
  (refine jjB (jjC ?_))
  (refine jy rfl ?_; intro b3 w_b3 hb_b3 hs_b3 hS_b3 hk_b3; have hA_b3 := At.ofBlock hk_b3)
  ((skip); refine jjY ?_; intro b6 w_b6 hb_b6 hs_b6 hS_b6 hk_b6; have hA_b6 := Bk.of hk_b6)
  have hB6 : Bk w_b6 b6 [.slice none 0 0] 44 := hA_b6
  have z3 := hS_b3.size
  have z6 := hS_b6.size
  (refine jJ (eI rfl) (jJ (eI rfl) (jz (jjB (jjC (jN rfl rfl rfl ?_))))); refine jI (eI rfl) ?_)
  refine jjQ (Ranks_rack a c l by_ _ hq1 hs hb) rfl rfl ?_
  rintro _ w2 hS2 ⟨da, dc, rfl, hOd⟩
  have z2 := hS2.size
  have hfE : fileE l by_ boxes = if (ranksR l by_).2 = 0 then opE (ranksR l by_).1 boxes else (ranksR l by_).2 := rfl
  have hE2 : Ext w w2 := inferInstance
  by_cases he : (ranksR l by_).2 = 0
  rotate_left
  · rw [if_neg he] at hfE
    have hfL : fileL l by_ boxes = [] := by rw [fileL, if_neg (by rw [hfE]; exact he)]
    (refine jI (eU rfl) (ju rfl rfl (ju rfl rfl (jJ (eS rfl) (jJ (eI rfl) (jz ?_))))); refine jjB (jjB (jjC (jI (eI rfl) (jjj rfl rfl (by omega) (jz ?_))))); refine jjJ rfl (jjB (jjC (jI (eI rfl) ?_))))
    refine Ops.store rfl rfl rfl rfl rfl ?_
    intro V2 hp2
    (refine jJ (eI rfl) (jJ (eI rfl) (jz (jjF ?_))))
    refine fin3SM rfl rfl rfl rfl rfl (Bk.of hp2.new) rfl inferInstance fun w' g => ⟨(hp2.ext hE2 (by omega)).ofGrow g (Nat.le_refl _), 0, none, 0, ?_, ?_, ?_⟩
    · rw [if_neg (by rw [hfE]; exact he)]
    · rw [hfL, hfE]; exact rfl
    · rw [hfL]; exact OwnL.nil _ _ _ _ _
  rw [if_pos he] at hfE
  have hd : (ranksR l by_).1.length = l.length ∧ l.length ≤ 60 := by
    by_cases h1 : 60 < l.length
    · rw [ranksR, if_pos h1] at he; exact absurd he (by decide)
    by_cases h2 : l.all slipB = true
    · by_cases h3 : 1 ≤ by_ ∧ by_ ≤ 4
      · rw [ranksR_ok (by omega) h2 h3, List.length_map]; exact ⟨rfl, by omega⟩
      · rw [ranksR, if_neg h1, if_neg (by simp [h2]), if_pos h3] at he; exact absurd he (by decide)
    · rw [ranksR, if_neg h1, if_pos h2] at he; exact absurd he (by decide)
  have hfd : fileL l by_ boxes = if fileE l by_ boxes = 0 then (ordF (ranksR l by_).1).map fun i => l.getD i.toNat ((0, 0, 0), ⟨#[]⟩, ⟨#[]⟩, ⟨#[]⟩) else [] := rfl
  unfold FileR
  rw [he]
  generalize fileE l by_ boxes = FE at *
  generalize fileL l by_ boxes = FL at *
  generalize (ranksR l by_).1 = d at *
  have hrd : RowI w2 (.slice da d.length dc) false 1 (d.map intV) := ⟨hOd.row⟩
  (refine jI (eU rfl) (ju rfl rfl (ju rfl rfl (jJ (eS rfl) (jJ (eI rfl) (jz ?_))))); refine jjB (jjB (jjC (jI (eI rfl) (jjk rfl rfl (by omega) (jz ?_))))); refine jjK rfl (jjG (jjB (jjC (jI (eS rfl) (jI (eI rfl) ?_))))))
  refine jjQ (open_rack da dc d boxes _ (by omega)) rfl rfl ?_
  rintro _ w4 hS4 (⟨ho, rfl⟩ | ⟨ho, bb, bn, ae, ce, rfl, hzb, _, hAb, -, -⟩)
  · have hE4 : Ext w w4 := inferInstance
    rw [if_neg (by rw [hfE]; exact ho)] at hfd
    (refine jI (eU rfl) (ju rfl rfl (ju rfl rfl (jJ (eN rfl) (jJ (eI rfl) (jz ?_))))); refine jjB (jjB (jjC (jI (eI rfl) (jjj rfl rfl (by omega) (jz ?_))))); refine jjJ rfl (jjB (jjC (jI (eI rfl) ?_))))
    refine Ops.store rfl rfl rfl rfl rfl ?_
    intro V2 hp2
    (refine jJ (eI rfl) (jJ (eI rfl) (jz (jjF ?_))))
    refine fin3SM rfl rfl rfl rfl rfl (Bk.of hp2.new) rfl inferInstance fun w' g => ⟨(hp2.ext hE4 (by omega)).ofGrow g (Nat.le_refl _), 0, none, 0, ?_, ?_, ?_⟩
    · rw [if_neg (by rw [hfE]; exact ho)]
    · rw [hfd, hfE]; exact rfl
    · rw [hfd]; exact OwnL.nil _ _ _ _ _
  rw [if_pos (by rw [hfE]; exact ho)] at hfd
  obtain ⟨hb2, hb20⟩ := opE_boxes ho
  obtain ⟨b, rfl⟩ : ∃ b : Nat, boxes = (b : Int) := ⟨boxes.toNat, by omega⟩
  rw [ho] at hfE
  subst hfE
  have z4 := hS4.size
  (refine jI (eU rfl) (ju rfl rfl (ju rfl rfl (jJ (eP rfl) (jJ (eI rfl) (jz ?_))))); refine jjB (jjB (jjC (jI (eI rfl) (jjk rfl rfl (by omega) (jz ?_))))); refine jjK rfl (jjG (jjB (jjB (jjC (jI (eS rfl) ?_))))))
  ((skip); refine jjQ (order_rack da dc d _) rfl rfl ?_)
  rintro _ w9 hS9 ⟨bx, hbx9, hAx, rfl⟩
  have hE9 : Ext w w9 := inferInstance
  have hE29 : Ext w2 w9 := hS4.ext.trans hS9.ext
  have z9 := hS9.size
  have hax := hAx.lt
  have hol := ordF_len d
  have hb69 : Bk w9 b6 [.slice none 0 0] 44 := (hB6.ext hS2.ext).ext hE29
  have hA3 : At w9 b3 0 [.slice a l.length c] := inferInstance
  have hAb9 := hAb.ext hS9.ext
  have n6 : b6 < w9.heap.size := hb69.lt
  have n3 : b3 < b6 := by omega
  have nb : b6 < bb := by have := hB6.lt; omega
  have nx : b6 < bx := by have := hB6.lt; omega
  have nbb := hAb9.lt
  have hrl9 : RowV w9 true 6 (.slice a l.length c) (l.map encSl) := hrow.h.ext hE9
  (refine jz (jjD ?_))
  refine W.rangeM w.heap.size (ordF d) encI (order1_rack bx da dc d (by omega)) rfl (fun _ => rfl) trivial inferInstance hE9.size
    (fun i V => Ext w V ∧ w9.heap.size ≤ V.heap.size ∧ At V b3 0 [.slice a l.length c] ∧ At V bx 0 [.slice da d.length dc] ∧ At V bb 0 [.slice (some ⟨bn, 0, none⟩) d.length d.length, .slice ae (opF d.length (ordF d)).2.1.length ce, .slice da d.length dc, .int .i64 (b : Int)] ∧ RowV V false 1 (.slice da d.length dc) (d.map intV) ∧ ∃ v, Bk V b6 [v] 44 ∧ OwnL V w9.heap.size 49 true 6 v ((((ordF d).take i).map fun i => l.getD i.toNat ((0, 0, 0), ⟨#[]⟩, ⟨#[]⟩, ⟨#[]⟩)).map encSl))
    (fun _ _ _ => False) ?hJ (fun _ _ _ _ h _ => h) ?hF ?h0 (MB w9.heap.size b6) ?hW1 ?hW2 ?hW3 (fun x s' _ => s' 3 = .pointer (some ⟨b3, 0, none⟩) ∧ s' 6 = .pointer (some ⟨b6, 0, none⟩) ∧ s' 11 = .int .i64 x) (fun _ _ _ _ h _ => h) ?hassign ?hbody ?hdone (fun _ _ _ _ _ _ _ h => h.elim)
  case hJ =>
    rintro i V V' ⟨h1, h2, h3, h4, h5, h6, v, h7, h8⟩ g
    exact ⟨h1.ofGrow g hE9.size, Nat.le_trans h2 g.size, h3.grow g, h4.grow g, h5.grow g, h6.grow g, v, h7.grow g, h8.grow g⟩
  case hF =>
    rintro i V ⟨h1, h2, h3, h4, h5, h6, _⟩
    exact ⟨h4, h6⟩
  case h0 => exact ⟨hE9, Nat.le_refl _, hA3, hAx, hAb9, hrd.h.ext hE29, _, hb69, OwnL.nil _ _ _ _ _⟩
  case hW1 => exact fun i V k ⟨h1, h2, h3, h4, h5, h6, v, h7, h8⟩ h => MB.lt h2 h7 h8 h
  case hW2 => exact fun i V V' k ⟨h1, h2, h3, h4, h5, h6, v, h7, h8⟩ g h => MB.back h7 g h
  case hW3 => exact fun V V' k g h => .inl (MB.grow (by omega) g h)
  case hassign =>
    intro l' i x V hx hJ hl hr
    (refine jjC (jJ (eI rfl) (jz ?_)))
    exact ⟨rfl, Tr.refl _, Fr.refl _ _, hJ, rfl, rfl, rfl⟩
  case hbody =>
    rintro l' i x s' V hx ⟨h1, h2, h3, h4, h5, h6, v, h7, h8⟩ ⟨ha3, ha6, ha11⟩ hl hr
    have hxm := List.mem_of_getElem? hx
    rw [ordF, ssort_mem, upN_mem] at hxm
    obtain ⟨xi, rfl⟩ : ∃ xi : Nat, x = xi := ⟨x.toNat, by omega⟩
    have hlt := (List.getElem?_eq_some_iff.1 hx).1
    have hxl : xi < l.length := by omega
    refine W.fix (d := 3) ha3 (W.fix (d := 6) ha6 (W.fix (d := 11) ha11 ?_))
    clear ha3 ha6 ha11
    have hg : (l.map encSl)[xi]? = some (encSl l[xi]) := by rw [List.getElem?_map, List.getElem?_eq_getElem hxl]; rfl
    obtain ⟨pb, po, rfl, -⟩ := hrow.h.place' hg
    obtain ⟨va, vc, rfl⟩ := h8.slice
    have hbl : ∀ g, (Value.slice va (List.map encSl (((ordF d).take i).map fun i => l.getD i.toNat ((0, 0, 0), ⟨#[]⟩, ⟨#[]⟩, ⟨#[]⟩))).length vc).ownBlock = some g → w9.heap.size ≤ g := fun g hg => (h8.block g hg).1
    have hdb : ∀ g, (Value.slice da d.length dc).ownBlock = some g → g < w9.heap.size := fun g e => by
      have := (hOd.block g (by simpa using e)).2
      have := hE29.size
      omega
    have hnd6 : (Value.slice da d.length dc).ownBlock ≠ some b6 := fun e => by
      have := (hOd.block b6 (by simpa using e)).1
      have := hB6.lt
      omega
    have hne6 : (Value.slice va (List.map encSl (((ordF d).take i).map fun i => l.getD i.toNat ((0, 0, 0), ⟨#[]⟩, ⟨#[]⟩, ⟨#[]⟩))).length vc).ownBlock ≠ some b6 := fun e => by have := hbl b6 e; omega
    have hnb : ∀ b, b < w9.heap.size → (Value.slice va (List.map encSl (((ordF d).take i).map fun i => l.getD i.toNat ((0, 0, 0), ⟨#[]⟩, ⟨#[]⟩, ⟨#[]⟩))).length vc).ownBlock ≠ some b := fun b h e => by have := hbl b e; omega
    have hml : (List.map encSl (((ordF d).take i).map fun i => l.getD i.toNat ((0, 0, 0), ⟨#[]⟩, ⟨#[]⟩, ⟨#[]⟩))).length ≤ 60 := by
      rw [List.length_map, List.length_map, List.length_take]; omega
    (refine jjD ?_)
    refine W.draw (fun V' => At V' b3 0 [.slice (some ⟨pb, po, none⟩) l.length c] ∧ RowV V' true 6 (.slice (some ⟨pb, po, none⟩) l.length c) (l.map encSl)) ?_
    intro V1 hS1
    have s1 : At V1 b3 0 [.slice (some ⟨pb, po, none⟩) l.length c] ∧ RowV V1 true 6 (.slice (some ⟨pb, po, none⟩) l.length c) (l.map encSl) := ⟨h3.ext hS1.ext, hrow.h.ext (h1.trans hS1.ext)⟩
    refine jjV [1, 2] (by decide +kernel) s1 ?_
    (((apply jjT; exact rfl; rintro w' ⟨hq1, hq2⟩; refine jN rfl rfl rfl (jz ?_); exact ⟨rfl, rfl⟩; apply jjT; exact rfl; rintro w' ⟨hq1, hq2⟩; refine jI (eI rfl) (jz ?_); exact ⟨rfl, rfl⟩; refine jjU ?_)))
    refine jjV [3] (by decide +kernel) s1 (jjT (v := .pointer (some ⟨pb, po + xi * 6, none⟩)) rfl (fun w' q1 => ?_) (jjU ?_)); (refine jH xi rfl rfl rfl (by omega) ?_; refine jz ?_; exact ⟨rfl, rfl⟩)
    refine jjV [4] (by decide +kernel) s1 (jjT (v := encSl l[xi]) rfl (fun w' q1 => ?_) (jjU ?_)); (refine Ops.loadOA (off := 0) (place_k q1.2 hg) rfl rfl rfl rfl ?_; refine jz ?_; exact ⟨rfl, rfl⟩)
    refine jjl 0 5 (by decide +kernel) rfl rfl s1 ?b1 ?b2
    case b1 =>
      refine jR (Bk.cell1 (h7.ext hS1.ext)) rfl rfl ?_
      refine jz ?_
      apply jjW 5 (by decide +kernel) rfl s1
      (refine jjP (v := .agg _) rfl (by exact rfl) (by exact rfl) (by exact rfl) (by exact rfl) ?_; intro b10 w_b10 hb_b10 hs_b10 hS_b10 hk_b10; have hR_b10 := RowV.one (agg := true) (k := 6) rfl hk_b10)
      refine jz ?_
      have hEV : Ext V w_b10 := hS1.ext.trans hS_b10.ext
      have s2 : At w_b10 b3 0 [.slice (some ⟨pb, po, none⟩) l.length c] ∧ RowV w_b10 true 6 (.slice (some ⟨pb, po, none⟩) l.length c) (l.map encSl) := ⟨s1.1.ext hS_b10.ext, s1.2.ext hS_b10.ext⟩
      have z10 := hEV.size
      apply jjW 6 (by decide +kernel) rfl s2
      have hR1 : RowV w_b10 true 6 (.slice (some ⟨b10, 0, none⟩) 1 1) [encSl l[xi]] := hR_b10
      refine Ops.appendL (h8.ext hEV) (by omega) hR1 rfl rfl rfl rfl rfl ?_ ?_ ?_
      · simp only [List.length_cons, List.length_nil]; omega
      · simp only [List.length_cons, List.length_nil]; omega
      intro v2 V4 hA hO _ hown2
      have s3 : At V4 b3 0 [.slice (some ⟨pb, po, none⟩) l.length c] ∧ RowV V4 true 6 (.slice (some ⟨pb, po, none⟩) l.length c) (l.map encSl) := ⟨hA.at_ s2.1 (hnb _ (by omega)), hrow.h.ext (hA.ext (h1.trans hEV) hE9.size)⟩
      refine jz ?_
      have zA := hA.g.size
      obtain ⟨a2, c2, rfl⟩ := hO.slice
      apply jjW 7 (by decide +kernel) rfl s3
      have hB2 : Bk V4 b6 _ 44 := hA.bk (h7.ext hEV) hne6
      refine Ops.store rfl rfl rfl rfl rfl ?_
      intro V5 hp5
      refine jz ?_
      have s5 : At V5 b3 0 [.slice (some ⟨pb, po, none⟩) l.length c] ∧ RowV V5 true 6 (.slice (some ⟨pb, po, none⟩) l.length c) (l.map encSl) := ⟨hp5.at_ s3.1 (by omega), hrow.h.ext (hp5.ext (hA.ext (h1.trans hEV) hE9.size) (by omega))⟩
      refine jjX (by decide +kernel) s5 ?_
      have hB3 : Bk V5 b6 [.slice a2 (List.map encSl (((ordF d).take i).map fun i => l.getD i.toNat ((0, 0, 0), ⟨#[]⟩, ⟨#[]⟩, ⟨#[]⟩)) ++ [encSl l[xi]]).length c2] 44 := ⟨hp5.new⟩
      have hne2 : (Value.slice a2 (List.map encSl (((ordF d).take i).map fun i => l.getD i.toNat ((0, 0, 0), ⟨#[]⟩, ⟨#[]⟩, ⟨#[]⟩)) ++ [encSl l[xi]]).length c2).ownBlock ≠ some b6 := fun e => by rcases hown2 with h | h <;> rw [h] at e; exact hne6 e; cases e; omega
      skip
      refine ⟨(hEV.tr.trans hA.tr).trans (hp5.tr ⟨_, hB2.h, rfl⟩), ?_, hp5.ext (hA.ext (h1.trans hEV) hE9.size) (by omega), ?_, s5.1, hp5.at_ (hA.at_ (h4.ext hEV) (hnb _ (by omega))) (by omega), hp5.at_ (hA.at_ (h5.ext hEV) (hnb _ (by omega))) (by omega), hp5.row (hA.row (h6.ext hEV) fun g e e2 => ?_) hnd6, _, hB3, ?_⟩
      · exact (Fr.ofExt hEV fun k hk => .inl (MB.same h7 (h7.ext hEV) hk)).trans (MB.append n6 (h7.ext hEV) hA hp5 hB3 hown2)
      · have := hEV.size; rw [hp5.size]; omega
      · have := hbl g e
        have := hdb g e2
        omega
      · rw [take_snoc_get hx, List.map_append, List.map_append]
        simp only [List.map_cons, List.map_nil, Int.toNat_natCast]
        rw [show l.getD xi ((0, 0, 0), ⟨#[]⟩, ⟨#[]⟩, ⟨#[]⟩) = l[xi] by rw [List.getD_eq_getElem?_getD, List.getElem?_eq_getElem hxl]; rfl]
        exact hO.put hp5 hne2
    case b2 =>
      (refine jjP (v := .agg _) rfl (by exact rfl) (by exact rfl) (by exact rfl) (by exact rfl) ?_; intro b10 w_b10 hb_b10 hs_b10 hS_b10 hk_b10; have hR_b10 := RowV.one (agg := true) (k := 6) rfl hk_b10)
      refine jz ?_
      have hEV : Ext V w_b10 := hS1.ext.trans hS_b10.ext
      have s2 : At w_b10 b3 0 [.slice (some ⟨pb, po, none⟩) l.length c] ∧ RowV w_b10 true 6 (.slice (some ⟨pb, po, none⟩) l.length c) (l.map encSl) := ⟨s1.1.ext hS_b10.ext, s1.2.ext hS_b10.ext⟩
      have z10 := hEV.size
      apply jjW 0 (by decide +kernel) rfl s2
      refine jR (Bk.cell1 (h7.ext hEV)) rfl rfl ?_
      refine jz ?_
      apply jjW 6 (by decide +kernel) rfl s2
      have hR1 : RowV w_b10 true 6 (.slice (some ⟨b10, 0, none⟩) 1 1) [encSl l[xi]] := hR_b10
      refine Ops.appendL (h8.ext hEV) (by omega) hR1 rfl rfl rfl rfl rfl ?_ ?_ ?_
      · simp only [List.length_cons, List.length_nil]; omega
      · simp only [List.length_cons, List.length_nil]; omega
      intro v2 V4 hA hO _ hown2
      have s3 : At V4 b3 0 [.slice (some ⟨pb, po, none⟩) l.length c] ∧ RowV V4 true 6 (.slice (some ⟨pb, po, none⟩) l.length c) (l.map encSl) := ⟨hA.at_ s2.1 (hnb _ (by omega)), hrow.h.ext (hA.ext (h1.trans hEV) hE9.size)⟩
      refine jz ?_
      have zA := hA.g.size
      obtain ⟨a2, c2, rfl⟩ := hO.slice
      apply jjW 7 (by decide +kernel) rfl s3
      have hB2 : Bk V4 b6 _ 44 := hA.bk (h7.ext hEV) hne6
      refine Ops.store rfl rfl rfl rfl rfl ?_
      intro V5 hp5
      refine jz ?_
      have s5 : At V5 b3 0 [.slice (some ⟨pb, po, none⟩) l.length c] ∧ RowV V5 true 6 (.slice (some ⟨pb, po, none⟩) l.length c) (l.map encSl) := ⟨hp5.at_ s3.1 (by omega), hrow.h.ext (hp5.ext (hA.ext (h1.trans hEV) hE9.size) (by omega))⟩
      refine jjX (by decide +kernel) s5 ?_
      have hB3 : Bk V5 b6 [.slice a2 (List.map encSl (((ordF d).take i).map fun i => l.getD i.toNat ((0, 0, 0), ⟨#[]⟩, ⟨#[]⟩, ⟨#[]⟩)) ++ [encSl l[xi]]).length c2] 44 := ⟨hp5.new⟩
      have hne2 : (Value.slice a2 (List.map encSl (((ordF d).take i).map fun i => l.getD i.toNat ((0, 0, 0), ⟨#[]⟩, ⟨#[]⟩, ⟨#[]⟩)) ++ [encSl l[xi]]).length c2).ownBlock ≠ some b6 := fun e => by rcases hown2 with h | h <;> rw [h] at e; exact hne6 e; cases e; omega
      skip
      refine ⟨(hEV.tr.trans hA.tr).trans (hp5.tr ⟨_, hB2.h, rfl⟩), ?_, hp5.ext (hA.ext (h1.trans hEV) hE9.size) (by omega), ?_, s5.1, hp5.at_ (hA.at_ (h4.ext hEV) (hnb _ (by omega))) (by omega), hp5.at_ (hA.at_ (h5.ext hEV) (hnb _ (by omega))) (by omega), hp5.row (hA.row (h6.ext hEV) fun g e e2 => ?_) hnd6, _, hB3, ?_⟩
      · exact (Fr.ofExt hEV fun k hk => .inl (MB.same h7 (h7.ext hEV) hk)).trans (MB.append n6 (h7.ext hEV) hA hp5 hB3 hown2)
      · have := hEV.size; rw [hp5.size]; omega
      · have := hbl g e
        have := hdb g e2
        omega
      · rw [take_snoc_get hx, List.map_append, List.map_append]
        simp only [List.map_cons, List.map_nil, Int.toNat_natCast]
        rw [show l.getD xi ((0, 0, 0), ⟨#[]⟩, ⟨#[]⟩, ⟨#[]⟩) = l[xi] by rw [List.getD_eq_getElem?_getD, List.getElem?_eq_getElem hxl]; rfl]
        exact hO.put hp5 hne2
  case hdone =>
    rintro ds' V hmk htr ⟨h1, h2, h3, h4, h5, h6, v, h7, h8⟩
    rw [List.take_length] at h8
    obtain ⟨va, vc, rfl⟩ := h8.slice
    have hSV := h1.toStep
    have hm60 : (opF d.length (ordF d)).2.1.length ≤ 60 := by have := (opF_len d.length (ordF d)).2; omega
    (refine jjB (jjC (jI (eP rfl) ?_)))
    refine jjQ (passes_rack bb _ _ ae ce (opF d.length (ordF d)).2.1.length b V hm60 ⟨by omega, by omega⟩) rfl rfl ?_
    rintro _ V2 hS2' ⟨p, hpp, rfl⟩
    have h72 := h7.ext hS2'.ext
    (refine jI (eU rfl) (ju rfl rfl (ju rfl rfl (jJ (eI rfl) (jz (jjB ?_))))); refine jjC (jN rfl rfl rfl (jI (eI rfl) ?_)))
    refine Ops.store rfl rfl rfl rfl rfl ?_
    intro V3 hp3
    (refine jJ (eI rfl) (jJ (eI rfl) (jz (jjF ?_))))
    have hne6 : (Value.slice va (List.map encSl ((ordF d).map fun i => l.getD i.toNat ((0, 0, 0), ⟨#[]⟩, ⟨#[]⟩, ⟨#[]⟩))).length vc).ownBlock ≠ some b6 := fun e => by have := (h8.block b6 e).1; omega
    have hO3 := ((h8.ext hS2'.ext).put hp3 hne6).mono hE9.size
    rw [hfd]
    rw [List.length_map] at hO3
    refine fin3SM rfl rfl rfl rfl rfl (Bk.of hp3.new) rfl (hmk.tr ((hS2'.ext.tr).trans (hp3.tr ⟨_, h72.h, rfl⟩))) fun w' g => ⟨(hp3.ext (h1.trans hS2'.ext) (by omega)).ofGrow g (Nat.le_refl _), p, va, vc, ?_, ?_, hO3.grow g⟩
    · rw [if_pos rfl]; exact hpp
    · rw [List.length_map]; exact rfl
end

theorem Clone_int (a : Option Addr) (c : Nat) (l : List Int) (w : World) (hl : l.length ≤ 1000000) [hrow : RowI w (.slice a l.length c) false 1 (l.map intV)] :
    Ct Tryz.prog 55 [.slice a l.length c] w fun v w' => OwnL w' w.heap.size 3 false 1 v (l.map intV) := by
  refine Ct.ofW (by simp) ?_
  (refine jjB (jjC (jJ (eS rfl) (jz (jjB (jjB ?_))))); refine jjC (jI (eS rfl) ?_))
  refine Ops.eqlNil rfl rfl ?_
  repeat' (first|(apply jJ; exact eS rfl)|refine jz ?_|(refine jjA ?_; (first|refine jjB ?_|refine jjC ?_|refine jjF ?_|refine jjG ?_))|(refine jjA ?_; (refine jjO rfl ?_ ?_ <;> intro _))|refine jB rfl rfl ⟨inferInstance, ?_⟩)
  · obtain rfl : a = none := by cases a with
      | none => rfl
      | some x => cases ‹(some x).isNone = true›
    have e : l = [] := by have := row_none hrow.h; simpa using this
    subst e
    exact OwnL.nil _ _ _ _ _
  · refine Ops.buildSlice0 ?_
    intro b3 w4 hb3 hs4 hS4 hk4
    have hO4 := OwnL.empty (agg := false) (k := 1) (B := w.heap.size) (by omega) hk4
    (apply jI; exact eS rfl)
    refine Ops.appendL hO4 (by omega) (hrow.h.ext inferInstance) rfl rfl rfl rfl (all_ints' l) ?_ ?_ ?_
    · simp only [List.length_map, List.length_nil]; omega
    · simp only [List.length_map, List.length_nil]; omega
    intro v5 w5 hA hO5 _ _
    rw [List.nil_append] at hO5
    have hE5 : Ext w w5 := hA.ext inferInstance (Nat.le_refl _)
    have hS5 := hE5.toStep
    (refine jJ rfl (jz (jjF ?_)); refine jB rfl rfl ⟨inferInstance, ?_⟩)
    exact hO5

theorem OwnW.only {w w' : World} {B e1 e2 kb : Nat} {v : Value} {rs : List Rw} (h : OwnW w B e1 e2 v rs) (o : Only kb w w') (hB : kb < B) : OwnW w' B e1 e2 v rs := ⟨o.own h.out hB, fun x hx => o.own (h.ins x hx) hB⟩

/-- What Plan answers. -/
def PlanR (d : List Int) (boxes : Int) (v : Value) (w' : World) : Prop :=
  (opE d boxes ≠ 0 ∧ v = .tuple #[.slice none 0 0, .int .i64 (opE d boxes)]) ∨
  (opE d boxes = 0 ∧ ∃ (p : Nat) (a : Option Addr) (c : Nat) (rs : List Rw), PassR boxes.toNat (endF d).length p ∧ v = .tuple #[.slice a rs.length c, .int .i64 0] ∧ rs.map (·.2.2) = planP boxes.toNat p (numF d) ∧ RowV w' false 1 (.slice a rs.length c) (rs.map encW) ∧ RowsI w' rs)

theorem rest_step {b k q : Nat} {N : List Int} (hq : q < N.length) (hN : ∀ y ∈ N, 0 ≤ y ∧ y ≤ 60) : ∃ x : Int, 0 ≤ x ∧ x ≤ 60 ∧ ((restP b (k + 1) N).take q ++ (restP b k N).drop q)[q]? = some x ∧
    ((restP b (k + 1) N).take q ++ (restP b k N).drop q).set q (x / (b : Int)) = (restP b (k + 1) N).take (q + 1) ++ (restP b k N).drop (q + 1) ∧ (rowP b k N).take (q + 1) = (rowP b k N).take q ++ [x % (b : Int)] := by
  have h1 : q < (restP b k N).length := by rw [restP_len]; exact hq
  have hg := List.getElem?_eq_getElem h1
  have hd := List.drop_eq_getElem_cons h1
  have hx : (restP b k N)[q] = N[q] / ((b ^ k : Nat) : Int) := by simp [restP]
  have hNq := hN _ (List.getElem_mem hq)
  obtain ⟨x, hxe⟩ : ∃ x, (restP b k N)[q] = x := ⟨_, rfl⟩
  rw [hxe] at hg hd hx
  have htl : q = ((restP b (k + 1) N).take q).length := by rw [List.length_take, restP_len]; omega
  have h0 : 0 ≤ x := by rw [hx]; exact Int.ediv_nonneg hNq.1 (by omega)
  have h60 : x ≤ 60 := by rw [hx]; have := Int.ediv_le_self ((b ^ k : Nat) : Int) hNq.1; omega
  have h2 : (restP b (k + 1) N)[q]? = some (x / (b : Int)) := by rw [← restP_succ, List.getElem?_map, hg]; rfl
  have h3 : (rowP b k N)[q]? = some (x % (b : Int)) := by rw [← rowP_rest, List.getElem?_map, hg]; rfl
  refine ⟨x, h0, h60, ?_, ?_, take_snoc_get h3⟩
  · rw [hd]; exact get_mid htl
  · rw [hd, set_mid htl, take_snoc_get h2, List.append_assoc]; rfl

section
variable (a : Option Addr) (c : Nat) (d : List Int) (boxes : Int) (w : World) (hl : d.length ≤ 1000000) [hrow : RowI w (.slice a d.length c) false 1 (d.map intV)]
include hl
set_option maxHeartbeats 4000000 in
theorem Plan_rack : Ct Tryz.prog 16 [.slice a d.length c, .int .i64 boxes] w fun v w' => PlanR d boxes v w' := by
  refine Ct.ofW (by simp) ?_
  (refine jjB (jjC (jJ (eS rfl) (jJ (eI rfl) (jz (jjB ?_))))); refine jjC (jI (eS rfl) (jI (eI rfl) ?_)))
  refine jjQ (open_rack a c d boxes _ hl) rfl rfl ?_
  rintro _ w2 hS2 (⟨he, rfl⟩ | ⟨he, bb, bn, ae, ce, rfl, _, _, hA, hN, hE⟩)
  · (refine jI (eU rfl) (ju rfl rfl (ju rfl rfl (jJ (eN rfl) (jJ (eI rfl) (jz ?_))))); refine jjB (jjB (jjC (jI (eI rfl) (jjj rfl rfl (by omega) (jz ?_))))); refine jjJ rfl (jjB (jjC (jI (eI rfl) (jJ (eS rfl) (jJ (eI rfl) ?_))))); refine jz (jjF ?_); refine jC rfl rfl rfl ⟨inferInstance, ?_⟩)
    exact .inl ⟨he, rfl⟩
  have hb := opE_boxes he
  have hdl := opE_len he
  have hel := endF_len d
  have hnl := numF_len d
  have hNm : ∀ y ∈ numF d, 0 ≤ y ∧ y ≤ 60 := fun y hy => by have := numF_mem hy; omega
  obtain ⟨b, rfl⟩ : ∃ b : Nat, boxes = b := ⟨boxes.toNat, by omega⟩
  (refine jI (eU rfl) (ju rfl rfl (ju rfl rfl (jJ (eP rfl) (jJ (eI rfl) (jz ?_))))); refine jjB (jjB (jjC (jI (eI rfl) (jjk rfl rfl (by omega) (jz ?_))))); refine jjK rfl (jjG (jjB (jjC (jI (eP rfl) ?_)))))
  refine jjQ (passes_rack bb _ _ ae ce (endF d).length b _ (by omega) (by omega)) rfl rfl ?_
  rintro _ w3 hS3 ⟨p, hp, rfl⟩
  have hp60 := hp.le (by omega) (by omega)
  (refine jI (eU rfl) (ju rfl rfl (ju rfl rfl (jJ (eI rfl) (jJ (eI rfl) (jz ?_))))); refine jjB (jjC (jJ (eS rfl) (jz (jjB (jjC ?_))))); refine jI (eP rfl) (jw rfl (jm (jn rfl (jm (jn rfl ?_))))); refine jN rfl rfl rfl ?_)
  have hN3 : RowI w3 (.slice (some ⟨bn, 0, none⟩) (numF d).length d.length) false 1 ((numF d).map intV) := ⟨by rw [hnl]; exact hN.ext hS3.ext⟩
  have hC : Ct Tryz.prog 55 [.slice (some ⟨bn, 0, none⟩) d.length d.length] w3 fun v w' => ∃ ar cr, v = .slice ar d.length cr ∧ OwnL w' w3.heap.size 3 false 1 (.slice ar d.length cr) ((restP b 0 (numF d)).map intV) := by
    have h := Clone_int (some ⟨bn, 0, none⟩) d.length (numF d) w3 (by omega)
    rw [hnl] at h
    refine h.mono fun v w' _ hO => ?_
    obtain ⟨ar, cr, e⟩ := OwnL.slice hO
    rw [List.length_map, hnl] at e
    subst e
    rw [restP_zero]
    exact ⟨ar, cr, rfl, hO⟩
  refine jjQ hC rfl rfl ?_
  rintro _ w4 hS4 ⟨ar, cr, rfl, hO4⟩
  (refine jJ (eS rfl) (jz (jjB (jjB (jjC (jI (eI rfl) ?_))))); refine jI (eI rfl) (jz (jjD ?_)))
  have hE4 : Ext w w4 := inferInstance
  have hE3 : Ext w w3 := inferInstance
  have z3 := hE3.size
  have z4 := hS4.size
  refine W.keep0 [(1, .int .i64 (b : Int)), (10, .slice none 0 0), (11, .slice ar d.length cr), (35, .int .i64 ((p : Nat) : Int)), (36, .int .i64 ((0 : Nat) : Int))] ⟨eI rfl, eS rfl, eS rfl, eI rfl, eI rfl, trivial⟩ fun s0 => ?_
  refine W.loopG (37 :: 12 :: 38 :: 39 :: 40 :: 41 :: 42 :: 43 :: 44 :: 13 :: 14 :: 45 :: 46 :: 47 :: 48 :: 49 :: 50 :: 51 :: 52 :: 53 :: 54 :: 55 :: 56 :: 57 :: 58 :: 59 :: 60 :: 61 :: 62 :: 10 :: 63 :: 36 :: []) (fun g s' V => ∃ (k : Nat) (pv : Value) (ts : List Rw), s' 36 = .int .i64 ((k : Nat) : Int) ∧ s' 10 = pv ∧ g = p - k ∧ k ≤ p ∧ Ext w3 V ∧ w4.heap.size ≤ V.heap.size ∧ OwnL V w3.heap.size 3 false 1 (.slice ar d.length cr) ((restP b k (numF d)).map intV) ∧ (∀ g, ar = some ⟨g, 0, none⟩ → g < w4.heap.size) ∧ ts.map (·.2.2) = planP b k (numF d) ∧ OwnW V w4.heap.size 26 3 pv ts) p ⟨0, _, [], rfl, rfl, rfl, Nat.zero_le _, hS4.ext, Nat.le_refl _, hO4, fun g e => (hO4.block g (by rw [e]; rfl)).2, rfl, OwnW.nil _ _ _ _⟩ ?_
  clear hO4
  rintro _ sd V ⟨k, pv, ts, h36, h10, rfl, hk, hEV, hzV, hOr, hgr, hts, hOp⟩
  refine W.fix h36 (W.fix (d := 10) h10 ?_)
  clear h36 h10
  have htl : ts.length = k := by have := congrArg List.length hts; simpa [planP] using this
  repeat' (first|((first|apply jI|apply jJ); (first|exact eI rfl|exact eS rfl|exact rfl))|(refine jW (jX rfl rfl ?_))|(refine jg (jh rfl ?_))|refine jz ?_|(refine jjA ?_; (first|refine jjB ?_|refine jjC ?_|refine jjD ?_|refine jjE ?_|refine jjF ?_|refine jjG ?_))|(refine jjA ?_; (refine jjN rfl ?_ ?_ <;> intro _)))
  · have hkp : k < p := by omega
    have hm1 := hp.2 0 (by omega)
    have hd1 : 0 < d.length := by simp only [Nat.pow_zero] at hm1; omega
    obtain ⟨g, rfl, hg3, hOg⟩ := hOr.self (by rw [List.length_map, restP_len, hnl]; exact hd1)
    have hg4 := hgr g rfl
    have hDg : SD 3 V g d.length cr (restP b k (numF d)) := ⟨by rw [restP_len, hnl], hOg⟩
    refine W.keep [(1, .int .i64 (b : Int)), (10, pv), (11, .slice (some ⟨g, 0, none⟩) d.length cr), (12, .slice none 0 0), (35, .int .i64 ((p : Nat) : Int)), (36, .int .i64 ((k : Nat) : Int)), (38, .slice (some ⟨g, 0, none⟩) d.length cr), (39, .int .i64 ((d.length : Nat) : Int)), (40, .int .i64 ((0 : Nat) : Int))] (D := (37 :: 12 :: 38 :: 39 :: 40 :: 41 :: 42 :: 43 :: 44 :: 13 :: 14 :: 45 :: 46 :: 47 :: 48 :: 49 :: 50 :: 51 :: 52 :: 53 :: 54 :: 55 :: 56 :: 57 :: 58 :: 59 :: 60 :: 61 :: 62 :: 10 :: 63 :: 36 :: [])) (sO := upds s0 _) (by (((iterate 7 refine Same.upd rfl ?_); exact Same.ovN))) ⟨eI rfl, rfl, eS rfl, eS rfl, eI rfl, eI rfl, eS rfl, eI rfl, eI rfl, trivial⟩ fun s1 hs1 => ?_
    refine W.loopG (41 :: 42 :: 43 :: 44 :: 13 :: 14 :: 45 :: 46 :: 47 :: 48 :: 49 :: 50 :: 12 :: 51 :: 52 :: 53 :: 54 :: 55 :: 56 :: 57 :: 58 :: 40 :: []) (fun g' s' V2 => ∃ (q : Nat) (rv : Value), s' 40 = .int .i64 ((q : Nat) : Int) ∧ s' 12 = rv ∧ g' = d.length - q ∧ q ≤ d.length ∧ Only g V V2 ∧ SD 3 V2 g d.length cr ((restP b (k + 1) (numF d)).take q ++ (restP b k (numF d)).drop q) ∧ OwnL V2 V.heap.size 3 false 1 rv (((rowP b k (numF d)).take q).map intV)) d.length ⟨0, _, rfl, rfl, rfl, Nat.zero_le _, .ofExt (Ext.refl V), by rw [List.take_zero, List.drop_zero, List.nil_append]; exact hDg, by rw [List.take_zero]; exact OwnL.nil _ _ _ _ _⟩ ?_
    rintro _ sd2 V2 ⟨q, rv, h40, h12, rfl, hq, hOn, hD, hOv⟩
    refine W.fix h40 (W.fix (d := 12) h12 ?_)
    clear h40 h12
    have zV2 := hOn.size
    by_cases hql : q < d.length
    · obtain ⟨x, hx0, hx60, hgx, hset, hrow'⟩ := rest_step (b := b) (k := k) (q := q) (N := numF d) (by omega) hNm
      have hc0 := hD.get hgx
      (refine jjB (jjC (jjZ rfl rfl (by omega) (jz (jjB (jjJ rfl ?_))))); refine jjG (jjB (jjD (jjB (jjC (jI (eI rfl) ?_))))); refine jG rfl rfl rfl (by omega) (jR (by assumption) rfl rfl (jJ (eI rfl) (jJ (eI rfl) (jz (jjB ?_))))); refine jjC (jI rfl (jI (eI rfl) (jI (eI rfl) ?_))))
      refine Ops.rem rfl rfl hx0 (by omega) ?_
      (refine jjP (v := .int _ _) rfl (by exact rfl) (by exact rfl) (by exact rfl) (by exact rfl) ?_; intro b5 w_b5 hb_b5 hs_b5 hS_b5 hk_b5; have hR_b5 := RowV.one (agg := false) (k := 1) rfl hk_b5)
      have z5 := hS_b5.size
      have hrl : ((rowP b k (numF d)).take q).length ≤ 60 := by rw [List.length_take]; omega
      refine Ops.appendL (hOv.ext hS_b5.ext) (by omega) hR_b5 rfl rfl rfl rfl (one_int _) ?_ ?_ ?_
      · rw [List.length_map]; simp only [List.length_cons, List.length_nil]; omega
      · rw [List.length_map]; simp only [List.length_cons, List.length_nil]; omega
      intro v6 w6 hA6 hO6 _ _
      have hOn6 : Only g V w6 := (hOn.trans (.ofExt hS_b5.ext)).app hA6 (Nat.le_refl _)
      have hD6 : SD 3 w6 g d.length cr ((restP b (k + 1) (numF d)).take q ++ (restP b k (numF d)).drop q) := ⟨hD.1, (hD.2.ext hS_b5.ext).app hA6 fun g' e1 e2 => by
        have := (hA6.from_ g' e2).1
        have := hDg.lt
        simp only [Value.ownBlock, Option.some.injEq] at e1
        omega⟩
      have hc6 := hD6.get hgx
      (refine jJ rfl (jz (jjC (jI (eS rfl) (jI (eI rfl) (jG rfl rfl rfl (by omega) ?_))))); refine jR (by assumption) rfl rfl (jI (eI rfl) ?_))
      refine Ops.quo rfl rfl hx0 (by omega) (by omega) ?_
      (refine jG rfl rfl rfl (by omega) ?_)
      refine OpsD.store (i := q) hD6 hql rfl (eI rfl) ?_
      intro w7 hOn7 hD7
      rw [hset] at hD7
      (refine jz (jjC (jY rfl rfl (by omega) (jI (eI rfl) (jz ?_)))))
      refine ⟨rfl, by (((iterate 24 refine Same.upd rfl ?_); exact Same.ovN)), d.length - (q + 1), by omega, q + 1, v6, congrArg (Value.int .i64) (by omega), rfl, rfl, by omega, hOn6.trans hOn7, hD7, ?_⟩
      rw [hrow', List.map_append]
      exact hOn7.own hO6 hDg.lt
    · obtain rfl : q = d.length := by omega
      have ht1 : (restP b (k + 1) (numF d)).take d.length = restP b (k + 1) (numF d) := List.take_of_length_le (by rw [restP_len, hnl]; omega)
      have ht2 : (restP b k (numF d)).drop d.length = [] := List.drop_of_length_le (by rw [restP_len, hnl]; omega)
      have ht3 : (rowP b k (numF d)).take d.length = rowP b k (numF d) := List.take_of_length_le (by rw [rowP_len, hnl]; omega)
      rw [ht1, ht2, List.append_nil] at hD
      rw [ht3] at hOv
      obtain ⟨a5, c5, rfl⟩ := hOv.slice
      rw [List.length_map] at hOv
      rw [List.length_map]
      have hOp2 := hOp.only hOn hg4
      (refine jjB (jjC (jja rfl rfl (by omega) (jz (jjB (jjK rfl ?_))))); refine jjE (jjC (jI rfl (jI (eS rfl) ?_))))
      (refine jjP (v := .slice _ _ _) rfl (by exact rfl) (by exact rfl) (by exact rfl) (by exact rfl) ?_; intro b6 w_b6 hb_b6 hs_b6 hS_b6 hk_b6; have hR_b6 := RowV.one (agg := false) (k := 1) rfl hk_b6)
      have z6 := hS_b6.size
      have hxr : OwnL w_b6 w4.heap.size 3 false 1 (encW (a5, c5, rowP b k (numF d))) ((rowP b k (numF d)).map intV) := (hOv.ext hS_b6.ext).mono hzV
      refine Ops.appendL (hOp2.out.ext hS_b6.ext) (by omega) hR_b6 rfl rfl rfl rfl rfl ?_ ?_ ?_
      · simp only [List.length_map, List.length_cons, List.length_nil]; omega
      · simp only [List.length_map, List.length_cons, List.length_nil]; omega
      intro v7 w7 hA7 hO7 _ _
      have hE7 : Ext w3 w7 := hA7.ext ((hOn.ext hEV hg3).trans hS_b6.ext) z4
      have z7 := hE7.size
      have hD7 : OwnL w7 w3.heap.size 3 false 1 (.slice (some ⟨g, 0, none⟩) d.length cr) ((restP b (k + 1) (numF d)).map intV) := ((hD.2.ext hS_b6.ext).app hA7 fun g' e1 e2 => by
        have := (hA7.from_ g' e2).1
        simp only [Value.ownBlock, Option.some.injEq] at e1
        omega).mono hg3
      have hsz := hA7.g.size
      (refine jJ rfl (jz (jjC (jY rfl rfl (by omega) (jI (eI rfl) (jz ?_))))))
      refine ⟨rfl, by (((iterate 10 refine Same.upd rfl ?_); refine Same.ovN' rfl ?_; assumption)), p - (k + 1), by omega, k + 1, v7, ts ++ [(a5, c5, rowP b k (numF d))], congrArg (Value.int .i64) (by omega), rfl, rfl, by omega, hE7, by omega, hD7, hgr, ?_, (hOp2.ext hS_b6.ext).snoc hxr hA7 hO7 (by decide)⟩
      rw [List.map_append, hts, planP_succ]; rfl
  · obtain rfl : k = p := by omega
    have hEw := hE3.trans hEV
    obtain ⟨a5, c5, rfl⟩ := hOp.out.slice
    rw [List.length_map]
    (refine jC rfl rfl rfl ⟨inferInstance, ?_⟩)
    refine .inr ⟨he, k, a5, c5, ts, hp, rfl, hts, ?_, hOp.rows⟩
    have := hOp.out.row
    rwa [List.length_map] at this
end

/-- What Moved answers. -/
def MovedR (d : List Int) (ms : List (Int × Int)) (v : Value) (w' : World) : Prop := ∃ (l : List Int) (e : Int) (a : Option Addr) (c : Nat), v = .tuple #[.slice a l.length c, .int .i64 e] ∧ RowV w' false 1 (.slice a l.length c) (l.map intV) ∧
  ((deckB d = false ∧ l = [] ∧ e = 60) ∨ (deckB d = true ∧ 60 < ms.length ∧ l = [] ∧ e = 4) ∨ (deckB d = true ∧ ms.length ≤ 60 ∧ ms.any (mvBad d.length) = true ∧ l = [] ∧ e = 63) ∨ (deckB d = true ∧ ms.length ≤ 60 ∧ ms.any (mvBad d.length) = false ∧ l = movedF d.length ms ∧ e = 0))

section
variable (a pa : Option Addr) (c pc : Nat) (d : List Int) (ms : List (Int × Int)) (w : World) [hrow : RowI w (.slice a d.length c) false 1 (d.map intV)] [hp : RowI w (.slice pa ms.length pc) true 2 (ms.map encII)]
set_option maxHeartbeats 4000000 in
theorem Moved_rack (hl : d.length ≤ 1000000) (hml : ms.length ≤ 1000000) : Ct Tryz.prog 21 [.slice a d.length c, .slice pa ms.length pc] w fun v w' => MovedR d ms v w' := by
  refine Ct.ofW (by simp) ?_
  (refine jjB (jjC (jJ (eS rfl) (jJ (eI rfl) (jz (jjB ?_))))); refine jjB (jjC (jI (eS rfl) ?_)))
  refine jjQ (Check_rack a c d _ hl) rfl rfl ?_
  rintro _ w2 hS2 rfl
  cases hd : deckB d
  · (refine jJ (eI rfl) (jz (jjB (jjC (jI (eI rfl) (jc rfl rfl ?_))))); refine jz (jjJ rfl (jjB (jjC (jI (eI rfl) (jJ (eS rfl) ?_))))); refine jJ (eI rfl) (jz (jjF ?_)); refine jC rfl rfl rfl ⟨inferInstance, ?_⟩)
    exact ⟨[], 60, none, 0, rfl, RowV.nilS _ _ _ _ _, .inl ⟨hd, rfl, rfl⟩⟩
  have hd60 := deckB_len hd
  by_cases hm60 : 60 < ms.length
  · (refine jJ (eI rfl) (jz (jjB (jjC (jI (eI rfl) (jc rfl rfl ?_))))); refine jz (jjK rfl (jjG (jjB (jjB (jjC ?_))))); refine jI (eS rfl) (jh rfl (jjd rfl rfl (by omega) (jz (jjJ rfl (jjB ?_))))); refine jjC (jJ (eS rfl) (jJ (eI rfl) (jz (jjF ?_)))); refine jC rfl rfl rfl ⟨inferInstance, ?_⟩)
    exact ⟨[], 4, none, 0, rfl, RowV.nilS _ _ _ _ _, .inr (.inl ⟨hd, hm60, rfl, rfl⟩)⟩
  (refine jJ (eI rfl) (jz (jjB (jjC (jI (eI rfl) (jc rfl rfl ?_))))); refine jz (jjK rfl (jjG (jjB (jjB (jjC ?_))))); refine jI (eS rfl) (jh rfl (jje rfl rfl (by omega) (jz (jjK rfl (jjG ?_))))); refine jjB (jjC (jJ (eS rfl) (jz (jjB (jjB ?_))))); refine jjC (jI (eS rfl) (jh rfl (jI (eI rfl) (jz (jjD ?_))))))
  have hE2 : Ext w w2 := inferInstance
  have z2 := hE2.size
  refine W.keep0 [(0, .slice a d.length c), (1, .slice pa ms.length pc), (7, .slice none 0 0), (23, .int .i64 ((d.length : Nat) : Int)), (24, .int .i64 ((0 : Nat) : Int))] ⟨eS rfl, eS rfl, eS rfl, eI rfl, eI rfl, trivial⟩ fun s0 => ?_
  refine W.loop (25 :: 26 :: 8 :: 27 :: 28 :: 29 :: 30 :: 7 :: 31 :: 24 :: []) (fun g s' V => ∃ (i : Nat) (v : Value), s' 24 = .int .i64 ((i : Nat) : Int) ∧ s' 7 = v ∧ g = d.length - i ∧ i ≤ d.length ∧ OwnL V w2.heap.size 3 false 1 v ((upN i).map intV)) d.length ⟨0, _, rfl, rfl, rfl, Nat.zero_le _, OwnL.nil _ _ _ _ _⟩ ?_
  rintro _ sd w4 hS4 ⟨i, v, h24, h7, rfl, hi, hO1⟩
  refine W.fix h24 (W.fix (d := 7) h7 ?_)
  clear h24 h7
  have z4 := hS4.size
  by_cases hid : i < d.length
  · (refine jjB (jjC (jjZ rfl rfl (by omega) (jz (jjB (jjJ rfl ?_))))); refine jjG (jjB (jjD (jjB (jjC (jI (eI rfl) ?_))))); refine jJ (eI rfl) (jz (jjC (jI rfl (jI (eI rfl) ?_)))))
    (refine jjP (v := .int _ _) rfl (by exact rfl) (by exact rfl) (by exact rfl) (by exact rfl) ?_; intro b5 w_b5 hb_b5 hs_b5 hS_b5 hk_b5; have hR_b5 := RowV.one (agg := false) (k := 1) rfl hk_b5)
    have z5 := hS_b5.size
    refine Ops.appendL (hO1.ext hS_b5.ext) (by omega) hR_b5 rfl rfl rfl rfl (one_int _) ?_ ?_ ?_
    · simp only [List.length_map, upN_len, List.length_cons, List.length_nil]; omega
    · simp only [List.length_map, upN_len, List.length_cons, List.length_nil]; omega
    intro v2 w6 hA6 hO6 _ _
    have hE6 : Ext w2 w6 := hA6.ext inferInstance (Nat.le_refl _)
    (refine jJ rfl (jz (jjC (jY rfl rfl (by omega) (jI (eI rfl) (jz ?_))))))
    refine ⟨rfl, by (((iterate 12 refine Same.upd rfl ?_); exact Same.ovN)), d.length - (i + 1), by omega, hE6, i + 1, v2, congrArg (Value.int .i64) (by omega), rfl, rfl, by omega, ?_⟩
    rw [upN_succ, List.map_append]; exact hO6
  obtain rfl : i = d.length := by omega
  clear hid hi
  obtain ⟨av, cv, ev⟩ := hO1.slice
  rw [List.length_map, upN_len] at ev
  subst ev
  (refine jjB (jjC (jja rfl rfl (by omega) (jz (jjB (jjK rfl ?_))))); refine jjE (jjB (jjB (jjC (jI (eS rfl) (jh rfl ?_))))); refine jI (eI rfl) (jz (jjD ?_)))
  refine W.keep0 [(0, .slice a d.length c), (1, .slice pa ms.length pc), (7, .slice av d.length cv), (32, .slice pa ms.length pc), (33, .int .i64 ((ms.length : Nat) : Int)), (34, .int .i64 ((0 : Nat) : Int))] ⟨eS rfl, eS rfl, eS rfl, eS rfl, eI rfl, eI rfl, trivial⟩ fun s1 => ?_
  refine W.loop (35 :: 36 :: 37 :: 10 :: 38 :: 39 :: 40 :: 41 :: 42 :: 43 :: 44 :: 45 :: 46 :: 47 :: 4 :: 5 :: 48 :: 34 :: []) (fun g s' V => ∃ k : Nat, s' 34 = .int .i64 ((k : Nat) : Int) ∧ g = ms.length - k ∧ k ≤ ms.length ∧ ∀ (j : Nat) (hj : j < ms.length), j < k → mvBad d.length ms[j] = false) ms.length ⟨0, rfl, rfl, Nat.zero_le _, by intros; omega⟩ ?_
  rintro _ sd2 w7 hS7 ⟨k, h34, rfl, hk, hpre⟩
  refine W.fix h34 ?_
  clear h34
  by_cases hkm : k < ms.length
  · (refine jjB (jjC (jjZ rfl rfl (by omega) (jz (jjB (jjJ rfl ?_))))); refine jjG (jjB (jjD (jjB (jjC ?_)))); refine jF rfl rfl rfl (map_get (by omega)) ?_; intro _ _ _; refine jQ rfl rfl ?_)
    (apply jjR rfl; (intro _; first|exact eI rfl|exact eB rfl|exact eP rfl|exact eS rfl|exact eT rfl|exact eA rfl|exact eU rfl|exact eF rfl|exact eM rfl|exact eN rfl|exact rfl); exact rfl; exact rfl; exact rfl; exact rfl; intro b8 w_b8 hb_b8 hs_b8 hS_b8 hk_b8; have hA_b8 := Bk.of hk_b8)
    (refine jz (jjB (jjC (jI (eS rfl) (jh rfl (jZ rfl rfl (by omega) ?_))))); refine jm (jn rfl (jN rfl rfl rfl (jm (jn rfl (jN rfl rfl rfl ?_))))))
    refine Ops.buildSlice2 rfl rfl rfl rfl rfl ?_
    intro b9 w9 hb9 hs9 hS9 hB9
    have hR9 : RowV w9 false 1 (.slice (some ⟨b9, 0, none⟩) 2 2) ([ms[k].1, ms[k].2].map (.int .i64)) := Bk.row hB9 (by intro y hy; simp at hy; rcases hy with rfl | rfl <;> rfl) (by simp)
    refine jjQ (in_rack 0 ((d.length : Int) - 1) _ [ms[k].1, ms[k].2] _ hR9) rfl rfl ?_
    rintro _ w10 hS10 rfl
    have hall : [ms[k].1, ms[k].2].all (inB 0 ((d.length : Int) - 1)) = !mvBad d.length ms[k] := by simp [mvBad]
    rw [hall]
    cases hb : mvBad d.length ms[k]
    · (refine jp rfl (jz (jjK rfl (jjG (jjC (jY rfl rfl (by omega) ?_))))); refine jI (eI rfl) (jz ?_))
      refine ⟨rfl, by (((iterate 17 refine Same.upd rfl ?_); exact Same.ovN)), ms.length - (k + 1), by omega, inferInstance, k + 1, congrArg (Value.int .i64) (by omega), rfl, by omega, fun j hj hjk => ?_⟩
      by_cases e : j = k
      · subst e; exact hb
      · exact hpre j hj (by omega)
    · (refine jq rfl (jz (jjJ rfl (jjB (jjC (jJ (eS rfl) ?_))))); refine jJ (eI rfl) (jz (jjF ?_)); refine jC rfl rfl rfl ⟨inferInstance, ?_⟩)
      exact ⟨[], 63, none, 0, rfl, RowV.nilS _ _ _ _ _, .inr (.inr (.inl ⟨hd, by omega, List.any_eq_true.2 ⟨_, List.getElem_mem hkm, hb⟩, rfl, rfl⟩))⟩
  obtain rfl : k = ms.length := by omega
  have hany : ms.any (mvBad d.length) = false := by
    rw [List.any_eq_false]
    intro x hx
    obtain ⟨j, hj, rfl⟩ := List.mem_iff_getElem.1 hx
    rw [hpre j hj hj]; simp
  have hmb : ∀ m ∈ ms, mvBad d.length m = false := fun m hm => by
    rw [List.any_eq_false] at hany
    simpa using hany m hm
  clear hpre hkm hk
  have hE7 : Ext w2 w7 := hS4.ext.trans hS7.ext
  have hO7 := hO1.ext hS7.ext
  (refine jjB (jjC (jja rfl rfl (by omega) (jz (jjB (jjK rfl ?_))))); refine jjE (jjB (jjB (jjC (jI (eS rfl) (jh rfl ?_))))); refine jI (eI rfl) (jz (jjD ?_)))
  refine W.keep0 [(7, .slice av d.length cv), (49, .slice pa ms.length pc), (50, .int .i64 ((ms.length : Nat) : Int)), (51, .int .i64 ((0 : Nat) : Int))] ⟨eS rfl, eS rfl, eI rfl, eI rfl, trivial⟩ fun s2 => ?_
  refine W.loopG (52 :: 53 :: 54 :: 12 :: 55 :: 56 :: 57 :: 58 :: 59 :: 13 :: 60 :: 61 :: 62 :: 63 :: 64 :: 65 :: 66 :: 67 :: 68 :: 69 :: 70 :: 71 :: 7 :: 72 :: 51 :: []) (fun g s' V => ∃ k : Nat, s' 51 = .int .i64 ((k : Nat) : Int) ∧ s' 7 = .slice av d.length cv ∧ g = ms.length - k ∧ k ≤ ms.length ∧ Ext w2 V ∧ OwnL V w2.heap.size 3 false 1 (.slice av d.length cv) ((movedF d.length (ms.take k)).map intV)) ms.length ⟨0, rfl, rfl, rfl, Nat.zero_le _, hE7, by rw [List.take_zero]; exact hO7⟩ ?_
  clear hO1 hO7
  rintro _ sd3 V ⟨k, h51, h7, rfl, hk, hEV, hO⟩
  refine W.fix h51 (W.fix (d := 7) h7 ?_)
  clear h51 h7
  have hEw := hE2.trans hEV
  have zV := hEV.size
  have hpV : RowI V (.slice pa ms.length pc) true 2 (ms.map encII) := ⟨hp.h.ext hEw⟩
  by_cases hkm : k < ms.length
  · have hgk := List.getElem?_eq_getElem hkm
    have hz := mvBad_no (hmb _ (List.getElem_mem hkm))
    obtain ⟨f, t, hf, ht, hft⟩ := hz
    have hLl : (movedF d.length (ms.take k)).length = d.length := movedF_len fun m hm => hmb m (List.mem_of_mem_take hm)
    have hsn : movedF d.length (ms.take (k + 1)) = mvF (movedF d.length (ms.take k)) f t := by rw [take_snoc_get hgk, movedF_snoc, hft]; rfl
    obtain ⟨g, rfl, hg2, hOg⟩ := hO.self (by rw [List.length_map, hLl]; omega)
    generalize movedF d.length (ms.take k) = L at *
    have hD : SD 3 V g d.length cv L := ⟨hLl, hOg⟩
    have hx := List.getElem?_eq_getElem (show f < L.length by omega)
    have hcx := hD.get hx
    (refine jjB (jjC (jjZ rfl rfl (by omega) (jz (jjB (jjJ rfl ?_))))); refine jjG (jjB (jjD (jjB (jjC ?_)))); refine jF rfl rfl rfl (map_get (by omega)) ?_; intro _ _ _; refine jQ rfl rfl ?_)
    refine Ops.fix (d := 54) (v := encII ((f : Int), (t : Int))) (congrArg encII hft) ?_
    (apply jjR rfl; (intro _; first|exact eI rfl|exact eB rfl|exact eP rfl|exact eS rfl|exact eT rfl|exact eA rfl|exact eU rfl|exact eF rfl|exact eM rfl|exact eN rfl|exact rfl); exact rfl; exact rfl; exact rfl; exact rfl; intro b8 w_b8 hb_b8 hs_b8 hS_b8 hk_b8; have hA_b8 := Bk.of hk_b8)
    have z8 := hS_b8.size
    have hc8 : w_b8.cell? ⟨g, 0 + f, none⟩ = some (intV L[f]) := (hD.ext hS_b8.ext).get hx
    (refine jz (jjB (jjC (jI (eS rfl) (jm (jn rfl ?_))))); refine jN rfl rfl rfl (jG rfl rfl rfl (by omega) (jR (by assumption) rfl rfl (jJ (eI rfl) (jz ?_)))))
    have hgl := hD.lt
    have hcap : d.length ≤ cv := by obtain ⟨cs, _, _, h, _⟩ := hOg.cells; exact h
    have hdl : d.length - 1 + 1 = d.length := by omega
    have hxe : L.getD f 0 = L[f] := by simp [List.getD_eq_getElem?_getD, hx]
    have hmv : mvF L f t = (L.eraseIdx f).take t ++ L[f] :: (L.eraseIdx f).drop t := by rw [mvF, hxe]
    refine W.draw (fun w' => Only g w_b8 w') ?_
    intro w1 hS1
    have hO1 : Only g w_b8 w1 := .ofExt hS1.ext
    refine jjV [0, 1, 2, 3, 4, 5, 7, 8, 9] (by decide +kernel) hO1 ?_
    (((apply jjT; exact rfl; rintro w' hq; have := hq.at_ (hA_b8.toAt) (show b8 ≠ g by omega); refine jI (eS rfl) (jz ?_); exact ⟨rfl, rfl⟩; apply jjT; exact rfl; rintro w' hq; have := hq.at_ (hA_b8.toAt) (show b8 ≠ g by omega); refine jm (jn rfl (jz ?_)); exact ⟨rfl, rfl⟩; apply jjT; exact rfl; rintro w' hq; have := hq.at_ (hA_b8.toAt) (show b8 ≠ g by omega); refine jN rfl rfl rfl (jz ?_); exact ⟨rfl, rfl⟩; apply jjT; exact rfl; rintro w' hq; have := hq.at_ (hA_b8.toAt) (show b8 ≠ g by omega); refine jm (jn rfl (jz ?_)); exact ⟨rfl, rfl⟩; apply jjT; exact rfl; rintro w' hq; have := hq.at_ (hA_b8.toAt) (show b8 ≠ g by omega); refine jN rfl rfl rfl (jz ?_); exact ⟨rfl, rfl⟩; apply jjT; exact rfl; rintro w' hq; have := hq.at_ (hA_b8.toAt) (show b8 ≠ g by omega); refine jY rfl rfl (by omega) (jz ?_); exact ⟨rfl, rfl⟩; apply jjT; exact rfl; rintro w' hq; have := hq.at_ (hA_b8.toAt) (show b8 ≠ g by omega); refine jm (jn rfl (jz ?_)); exact ⟨rfl, rfl⟩; apply jjT; exact rfl; rintro w' hq; have := hq.at_ (hA_b8.toAt) (show b8 ≠ g by omega); refine jN rfl rfl rfl (jz ?_); exact ⟨rfl, rfl⟩; apply jjT; exact rfl; rintro w' hq; have := hq.at_ (hA_b8.toAt) (show b8 ≠ g by omega); refine jI (eI rfl) (jz ?_); exact ⟨rfl, rfl⟩; refine jjU ?_)))
    have hD1 := (hOg.ext hS_b8.ext).ext hS1.ext
    have hOV : Only g V w1 := (Only.ofExt hS_b8.ext).trans hO1
    have z1 := hOV.size
    refine jjl 6 10 (by decide +kernel) rfl rfl hO1 ?b1 ?b2
    case b1 =>
      refine Ops.callR rfl (Enters.h (P := Tryz.prog) (g := 63)) rfl (Delete_int g d.length cv f L w1 hD1 hf (by omega)) ?_
      rintro _ w3 ⟨rfl, hO3, hD3⟩
      refine ⟨_, rfl, ?_⟩
      refine jz ?_
      have hO13 := hO1.trans hO3
      have z3 := hO3.size
      apply jjW 10 (by decide +kernel) rfl hO13
      (refine jjP (v := .int _ _) rfl (by exact rfl) (by exact rfl) (by exact rfl) (by exact rfl) ?_; intro b9 w_b9 hb_b9 hs_b9 hS_b9 hk_b9; have hR_b9 := RowV.one (agg := false) (k := 1) rfl hk_b9)
      refine jz ?_
      have hO19 := hO13.trans (.ofExt hS_b9.ext)
      have hI := Insert_int g b9 (d.length - 1) cv t (L.eraseIdx f) L[f] w_b9 (hD3.ext hS_b9.ext) ⟨hk_b9⟩ (by omega) (by omega) (by omega) (by omega)
      rw [hdl, ← hmv] at hI
      apply jjW 11 (by decide +kernel) rfl hO19
      refine Ops.callR rfl (Enters.h (P := Tryz.prog) (g := 62)) rfl hI ?_
      rintro _ w4 ⟨rfl, hO4, hD4⟩
      refine ⟨_, rfl, ?_⟩
      refine jz ?_
      have hO14 := hO19.trans hO4
      refine jjV [12] (by decide +kernel) hO14 ?_
      (((apply jjT; exact rfl; rintro w' hq; refine jJ (eS rfl) (jz ?_); exact ⟨rfl, rfl⟩; refine jjU ?_)))
      refine jjX (by decide +kernel) hO14 ?_
      (refine jjC (jY rfl rfl (by omega) (jI (eI rfl) (jz ?_))))
      refine ⟨rfl, by (((iterate 28 refine Same.upd rfl ?_); exact Same.ovN)), ms.length - (k + 1), by omega, k + 1, congrArg (Value.int .i64) (by omega), rfl, rfl, by omega, ((Only.ofExt hS_b8.ext).trans hO14).ext hEV hg2, ?_⟩
      rw [hsn]; exact hD4.mono hg2
    case b2 =>
      (refine jjP (v := .int _ _) rfl (by exact rfl) (by exact rfl) (by exact rfl) (by exact rfl) ?_; intro b9 w_b9 hb_b9 hs_b9 hS_b9 hk_b9; have hR_b9 := RowV.one (agg := false) (k := 1) rfl hk_b9)
      refine jz ?_
      have hO19 := hO1.trans (.ofExt hS_b9.ext)
      have z9 := hS_b9.size
      apply jjW 6 (by decide +kernel) rfl hO19
      refine Ops.callR rfl (Enters.h (P := Tryz.prog) (g := 63)) rfl (Delete_int g d.length cv f L w_b9 (hD1.ext hS_b9.ext) hf (by omega)) ?_
      rintro _ w3 ⟨rfl, hO3, hD3⟩
      refine ⟨_, rfl, ?_⟩
      refine jz ?_
      have hO13 := hO19.trans hO3
      have hI := Insert_int g b9 (d.length - 1) cv t (L.eraseIdx f) L[f] w3 hD3 (hO3.bk ⟨hk_b9⟩ (by omega)) (by omega) (by omega) (by omega) (by omega)
      rw [hdl, ← hmv] at hI
      apply jjW 11 (by decide +kernel) rfl hO13
      refine Ops.callR rfl (Enters.h (P := Tryz.prog) (g := 62)) rfl hI ?_
      rintro _ w4 ⟨rfl, hO4, hD4⟩
      refine ⟨_, rfl, ?_⟩
      refine jz ?_
      have hO14 := hO13.trans hO4
      refine jjV [12] (by decide +kernel) hO14 ?_
      (((apply jjT; exact rfl; rintro w' hq; refine jJ (eS rfl) (jz ?_); exact ⟨rfl, rfl⟩; refine jjU ?_)))
      refine jjX (by decide +kernel) hO14 ?_
      (refine jjC (jY rfl rfl (by omega) (jI (eI rfl) (jz ?_))))
      refine ⟨rfl, by (((iterate 28 refine Same.upd rfl ?_); exact Same.ovN)), ms.length - (k + 1), by omega, k + 1, congrArg (Value.int .i64) (by omega), rfl, rfl, by omega, ((Only.ofExt hS_b8.ext).trans hO14).ext hEV hg2, ?_⟩
      rw [hsn]; exact hD4.mono hg2
  · obtain rfl : k = ms.length := by omega
    rw [List.take_length] at hO
    have hml := movedF_len hmb
    (refine jjB (jjC (jja rfl rfl (by omega) (jz (jjB (jjK rfl ?_))))); refine jjE (jjB (jjC (jI (eS rfl) (jJ (eS rfl) (jJ (eI rfl) ?_))))); refine jz (jjF ?_); refine jC rfl rfl rfl ⟨inferInstance, ?_⟩)
    refine ⟨movedF d.length ms, 0, av, cv, ?_, ?_, .inr (.inr (.inr ⟨hd, by omega, hany, rfl, rfl⟩))⟩
    · rw [hml]; exact rfl
    · rw [hml]; exact hO.row
end

/-- What Chains answers. -/
def ChainsR (d : List Int) (v : Value) (w' : World) : Prop := ∃ (l : List Int) (e : Int) (a : Option Addr) (c : Nat), v = .tuple #[.slice a l.length c, .int .i64 e] ∧ RowV w' false 1 (.slice a l.length c) (l.map intV) ∧
  ((deckB d = false ∧ l = [] ∧ e = 60) ∨ (deckB d = true ∧ ChainR d l ∧ e = 0))
theorem deckB_mem {d : List Int} (h : deckB d = true) : ∀ x ∈ d, 0 ≤ x ∧ x ≤ 999 := by
  intro x hx
  simp only [deckB, Bool.and_eq_true, List.all_eq_true] at h
  have := h.2 x hx
  simpa [inB] using this

section
variable (a : Option Addr) (c : Nat) (d : List Int) (w : World) [hrow : RowI w (.slice a d.length c) false 1 (d.map intV)]
set_option maxHeartbeats 4000000 in
theorem Chains_rack (hl : d.length ≤ 1000000) : Ct Tryz.prog 40 [.slice a d.length c] w fun v w' => ChainsR d v w' := by
  refine Ct.ofW (by simp) ?_
  (refine jjB (jjC (jJ (eS rfl) (jJ (eI rfl) (jz (jjB ?_))))); refine jjB (jjC (jI (eS rfl) ?_)))
  refine jjQ (Check_rack a c d _ hl) rfl rfl ?_
  rintro _ w2 hS2 rfl
  cases hd : deckB d
  · (refine jJ (eI rfl) (jz (jjB (jjC (jI (eI rfl) (jc rfl rfl ?_))))); refine jz (jjJ rfl (jjB (jjC (jI (eI rfl) (jJ (eS rfl) ?_))))); refine jJ (eI rfl) (jz (jjF ?_)); refine jC rfl rfl rfl ⟨inferInstance, ?_⟩)
    exact ⟨[], 60, none, 0, rfl, RowV.nilS _ _ _ _ _, .inl ⟨hd, rfl, rfl⟩⟩
  have hd60 := deckB_len hd
  have hdm := deckB_mem hd
  (refine jJ (eI rfl) (jz (jjB (jjC (jI (eI rfl) (jc rfl rfl ?_))))); refine jz (jjK rfl (jjG (jjB (jjC (jJ (eS rfl) ?_))))); refine jJ (eS rfl) (jz (jjB (jjB (jjC (jI (eS rfl) ?_))))); refine jh rfl (jI (eI rfl) (jz (jjD ?_))))
  have hE2 : Ext w w2 := inferInstance
  refine W.keep0 [(5, .slice none 0 0), (6, .slice none 0 0), (16, .slice a d.length c), (17, .int .i64 ((d.length : Nat) : Int)), (18, .int .i64 ((0 : Nat) : Int))] ⟨eS rfl, eS rfl, eS rfl, eI rfl, eI rfl, trivial⟩ fun s0 => ?_
  refine W.loop (19 :: 20 :: 21 :: 8 :: 23 :: 24 :: 25 :: 26 :: 22 :: 27 :: 28 :: 9 :: 10 :: 29 :: 30 :: 31 :: 32 :: 33 :: 34 :: 35 :: 36 :: 5 :: 37 :: 38 :: 39 :: 40 :: 41 :: 42 :: 43 :: 44 :: 6 :: 45 :: 18 :: []) (fun g s' V => ∃ (i : Nat) (lv cv : Value) (L C : List Int), s' 18 = .int .i64 ((i : Nat) : Int) ∧ s' 5 = lv ∧ s' 6 = cv ∧ g = d.length - i ∧ i ≤ d.length ∧ PatI (d.take i) L C ∧ L.length ≤ i ∧ OwnL V w2.heap.size 3 false 1 lv (L.map intV) ∧ OwnL V w2.heap.size 3 false 1 cv (C.map intV) ∧ ∀ g, lv.ownBlock = some g → cv.ownBlock ≠ some g) d.length ⟨0, _, _, [], [], rfl, rfl, rfl, rfl, Nat.zero_le _, by rw [List.take_zero]; exact PatI.nil, Nat.le_refl _, OwnL.nil _ _ _ _ _, OwnL.nil _ _ _ _ _, by intro g h; cases h⟩ ?_
  rintro _ sd V hSV ⟨i, lv, cv, L, C, h18, h5, h6, rfl, hi, hP, hLi, hOL, hOC, hne⟩
  refine W.fix h18 (W.fix (d := 5) h5 (W.fix (d := 6) h6 ?_))
  clear h18 h5 h6
  have zV := hSV.size
  have hCl : C.length = i := by rw [hP.ch.len, List.length_take]; omega
  obtain ⟨la, lc, e⟩ := hOL.slice
  rw [List.length_map] at e
  subst e
  by_cases hid : i < d.length
  · have hgi := List.getElem?_eq_getElem hid
    have hrm := hdm _ (List.getElem_mem hid)
    have hRL : RowI V (.slice la L.length lc) false 1 (L.map intV) := ⟨hOL.row⟩
    (refine jjB (jjC (jjZ rfl rfl (by omega) (jz (jjB (jjJ rfl ?_))))); refine jjG (jjB (jjD (jjB (jjC ?_)))); refine jF rfl rfl rfl (map_get (by omega)) ?_; intro _ _ _; refine jQ rfl rfl (jJ (eI rfl) (jz (jjB (jjC (jI (eS rfl) ?_))))); refine jI (eI rfl) (jY rfl rfl (by omega) ?_))
    refine jjQ (BinarySearch_int la lc L (d[i] + 1) _ (by omega) fun p q hp hq hpq => by have := hP.srt p q hpq hq; rwa [gd_lt hp, gd_lt hq] at this) rfl rfl ?_
    rintro _ w3 hS3 ⟨n, q, rfl, hn, hlo, hhi⟩
    have hPn := hP.step (r := d[i]) (n := n) hn (fun j hj hjn => by rw [gd_lt hj]; have := hlo j hj hjn; omega) (fun j hj hjn => by rw [gd_lt hj]; have := hhi j hj hjn; omega)
    rw [← take_snoc_get hgi] at hPn
    have hOL3 := hOL.ext hS3.ext
    have hOC3 := hOC.ext hS3.ext
    have z3 := hS3.size
    clear hRL
    generalize d[i] = r at *
    by_cases hnL : n = L.length
    · (refine jI (eU rfl) (ju rfl rfl (ju rfl rfl (jJ (eI rfl) (jJ (eB rfl) (jz ?_))))); refine jjB (jjB (jjC (jI (eI rfl) (jI (eS rfl) (jh rfl ?_))))); refine jjh rfl rfl (by omega) (jz (jjJ rfl (jjC (jI (eS rfl) (jI (eI rfl) ?_))))))
      (refine jjP (v := .int _ _) rfl (by exact rfl) (by exact rfl) (by exact rfl) (by exact rfl) ?_; intro b4 w_b4 hb_b4 hs_b4 hS_b4 hk_b4; have hR_b4 := RowV.one (agg := false) (k := 1) rfl hk_b4)
      have z4 := hS_b4.size
      refine Ops.appendL (hOL3.ext hS_b4.ext) (by omega) hR_b4 rfl rfl rfl rfl (one_int _) ?_ ?_ ?_
      · rw [List.length_map]; simp only [List.length_cons, List.length_nil]; omega
      · rw [List.length_map]; simp only [List.length_cons, List.length_nil]; omega
      intro v4 w4 hA4 hO4 _ hw4
      have hE4 : Ext w2 w4 := hA4.ext ((hSV.ext.trans hS3.ext).trans hS_b4.ext) (Nat.le_refl _)
      have hOC4 : OwnL w4 w2.heap.size 3 false 1 cv (C.map intV) := (hOC3.ext hS_b4.ext).app hA4 fun g' e1 e2 => hne g' e2 e1
      obtain ⟨a4, c4, e⟩ := hO4.slice
      simp only [List.length_append, List.length_map, List.length_cons, List.length_nil, Nat.zero_add] at e
      subst e
      obtain ⟨g, rfl, hg2, hOg⟩ := hO4.self (by simp)
      have hD : SD 3 w4 g (L.length + 1) c4 (L ++ [r]) := ⟨by simp, by rw [List.map_append]; exact hOg⟩
      have hneC : cv.ownBlock ≠ some g := fun e => by
        rcases hw4 with h | h
        · exact hne g (h.symm) e
        · have h1 := (hOC3.block g e).2
          simp only [Value.ownBlock, Option.some.injEq] at h
          omega
      (refine jJ (eS rfl) (jz (jjB (jjC (jI (eS rfl) (jI (eI rfl) ?_))))); refine jI (eI rfl) (jG rfl rfl rfl (by omega) ?_))
      refine OpsD.store (i := n) hD (by omega) rfl (eI rfl) ?_
      intro w5 hO5 hD5
      have hE5 : Ext w2 w5 := hO5.ext hE4 hg2
      have hOC5 := hO5.own' hOC4 (fun e => hneC e)
      have z5 := hE5.size
      (refine jz (jjC (jI rfl (jI (eI rfl) ?_))))
      (refine jjP (v := .int _ _) rfl (by exact rfl) (by exact rfl) (by exact rfl) (by exact rfl) ?_; intro b6 w_b6 hb_b6 hs_b6 hS_b6 hk_b6; have hR_b6 := RowV.one (agg := false) (k := 1) rfl hk_b6)
      have z6 := hS_b6.size
      refine Ops.appendL (hOC5.ext hS_b6.ext) (by omega) hR_b6 rfl rfl rfl rfl (one_int _) ?_ ?_ ?_
      · rw [List.length_map]; simp only [List.length_cons, List.length_nil]; omega
      · rw [List.length_map]; simp only [List.length_cons, List.length_nil]; omega
      intro v7 w7 hA7 hO7 _ hw7
      have hE7 : Ext w2 w7 := hA7.ext (hE5.trans hS_b6.ext) (Nat.le_refl _)
      have hL7 : OwnL w7 w2.heap.size 3 false 1 _ _ := (((hD5.2).ext hS_b6.ext).app hA7 (fun g' e1 e2 => by
        simp only [Value.ownBlock, Option.some.injEq] at e1
        subst e1
        exact hneC e2)).mono hg2
      (refine jJ rfl (jz (jjC (jY rfl rfl (by omega) (jI (eI rfl) (jz ?_))))))
      refine ⟨rfl, by (((iterate 36 refine Same.upd rfl ?_); exact Same.ovN)), d.length - (i + 1), by omega, hE7, i + 1, _, v7, (L ++ [r]).set n r, C ++ [(n : Int)], congrArg (Value.int .i64) (by omega), rfl, rfl, rfl, by omega, ?_, ?_, hL7, ?_, ?_⟩
      · rw [if_pos hnL] at hPn; exact hPn
      · rw [List.length_set]; (try simp only [List.length_append, List.length_cons, List.length_nil]); omega
      · rw [List.map_append]; exact hO7
      · intro g' e1 e2
        have e1' : some g = some g' := e1
        obtain rfl := Option.some.inj e1'
        rcases hw7 with h | h
        · rw [h] at e2; exact hneC e2
        · rw [h] at e2; simp only [Option.some.injEq] at e2; have := hD5.lt; omega
    · (refine jI (eU rfl) (ju rfl rfl (ju rfl rfl (jJ (eI rfl) (jJ (eB rfl) (jz ?_))))); refine jjB (jjB (jjC (jI (eI rfl) (jI (eS rfl) (jh rfl ?_))))); refine jji rfl rfl (by omega) (jz (jjK rfl (jjG (jjB (jjC ?_))))); refine jI (eS rfl) (jI (eI rfl) (jI (eI rfl) ?_)))
      obtain ⟨g, rfl, hg2, hOg⟩ := hOL3.self (by rw [List.length_map]; omega)
      have hD : SD 3 w3 g L.length lc L := ⟨rfl, hOg⟩
      have hneC : cv.ownBlock ≠ some g := hne g rfl
      have hE3 : Ext w2 w3 := hSV.ext.trans hS3.ext
      (refine jG rfl rfl rfl (by omega) ?_)
      refine OpsD.store (i := n) hD (by omega) rfl (eI rfl) ?_
      intro w5 hO5 hD5
      have hE5 : Ext w2 w5 := hO5.ext hE3 hg2
      have hOC5 := hO5.own' hOC3 (fun e => hneC e)
      have z5 := hE5.size
      (refine jz (jjC (jI rfl (jI (eI rfl) ?_))))
      (refine jjP (v := .int _ _) rfl (by exact rfl) (by exact rfl) (by exact rfl) (by exact rfl) ?_; intro b6 w_b6 hb_b6 hs_b6 hS_b6 hk_b6; have hR_b6 := RowV.one (agg := false) (k := 1) rfl hk_b6)
      have z6 := hS_b6.size
      refine Ops.appendL (hOC5.ext hS_b6.ext) (by omega) hR_b6 rfl rfl rfl rfl (one_int _) ?_ ?_ ?_
      · rw [List.length_map]; simp only [List.length_cons, List.length_nil]; omega
      · rw [List.length_map]; simp only [List.length_cons, List.length_nil]; omega
      intro v7 w7 hA7 hO7 _ hw7
      have hE7 : Ext w2 w7 := hA7.ext (hE5.trans hS_b6.ext) (Nat.le_refl _)
      have hL7 : OwnL w7 w2.heap.size 3 false 1 _ _ := (((hD5.2).ext hS_b6.ext).app hA7 (fun g' e1 e2 => by
        simp only [Value.ownBlock, Option.some.injEq] at e1
        subst e1
        exact hneC e2)).mono hg2
      (refine jJ rfl (jz (jjC (jY rfl rfl (by omega) (jI (eI rfl) (jz ?_))))))
      refine ⟨rfl, by (((iterate 31 refine Same.upd rfl ?_); exact Same.ovN)), d.length - (i + 1), by omega, hE7, i + 1, _, v7, (L).set n r, C ++ [(n : Int)], congrArg (Value.int .i64) (by omega), rfl, rfl, rfl, by omega, ?_, ?_, hL7, ?_, ?_⟩
      · rw [if_neg hnL] at hPn; exact hPn
      · rw [List.length_set]; (try simp only [List.length_append, List.length_cons, List.length_nil]); omega
      · rw [List.map_append]; exact hO7
      · intro g' e1 e2
        have e1' : some g = some g' := e1
        obtain rfl := Option.some.inj e1'
        rcases hw7 with h | h
        · rw [h] at e2; exact hneC e2
        · rw [h] at e2; simp only [Option.some.injEq] at e2; have := hD5.lt; omega
  · obtain rfl : i = d.length := by omega
    rw [List.take_length] at hP
    obtain ⟨ca, cc, e⟩ := hOC.slice
    rw [List.length_map] at e
    subst e
    (refine jjB (jjC (jja rfl rfl (by omega) (jz (jjB (jjK rfl ?_))))); refine jjE (jjB (jjC (jI (eS rfl) (jJ (eS rfl) (jJ (eI rfl) ?_))))); refine jz (jjF ?_); refine jC rfl rfl rfl ⟨inferInstance, ?_⟩)
    refine ⟨C, 0, ca, cc, rfl, ?_, .inr ⟨hd, hP.ch, rfl⟩⟩
    have := hOC.row
    exact this
end

theorem longer_rack (a b : Option Addr) (c e : Nat) (l m : List Int) (w : World) (hl : l.length ≤ 1000000) [h1 : RowI w (.slice a l.length c) false 1 (l.map intV)] [h2 : RowI w (.slice b m.length e) false 1 (m.map intV)] :
    Ct Tryz.prog 102 [.slice a l.length c, .slice b m.length e] w fun v _ => v = .bool (longB l m) := by
  refine Ct.ofW (by simp) ?_
  by_cases c1 : m.length < l.length
  · (refine jjB (jjC (jJ (eB rfl) (jz (jjB (jjC ?_))))); refine jI (eS rfl) (jh rfl (jI (eS rfl) (jh rfl (jjd rfl rfl (by omega) (jI (eB rfl) ?_))))); refine jU rfl rfl rfl rfl (jU rfl rfl rfl rfl (jU rfl rfl rfl rfl (jU rfl rfl rfl rfl (jU rfl rfl rfl rfl (jU rfl rfl rfl rfl ?_))))); refine jV rfl rfl (jV rfl rfl (jV rfl rfl (jV rfl rfl (jU rfl rfl rfl rfl (jK rfl (eB rfl) ?_))))); refine jJ (eB rfl) (jz (jjF ?_)); refine jB rfl rfl ⟨inferInstance, ?_⟩)
    rw [longB_longer c1]; exact rfl
  · by_cases c2 : l.length = m.length
    · (refine jjB (jjC (jJ (eB rfl) (jz (jjB (jjC ?_))))); refine jI (eS rfl) (jh rfl (jI (eS rfl) (jh rfl (jje rfl rfl (by omega) (jI (eB rfl) ?_))))); refine jT rfl rfl rfl (jI (eS rfl) (jT rfl rfl rfl (jh rfl (jT rfl rfl rfl (jI (eS rfl) ?_))))); refine jT rfl rfl rfl (jh rfl (jT rfl rfl rfl (jjh rfl rfl (by omega) (jT rfl rfl rfl (jI (eB rfl) ?_))))); refine jT rfl rfl rfl (jI (eS rfl) (jT rfl rfl rfl (jI (eS rfl) (jT rfl rfl rfl ?_)))))
      refine jjQ (CompareS_int a b c e l m _ hl) rfl rfl ?_
      rintro _ w2 hS2 rfl
      (refine jT rfl rfl rfl (jX rfl rfl (jT rfl rfl rfl (jK rfl (eB rfl) (jL rfl (eB rfl) (jJ (eB rfl) ?_))))); refine jz (jjF ?_); refine jB rfl rfl ⟨inferInstance, ?_⟩)
      exact congrArg Value.bool (by simp [longB, c2])
    · (refine jjB (jjC (jJ (eB rfl) (jz (jjB (jjC ?_))))); refine jI (eS rfl) (jh rfl (jI (eS rfl) (jh rfl (jje rfl rfl (by omega) (jI (eB rfl) ?_))))); refine jT rfl rfl rfl (jI (eS rfl) (jT rfl rfl rfl (jh rfl (jT rfl rfl rfl (jI (eS rfl) ?_))))); refine jT rfl rfl rfl (jh rfl (jT rfl rfl rfl (jji rfl rfl (by omega) (jT rfl rfl rfl (jI (eB rfl) ?_))))); refine jU rfl rfl rfl rfl (jU rfl rfl rfl rfl (jU rfl rfl rfl rfl (jU rfl rfl rfl rfl (jT rfl rfl rfl (jL rfl (eB rfl) ?_))))); refine jL rfl (eB rfl) (jJ (eB rfl) (jz (jjF ?_))); refine jB rfl rfl ⟨inferInstance, ?_⟩)
      rw [longB_shorter (by omega)]; exact rfl

set_option maxHeartbeats 1000000 in
theorem first_rack (a : Option Addr) (c : Nat) (rs : List Rw) (w : World) (hl : rs.length ≤ 1000000) (hne : rs ≠ []) (hil : ∀ x ∈ rs, x.2.2.length ≤ 1000000) [h1 : RowI w (.slice a rs.length c) false 1 (rs.map encW)] [h2 : RowsI w rs] :
    Ct Tryz.prog 105 [.slice a rs.length c, .func (.func 102) #[] #[]] w fun v _ => ∃ x, x ∈ rs ∧ v = encW x ∧ x.2.2 = firstF (rs.map (·.2.2)) := by
  have h0 : 0 < rs.length := List.length_pos_iff.2 hne
  refine Ct.ofW (by simp) ?_
  (refine jjB (jjC (jJ (eS rfl) (jz (jjB (jjC ?_))))); refine jJ (eS rfl) (jz (jjB (jjB (jjC (jI (eS rfl) ?_))))); refine jh rfl (jI (eI rfl) (jz (jjD ?_))))
  refine W.loop (11 :: 12 :: 13 :: 14 :: 6 :: 7 :: 15 :: 16 :: 17 :: 18 :: 19 :: 20 :: 21 :: 22 :: 23 :: 5 :: 24 :: 10 :: []) (fun g s' V => ∃ (j : Nat) (v : Value), s' 10 = .int .i64 ((j : Nat) : Int) ∧ s' 5 = v ∧ g = rs.length - j ∧ j ≤ rs.length ∧ (j = 0 ∨ ∃ x, x ∈ rs ∧ v = encW x ∧ x.2.2 = firstF ((rs.take j).map (·.2.2)))) rs.length ⟨0, _, rfl, rfl, rfl, Nat.zero_le _, .inl rfl⟩ ?_
  rintro _ sd V hSV ⟨j, v, h10, h5, rfl, hj, hI⟩
  refine W.fix h10 (W.fix (d := 5) h5 ?_)
  clear h10 h5
  by_cases hjl : j < rs.length
  · have hg := List.getElem?_eq_getElem hjl
    rcases Nat.eq_zero_or_pos j with hj0 | hj0
    · subst hj0
      (refine jjB (jjC (jjZ rfl rfl (by omega) (jz (jjB (jjJ rfl ?_))))); refine jjG (jjB (jjD (jjB (jjC (jI (eI rfl) ?_))))); refine jF rfl rfl rfl (map_get (by omega)) ?_; intro _ _ _; refine jQ rfl rfl (jJ (eI rfl) (jJ (eS rfl) (jz (jjB (jjC ?_))))); refine jI (eI rfl) (jjh rfl rfl (by omega) (jI (eB rfl) (jU rfl rfl rfl rfl (jU rfl rfl rfl rfl (jU rfl rfl rfl rfl ?_))))); refine jU rfl rfl rfl rfl (jK rfl (eB rfl) (jz (jjJ rfl (jjC (jI (eS rfl) ?_))))); refine jJ (eS rfl) (jz (jjC (jY rfl rfl (by omega) (jI (eI rfl) (jz ?_))))))
      refine ⟨rfl, by (((iterate 20 refine Same.upd rfl ?_); exact Same.ovN)), rs.length - (0 + 1), by omega, inferInstance, 0 + 1, _, congrArg (Value.int .i64) (by omega), rfl, rfl, by omega, .inr ⟨rs[0], List.getElem_mem hjl, rfl, ?_⟩⟩
      rw [take_snoc_get hg, List.take_zero]; rfl
    · obtain ⟨x, hx, rfl, hxe⟩ := hI.resolve_left (by omega)
      have hrV : RowsI V rs := inferInstance
      have i1 := hrV.get hjl
      have i2 := RowI.mk (hrV.h x hx)
      have hil1 := hil _ (List.getElem_mem hjl)
      have hsn : firstF ((rs.take (j + 1)).map (·.2.2)) = betS (firstF ((rs.take j).map (·.2.2))) rs[j].2.2 := by
        rw [take_snoc_get hg, List.map_append]
        exact firstF_snoc (by rw [Ne, List.map_eq_nil_iff, List.take_eq_nil_iff]; rintro (h | h); omega; exact hne h) _
      (refine jjB (jjC (jjZ rfl rfl (by omega) (jz (jjB (jjJ rfl ?_))))); refine jjG (jjB (jjD (jjB (jjC (jI (eI rfl) ?_))))); refine jF rfl rfl rfl (map_get (by omega)) ?_; intro _ _ _; refine jQ rfl rfl (jJ (eI rfl) (jJ (eS rfl) (jz (jjB (jjC ?_))))); refine jI (eI rfl) (jji rfl rfl (by omega) (jI (eB rfl) (jT rfl rfl rfl (jI (eF rfl) (jT rfl rfl rfl ?_))))); refine jI (eS rfl) (jT rfl rfl rfl (jI (eS rfl) (jT rfl rfl rfl ?_))))
      refine jjQ (longer_rack rs[j].1 x.1 rs[j].2.1 x.2.1 rs[j].2.2 x.2.2 _ hil1) rfl rfl ?_
      rintro _ w2 hS2 rfl
      cases hb : longB rs[j].2.2 x.2.2
      · (refine jL rfl (eB rfl) (jz (jjK rfl (jjG (jjC (jY rfl rfl (by omega) ?_))))); refine jI (eI rfl) (jz ?_))
        refine ⟨rfl, by (((iterate 18 refine Same.upd rfl ?_); exact Same.ovN)), rs.length - (j + 1), by omega, inferInstance, j + 1, _, congrArg (Value.int .i64) (by omega), rfl, rfl, by omega, .inr ⟨x, hx, rfl, ?_⟩⟩
        rw [hsn, ← hxe, betS, hb]; rfl
      · (refine jL rfl (eB rfl) (jz (jjJ rfl (jjC (jI (eS rfl) (jJ (eS rfl) ?_))))); refine jz (jjC (jY rfl rfl (by omega) (jI (eI rfl) (jz ?_)))))
        refine ⟨rfl, by (((iterate 20 refine Same.upd rfl ?_); exact Same.ovN)), rs.length - (j + 1), by omega, inferInstance, j + 1, _, congrArg (Value.int .i64) (by omega), rfl, rfl, by omega, .inr ⟨rs[j], List.getElem_mem hjl, rfl, ?_⟩⟩
        rw [hsn, ← hxe, betS, hb]; rfl
  · obtain rfl : j = rs.length := by omega
    rw [List.take_length] at hI
    (refine jjB (jjC (jja rfl rfl (by omega) (jz (jjB (jjK rfl ?_))))); refine jjE (jjB (jjC (jI rfl (jJ rfl (jz ?_))))); refine jjF ?_; refine jB rfl rfl ⟨inferInstance, ?_⟩)
    exact hI.resolve_left (by omega)

/-! ### The recursion -/
theorem At.ne_map {κ : Type} {encK : κ → Value} {w : World} {b o kb : Nat} {cs : List Value} {m : List (κ × Value)} (h : At w b o cs) (hm : MapE encK w kb m) (hc : cs ≠ []) : b ≠ kb := by
  rintro rfl
  obtain ⟨x, cs, rfl⟩ := List.exists_cons_of_ne_nil hc
  have h0 := h.h 0 x rfl
  obtain ⟨es, c, h1, _⟩ := hm.h
  simp [World.cell?, h1] at h0
theorem Only.atM {κ : Type} {encK : κ → Value} {w w' : World} {b o kb : Nat} {cs : List Value} {m : List (κ × Value)} (O : Only kb w w') (hm : MapE encK w kb m) (h : At w b o cs) : At w' b o cs := by
  cases cs with
  | nil => exact ⟨fun i v hv => by simp at hv⟩
  | cons x cs => exact O.at_ h (h.ne_map hm (by simp))
theorem Only.rowM {κ : Type} {encK : κ → Value} {w w' : World} {kb k : Nat} {agg : Bool} {v : Value} {xs : List Value} {m : List (κ × Value)} (O : Only kb w w') (hm : MapE encK w kb m) (h : RowV w agg k v xs) : RowV w' agg k v xs :=
  ⟨h.len, h.fit, h.at_.imp id fun ⟨b, o, c, hv, hl, hc⟩ => ⟨b, o, c, hv, hl, fun j x hx => O.atM hm (hc j x hx)⟩⟩
theorem OwnL.blockM {κ : Type} {encK : κ → Value} {w : World} {B e kb : Nat} {agg : Bool} {k : Nat} {v : Value} {xs : List Value} {m : List (κ × Value)} (h : OwnL w B e agg k v xs) (hm : MapE encK w kb m) : v.ownBlock ≠ some kb := by
  intro e
  rcases h.own.2 with ⟨rfl, _⟩ | ⟨g, cap, cur, rfl, _, hg, _⟩
  · simp [Value.ownBlock] at e
  · simp only [Value.ownBlock, Option.some.injEq] at e
    subst e
    obtain ⟨es, c, h1, _⟩ := hm.h
    rw [h1] at hg; simp at hg

structure Kc where
  bk : Nat
  bd : Nat
  bf : Nat
  bl : Nat
  kmb : Nat
  a : Option Addr
  c : Nat
  d : List Int
  C : List Int
def Kc.args (q : Kc) : List Value := [.pointer (some ⟨q.bk, 0, none⟩), .pointer (some ⟨q.bd, 0, none⟩), .pointer (some ⟨q.bf, 0, none⟩), .pointer (some ⟨q.bl, 0, none⟩)]
/-- The row that v is holds the best slips from k on. -/
def IsP (q : Kc) (w : World) (k : Nat) (v : Value) : Prop := ∃ a c, v = .slice a (pathK q.d q.C k).length c ∧ OwnL w 0 3 false 1 (.slice a (pathK q.d q.C k).length c) ((pathK q.d q.C k).map intV)
structure KV (q : Kc) (w : World) : Prop where
  kn : At w q.bk 0 [.map (some q.kmb)]
  dd : At w q.bd 0 [.slice q.a q.d.length q.c]
  ff : At w q.bf 0 [.func (.func 104) #[] q.args.toArray]
  lg : At w q.bl 0 [.func (.func 102) #[] #[]]
  row : RowV w false 1 (.slice q.a q.d.length q.c) (q.d.map intV)
  km : ∃ m, MapE (Value.int .i64) w q.kmb m ∧ ∀ n v, mget m n = some v → ∃ k : Nat, n = (k : Int) ∧ k < q.d.length ∧ IsP q w k v
theorem IsP.only {q : Kc} {w w' : World} {k : Nat} {v : Value} {m : List (Int × Value)} (h : IsP q w k v) (hm : MapE (Value.int .i64) w q.kmb m) (o : Only q.kmb w w') : IsP q w' k v := by
  obtain ⟨a, c, e, h⟩ := h
  exact ⟨a, c, e, o.own' h (h.blockM hm)⟩
theorem KV.only {q : Kc} {w w' : World} (f : KV q w) (o : Only q.kmb w w') (h : ∃ m, MapE (Value.int .i64) w' q.kmb m ∧ ∀ n v, mget m n = some v → ∃ k : Nat, n = (k : Int) ∧ k < q.d.length ∧ IsP q w' k v) : KV q w' := by
  obtain ⟨m, hm, _⟩ := f.km
  exact ⟨o.atM hm f.kn, o.atM hm f.dd, o.atM hm f.ff, o.atM hm f.lg, o.rowM hm f.row, h⟩
theorem KV.ext {q : Kc} {w w' : World} (f : KV q w) (e : Ext w w') : KV q w' := f.only (.ofExt e) (by
  obtain ⟨m, hm, h⟩ := f.km
  exact ⟨m, hm.ext e, fun n v hv => by obtain ⟨k, h1, h2, h3⟩ := h n v hv; exact ⟨k, h1, h2, h3.only hm (.ofExt e)⟩⟩)

set_option maxHeartbeats 4000000 in
theorem from_rack (q : Kc) (hb : BegR q.d q.C) (hd : q.d.length ≤ 1000) :
    ∀ (m i : Nat) (w : World), q.d.length - i ≤ m → i < q.d.length → KV q w →
      Calls Tryz.prog 104 ([Value.int .i64 (i : Int)] ++ q.args).toArray w fun e w' => ∃ v, e = .returned v ∧ IsP q w' i v ∧ Only q.kmb w w' ∧ KV q w' := by
  intro m
  induction m using Nat.strongRecOn with
  | _ m ih =>
  intro i w hm hi hK
  have := hK.kn
  have := hK.ff
  have := hK.lg
  have := hK.dd
  refine Calls.ofW (by simp [Kc.args]) ?_
  (refine jjB (jjC (jJ (eS rfl) (jz (jjB (jjB ?_))))); refine jjC (jN rfl rfl rfl (jI (eI rfl) ?_)))
  obtain ⟨mm, hmm, hok⟩ := hK.km
  refine Ops.lookupOk hmm rfl rfl ?_
  cases hg : mget mm (i : Int) with
  | some v =>
    obtain ⟨k, hk1, hk2, hP⟩ := hok _ _ hg
    obtain rfl : i = k := by omega
    (refine jI (eU rfl) (ju rfl rfl (ju rfl rfl (jJ rfl (jJ (eB rfl) (jz ?_))))); refine jjB (jjC (jI (eB rfl) (jz (jjJ rfl (jjB ?_))))); refine jjC (jI rfl (jJ rfl (jz (jjF ?_)))))
    exact jB rfl rfl ⟨_, rfl, hP, .ofExt (.refl w), hK⟩
  | none =>
    (refine jI (eU rfl) (ju rfl rfl (ju rfl rfl (jJ (eS rfl) (jJ (eB rfl) (jz ?_))))); refine jjB (jjC (jI (eB rfl) (jz (jjK rfl (jjG ?_))))); refine jjB (jjC ?_))
    (refine jjP (v := .slice _ _ _) rfl (by exact rfl) (by exact rfl) (by exact rfl) (by exact rfl) ?_; intro b7 w_b7 hb_b7 hs_b7 hS_b7 hk_b7; have hR_b7 := RowV.one (agg := false) (k := 1) rfl hk_b7)
    have hO7 := OwnL.one (agg := false) (k := 1) (B := w.heap.size) rfl (by omega) hk_b7
    (refine jJ (eS rfl) (jz (jjB (jjB (jjC (jI (eI rfl) ?_))))); refine jY rfl rfl (by omega) (jJ (eI rfl) (jz (jjD ?_))))
    have hkm := hmm.lt
    have hE7 : Ext w w_b7 := inferInstance
    have hS1 : ∀ k, i + 1 ≤ k → k < q.d.length → ((upR (i + 1) (k + 1)).filter fun j => decide (gd q.d i ≤ gd q.d j)).map (pathK q.d q.C) = ((upR (i + 1) k).filter fun j => decide (gd q.d i ≤ gd q.d j)).map (pathK q.d q.C) ++ if gd q.d i ≤ gd q.d k then [pathK q.d q.C k] else [] := by
      intro k h1 h2
      rw [upR_snoc h1, List.filter_append, List.map_append]
      congr 1
      by_cases hh : gd q.d i ≤ gd q.d k
      · rw [if_pos hh, List.filter_cons_of_pos (by rw [decide_eq_true_eq]; exact hh)]; rfl
      · rw [if_neg hh, List.filter_cons_of_neg (by rw [decide_eq_true_eq]; exact hh)]; rfl
    refine W.loopG (22 :: 23 :: 24 :: 25 :: 28 :: 29 :: 30 :: 31 :: 32 :: 33 :: 34 :: 35 :: 36 :: 37 :: 38 :: 39 :: 40 :: 41 :: 42 :: 9 :: 26 :: 27 :: 10 :: []) (fun g s' w' => ∃ (k : Nat) (v : Value) (rs : List Rw), s' 10 = .int .i64 ((k : Nat) : Int) ∧ s' 9 = v ∧ i + 1 ≤ k ∧ k ≤ q.d.length ∧ g = q.d.length - k ∧ rs.length ≤ k + 1 ∧ Only q.kmb w w' ∧ KV q w' ∧ OwnL w' w.heap.size 26 false 1 v (rs.map encW) ∧ (∀ x ∈ rs, OwnL w' 0 3 false 1 (encW x) (x.2.2.map intV)) ∧ rs.map (·.2.2) = [] :: ((upR (i + 1) k).filter fun j => decide (gd q.d i ≤ gd q.d j)).map (pathK q.d q.C)) (q.d.length - (i + 1)) ⟨i + 1, _, [(none, 0, [])], congrArg (Value.int .i64) (by omega), rfl, Nat.le_refl _, hi, rfl, by simp, .ofExt hE7, hK.ext hE7, hO7, by intro x hx; simp at hx; subst hx; exact OwnL.nil _ _ _ _ _, by rw [upR_nil (Nat.le_refl _)]; rfl⟩ ?_
    rintro _ sd w' ⟨k, v, rs, h10, h9, hik, hkn, rfl, hrl, hOn, hKk, hO, hRs, hrs⟩
    refine W.fix h10 (W.fix (d := 9) h9 ?_)
    clear h10 h9
    have z' := hOn.size
    have hEd := hKk.dd
    by_cases hkl : k < q.d.length
    · (refine jjB (jjB (jjC (jI (eI rfl) (jN rfl rfl rfl (jh rfl ?_))))); refine jjZ rfl rfl (by omega) (jz (jjJ rfl (jjG (jjB (jjD ?_))))); refine jjB ?_)
      refine W.draw (fun wq => Ext w' wq) ?_
      intro w1 hS1'
      have hz := hKk.row.place' (map_get hkl)
      obtain ⟨p1, o1, e1, hA1⟩ := hz
      have hz := hKk.row.place' (map_get hi)
      obtain ⟨p2, o2, e2, hA2⟩ := hz
      have e3 := e1.symm.trans e2
      cases e3
      rw [Nat.mul_one] at hA1 hA2
      have hdd : At w' q.bd 0 [.slice (some ⟨p1, o1, none⟩) q.d.length q.c] := by rw [← e1]; exact hKk.dd
      clear hEd
      refine jjV [0, 1, 2, 3, 4, 5, 6, 7, 8] (by decide +kernel) hS1'.ext ?_
      (((apply jjT; exact rfl; rintro wq hq; have := hq.toStep; refine jN rfl rfl rfl (jz ?_); exact ⟨rfl, rfl⟩; apply jjT; exact rfl; rintro wq hq; have := hq.toStep; refine jI (eI rfl) (jz ?_); exact ⟨rfl, rfl⟩; apply jjT; exact rfl; rintro wq hq; have := hq.toStep; refine jG rfl rfl rfl (by omega) (jz ?_); exact ⟨rfl, rfl⟩; apply jjT; exact rfl; rintro wq hq; have := hq.toStep; refine jQ rfl rfl (jz ?_); exact ⟨rfl, rfl⟩; apply jjT; exact rfl; rintro wq hq; have := hq.toStep; refine jN rfl rfl rfl (jz ?_); exact ⟨rfl, rfl⟩; apply jjT; exact rfl; rintro wq hq; have := hq.toStep; refine jI (eI rfl) (jz ?_); exact ⟨rfl, rfl⟩; apply jjT; exact rfl; rintro wq hq; have := hq.toStep; refine jG rfl rfl rfl (by omega) (jz ?_); exact ⟨rfl, rfl⟩; apply jjT; exact rfl; rintro wq hq; have := hq.toStep; refine jQ rfl rfl (jz ?_); exact ⟨rfl, rfl⟩; apply jjT; exact rfl; rintro wq hq; have := hq.toStep; refine jf rfl rfl (jz ?_); exact ⟨rfl, rfl⟩; refine jjU ?_)))
      refine jjX (by decide +kernel) hS1'.ext ?_
      have hK1 := hKk.ext hS1'.ext
      have hOn1 := hOn.trans (.ofExt hS1'.ext)
      have g1 : gd q.d k = q.d[k] := gd_lt hkl
      have g2 : gd q.d i = q.d[i] := gd_lt hi
      have hlg := hK1.lg
      have hff := hK1.ff
      repeat' (first|((first|apply jI|apply jJ); (first|exact eI rfl|exact rfl))|(refine jM (jN rfl rfl rfl ?_))|(refine jW (jY rfl rfl (by omega) ?_))|refine jz ?_|(refine jjA ?_; (first|refine jjC ?_|refine jjG ?_))|(refine jjA ?_; (refine jjN rfl ?_ ?_ <;> intro _)))
      · have hh : gd q.d i ≤ gd q.d k := by rw [g1, g2]; assumption
        refine Ops.callR rfl (Enters.h (P := Tryz.prog) (g := 104)) rfl (ih (m - 1) (by omega) k _ (by omega) hkl hK1) ?_
        rintro _ w2 ⟨v2, rfl, ⟨a2, c2, rfl, hR2⟩, hOn2, hK2⟩
        refine ⟨_, rfl, ?_⟩
        (refine jjP (v := .slice _ _ _) rfl (by exact rfl) (by exact rfl) (by exact rfl) (by exact rfl) ?_; intro b8 w_b8 hb_b8 hs_b8 hS_b8 hk_b8; have hR_b8 := RowV.one (agg := false) (k := 1) rfl hk_b8)
        have z2 := hOn2.size
        have z1 := hOn1.size
        have z8 := hS_b8.size
        have hOn28 := hOn2.trans (.ofExt hS_b8.ext)
        obtain ⟨m1, hm1, _⟩ := hK1.km
        obtain ⟨m2, hm2, _⟩ := hK2.km
        have hOr := hOn2.own (hO.ext hS1'.ext) hkm
        refine Ops.appendL (hOr.ext hS_b8.ext) (by omega) hR_b8 rfl rfl rfl rfl rfl ?_ ?_ ?_
        · simp only [List.length_map, List.length_cons, List.length_nil]; omega
        · simp only [List.length_map, List.length_cons, List.length_nil]; omega
        intro v9 w9 hA9 hO9 _ _
        have hEA : Only q.kmb w w9 := (hOn1.trans hOn28).app hA9 (Nat.le_refl _)
        have hKb : v.ownBlock ≠ some q.kmb := fun e => by have := (hO.block _ e).1; omega
        have hrow : ∀ (x : Rw), OwnL w2 0 3 false 1 (encW x) (x.2.2.map intV) → OwnL w9 0 3 false 1 (encW x) (x.2.2.map intV) := fun x hx => (hx.ext hS_b8.ext).app hA9 ((hx.ext hS_b8.ext).ne (hOr.ext hS_b8.ext) (by decide))
        have hK9 : KV q w9 := hK.only hEA (by
          obtain ⟨m2, hm2, hok2⟩ := hK2.km
          refine ⟨m2, (hm2.ext hS_b8.ext).app hA9 hKb, fun n u hu => ?_⟩
          obtain ⟨k', h1, h2, a', c', h3, h4⟩ := hok2 n u hu
          exact ⟨k', h1, h2, a', c', h3, hrow (a', c', pathK q.d q.C k') h4⟩)
        (refine jJ rfl (jz (jjC (jI (eI rfl) (jY rfl rfl (by omega) (jJ (eI rfl) ?_))))); refine jz ?_)
        refine ⟨rfl, by (((iterate 25 refine Same.upd rfl ?_); exact Same.ovN)), q.d.length - (k + 1), by omega, k + 1, v9, rs ++ [(a2, c2, pathK q.d q.C k)], congrArg (Value.int .i64) (by omega), rfl, by omega, by omega, rfl, by rw [List.length_append]; simp only [List.length_cons, List.length_nil]; omega, hEA, hK9, by rw [List.map_append]; exact hO9, ?_, ?_⟩
        · intro x hx
          rcases List.mem_append.1 hx with hx | hx
          · exact hrow x (hOn2.own' ((hRs x hx).ext hS1'.ext) (((hRs x hx).ext hS1'.ext).blockM hm1))
          · have : x = (a2, c2, pathK q.d q.C k) := by simpa using hx
            subst this
            exact hrow (a2, c2, pathK q.d q.C k) hR2
        · rw [hS1 k hik hkl, if_pos hh, List.map_append, hrs]; rfl
      · have hh : ¬ gd q.d i ≤ gd q.d k := by rw [g1, g2]; assumption
        refine ⟨rfl, by (((iterate 18 refine Same.upd rfl ?_); exact Same.ovN)), q.d.length - (k + 1), by omega, k + 1, v, rs, congrArg (Value.int .i64) (by omega), rfl, by omega, by omega, rfl, by omega, hOn1, hK1, hO.ext hS1'.ext, fun x hx => (hRs x hx).ext hS1'.ext, ?_⟩
        rw [hS1 k hik hkl, if_neg hh, List.append_nil]; exact hrs
    · obtain rfl : k = q.d.length := by omega
      obtain ⟨m', hm', hok'⟩ := hKk.km
      have hil : ∀ x ∈ rs, x.2.2.length ≤ 1000 := by
        intro x hx
        have h1 : x.2.2 ∈ rs.map (·.2.2) := List.mem_map.2 ⟨x, hx, rfl⟩
        rw [hrs, List.mem_cons] at h1
        rcases h1 with h1 | h1
        · rw [h1]; simp
        · obtain ⟨j, hj, h2⟩ := List.mem_map.1 h1
          have hj2 := (upR_mem.1 (List.mem_filter.1 hj).1).2
          have h3 := pathK_len hb j hj2
          have h4 := hb.le j hj2
          rw [← h2]; omega
      have hne : rs ≠ [] := by rintro rfl; simp at hrs
      obtain ⟨av, cv, rfl⟩ := hO.slice
      rw [List.length_map] at hO
      rw [List.length_map]
      (refine jjB (jjB (jjC (jI (eI rfl) (jN rfl rfl rfl (jh rfl ?_))))); refine jja rfl rfl (by omega) (jz (jjK rfl (jjE (jjB ?_)))))
      refine W.draw (fun wq => Only q.kmb w' wq) ?_
      intro w1 hS1'
      have hO1 : Only q.kmb w' w1 := .ofExt hS1'.ext
      refine jjV [0, 1, 2, 4, 5] (by decide +kernel) hO1 ?_
      (((apply jjT; exact rfl; rintro wq hq; have := hq.atM hm' hKk.kn; have := hq.atM hm' hKk.lg; refine jN rfl rfl rfl (jz ?_); exact ⟨rfl, rfl⟩; apply jjT; exact rfl; rintro wq hq; have := hq.atM hm' hKk.kn; have := hq.atM hm' hKk.lg; refine jI (eI rfl) (jz ?_); exact ⟨rfl, rfl⟩; apply jjT; exact rfl; rintro wq hq; have := hq.atM hm' hKk.kn; have := hq.atM hm' hKk.lg; refine jI (eI rfl) (jz ?_); exact ⟨rfl, rfl⟩; apply jjT; exact rfl; rintro wq hq; have := hq.atM hm' hKk.kn; have := hq.atM hm' hKk.lg; refine jI (eS rfl) (jz ?_); exact ⟨rfl, rfl⟩; apply jjT; exact rfl; rintro wq hq; have := hq.atM hm' hKk.kn; have := hq.atM hm' hKk.lg; refine jN rfl rfl rfl (jz ?_); exact ⟨rfl, rfl⟩; refine jjU ?_)))
      have z1 := hS1'.size
      refine jjl 3 6 (by decide +kernel) rfl rfl hO1 ?b1 ?b2
      case b1 =>
        (refine jjP (v := .int _ _) rfl (by exact rfl) (by exact rfl) (by exact rfl) (by exact rfl) ?_; intro b8 w_b8 hb_b8 hs_b8 hS_b8 hk_b8; have hR_b8 := RowV.one (agg := false) (k := 1) rfl hk_b8)
        have z8 := hS_b8.size
        refine jz ?_
        have hE18 : Ext w' w_b8 := hS1'.ext.trans hS_b8.ext
        apply jjW 6 (by decide +kernel) rfl (Only.ofExt hE18)
        have i1 : RowI w_b8 (.slice av rs.length cv) false 1 (rs.map encW) := ⟨(hO.ext hE18).row⟩
        have i2 : RowsI w_b8 rs := ⟨fun x hx => ((hRs x hx).ext hE18).row⟩
        refine jjQ (first_rack av cv rs _ (by omega) hne (fun x hx => by have := hil x hx; omega)) rfl rfl ?_
        rintro _ w3 hS3 ⟨x, hx, rfl, hxe⟩
        refine jz ?_
        have hE8 : Ext w' w3 := hE18.trans hS3.ext
        have z3 := hE8.size
        apply jjW 7 (by decide +kernel) rfl (Only.ofExt hE8)
        have hO8 := (OwnL.one (agg := false) (k := 1) (B := w'.heap.size) rfl (by omega) hk_b8).ext hS3.ext
        have hRx := ((hRs x hx).ext hE8).row
        have hLn : ([Value.int .i64 (i : Int)] ++ x.2.2.map intV) = (pathK q.d q.C i).map intV := by rw [pathK_first hb hi, hxe, hrs]; rfl
        have hxl : x.2.2.length ≤ 1000 := hil x hx
        refine Ops.appendL hO8 (by omega) hRx rfl rfl rfl rfl (all_ints' _) ?_ ?_ ?_
        · simp only [List.length_map, List.length_cons, List.length_nil]; omega
        · simp only [List.length_map, List.length_cons, List.length_nil]; omega
        intro v9 w9 hA9 hO9 _ _
        rw [hLn] at hO9
        obtain ⟨a9, c9, e9⟩ := hO9.slice
        rw [List.length_map] at e9
        subst e9
        refine jz ?_
        have hE9 : Ext w' w9 := hA9.ext hE8 (Nat.le_refl _)
        have hm9 := hm'.ext hE9
        apply jjW 8 (by decide +kernel) rfl (Only.ofExt hE9)
        refine Ops.mapUpdate hm9 rfl rfl rfl ?_
        intro w10 o10 hp10 hm10
        refine jz ?_
        have hO10 : Only q.kmb w' w10 := (Only.ofExt hE9).trans (.ofPut hp10)
        refine jjX (by decide +kernel) hO10 ?_
        have hP10 : IsP q w10 i (.slice a9 (pathK q.d q.C i).length c9) := ⟨a9, c9, rfl, (Only.ofPut hp10).own' (hO9.mono (Nat.zero_le _)) (hO9.blockM hm9)⟩
        have hK10 : KV q w10 := hKk.only hO10 (by
          refine ⟨_, hm10, fun n u hu => ?_⟩
          by_cases hn : n = (i : Int)
          · subst hn
            rw [mget_set_same] at hu
            obtain rfl := Option.some.inj hu
            exact ⟨i, rfl, hi, hP10⟩
          · rw [mget_set_other _ _ hn] at hu
            obtain ⟨k', h1, h2, h3⟩ := hok' n u hu
            exact ⟨k', h1, h2, h3.only hm' hO10⟩)
        have hkn10 := hK10.kn
        (refine jjB (jjC (jN rfl rfl rfl (jI (eI rfl) ?_))))
        refine Ops.lookup hm10 rfl rfl ?_
        rw [mget_set_same]
        (refine jJ (eS rfl) (jz (jjF ?_)))
        exact jB rfl rfl ⟨_, rfl, hP10, hOn.trans hO10, hK10⟩
      case b2 =>
        have i1 : RowI w1 (.slice av rs.length cv) false 1 (rs.map encW) := ⟨(hO.ext hS1'.ext).row⟩
        have i2 : RowsI w1 rs := ⟨fun x hx => ((hRs x hx).ext hS1'.ext).row⟩
        refine jjQ (first_rack av cv rs _ (by omega) hne (fun x hx => by have := hil x hx; omega)) rfl rfl ?_
        rintro _ w3 hS3 ⟨x, hx, rfl, hxe⟩
        refine jz ?_
        have hE13 : Ext w' w3 := hS1'.ext.trans hS3.ext
        have z3 := hE13.size
        apply jjW 3 (by decide +kernel) rfl (Only.ofExt hE13)
        (refine jjP (v := .int _ _) rfl (by exact rfl) (by exact rfl) (by exact rfl) (by exact rfl) ?_; intro b8 w_b8 hb_b8 hs_b8 hS_b8 hk_b8; have hR_b8 := RowV.one (agg := false) (k := 1) rfl hk_b8)
        have z8 := hS_b8.size
        refine jz ?_
        have hE8 : Ext w' w_b8 := hE13.trans hS_b8.ext
        apply jjW 7 (by decide +kernel) rfl (Only.ofExt hE8)
        have hO8 := OwnL.one (agg := false) (k := 1) (B := w'.heap.size) rfl (by omega) hk_b8
        have hRx := ((hRs x hx).ext hE8).row
        have hLn : ([Value.int .i64 (i : Int)] ++ x.2.2.map intV) = (pathK q.d q.C i).map intV := by rw [pathK_first hb hi, hxe, hrs]; rfl
        have hxl : x.2.2.length ≤ 1000 := hil x hx
        refine Ops.appendL hO8 (by omega) hRx rfl rfl rfl rfl (all_ints' _) ?_ ?_ ?_
        · simp only [List.length_map, List.length_cons, List.length_nil]; omega
        · simp only [List.length_map, List.length_cons, List.length_nil]; omega
        intro v9 w9 hA9 hO9 _ _
        rw [hLn] at hO9
        obtain ⟨a9, c9, e9⟩ := hO9.slice
        rw [List.length_map] at e9
        subst e9
        refine jz ?_
        have hE9 : Ext w' w9 := hA9.ext hE8 (Nat.le_refl _)
        have hm9 := hm'.ext hE9
        apply jjW 8 (by decide +kernel) rfl (Only.ofExt hE9)
        refine Ops.mapUpdate hm9 rfl rfl rfl ?_
        intro w10 o10 hp10 hm10
        refine jz ?_
        have hO10 : Only q.kmb w' w10 := (Only.ofExt hE9).trans (.ofPut hp10)
        refine jjX (by decide +kernel) hO10 ?_
        have hP10 : IsP q w10 i (.slice a9 (pathK q.d q.C i).length c9) := ⟨a9, c9, rfl, (Only.ofPut hp10).own' (hO9.mono (Nat.zero_le _)) (hO9.blockM hm9)⟩
        have hK10 : KV q w10 := hKk.only hO10 (by
          refine ⟨_, hm10, fun n u hu => ?_⟩
          by_cases hn : n = (i : Int)
          · subst hn
            rw [mget_set_same] at hu
            obtain rfl := Option.some.inj hu
            exact ⟨i, rfl, hi, hP10⟩
          · rw [mget_set_other _ _ hn] at hu
            obtain ⟨k', h1, h2, h3⟩ := hok' n u hu
            exact ⟨k', h1, h2, h3.only hm' hO10⟩)
        have hkn10 := hK10.kn
        (refine jjB (jjC (jN rfl rfl rfl (jI (eI rfl) ?_))))
        refine Ops.lookup hm10 rfl rfl ?_
        rw [mget_set_same]
        (refine jJ (eS rfl) (jz (jjF ?_)))
        exact jB rfl rfl ⟨_, rfl, hP10, hOn.trans hO10, hK10⟩

/-- The numbers are there. -/
theorem beg_exists : ∀ d : List Int, ∃ C, BegR d C
  | [] => ⟨[], rfl, by simp, by simp, by simp⟩
  | x :: d => by
    obtain ⟨C, h⟩ := beg_exists d
    have hv : ∀ n, n ≤ d.length → ∃ v : Int, 1 ≤ v ∧ (∀ k, k < n → x ≤ gd d k → gd C k + 1 ≤ v) ∧ (v = 1 ∨ ∃ k, k < n ∧ x ≤ gd d k ∧ v = gd C k + 1) := by
      intro n
      induction n with
      | zero => intro _; exact ⟨1, by omega, by intros; omega, .inl rfl⟩
      | succ n ih =>
        intro hn
        obtain ⟨v, h1, h2, h3⟩ := ih (by omega)
        by_cases hc : x ≤ gd d n ∧ v < gd C n + 1
        · refine ⟨gd C n + 1, by omega, fun k hk hx => ?_, .inr ⟨n, by omega, hc.1, rfl⟩⟩
          by_cases e : k = n
          · subst e; omega
          · have := h2 k (by omega) hx; omega
        · refine ⟨v, h1, fun k hk hx => ?_, ?_⟩
          · by_cases e : k = n
            · subst e; omega
            · exact h2 k (by omega) hx
          · rcases h3 with h3 | ⟨k, hk, h4⟩
            · exact .inl h3
            · exact .inr ⟨k, by omega, h4⟩
    obtain ⟨v, h1, h2, h3⟩ := hv d.length (Nat.le_refl _)
    have gs : ∀ (y : Int) (l : List Int) (k : Nat), gd (y :: l) (k + 1) = gd l k := fun y l k => by simp [gd]
    have gz : ∀ (y : Int) (l : List Int), gd (y :: l) 0 = y := fun y l => by simp [gd]
    refine ⟨v :: C, by simp [h.len], ?_, ?_, ?_⟩
    · intro i hi
      cases i with
      | zero => rw [gz]; exact h1
      | succ i => rw [gs]; exact h.pos i (by simpa using hi)
    · intro i k hik hk hd
      obtain ⟨k, rfl⟩ : ∃ k', k = k' + 1 := ⟨k - 1, by omega⟩
      rw [List.length_cons] at hk
      cases i with
      | zero =>
        rw [gz, gs] at hd ⊢
        exact h2 k (by omega) hd
      | succ i =>
        rw [gs, gs] at hd ⊢
        exact h.up i k (by omega) (by omega) hd
    · intro i hi
      rw [List.length_cons] at hi
      cases i with
      | zero =>
        rw [gz]
        rcases h3 with h3 | ⟨k, hk, h4, h5⟩
        · exact .inl h3
        · exact .inr ⟨k + 1, by omega, by simp; omega, by rw [gz, gs]; exact h4, by rw [gs]; exact h5⟩
      | succ i =>
        rw [gs]
        rcases h.ex i (by omega) with h3 | ⟨k, hk, h4, h5, h6⟩
        · exact .inl h3
        · exact .inr ⟨k + 1, by omega, by simp; omega, by rw [gs, gs]; exact h5, by rw [gs]; exact h6⟩

set_option maxHeartbeats 4000000 in
theorem keep_rack (a : Option Addr) (c : Nat) (d C : List Int) (w : World) (hb : BegR d C) (hd : d.length ≤ 1000) [hrow : RowI w (.slice a d.length c) false 1 (d.map intV)] :
    Ct Tryz.prog 71 [.slice a d.length c] w fun v w' => ∃ a' c', v = .slice a' (keepK d C).length c' ∧ OwnL w' w.heap.size 3 false 1 (.slice a' (keepK d C).length c') ((keepK d C).map intV) := by
  refine Ct.ofW (by simp) ?_
  (refine jjB (jjC ?_))
  (refine jy rfl ?_; intro b1 w_b1 hb_b1 hs_b1 hS_b1 hk_b1; have hA_b1 := At.ofBlock hk_b1)
  (refine jJ (eS rfl) (jz (jjB (jjC ?_))))
  (apply jjR rfl; (intro _; first|exact eI rfl|exact eB rfl|exact eP rfl|exact eS rfl|exact eT rfl|exact eA rfl|exact eU rfl|exact eF rfl|exact eM rfl|exact eN rfl|exact rfl); exact rfl; exact rfl; exact rfl; exact rfl; intro b3 w_b3 hb_b3 hs_b3 hS_b3 hk_b3; have hA_b3 := Bk.of hk_b3)
  (refine jz (jjB (jjC ?_)))
  refine Ops.makeMap (Value.int .i64) ?_
  intro kmb w1 hkb hs1 hS1 hM1
  skip
  (apply jjR rfl; (intro _; first|exact eI rfl|exact eB rfl|exact eP rfl|exact eS rfl|exact eT rfl|exact eA rfl|exact eU rfl|exact eF rfl|exact eM rfl|exact eN rfl|exact rfl); exact rfl; exact rfl; exact rfl; exact rfl; intro b4 w_b4 hb_b4 hs_b4 hS_b4 hk_b4; have hA_b4 := Bk.of hk_b4)
  (((refine jz (jjB (jjC ?_)))); refine jjY ?_; intro b5 w_b5 hb_b5 hs_b5 hS_b5 hk_b5; have hA_b5 := Bk.of hk_b5)
  (refine jz (jjB (jjC (jv ?_))))
  refine Ops.store rfl rfl rfl rfl rfl ?_
  intro w4 hp4
  have hS4 : Step w_b4 w4 := (hp4.ext hS_b5.ext (by omega)).toStep
  have z4 := hp4.size
  have hlt := hrow
  have e4 : Ext w1 w4 := (hS_b4.ext).trans hS4.ext
  have hE4 : Ext w w4 := inferInstance
  have hm4 : MapE (Value.int .i64) w4 kmb [] := hM1.ext e4
  have hK : KV ⟨b4, b1, b5, b3, kmb, a, c, d, C⟩ w4 := ⟨inferInstance, inferInstance, (Bk.of (cs := [.func (.func 104) #[] [.pointer (some ⟨b4, 0, none⟩), .pointer (some ⟨b1, 0, none⟩), .pointer (some ⟨b5, 0, none⟩), .pointer (some ⟨b3, 0, none⟩)].toArray]) hp4.new).toAt, inferInstance, hrow.h.ext hE4, ⟨[], hm4, fun n v hv => by simp [mget] at hv⟩⟩
  have hkmb : w.heap.size ≤ kmb := by have := (inferInstance : Ext w w_b3).size; omega
  have hkm4 : kmb < w4.heap.size := hm4.lt
  have hfrom : ∀ (m i : Nat) (w : World), d.length - i ≤ m → i < d.length → KV ⟨b4, b1, b5, b3, kmb, a, c, d, C⟩ w → Calls Tryz.prog 104 ([Value.int .i64 (i : Int)] ++ [Value.pointer (some ⟨b4, 0, none⟩), .pointer (some ⟨b1, 0, none⟩), .pointer (some ⟨b5, 0, none⟩), .pointer (some ⟨b3, 0, none⟩)]).toArray w fun e w' => ∃ v, e = .returned v ∧ (∃ a c, v = .slice a (pathK d C i).length c ∧ OwnL w' 0 3 false 1 (.slice a (pathK d C i).length c) ((pathK d C i).map intV)) ∧ Only kmb w w' ∧ KV ⟨b4, b1, b5, b3, kmb, a, c, d, C⟩ w' := from_rack ⟨b4, b1, b5, b3, kmb, a, c, d, C⟩ hb hd
  (refine jz (jjB (jjC ?_)))
  (refine jjP (v := .slice _ _ _) rfl (by exact rfl) (by exact rfl) (by exact rfl) (by exact rfl) ?_; intro b6 w_b6 hb_b6 hs_b6 hS_b6 hk_b6; have hR_b6 := RowV.one (agg := false) (k := 1) rfl hk_b6)
  have hO6 := OwnL.one (agg := false) (k := 1) (B := w4.heap.size) rfl (by omega) hk_b6
  (refine jJ (eS rfl) (jz (jjB (jjB (jjC (jN rfl rfl rfl ?_))))); refine jh rfl (jI (eI rfl) (jz (jjD ?_))))
  have hE6 : Ext w4 w_b6 := inferInstance
  refine W.keep0 [(3, .pointer (some ⟨b3, 0, none⟩)), (5, .pointer (some ⟨b5, 0, none⟩)), (6, .slice (some ⟨b6, 0, none⟩) 1 1), (12, .int .i64 ((d.length : Nat) : Int)), (13, .int .i64 ((0 : Nat) : Int))] ⟨eP rfl, eP rfl, eS rfl, eI rfl, eI rfl, trivial⟩ fun s0 => ?_
  refine W.loopG (14 :: 15 :: 7 :: 16 :: 17 :: 18 :: 19 :: 20 :: 21 :: 6 :: 22 :: 13 :: []) (fun g s' w' => ∃ (k : Nat) (v : Value) (rs : List Rw), s' 13 = .int .i64 ((k : Nat) : Int) ∧ s' 6 = v ∧ k ≤ d.length ∧ g = d.length - k ∧ rs.length ≤ k + 1 ∧ Only kmb w4 w' ∧ KV ⟨b4, b1, b5, b3, kmb, a, c, d, C⟩ w' ∧ OwnL w' w4.heap.size 26 false 1 v (rs.map encW) ∧ (∀ x ∈ rs, OwnL w' 0 3 false 1 (encW x) (x.2.2.map intV)) ∧ rs.map (·.2.2) = [] :: (upR 0 k).map (pathK d C)) d.length ⟨0, _, [(none, 0, [])], rfl, rfl, Nat.zero_le _, rfl, by simp, .ofExt hE6, hK.ext hE6, hO6, by intro x hx; simp at hx; subst hx; exact OwnL.nil _ _ _ _ _, by rw [upR_nil (Nat.le_refl _)]; rfl⟩ ?_
  rintro _ sd w' ⟨k, v, rs, h13, h6, hkn, rfl, hrl, hOn, hKk, hO, hRs, hrs⟩
  refine W.fix h13 (W.fix (d := 6) h6 ?_)
  clear h13 h6
  have z' := hOn.size
  have hff : At w' b5 0 [.func (.func 104) #[] [.pointer (some ⟨b4, 0, none⟩), .pointer (some ⟨b1, 0, none⟩), .pointer (some ⟨b5, 0, none⟩), .pointer (some ⟨b3, 0, none⟩)].toArray] := hKk.ff
  have hlg : At w' b3 0 [.func (.func 102) #[] #[]] := hKk.lg
  by_cases hkl : k < d.length
  · (refine jjB (jjC (jjZ rfl rfl (by omega) (jz (jjB (jjJ rfl ?_))))); refine jjG (jjB (jjD (jjB (jjC (jI (eI rfl) ?_))))); refine jJ (eI rfl) (jz (jjC (jI rfl (jN rfl rfl rfl (jI (eI rfl) ?_))))))
    refine Ops.callR rfl (Enters.h (P := Tryz.prog) (g := 104)) rfl (hfrom _ k _ (Nat.le_refl _) hkl hKk) ?_
    rintro _ w2 ⟨v2, rfl, ⟨a2, c2, rfl, hR2⟩, hOn2, hK2⟩
    refine ⟨_, rfl, ?_⟩
    (refine jjP (v := .slice _ _ _) rfl (by exact rfl) (by exact rfl) (by exact rfl) (by exact rfl) ?_; intro b8 w_b8 hb_b8 hs_b8 hS_b8 hk_b8; have hR_b8 := RowV.one (agg := false) (k := 1) rfl hk_b8)
    have z2 := hOn2.size
    have z8 := hS_b8.size
    obtain ⟨m1, hm1, _⟩ := hKk.km
    have hm1' : MapE (Value.int .i64) w' kmb m1 := hm1
    have hOr := hOn2.own hO hkm4
    refine Ops.appendL (hOr.ext hS_b8.ext) (by omega) hR_b8 rfl rfl rfl rfl rfl ?_ ?_ ?_
    · simp only [List.length_map, List.length_cons, List.length_nil]; omega
    · simp only [List.length_map, List.length_cons, List.length_nil]; omega
    intro v9 w9 hA9 hO9 _ _
    have hEA : Only kmb w4 w9 := (hOn.trans (hOn2.trans (.ofExt hS_b8.ext))).app hA9 (Nat.le_refl _)
    have hKb : v.ownBlock ≠ some kmb := fun e => by have := (hO.block _ e).1; omega
    have hrow9 : ∀ (x : Rw), OwnL w2 0 3 false 1 (encW x) (x.2.2.map intV) → OwnL w9 0 3 false 1 (encW x) (x.2.2.map intV) := fun x hx => (hx.ext hS_b8.ext).app hA9 ((hx.ext hS_b8.ext).ne (hOr.ext hS_b8.ext) (by decide))
    have hK9 : KV ⟨b4, b1, b5, b3, kmb, a, c, d, C⟩ w9 := hK.only hEA (by
      obtain ⟨m2, hm2, hok2⟩ := hK2.km
      refine ⟨m2, (hm2.ext hS_b8.ext).app hA9 hKb, fun n u hu => ?_⟩
      obtain ⟨k', h1, h2, a', c', h3, h4⟩ := hok2 n u hu
      exact ⟨k', h1, h2, a', c', h3, hrow9 (a', c', pathK d C k') h4⟩)
    (refine jJ rfl (jz (jjC (jY rfl rfl (by omega) (jI (eI rfl) (jz ?_))))))
    refine ⟨rfl, by (((iterate 14 refine Same.upd rfl ?_); exact Same.ovN)), d.length - (k + 1), by omega, k + 1, v9, rs ++ [(a2, c2, pathK d C k)], congrArg (Value.int .i64) (by omega), rfl, by omega, rfl, by rw [List.length_append]; simp only [List.length_cons, List.length_nil]; omega, hEA, hK9, by rw [List.map_append]; exact hO9, ?_, ?_⟩
    · intro x hx
      rcases List.mem_append.1 hx with hx | hx
      · exact hrow9 x (hOn2.own' (hRs x hx) ((hRs x hx).blockM hm1'))
      · have : x = (a2, c2, pathK d C k) := by simpa using hx
        subst this
        exact hrow9 (a2, c2, pathK d C k) hR2
    · rw [upR_snoc (Nat.zero_le _), List.map_append, List.map_append, hrs]; rfl
  · obtain rfl : k = d.length := by omega
    have hil : ∀ x ∈ rs, x.2.2.length ≤ 1000 := by
      intro x hx
      have h1 : x.2.2 ∈ rs.map (·.2.2) := List.mem_map.2 ⟨x, hx, rfl⟩
      rw [hrs, List.mem_cons] at h1
      rcases h1 with h1 | h1
      · rw [h1]; simp
      · obtain ⟨j, hj, h2⟩ := List.mem_map.1 h1
        have hj2 := (upR_mem.1 hj).2
        have h3 := pathK_len hb j hj2
        have h4 := hb.le j hj2
        rw [← h2]; omega
    have hne : rs ≠ [] := by rintro rfl; simp at hrs
    obtain ⟨av, cv, rfl⟩ := hO.slice
    rw [List.length_map] at hO
    rw [List.length_map]
    have i1 : RowI w' (.slice av rs.length cv) false 1 (rs.map encW) := ⟨hO.row⟩
    have i2 : RowsI w' rs := ⟨fun x hx => (hRs x hx).row⟩
    (refine jjB (jjC (jja rfl rfl (by omega) (jz (jjB (jjK rfl ?_))))); refine jjE (jjB (jjC (jI (eS rfl) (jN rfl rfl rfl ?_)))))
    refine jjQ (first_rack av cv rs _ (by omega) hne (fun x hx => by have := hil x hx; omega)) rfl rfl ?_
    rintro _ w3 hS3 ⟨x, hx, rfl, hxe⟩
    have hxl := hil x hx
    have hRx : RowI w3 (.slice x.1 x.2.2.length x.2.1) false 1 (x.2.2.map intV) := ⟨((hRs x hx).ext hS3.ext).row⟩
    have hke : x.2.2 = keepK d C := by rw [hxe, hrs]; rfl
    have hEw : Ext w w' := hOn.ext hE4 hkmb
    have hE3 := hEw.trans hS3.ext
    have z3 := hE3.size
    skip
    refine jjQ (Clone_int x.1 x.2.1 x.2.2 _ (by omega)) rfl rfl ?_
    intro v10 w10 hS10 hO10
    rw [hke] at hO10
    obtain ⟨a10, c10, rfl⟩ := OwnL.slice hO10
    rw [List.length_map] at hO10
    have hE10 := hE3.trans hS10.ext
    (refine jJ (eS rfl) (jz (jjF ?_)); refine jB rfl rfl ⟨inferInstance, ?_⟩)
    exact ⟨a10, c10, by rw [List.length_map]; exact rfl, hO10.mono z3⟩

/-- What Keep answers. -/
def KeepA (d : List Int) (v : Value) (w' : World) : Prop := ∃ (l : List Int) (e : Int) (a : Option Addr) (c : Nat), v = .tuple #[.slice a l.length c, .int .i64 e] ∧ RowV w' false 1 (.slice a l.length c) (l.map intV) ∧
  ((deckB d = false ∧ l = [] ∧ e = 60) ∨ (deckB d = true ∧ e = 0 ∧ ∃ C, BegR d C ∧ l = keepK d C))
theorem Keep_rack (a : Option Addr) (c : Nat) (d : List Int) (w : World) [hrow : RowI w (.slice a d.length c) false 1 (d.map intV)] (hl : d.length ≤ 1000000) :
    Ct Tryz.prog 36 [.slice a d.length c] w fun v w' => KeepA d v w' := by
  refine Ct.ofW (by simp) ?_
  (refine jjB (jjC (jJ (eS rfl) (jJ (eI rfl) (jz (jjB ?_))))); refine jjB (jjC (jI (eS rfl) ?_)))
  refine jjQ (Check_rack a c d _ hl) rfl rfl ?_
  rintro _ w2 hS2 rfl
  cases hd : deckB d
  · (refine jJ (eI rfl) (jz (jjB (jjC (jI (eI rfl) (jc rfl rfl ?_))))); refine jz (jjJ rfl (jjB (jjC (jI (eI rfl) (jJ (eS rfl) ?_))))); refine jJ (eI rfl) (jz (jjF ?_)); refine jC rfl rfl rfl ⟨inferInstance, ?_⟩)
    exact ⟨[], 60, none, 0, rfl, RowV.nilS _ _ _ _ _, .inl ⟨hd, rfl, rfl⟩⟩
  · have hd60 := deckB_len hd
    obtain ⟨C, hC⟩ := beg_exists d
    (refine jJ (eI rfl) (jz (jjB (jjC (jI (eI rfl) (jc rfl rfl ?_))))); refine jz (jjK rfl (jjG (jjB (jjC (jI (eS rfl) ?_))))))
    refine jjQ (keep_rack a c d C _ hC (by omega)) rfl rfl ?_
    rintro _ w3 hS3 ⟨a3, c3, rfl, hO3⟩
    (refine jJ (eS rfl) (jJ (eI rfl) (jz (jjF ?_))); refine jC rfl rfl rfl ⟨inferInstance, ?_⟩)
    exact ⟨keepK d C, 0, a3, c3, rfl, hO3.row, .inr ⟨hd, rfl, C, hC, rfl⟩⟩

theorem Only.thru {kb g : Nat} {w0 w w' : World} (h : Only kb w0 w) (o : Only g w w') (hg : w0.heap.size ≤ g) : Only kb w0 w' :=
  ⟨o.os.trans h.os, o.tape.trans h.tape, o.output.trans h.output, Nat.le_trans h.size o.size, fun k hk hne => (o.other k (by have := h.size; omega) (by omega)).trans (h.other k hk hne)⟩
/-! Keys that are there once -/
abbrev NdK (m : List (Int × Value)) : Prop := (m.map (·.1)).Nodup
theorem mset_keys (m : List (Int × Value)) (k : Int) (v : Value) : ∀ x, x ∈ (mset m k v).map (·.1) → x = k ∨ x ∈ m.map (·.1) := by
  induction m with
  | nil => intro x hx; simp [mset] at hx; exact .inl hx
  | cons p m ih =>
    obtain ⟨y, u⟩ := p
    intro x hx
    rw [mset] at hx
    split at hx
    · subst_vars; exact .inr hx
    · simp only [List.map_cons, List.mem_cons] at hx ⊢
      rcases hx with hx | hx
      · exact .inr (.inl hx)
      · rcases ih x hx with h | h
        · exact .inl h
        · exact .inr (.inr h)
theorem NdK.set {m : List (Int × Value)} (h : NdK m) (k : Int) (v : Value) : NdK (mset m k v) := by
  induction m with
  | nil => simp [NdK, mset]
  | cons p m ih =>
    obtain ⟨y, u⟩ := p
    simp only [NdK, List.map_cons, List.nodup_cons] at h
    rw [mset]
    split
    · subst_vars; simp only [NdK, List.map_cons, List.nodup_cons]; exact h
    · simp only [NdK, List.map_cons, List.nodup_cons]
      refine ⟨fun hc => ?_, ih h.2⟩
      rcases mset_keys m k v y hc with e | e
      · rename_i hne; exact hne e.symm
      · exact h.1 e
theorem mget_no {m : List (Int × Value)} {k : Int} (h : k ∉ m.map (·.1)) : mget m k = none := by
  induction m with
  | nil => rfl
  | cons p m ih =>
    obtain ⟨y, u⟩ := p
    simp only [List.map_cons, List.mem_cons, not_or] at h
    rw [mget, if_neg h.1, ih h.2]
theorem NdK.del {m : List (Int × Value)} (h : NdK m) (k : Int) : NdK (mdel m k) ∧ (∀ x, x ∈ (mdel m k).map (·.1) → x ∈ m.map (·.1)) ∧ ∀ x, mget (mdel m k) x = if x = k then none else mget m x := by
  induction m with
  | nil => simp [NdK, mdel, mget]
  | cons p m ih =>
    obtain ⟨y, u⟩ := p
    simp only [NdK, List.map_cons, List.nodup_cons] at h
    obtain ⟨i1, i2, i3⟩ := ih h.2
    rw [mdel]
    split
    · subst_vars
      refine ⟨h.2, fun x hx => by simp only [List.map_cons, List.mem_cons]; exact .inr hx, fun x => ?_⟩
      rw [mget]
      by_cases e : x = y
      · subst e; rw [if_pos rfl, mget_no h.1]
      · rw [if_neg e, if_neg e]
    · rename_i hne
      refine ⟨?_, fun x hx => ?_, fun x => ?_⟩
      · simp only [NdK, List.map_cons, List.nodup_cons]
        exact ⟨fun hc => h.1 (i2 y hc), i1⟩
      · simp only [List.map_cons, List.mem_cons] at hx ⊢
        exact hx.imp id (i2 x)
      · rw [mget, mget, i3]
        by_cases e : x = y
        · subst e; rw [if_pos rfl, if_pos rfl, if_neg (fun h => hne h.symm)]
        · rw [if_neg e, if_neg e]
/-- The map of those that fell. -/
structure fallM (n : Nat) (S : List Int) (m : List (Int × Value)) : Prop where
  nd : NdK m
  get : ∀ x : Int, mget m x = if (0 ≤ x ∧ x < n) ∧ x ∉ S then some (.bool true) else none
theorem fallM.del {n : Nat} {S : List Int} {m : List (Int × Value)} (h : fallM n S m) (k : Int) : fallM n (k :: S) (mdel m k) := by
  obtain ⟨h1, _, h2⟩ := h.nd.del k
  refine ⟨h1, fun x => ?_⟩
  rw [h2, h.get]
  by_cases e : x = k
  · rw [if_pos e, if_neg (fun c => c.2 (by rw [e]; exact List.mem_cons_self))]
  · rw [if_neg e]
    congr 1
    simp [e]
theorem fallM.set {i : Nat} {m : List (Int × Value)} (h : fallM i [] m) : fallM (i + 1) [] (mset m (i : Int) (.bool true)) := by
  refine ⟨h.nd.set _ _, fun x => ?_⟩
  by_cases e : x = (i : Int)
  · subst e
    rw [mget_set_same, if_pos ⟨by omega, by simp⟩]
  · rw [mget_set_other _ _ e, h.get]
    by_cases c : 0 ≤ x ∧ x < (i : Int)
    · rw [if_pos ⟨c, by simp⟩, if_pos ⟨by omega, by simp⟩]
    · rw [if_neg (fun h => c h.1), if_neg (fun h => c (by omega))]

set_option maxHeartbeats 1000000 in
theorem Mend1_rack (b5 b1 b11 mb : Nat) (a : Option Addr) (c : Nat) (d S : List Int) (i k : Nat) (m : List (Int × Value)) (w : World) [h5 : At w b5 0 [.map (some mb)]] [h1 : At w b1 0 [.slice a d.length c]] [h11 : At w b11 0 [.int .i64 (i : Int)]] (hm : MapE (Value.int .i64) w mb m) (hf : fallM d.length S m) (hi : i < d.length) (hk : k < d.length) [hrow : RowI w (.slice a d.length c) false 1 (d.map intV)] :
    Ct Tryz.prog 74 [.int .i64 (k : Int), .pointer (some ⟨b5, 0, none⟩), .pointer (some ⟨b1, 0, none⟩), .pointer (some ⟨b11, 0, none⟩)] w fun v _ => v = .bool (pM d S i (k : Int)) := by
  refine Ct.ofW (by simp) ?_
  have g1 : gd d k = d[k] := gd_lt hk
  have g2 : gd d i = d[i] := gd_lt hi
  have hz := hrow.h.place' (map_get hk)
  obtain ⟨p1, o1, e1, hA1⟩ := hz
  subst e1
  have hz := hrow.h.place' (map_get hi)
  obtain ⟨p2, o2, e2, hA2⟩ := hz
  cases e2
  rw [Nat.mul_one] at hA1 hA2
  (refine jjB (jjC (jJ (eB rfl) (jz (jjB ?_)))))
  refine W.draw (fun w' => Ext w w') ?_
  intro w1 hS1
  refine jjV [0, 1] (by decide +kernel) hS1.ext ?_
  (((apply jjT; exact rfl; rintro w' hq; have := hq.toStep; refine jN rfl rfl rfl (jz ?_); exact ⟨rfl, rfl⟩; apply jjT; exact rfl; rintro w' hq; have := hq.toStep; refine jI (eI rfl) (jz ?_); exact ⟨rfl, rfl⟩; refine jjU ?_)))
  by_cases hS : (k : Int) ∈ S
  · have hv : mget m (k : Int) = none := by rw [hf.get, if_neg (fun h => h.2 hS)]
    refine jjV [2] (by decide +kernel) hS1.ext ?_
    apply jjT
    · exact rfl
    · intro wq hq
      refine Ops.lookup (hm.ext hq) rfl rfl ?_
      rw [hv]
      refine jz ?_
      exact ⟨rfl, rfl⟩
    refine jjU ?_
    refine jjV [3, 4, 5, 6, 7, 8, 9, 10, 11, 12, 13, 14, 15] (by decide +kernel) hS1.ext ?_
    (((apply jjT; exact rfl; rintro w' hq; have := hq.toStep; refine jq rfl (jz ?_); exact ⟨rfl, rfl⟩; apply jjT; exact rfl; rintro w' hq; have := hq.toStep; refine jI (eB rfl) (jz ?_); exact ⟨rfl, rfl⟩; apply jjT; exact rfl; rintro w' hq; have := hq.toStep; refine jT rfl rfl rfl (jN rfl rfl rfl (jz ?_)); exact ⟨rfl, rfl⟩; apply jjT; exact rfl; rintro w' hq; have := hq.toStep; refine jT rfl rfl rfl (jI (eI rfl) (jz ?_)); exact ⟨rfl, rfl⟩; apply jjT; exact rfl; rintro w' hq; have := hq.toStep; refine jT rfl rfl rfl (jG rfl rfl rfl (by omega) (jz ?_)); exact ⟨rfl, rfl⟩; apply jjT; exact rfl; rintro w' hq; have := hq.toStep; refine jT rfl rfl rfl (jQ rfl rfl (jz ?_)); exact ⟨rfl, rfl⟩; apply jjT; exact rfl; rintro w' hq; have := hq.toStep; refine jT rfl rfl rfl (jN rfl rfl rfl (jz ?_)); exact ⟨rfl, rfl⟩; apply jjT; exact rfl; rintro w' hq; have := hq.toStep; refine jT rfl rfl rfl (jN rfl rfl rfl (jz ?_)); exact ⟨rfl, rfl⟩; apply jjT; exact rfl; rintro w' hq; have := hq.toStep; refine jT rfl rfl rfl (jG rfl rfl rfl (by omega) (jz ?_)); exact ⟨rfl, rfl⟩; apply jjT; exact rfl; rintro w' hq; have := hq.toStep; refine jT rfl rfl rfl (jQ rfl rfl (jz ?_)); exact ⟨rfl, rfl⟩; apply jjT; exact rfl; rintro w' hq; have := hq.toStep; refine jT rfl rfl rfl (je rfl rfl (jz ?_)); exact ⟨rfl, rfl⟩; apply jjT; exact rfl; rintro w' hq; have := hq.toStep; refine jK rfl (eB rfl) (jz ?_); exact ⟨rfl, rfl⟩; apply jjT; exact rfl; rintro w' hq; have := hq.toStep; refine jJ (eB rfl) (jz ?_); exact ⟨rfl, rfl⟩; refine jjU ?_)))
    refine jjX (by decide +kernel) hS1.ext ?_
    (refine jjF ?_; refine jB rfl rfl ⟨inferInstance, ?_⟩)
    exact congrArg Value.bool (by rw [pM, decide_eq_true hS, Bool.true_and, Int.toNat_natCast, g1, g2])
  · have hv : mget m (k : Int) = some (.bool true) := by rw [hf.get, if_pos ⟨by omega, hS⟩]
    refine jjV [2] (by decide +kernel) hS1.ext ?_
    apply jjT
    · exact rfl
    · intro wq hq
      refine Ops.lookup (hm.ext hq) rfl rfl ?_
      rw [hv]
      refine jz ?_
      exact ⟨rfl, rfl⟩
    refine jjU ?_
    refine jjV [3, 4, 5, 6, 7, 8, 9, 10, 11, 12, 13, 14, 15] (by decide +kernel) hS1.ext ?_
    (((apply jjT; exact rfl; rintro w' hq; have := hq.toStep; refine jp rfl (jz ?_); exact ⟨rfl, rfl⟩; apply jjT; exact rfl; rintro w' hq; have := hq.toStep; refine jI (eB rfl) (jz ?_); exact ⟨rfl, rfl⟩; apply jjT; exact rfl; rintro w' hq; have := hq.toStep; refine jU rfl rfl rfl rfl (jz ?_); exact ⟨rfl, rfl⟩; apply jjT; exact rfl; rintro w' hq; have := hq.toStep; refine jU rfl rfl rfl rfl (jz ?_); exact ⟨rfl, rfl⟩; apply jjT; exact rfl; rintro w' hq; have := hq.toStep; refine jU rfl rfl rfl rfl (jz ?_); exact ⟨rfl, rfl⟩; apply jjT; exact rfl; rintro w' hq; have := hq.toStep; refine jU rfl rfl rfl rfl (jz ?_); exact ⟨rfl, rfl⟩; apply jjT; exact rfl; rintro w' hq; have := hq.toStep; refine jU rfl rfl rfl rfl (jz ?_); exact ⟨rfl, rfl⟩; apply jjT; exact rfl; rintro w' hq; have := hq.toStep; refine jU rfl rfl rfl rfl (jz ?_); exact ⟨rfl, rfl⟩; apply jjT; exact rfl; rintro w' hq; have := hq.toStep; refine jU rfl rfl rfl rfl (jz ?_); exact ⟨rfl, rfl⟩; apply jjT; exact rfl; rintro w' hq; have := hq.toStep; refine jU rfl rfl rfl rfl (jz ?_); exact ⟨rfl, rfl⟩; apply jjT; exact rfl; rintro w' hq; have := hq.toStep; refine jU rfl rfl rfl rfl (jz ?_); exact ⟨rfl, rfl⟩; apply jjT; exact rfl; rintro w' hq; have := hq.toStep; refine jL rfl (eB rfl) (jz ?_); exact ⟨rfl, rfl⟩; apply jjT; exact rfl; rintro w' hq; have := hq.toStep; refine jJ (eB rfl) (jz ?_); exact ⟨rfl, rfl⟩; refine jjU ?_)))
    refine jjX (by decide +kernel) hS1.ext ?_
    (refine jjF ?_; refine jB rfl rfl ⟨inferInstance, ?_⟩)
    exact congrArg Value.bool (by simp [pM, hS])

/-- What Mend answers. -/
def MendR (d : List Int) (v : Value) (w' : World) : Prop := ∃ (l : List (Int × Int)) (e : Int) (a : Option Addr) (c : Nat), v = .tuple #[.slice a l.length c, .int .i64 e] ∧ RowV w' true 2 (.slice a l.length c) (l.map encII) ∧
  ((deckB d = false ∧ l = [] ∧ e = 60) ∨ (deckB d = true ∧ e = 0 ∧ ∃ C, BegR d C ∧ l = (mendF d (keepK d C) d.length).2.2))
theorem keepK_mem {d C : List Int} (h : BegR d C) : ∀ x ∈ keepK d C, 0 ≤ x ∧ x < d.length := by
  have hp : ∀ (m i : Nat), d.length - i = m → i < d.length → ∀ x ∈ pathK d C i, 0 ≤ x ∧ x < d.length := by
    intro m
    induction m using Nat.strongRecOn with
    | ind m ih =>
      intro i hm hi x hx
      rw [pathK_eq hi, List.mem_cons] at hx
      rcases hx with rfl | hx
      · omega
      · cases hk : nextK d C i with
        | none => rw [hk] at hx; simp at hx
        | some k =>
          rw [hk] at hx
          have h1 := nextK_some hk
          exact ih (d.length - k) (by omega) k rfl h1.2.1 x hx
  intro x hx
  rw [keepK_rest h, restK] at hx
  cases hf : (upR 0 d.length).find? (nxB d C none (maxC C)) with
  | none => rw [hf] at hx; simp at hx
  | some k =>
    rw [hf] at hx
    have := upR_mem.1 (List.mem_of_find?_eq_some hf)
    exact hp _ k rfl this.2 x hx

set_option maxHeartbeats 8000000 in
theorem Mend_rack (a : Option Addr) (c : Nat) (d : List Int) (w : World) [hrow : RowI w (.slice a d.length c) false 1 (d.map intV)] (hl : d.length ≤ 1000000) :
    Ct Tryz.prog 35 [.slice a d.length c] w fun v w' => MendR d v w' := by
  refine Ct.ofW (by simp) ?_
  (refine jjB (jjC ?_))
  (refine jy rfl ?_; intro b1 w_b1 hb_b1 hs_b1 hS_b1 hk_b1; have hA_b1 := At.ofBlock hk_b1)
  (refine jJ (eS rfl) (jJ (eI rfl) (jz (jjB (jjB (jjC ?_))))); refine jN rfl rfl rfl ?_)
  refine jjQ (Check_rack a c d _ hl) rfl rfl ?_
  rintro _ w2 hS2 rfl
  cases hd : deckB d
  · (refine jJ (eI rfl) (jz (jjB (jjC (jI (eI rfl) (jc rfl rfl ?_))))); refine jz (jjJ rfl (jjB (jjC (jI (eI rfl) (jJ (eS rfl) ?_))))); refine jJ (eI rfl) (jz (jjF ?_)); refine jC rfl rfl rfl ⟨inferInstance, ?_⟩)
    exact ⟨[], 60, none, 0, rfl, RowV.nilS _ _ _ _ _, .inl ⟨hd, rfl, rfl⟩⟩
  have hd60 := deckB_len hd
  obtain ⟨C, hC⟩ := beg_exists d
  (refine jJ (eI rfl) (jz (jjB (jjC (jI (eI rfl) (jc rfl rfl ?_))))); refine jz (jjK rfl (jjG (jjB (jjC ?_)))))
  refine Ops.makeMap (Value.int .i64) ?_
  intro mb w3 hmb hs3 hS3 hM3
  skip
  (apply jjR rfl; (intro _; first|exact eI rfl|exact eB rfl|exact eP rfl|exact eS rfl|exact eT rfl|exact eA rfl|exact eU rfl|exact eF rfl|exact eM rfl|exact eN rfl|exact rfl); exact rfl; exact rfl; exact rfl; exact rfl; intro b5 w_b5 hb_b5 hs_b5 hS_b5 hk_b5; have hA_b5 := Bk.of hk_b5)
  (refine jz (jjB (jjC (jJ (eS rfl) (jz (jjB ?_))))); refine jjB (jjC (jN rfl rfl rfl (jh rfl (jI (eI rfl) (jz ?_))))); refine jjD ?_)
  have hE5 : Ext w w_b5 := inferInstance
  have hM5 : MapE (Value.int .i64) w_b5 mb [] := hM3.ext inferInstance
  have z5 := hE5.size
  have zmb : w.heap.size ≤ mb := by have := (inferInstance : Ext w w2).size; omega
  have hA1 : At w_b5 b1 0 [.slice a d.length c] := inferInstance
  have hA5 : At w_b5 b5 0 [.map (some mb)] := inferInstance
  have hn1 : b1 ≠ mb := hA1.ne_map hM5 (by simp)
  have hn5 : b5 ≠ mb := hA5.ne_map hM5 (by simp)
  have lmb := hM5.lt
  have hr5 : RowV w_b5 false 1 (.slice a d.length c) (d.map intV) := hrow.h.ext hE5
  refine W.keep0 [(1, .pointer (some ⟨b1, 0, none⟩)), (5, .pointer (some ⟨b5, 0, none⟩)), (6, .slice none 0 0), (21, .int .i64 ((d.length : Nat) : Int)), (22, .int .i64 ((0 : Nat) : Int))] ⟨eP rfl, eP rfl, eS rfl, eI rfl, eI rfl, trivial⟩ fun s0 => ?_
  refine W.loopG (23 :: 24 :: 7 :: 25 :: 26 :: 27 :: 28 :: 29 :: 30 :: 6 :: 31 :: 22 :: []) (fun g s' V => ∃ (i : Nat) (v : Value) (m : List (Int × Value)), s' 22 = .int .i64 ((i : Nat) : Int) ∧ s' 6 = v ∧ g = d.length - i ∧ i ≤ d.length ∧ Only mb w_b5 V ∧ MapE (Value.int .i64) V mb m ∧ fallM i [] m ∧ OwnL V w_b5.heap.size 3 false 1 v ((upN i).map intV)) d.length ⟨0, _, [], rfl, rfl, rfl, Nat.zero_le _, .ofExt (.refl _), hM5, ⟨List.Pairwise.nil, fun x => by rw [if_neg (by omega)]; rfl⟩, OwnL.nil _ _ _ _ _⟩ ?_
  rintro _ sd V ⟨i, v, m, h22, h6, rfl, hi, hOn, hM, hF, hO⟩
  refine W.fix h22 (W.fix (d := 6) h6 ?_)
  clear h22 h6
  have zV := hOn.size
  have hB5 := hOn.at_ hA5 hn5
  have hB1 := hOn.at_ hA1 hn1
  by_cases hid : i < d.length
  · (refine jjB (jjC (jjZ rfl rfl (by omega) (jz (jjB (jjJ rfl ?_))))); refine jjG (jjB (jjD (jjB (jjC (jI (eI rfl) ?_))))); refine jJ (eI rfl) (jz (jjB (jjC (jN rfl rfl rfl (jI (eI rfl) ?_))))))
    refine Ops.mapUpdate (k := (i : Int)) hM rfl rfl rfl ?_
    intro w6 o6 hp6 hM6
    have z6 := hp6.size
    (refine jz (jjC (jI rfl (jI (eI rfl) ?_))))
    (refine jjP (v := .int _ _) rfl (by exact rfl) (by exact rfl) (by exact rfl) (by exact rfl) ?_; intro b7 w_b7 hb_b7 hs_b7 hS_b7 hk_b7; have hR_b7 := RowV.one (agg := false) (k := 1) rfl hk_b7)
    have z7 := hS_b7.size
    have hOn6 := (hOn.trans (.ofPut hp6)).trans (.ofExt hS_b7.ext)
    have hO6 := ((Only.ofPut hp6).own' hO (hO.blockM hM)).ext hS_b7.ext
    have hM7 := hM6.ext hS_b7.ext
    refine Ops.appendL hO6 (by omega) hR_b7 rfl rfl rfl rfl (one_int _) ?_ ?_ ?_
    · simp only [List.length_map, upN_len, List.length_cons, List.length_nil]; omega
    · simp only [List.length_map, upN_len, List.length_cons, List.length_nil]; omega
    intro v8 w8 hA8 hO8 _ _
    (refine jJ rfl (jz (jjC (jY rfl rfl (by omega) (jI (eI rfl) (jz ?_))))))
    refine ⟨rfl, by (((iterate 14 refine Same.upd rfl ?_); exact Same.ovN)), d.length - (i + 1), by omega, i + 1, v8, _, congrArg (Value.int .i64) (by omega), rfl, rfl, by omega, hOn6.app hA8 (Nat.le_refl _), hM7.app hA8 (hO6.blockM hM7), hF.set, ?_⟩
    rw [upN_succ, List.map_append]; exact hO8
  obtain rfl : i = d.length := by omega
  clear hid hi
  obtain ⟨lv, lc, e⟩ := hO.slice
  rw [List.length_map, upN_len] at e
  subst e
  have hRV : RowI V (.slice a d.length c) false 1 (d.map intV) := ⟨hOn.rowM hM5 hr5⟩
  (refine jjB (jjC (jja rfl rfl (by omega) (jz (jjB (jjK rfl ?_))))); refine jjE (jjB (jjB (jjC (jN rfl rfl rfl ?_)))))
  refine jjQ (keep_rack a c d C _ hC (by omega)) rfl rfl ?_
  rintro _ w9 hS9 ⟨ka, kc, rfl, hOk⟩
  have z9 := hS9.size
  have hKm := keepK_mem hC
  generalize hKe : keepK d C = K at *
  have hKl := hOk.len
  rw [List.length_map] at hKl
  (refine jh rfl (jI (eI rfl) (jz (jjD ?_))))
  have hOn9 := hOn.trans (.ofExt hS9.ext)
  refine W.keep0 [(1, .pointer (some ⟨b1, 0, none⟩)), (5, .pointer (some ⟨b5, 0, none⟩)), (6, .slice lv d.length lc), (33, .slice ka K.length kc), (34, .int .i64 ((K.length : Nat) : Int)), (35, .int .i64 ((0 : Nat) : Int))] ⟨eP rfl, eP rfl, eS rfl, eS rfl, eI rfl, eI rfl, trivial⟩ fun s1 => ?_
  refine W.loopG (36 :: 37 :: 38 :: 9 :: 39 :: 40 :: 41 :: 35 :: []) (fun g s' V' => ∃ (k : Nat) (m : List (Int × Value)) (S : List Int), s' 35 = .int .i64 ((k : Nat) : Int) ∧ g = K.length - k ∧ k ≤ K.length ∧ Only mb w_b5 V' ∧ MapE (Value.int .i64) V' mb m ∧ (∀ x, x ∈ S ↔ x ∈ K.take k) ∧ fallM d.length S m ∧ OwnL V' w_b5.heap.size 3 false 1 (.slice lv d.length lc) ((upN d.length).map intV) ∧ OwnL V' 0 3 false 1 (.slice ka K.length kc) (K.map intV)) K.length ⟨0, m, [], rfl, rfl, Nat.zero_le _, hOn9, hM.ext hS9.ext, by simp, hF, hO.ext hS9.ext, hOk.mono (Nat.zero_le _)⟩ ?_
  clear hOn9 hM hF hO hOk hOn hRV hB5 hB1 z9 hS9 zV
  rintro _ sd2 V2 ⟨k, m2, S, h35, rfl, hk, hOn, hM, hS, hF, hO, hOk⟩
  refine W.fix h35 ?_
  clear h35
  have zV := hOn.size
  have hB5 := hOn.at_ hA5 hn5
  have hB1 := hOn.at_ hA1 hn1
  by_cases hkl : k < K.length
  · have hgk := List.getElem?_eq_getElem hkl
    have hRK : RowI V2 (.slice ka K.length kc) false 1 (K.map intV) := ⟨hOk.row⟩
    (refine jjB (jjC (jjZ rfl rfl (by omega) (jz (jjB (jjJ rfl ?_))))); refine jjG (jjB (jjD (jjB (jjC ?_)))); refine jF rfl rfl rfl (map_get (by omega)) ?_; intro _ _ _; refine jQ rfl rfl (jJ (eI rfl) (jz (jjC (jN rfl rfl rfl (jI (eI rfl) ?_))))))
    refine Ops.deleteN (k := K[k]) hM rfl rfl ?_
    intro w6 o6 hp6 hM6
    (refine jz (jjC (jY rfl rfl (by omega) (jI (eI rfl) (jz ?_)))))
    refine ⟨rfl, by (((iterate 9 refine Same.upd rfl ?_); exact Same.ovN)), K.length - (k + 1), by omega, k + 1, _, K[k] :: S, congrArg (Value.int .i64) (by omega), rfl, by omega, hOn.trans (.ofPut hp6), hM6, fun x => ?_, hF.del _, (Only.ofPut hp6).own' hO (hO.blockM hM), (Only.ofPut hp6).own' hOk (hOk.blockM hM)⟩
    rw [take_snoc_get hgk, List.mem_cons, List.mem_append, List.mem_singleton, hS]
    exact Or.comm
  obtain rfl : k = K.length := by omega
  rw [List.take_length] at hS
  have hFK : fallM d.length K m2 := ⟨hF.nd, fun x => by simp only [hF.get, hS]⟩
  clear hF hS S hOk hk hkl
  (refine jjB (jjC (jja rfl rfl (by omega) (jz (jjB (jjK rfl ?_))))); refine jjE (jjB (jjC (jJ (eS rfl) (jz (jjB ?_))))); refine jjB (jjC (jN rfl rfl rfl (jh rfl (jI (eI rfl) (jz ?_))))); refine jjD ?_)
  refine W.keep0 [(1, .pointer (some ⟨b1, 0, none⟩)), (5, .pointer (some ⟨b5, 0, none⟩)), (6, .slice lv d.length lc), (10, .slice none 0 0), (43, .int .i64 ((d.length : Nat) : Int)), (44, .int .i64 ((0 : Nat) : Int))] ⟨eP rfl, eP rfl, eS rfl, eS rfl, eI rfl, eI rfl, trivial⟩ fun s2 => ?_
  refine W.loopG (45 :: 46 :: 11 :: 47 :: 48 :: 49 :: 50 :: 51 :: 52 :: 53 :: 12 :: 54 :: 55 :: 56 :: 57 :: 58 :: 6 :: 59 :: 60 :: 61 :: 13 :: 62 :: 63 :: 64 :: 65 :: 66 :: 67 :: 68 :: 69 :: 70 :: 71 :: 72 :: 73 :: 74 :: 75 :: 76 :: 77 :: 78 :: 10 :: 79 :: 44 :: []) (fun g s' V' => ∃ (i : Nat) (m : List (Int × Value)) (ov : Value), s' 44 = .int .i64 ((i : Nat) : Int) ∧ s' 6 = .slice lv d.length lc ∧ s' 10 = ov ∧ g = d.length - i ∧ i ≤ d.length ∧ Only mb w_b5 V' ∧ MapE (Value.int .i64) V' mb m ∧ fallM d.length (mendF d K i).2.1 m ∧ OwnL V' w_b5.heap.size 3 false 1 (.slice lv d.length lc) ((mendF d K i).1.map intV) ∧ OwnL V' w_b5.heap.size 41 true 2 ov ((mendF d K i).2.2.map encII)) d.length ⟨0, m2, _, rfl, rfl, rfl, rfl, Nat.zero_le _, hOn, hM, hFK, hO, OwnL.nil _ _ _ _ _⟩ ?_
  clear hOn hM hFK hO hB5 hB1 zV
  rintro _ sd3 V3 ⟨i, m3, ov, h44, h6, h10, rfl, hi, hOn, hM, hF, hO, hOo⟩
  refine W.fix h44 (W.fix (d := 6) h6 (W.fix (d := 10) h10 ?_))
  clear h44 h6 h10
  have zV := hOn.size
  have hB5 := hOn.at_ hA5 hn5
  have hB1 := hOn.at_ hA1 hn1
  have hRV : RowI V3 (.slice a d.length c) false 1 (d.map intV) := ⟨hOn.rowM hM5 hr5⟩
  have hperm := mendF_perm d K i hi
  have hout := mendF_out d K i
  have hLl : (mendF d K i).1.length = d.length := by rw [hperm.length_eq, upN_len]
  by_cases hid : i < d.length
  · have hsucc := mendF_succ d K i
    generalize hst : mendF d K i = st at *
    obtain ⟨L, S, out⟩ := st
    simp only at hF hO hOo hperm hout hLl
    (refine jjB (jjC (jjZ rfl rfl (by omega) (jz (jjB (jjJ rfl ?_))))); refine jjG (jjB (jjD (jjB (jjC (jI (eI rfl) ?_))))))
    (apply jjR rfl; (intro _; first|exact eI rfl|exact eB rfl|exact eP rfl|exact eS rfl|exact eT rfl|exact eA rfl|exact eU rfl|exact eF rfl|exact eM rfl|exact eN rfl|exact rfl); exact rfl; exact rfl; exact rfl; exact rfl; intro b11 w_b11 hb_b11 hs_b11 hS_b11 hk_b11; have hA_b11 := Bk.of hk_b11)
    (refine jz (jjB (jjB (jjC (jN rfl rfl rfl (jN rfl rfl rfl ?_))))))
    refine Ops.lookup (hM.ext inferInstance) rfl rfl ?_
    by_cases hiS : (i : Int) ∈ S
    · have hv : mget m3 (i : Int) = none := by rw [hF.get, if_neg (fun h => h.2 hiS)]
      have hnx : mendF d K (i + 1) = (L, S, out) := by rw [hsucc, mendS, if_pos hiS]
      rw [hv]
      (refine jq rfl (jz (jjJ rfl (jjE (jjC (jY rfl rfl (by omega) ?_))))); refine jI (eI rfl) (jz ?_))
      refine ⟨rfl, by (((iterate 12 refine Same.upd rfl ?_); exact Same.ovN)), d.length - (i + 1), by omega, i + 1, m3, ov, congrArg (Value.int .i64) (by omega), rfl, rfl, rfl, by omega, hOn.trans (.ofExt hS_b11.ext), hM.ext hS_b11.ext, ?_, ?_, ?_⟩
      · rw [hnx]; exact hF
      · rw [hnx]; exact hO.ext hS_b11.ext
      · rw [hnx]; exact hOo.ext hS_b11.ext
    · have hv : mget m3 (i : Int) = some (.bool true) := by rw [hF.get, if_pos ⟨by omega, hiS⟩]
      rw [hv]
      have hmem : (i : Int) ∈ L := by rw [hperm.mem_iff, upN_mem]; omega
      have hfx := idxOf_facts hmem
      generalize hfe : L.idxOf (i : Int) = f at *
      obtain ⟨hfl, hfg, hff⟩ := hfx
      obtain ⟨g, rfl, hg5, hOg⟩ := hO.self (by rw [List.length_map]; omega)
      have hgl := (hOg.block g rfl).2
      have hrl : (L.eraseIdx f).length = d.length - 1 := by rw [List.length_eraseIdx, if_pos hfl, hLl]
      have hrm : ∀ x ∈ L.eraseIdx f, 0 ≤ x ∧ x < d.length := fun x hx => by
        have : x ∈ L := List.mem_of_mem_eraseIdx hx
        rw [hperm.mem_iff, upN_mem] at this; exact this
      have htl := toM_le d S (L.eraseIdx f) i
      have htd : toM d S (L.eraseIdx f) i = if idxV (pM d S i) (L.eraseIdx f) < 0 then (L.eraseIdx f).length else (idxV (pM d S i) (L.eraseIdx f)).toNat := rfl
      have hnx : mendF d K (i + 1) = (mvF L f (toM d S (L.eraseIdx f) i), (i : Int) :: S, out ++ [((f : Int), ((toM d S (L.eraseIdx f) i : Nat) : Int))]) := by rw [hsucc, mendS, if_neg hiS, hfe]
      have hmv0 : mvF L f (toM d S (L.eraseIdx f) i) = (L.eraseIdx f).take (toM d S (L.eraseIdx f) i) ++ (i : Int) :: (L.eraseIdx f).drop (toM d S (L.eraseIdx f) i) := by
        have hx : L.getD f 0 = (i : Int) := by simp [List.getD_eq_getElem?_getD, hfg]
        rw [mvF, hx]
      generalize toM d S (L.eraseIdx f) i = t at *
      have hmv : mvF L f t = (L.eraseIdx f).take t ++ (i : Int) :: (L.eraseIdx f).drop t := hmv0
      have hcap : d.length ≤ lc := by obtain ⟨cs, _, _, h, _⟩ := hOg.cells; exact h
      have hdl : d.length - 1 + 1 = d.length := by omega
      have i1 : RowI w_b11 (.slice (some ⟨g, 0, none⟩) L.length lc) false 1 (L.map intV) := ⟨by rw [hLl]; exact (hO.ext hS_b11.ext).row⟩
      have hIx := Index_int (some ⟨g, 0, none⟩) lc L (i : Int) w_b11 (by omega) hfg hff
      rw [hLl] at hIx
      clear i1
      have hgm : mb ≠ g := fun e => hOg.blockM hM (by rw [e]; rfl)
      have hgo : ov.ownBlock ≠ some g := fun e => (hO.ne hOo (by decide)) g rfl e
      (refine jp rfl (jz (jjK rfl (jjG (jjB (jjC ?_))))); refine jI (eS rfl) (jN rfl rfl rfl ?_))
      refine jjQ hIx rfl rfl ?_
      rintro _ w12 hS12 rfl
      (refine jJ (eI rfl) (jz (jjB (jjC (jI (eS rfl) (jI (eI rfl) ?_))))); refine jI (eI rfl) (jY rfl rfl (by omega) ?_))
      have hE12 : Ext V3 w12 := hS_b11.ext.trans hS12.ext
      have z12 := hE12.size
      refine Ops.callR rfl (Enters.h (P := Tryz.prog) (g := 63)) rfl (Delete_int g d.length lc f L w12 (hO.ext hE12) (by omega) (by omega)) ?_
      rintro _ w13 ⟨rfl, hO13, hD13⟩
      refine ⟨_, rfl, ?_⟩
      have hOn13 : Only mb w_b5 w13 := (hOn.trans (.ofExt hE12)).thru hO13 hg5
      have hM13 : MapE (Value.int .i64) w13 mb m3 := hO13.map (hM.ext hE12) hgm
      have hOo13 : OwnL w13 w_b5.heap.size 41 true 2 ov (out.map encII) := hO13.own' (hOo.ext hE12) hgo
      have hB513 := hOn13.at_ hA5 hn5
      have hB113 := hOn13.at_ hA1 hn1
      have z13 := hO13.size
      have hB1113 : At w13 b11 0 [.int .i64 (i : Int)] := hO13.at_ ((hA_b11.toAt).ext hS12.ext) (by omega)
      have hRV13 : RowV w13 false 1 (.slice a d.length c) (d.map intV) := hOn13.rowM hM5 hr5
      (refine jJ (eS rfl) (jz (jjB (jjC (jI (eS rfl) (jv ?_))))))
      refine jjQ (IndexFunc_int _ _ (.func (.func 74) #[] [.pointer (some ⟨b5, 0, none⟩), .pointer (some ⟨b1, 0, none⟩), .pointer (some ⟨b11, 0, none⟩)].toArray) intV (L.eraseIdx f) (pM d S i) (by have := hD13.row; exact this) ⟨_, _, rfl, inferInstance, fun w' x hx hs => ?_⟩) rfl rfl ?_
      · obtain ⟨xn, rfl⟩ : ∃ xn : Nat, x = xn := ⟨x.toNat, by have := hrm x hx; omega⟩
        have j5 := hB513.ext hs
        have j1 := hB113.ext hs
        have j11 := hB1113.ext hs
        have jr := RowI.mk (hRV13.ext hs)
        exact Mend1_rack b5 b1 b11 mb a c d S i xn m3 w' (hM13.ext hs) hF hid (by have := hrm _ hx; omega)
      rintro _ w15 hS15 rfl
      have hOn15 := hOn13.trans (.ofExt hS15.ext)
      have hM15 := hM13.ext hS15.ext
      have hOo15 := hOo13.ext hS15.ext
      have hD15 := hD13.ext hS15.ext
      have hB1115 := hB1113.ext hS15.ext
      have hB515 := hB513.ext hS15.ext
      have z15 := hS15.size
      generalize idxV (pM d S i) (L.eraseIdx f) = Z at *
      by_cases hZ : Z < 0
      · rw [if_pos hZ, hrl] at htd
        subst htd
        (refine jJ (eI rfl) (jz (jjB (jjB (jjC (jI (eI rfl) ?_))))); refine jjZ rfl rfl (by omega) (jz (jjJ rfl (jjC (jI (eS rfl) (jh rfl ?_))))); refine jJ (eI rfl) (jz (jjB (jjC (jI (eS rfl) (jI (eI rfl) ?_))))); refine jN rfl rfl rfl ?_)
        (refine jjP (v := .int _ _) rfl (by exact rfl) (by exact rfl) (by exact rfl) (by exact rfl) ?_; intro b14 w_b14 hb_b14 hs_b14 hS_b14 hk_b14; have hR_b14 := RowV.one (agg := false) (k := 1) rfl hk_b14)
        have z14 := hS_b14.size
        have hI := Insert_int g b14 (d.length - 1) lc (d.length - 1) (L.eraseIdx f) (i : Int) w_b14 (hD15.ext hS_b14.ext) ⟨hk_b14⟩ (by omega) (by omega) (by omega) (by omega)
        rw [hdl, ← hmv] at hI
        skip
        refine Ops.callR rfl (Enters.h (P := Tryz.prog) (g := 62)) rfl hI ?_
        rintro _ w16 ⟨rfl, hO16, hD16⟩
        refine ⟨_, rfl, ?_⟩
        have hOn16 : Only mb w_b5 w16 := (hOn15.trans (.ofExt hS_b14.ext)).thru hO16 (by omega)
        have hM16 : MapE (Value.int .i64) w16 mb m3 := hO16.map (hM15.ext hS_b14.ext) hgm
        have hOo16 : OwnL w16 w_b5.heap.size 41 true 2 ov (out.map encII) := hO16.own' (hOo15.ext hS_b14.ext) hgo
        have hB516 := hOn16.at_ hA5 hn5
        have hB116 : At w16 b11 0 [.int .i64 (i : Int)] := hO16.at_ (hB1115.ext hS_b14.ext) (by omega)
        (refine jJ (eS rfl) (jz (jjB (jjC (jN rfl rfl rfl (jN rfl rfl rfl ?_))))))
        refine Ops.deleteN (k := (i : Int)) hM16 rfl rfl ?_
        intro w17 o17 hp17 hM17
        have hOn17 := hOn16.trans (.ofPut hp17)
        have hO17 := (Only.ofPut hp17).own' hD16 (hD16.blockM hM16)
        have hOo17 := (Only.ofPut hp17).own' hOo16 (hOo16.blockM hM16)
        have z17 := hOn17.size
        (refine jz (jjC (jI rfl (jI (eI rfl) (jI (eI rfl) ?_)))))
        (refine jjS (cells := [.int .i64 ((f : Nat) : Int), .int .i64 ((d.length - 1 : Nat) : Int)]) ?_ ?_; exact rfl)
        (refine jjP (v := .agg _) rfl (by exact rfl) (by exact rfl) (by exact rfl) (by exact rfl) ?_; intro b18 w_b18 hb_b18 hs_b18 hS_b18 hk_b18; have hR_b18 := RowV.one (agg := true) (k := 2) rfl hk_b18)
        have z18 := hS_b18.size
        have hO18 := hO17.ext hS_b18.ext
        have hM18 := hM17.ext hS_b18.ext
        refine Ops.appendL (hOo17.ext hS_b18.ext) (by omega) hR_b18 rfl rfl rfl rfl rfl ?_ ?_ ?_
        · simp only [List.length_map, List.length_cons, List.length_nil]; omega
        · simp only [List.length_map, List.length_cons, List.length_nil]; omega
        intro v19 w19 hA19 hO19 _ _
        (refine jJ rfl (jz (jjC (jY rfl rfl (by omega) (jI (eI rfl) (jz ?_))))))
        refine ⟨rfl, by (((iterate 46 refine Same.upd rfl ?_); exact Same.ovN)), d.length - (i + 1), by omega, i + 1, _, v19, congrArg (Value.int .i64) (by omega), rfl, rfl, rfl, by omega, (hOn17.trans (.ofExt hS_b18.ext)).app hA19 (Nat.le_refl _), hM18.app hA19 ((hOo17.ext hS_b18.ext).blockM hM18), ?_, ?_, ?_⟩
        · rw [hnx]; exact hF.del _
        · rw [hnx]; exact hO18.app hA19 (hO18.ne (hOo17.ext hS_b18.ext) (by decide))
        · rw [hnx, List.map_append]; exact hO19
      · rw [if_neg hZ] at htd
        obtain ⟨Zn, rfl⟩ : ∃ Zn : Nat, Z = Zn := ⟨Z.toNat, by omega⟩
        rw [Int.toNat_natCast] at htd
        subst htd
        (refine jJ (eI rfl) (jz (jjB (jjB (jjC (jI (eI rfl) ?_))))); refine jja rfl rfl (by omega) (jz (jjK rfl (jjG (jjB (jjC ?_))))); refine jI (eS rfl) (jI (eI rfl) (jN rfl rfl rfl ?_)))
        (refine jjP (v := .int _ _) rfl (by exact rfl) (by exact rfl) (by exact rfl) (by exact rfl) ?_; intro b14 w_b14 hb_b14 hs_b14 hS_b14 hk_b14; have hR_b14 := RowV.one (agg := false) (k := 1) rfl hk_b14)
        have z14 := hS_b14.size
        have hI := Insert_int g b14 (d.length - 1) lc t (L.eraseIdx f) (i : Int) w_b14 (hD15.ext hS_b14.ext) ⟨hk_b14⟩ (by omega) (by omega) (by omega) (by omega)
        rw [hdl, ← hmv] at hI
        skip
        refine Ops.callR rfl (Enters.h (P := Tryz.prog) (g := 62)) rfl hI ?_
        rintro _ w16 ⟨rfl, hO16, hD16⟩
        refine ⟨_, rfl, ?_⟩
        have hOn16 : Only mb w_b5 w16 := (hOn15.trans (.ofExt hS_b14.ext)).thru hO16 (by omega)
        have hM16 : MapE (Value.int .i64) w16 mb m3 := hO16.map (hM15.ext hS_b14.ext) hgm
        have hOo16 : OwnL w16 w_b5.heap.size 41 true 2 ov (out.map encII) := hO16.own' (hOo15.ext hS_b14.ext) hgo
        have hB516 := hOn16.at_ hA5 hn5
        have hB116 : At w16 b11 0 [.int .i64 (i : Int)] := hO16.at_ (hB1115.ext hS_b14.ext) (by omega)
        (refine jJ (eS rfl) (jz (jjB (jjC (jN rfl rfl rfl (jN rfl rfl rfl ?_))))))
        refine Ops.deleteN (k := (i : Int)) hM16 rfl rfl ?_
        intro w17 o17 hp17 hM17
        have hOn17 := hOn16.trans (.ofPut hp17)
        have hO17 := (Only.ofPut hp17).own' hD16 (hD16.blockM hM16)
        have hOo17 := (Only.ofPut hp17).own' hOo16 (hOo16.blockM hM16)
        have z17 := hOn17.size
        (refine jz (jjC (jI rfl (jI (eI rfl) (jI (eI rfl) ?_)))))
        (refine jjS (cells := [.int .i64 ((f : Nat) : Int), .int .i64 ((t : Nat) : Int)]) ?_ ?_; exact rfl)
        (refine jjP (v := .agg _) rfl (by exact rfl) (by exact rfl) (by exact rfl) (by exact rfl) ?_; intro b18 w_b18 hb_b18 hs_b18 hS_b18 hk_b18; have hR_b18 := RowV.one (agg := true) (k := 2) rfl hk_b18)
        have z18 := hS_b18.size
        have hO18 := hO17.ext hS_b18.ext
        have hM18 := hM17.ext hS_b18.ext
        refine Ops.appendL (hOo17.ext hS_b18.ext) (by omega) hR_b18 rfl rfl rfl rfl rfl ?_ ?_ ?_
        · simp only [List.length_map, List.length_cons, List.length_nil]; omega
        · simp only [List.length_map, List.length_cons, List.length_nil]; omega
        intro v19 w19 hA19 hO19 _ _
        (refine jJ rfl (jz (jjC (jY rfl rfl (by omega) (jI (eI rfl) (jz ?_))))))
        refine ⟨rfl, by (((iterate 43 refine Same.upd rfl ?_); exact Same.ovN)), d.length - (i + 1), by omega, i + 1, _, v19, congrArg (Value.int .i64) (by omega), rfl, rfl, rfl, by omega, (hOn17.trans (.ofExt hS_b18.ext)).app hA19 (Nat.le_refl _), hM18.app hA19 ((hOo17.ext hS_b18.ext).blockM hM18), ?_, ?_, ?_⟩
        · rw [hnx]; exact hF.del _
        · rw [hnx]; exact hO18.app hA19 (hO18.ne (hOo17.ext hS_b18.ext) (by decide))
        · rw [hnx, List.map_append]; exact hO19
  · obtain rfl : i = d.length := by omega
    obtain ⟨oa, oc, rfl⟩ := hOo.slice
    rw [List.length_map]
    rw [List.length_map] at hOo
    have hEw : Ext w V3 := hOn.ext hE5 zmb
    (refine jjB (jjC (jja rfl rfl (by omega) (jz (jjB (jjK rfl ?_))))); refine jjE (jjB (jjC (jI (eS rfl) (jJ (eS rfl) (jJ (eI rfl) ?_))))); refine jz (jjF ?_); refine jC rfl rfl rfl ⟨inferInstance, ?_⟩)
    exact ⟨_, 0, oa, oc, rfl, hOo.row, .inr ⟨hd, rfl, C, hC, by rw [hKe]⟩⟩

theorem slips_law6 (w : World) : Ct Tryz.prog 23 [] w fun v w' => ∃ b, v = .slice (some ⟨b, 0, none⟩) 4 4 ∧ RowV w' true 6 (.slice (some ⟨b, 0, none⟩) 4 4) (exS.map encSl) := by
  refine Ct.ofW (by simp) ?_
  (refine jjB (jjC (jJ (eS rfl) (jz (jjB (jjC ?_))))))
  (refine jjS (cells := [.int .i64 0, .int .i64 0, .int .i64 0, .string xSea, .string ⟨#[]⟩, .string ⟨#[]⟩]) ?_ ?_; exact rfl)
  (refine jjS (cells := [.int .i64 0, .int .i64 0, .int .i64 0, .string xOld, .string ⟨#[]⟩, .string ⟨#[]⟩]) ?_ ?_; exact rfl)
  (refine jjS (cells := [.int .i64 0, .int .i64 0, .int .i64 0, .string xSea, .string ⟨#[]⟩, .string xIs]) ?_ ?_; exact rfl)
  (refine jjS (cells := [.int .i64 0, .int .i64 0, .int .i64 0, .string xAnd, .string ⟨#[]⟩, .string ⟨#[]⟩]) ?_ ?_; exact rfl)
  refine Ops.buildSliceF (cells := exS.flatMap fun x => (encSl x).cells.toList) rfl rfl rfl ?_
  intro b w2 hb2 hs2 hS2 hk2
  (refine jJ (eS rfl) (jz (jjF ?_)); refine jB rfl rfl ⟨inferInstance, ?_⟩)
  refine ⟨b, rfl, ?_⟩
  exact Bk.rows (xs := exS.map encSl) hk2 (by simp [exS, fitsV]) (by simp [exS])
section
variable (b : Nat) (w : World) (h : RowV w false 1 (.slice (some ⟨b, 0, none⟩) 4 4) (exD.map intV))
include h
theorem exd_row : RowI w (.slice (some ⟨b, 0, none⟩) exD.length 4) false 1 (exD.map intV) := ⟨h⟩
theorem ex_runs : Ct Tryz.prog 32 [.slice (some ⟨b, 0, none⟩) 4 4] w fun v w' => ∃ a c, v = .tuple #[.slice a 4 c, .int .i64 0] ∧ RowV w' false 1 (.slice a 4 c) (([2, 0, 1, 0] : List Int).map intV) := by
  have := exd_row b w h
  refine Ct.mono (Runs_rack (some ⟨b, 0, none⟩) 4 exD w (by decide)) fun v w' _ h => ?_
  unfold RunsR at h
  rw [exD_open.1, if_pos rfl, exD_num] at h
  exact h
theorem ex_passes2 : Ct Tryz.prog 14 [.slice (some ⟨b, 0, none⟩) 4 4, .int .i64 2] w fun v w' => v = .tuple #[.int .i64 2, .int .i64 0] := by
  have := exd_row b w h
  refine Ct.mono (Passes_rack (some ⟨b, 0, none⟩) 4 exD 2 w (by decide)) fun v w' _ h => ?_
  obtain ⟨p, hp, rfl⟩ := h
  rw [exD_open.1, if_pos rfl] at hp
  rw [exD_open.1, exD_pass2 hp]; rfl
theorem ex_plan2 : Ct Tryz.prog 16 [.slice (some ⟨b, 0, none⟩) 4 4, .int .i64 2] w fun v w' => ∃ (a : Option Addr) (c : Nat) (rs : List Rw), v = .tuple #[.slice a rs.length c, .int .i64 0] ∧ rs.map (·.2.2) = [[0, 0, 1, 0], [1, 0, 0, 0]] ∧ RowV w' false 1 (.slice a rs.length c) (rs.map encW) ∧ RowsI w' rs := by
  have := exd_row b w h
  refine Ct.mono (Plan_rack (some ⟨b, 0, none⟩) 4 exD 2 w (by decide)) fun v w' _ h => ?_
  rcases h with ⟨h1, _⟩ | ⟨_, p, a, c, rs, hp, rfl, h2, h3, h4⟩
  · exact absurd exD_open.1 h1
  · obtain rfl := exD_pass2 hp
    exact ⟨a, c, rs, rfl, h2.trans exD_plan2, h3, h4⟩
theorem ex_sort (a : Option Addr) (c : Nat) (rs : List Rw) (hr : rs.map (·.2.2) = [[0, 0, 1, 0], [1, 0, 0, 0]]) [h1 : RowI w (.slice a rs.length c) false 1 (rs.map encW)] [h2 : RowsI w rs] : Ct Tryz.prog 20 [.slice (some ⟨b, 0, none⟩) 4 4, .int .i64 2, .slice a rs.length c] w fun v w' => ∃ a c, v = .tuple #[.slice a 4 c, .int .i64 0] ∧ RowV w' false 1 (.slice a 4 c) (([1, 3, 2, 0] : List Int).map intV) := by
  have := exd_row b w h
  have hl : rs.length = 2 := by have := congrArg List.length hr; simpa using this
  refine Ct.mono (Sort_rack (some ⟨b, 0, none⟩) a 4 c exD 2 rs w (by decide) (by omega)) fun v w' _ h => ?_
  have hpb : planBad exD.length 2 rs = false := by
    match rs, hr with
    | [x, y], hr =>
      simp only [List.map_cons, List.map_nil, List.cons.injEq, and_true] at hr
      obtain ⟨x1, x2, x3⟩ := x
      obtain ⟨y1, y2, y3⟩ := y
      obtain ⟨e1, e2⟩ := hr
      simp only at e1 e2
      subst e1 e2
      rfl
  rcases h with ⟨h1, _⟩ | ⟨_, h1, _⟩ | ⟨_, _, av, cv, rfl, hO⟩
  · exact absurd exD_open.1 h1
  · rw [hpb] at h1; exact absurd h1 (by decide)
  · rw [sortF_P, hr] at hO
    have := hO.row
    rw [show sortP exD.length [[0, 0, 1, 0], [1, 0, 0, 0]] = [1, 3, 2, 0] from exD_sort] at this
    exact ⟨av, cv, rfl, this⟩
theorem ex_proof2 : Ct Tryz.prog 17 [.slice (some ⟨b, 0, none⟩) 4 4, .int .i64 2] w fun v w' => ∃ a c, v = .tuple #[.slice a 2 c, .int .i64 0] ∧ RowV w' true 2 (.slice a 2 c) (([(3, 2), (2, 0)] : List (Int × Int)).map encII) := by
  have := exd_row b w h
  refine Ct.mono (Proof_rack (some ⟨b, 0, none⟩) 4 exD 2 w (by decide)) fun v w' _ h => ?_
  obtain ⟨l, e, a, c, rfl, hR, h1 | ⟨_, h1, _⟩ | ⟨_, p, h1, rfl, rfl⟩⟩ := h
  · exact absurd exD_open.1 h1.1
  · exact absurd (exD_pass2 h1) (by decide)
  · have hp := exD_pass2 h1
    obtain rfl : p = 1 := by omega
    rw [exD_end] at hR
    exact ⟨a, c, by rw [exD_end]; rfl, hR⟩
theorem ex_keep : Ct Tryz.prog 36 [.slice (some ⟨b, 0, none⟩) 4 4] w fun v w' => ∃ a c, v = .tuple #[.slice a 2 c, .int .i64 0] ∧ RowV w' false 1 (.slice a 2 c) (([1, 2] : List Int).map intV) := by
  have := exd_row b w h
  refine Ct.mono (Keep_rack (some ⟨b, 0, none⟩) 4 exD w (by decide)) fun v w' _ h => ?_
  obtain ⟨l, e, a, c, rfl, hR, ⟨h1, _⟩ | ⟨_, rfl, C, hC, rfl⟩⟩ := h
  · rw [exD_open.2.2] at h1; exact absurd h1 (by decide)
  · rw [exD_keep hC] at hR
    exact ⟨a, c, by rw [exD_keep hC]; rfl, hR⟩
theorem ex_chains : Ct Tryz.prog 40 [.slice (some ⟨b, 0, none⟩) 4 4] w fun v w' => ∃ a c, v = .tuple #[.slice a 4 c, .int .i64 0] ∧ RowV w' false 1 (.slice a 4 c) (([0, 0, 1, 1] : List Int).map intV) := by
  have := exd_row b w h
  refine Ct.mono (Chains_rack (some ⟨b, 0, none⟩) 4 exD w (by decide)) fun v w' _ h => ?_
  obtain ⟨l, e, a, c, rfl, hR, ⟨h1, _⟩ | ⟨_, hC, rfl⟩⟩ := h
  · rw [exD_open.2.2] at h1; exact absurd h1 (by decide)
  · obtain rfl := hC.uniq exD_chain
    exact ⟨a, c, rfl, hR⟩
theorem ex_mend : Ct Tryz.prog 35 [.slice (some ⟨b, 0, none⟩) 4 4] w fun v w' => ∃ a c, v = .tuple #[.slice a 2 c, .int .i64 0] ∧ RowV w' true 2 (.slice a 2 c) (([(0, 3), (2, 1)] : List (Int × Int)).map encII) := by
  have := exd_row b w h
  refine Ct.mono (Mend_rack (some ⟨b, 0, none⟩) 4 exD w (by decide)) fun v w' _ h => ?_
  obtain ⟨l, e, a, c, rfl, hR, ⟨h1, _⟩ | ⟨_, rfl, C, hC, hl⟩⟩ := h
  · rw [exD_open.2.2] at h1; exact absurd h1 (by decide)
  · rw [exD_mend hC] at hl
    subst hl
    exact ⟨a, c, rfl, hR⟩
set_option maxHeartbeats 1000000 in
theorem ex_moved (a : Option Addr) (c : Nat) (hm : RowV w true 2 (.slice a 2 c) (([(0, 3), (2, 1)] : List (Int × Int)).map encII)) : Ct Tryz.prog 21 [.slice (some ⟨b, 0, none⟩) 4 4, .slice a 2 c] w fun v w' => ∃ a c, v = .tuple #[.slice a 4 c, .int .i64 0] ∧ RowV w' false 1 (.slice a 4 c) (([1, 3, 2, 0] : List Int).map intV) := by
  have := exd_row b w h
  have : RowI w (.slice a ([(0, 3), (2, 1)] : List (Int × Int)).length c) true 2 (([(0, 3), (2, 1)] : List (Int × Int)).map encII) := ⟨hm⟩
  refine Ct.mono (Moved_rack (some ⟨b, 0, none⟩) a 4 c exD [(0, 3), (2, 1)] w (by decide) (by decide)) fun v w' _ h => ?_
  obtain ⟨l, e, a', c', rfl, hR, ⟨h1, _⟩ | ⟨_, h1, _⟩ | ⟨_, _, h1, _⟩ | ⟨_, _, _, rfl, rfl⟩⟩ := h
  · rw [exD_open.2.2] at h1; exact absurd h1 (by decide +kernel)
  · exact absurd h1 (by decide +kernel)
  · exact absurd h1 (by decide +kernel)
  · rw [show movedF exD.length [(0, 3), (2, 1)] = [1, 3, 2, 0] from exD_moved] at hR
    exact ⟨a', c', by rw [show movedF exD.length [(0, 3), (2, 1)] = [1, 3, 2, 0] from exD_moved]; rfl, hR⟩
end
section
variable (b : Nat) (w : World) (h : RowV w true 6 (.slice (some ⟨b, 0, none⟩) 4 4) (exS.map encSl)) [hgb : At w 0 0 bysC] [hmx : MxI w]
include h
omit hgb hmx in
theorem exs_row : RowI w (.slice (some ⟨b, 0, none⟩) exS.length 4) true 6 (exS.map encSl) := ⟨h⟩
theorem ex_ranks : Ct Tryz.prog 22 [.slice (some ⟨b, 0, none⟩) 4 4, .int .u8 2] w fun v w' => ∃ a c, v = .tuple #[.slice a 4 c, .int .i64 0] ∧ RowV w' false 1 (.slice a 4 c) (([2, 1, 2, 0] : List Int).map intV) := by
  have := exs_row b w h
  refine Ct.mono (Ranks_rack (some ⟨b, 0, none⟩) 4 exS 2 w (fun e => absurd e (by decide)) exS_small (by decide)) fun v w' _ h => ?_
  obtain ⟨a, c, rfl, hO⟩ := h
  rw [exS_ranks] at hO ⊢
  exact ⟨a, c, rfl, hO.row⟩
theorem ex_file : Ct Tryz.prog 24 [.slice (some ⟨b, 0, none⟩) 4 4, .int .u8 2, .int .i64 2] w fun v w' => ∃ a c, v = .tuple #[.slice a 4 c, .int .i64 2, .int .i64 0] ∧ RowV w' true 6 (.slice a 4 c) ((fileL exS 2 2).map encSl) := by
  have := exs_row b w h
  refine Ct.mono (File_rack (some ⟨b, 0, none⟩) 4 exS 2 2 w (fun e => absurd e (by decide)) exS_small (by decide)) fun v w' _ h => ?_
  obtain ⟨p, a, c, hp, rfl, hO⟩ := h
  obtain rfl := exS_pass hp
  have e4 : (fileL exS 2 2).length = 4 := by rw [exS_file]; rfl
  rw [exS_err]
  rw [e4] at hO ⊢
  exact ⟨a, c, rfl, hO.row⟩
end

section
variable (a : Option Addr) (c : Nat) (d : List Int) (w : World) [hrow : RowI w (.slice a d.length c) false 1 (d.map intV)]
end

/-! Plans -/
section
variable (pa : Option Addr) (pc : Nat) (rs : List Rw) (w : World) [hp : RowI w (.slice pa rs.length pc) false 1 (rs.map encW)] [hrs : RowsI w rs]
theorem SameLists_yes (qa : Option Addr) (qc : Nat) (ts : List Rw) [ht : RowI w (.slice qa ts.length qc) false 1 (ts.map encW)] [hts : RowsI w ts] (he : ts.map (·.2.2) = rs.map (·.2.2)) (hrl : rs.length ≤ 1000000) :
    Ct Tryz.prog 18 [.slice pa rs.length pc, .slice qa ts.length qc] w fun v _ => v = .bool true := by
  have hl : ts.length = rs.length := by have := congrArg List.length he; simpa using this
  refine Ct.ofW (by simp) ?_
  (refine jjB (jjC (jJ (eB rfl) (jz (jjB (jjB ?_))))); refine jjC (jI (eS rfl) (jh rfl (jI (eS rfl) (jh rfl (jjk rfl rfl (by omega) ?_))))); refine jz (jjK rfl (jjG (jjB (jjB (jjC ?_))))); refine jJ (eI rfl) (jz (jjD ?_)))
  refine W.loop (11 :: 12 :: 13 :: 14 :: 17 :: 18 :: 19 :: 20 :: 21 :: 22 :: 23 :: 24 :: 25 :: 26 :: 4 :: 15 :: 16 :: 5 :: []) (fun g s' V => ∃ k : Nat, s' 5 = .int .i64 ((k : Nat) : Int) ∧ g = rs.length - k ∧ k ≤ rs.length) rs.length ⟨0, rfl, rfl, Nat.zero_le _⟩ ?_
  rintro _ sd w1 hS1 ⟨k, h5, rfl, hk⟩
  refine W.fix h5 ?_
  clear h5
  repeat' (first|((first|apply jI|apply jJ); (first|exact eI rfl|exact eB rfl|exact eS rfl))|(refine jW (jX rfl rfl ?_))|(refine jg (jh rfl ?_))|refine jz ?_|(refine jjA ?_; (first|refine jjB ?_|refine jjC ?_|refine jjD ?_|refine jjE ?_|refine jjF ?_|refine jjG ?_))|(refine jjA ?_; (refine jjN rfl ?_ ?_ <;> intro _))|refine jB rfl rfl ⟨inferInstance, ?_⟩)
  · have k1 : k < rs.length := by omega
    have k2 : k < ts.length := by omega
    refine W.draw (fun w' => Ext w1 w') ?_
    intro w2 hS2
    obtain ⟨q1, o1, rfl, hA1⟩ := (hp.h.ext hS1.ext).place' (map_get k1)
    obtain ⟨q2, o2, rfl, hA2⟩ := (ht.h.ext hS1.ext).place' (map_get k2)
    rw [Nat.mul_one] at hA1 hA2
    refine jjV [0, 1, 2, 3, 4, 5, 6, 7] (by decide +kernel) hS2.ext ?_
    (((apply jjT; exact rfl; rintro w' hq; have := hq.toStep; refine jI (eS rfl) (jz ?_); exact ⟨rfl, rfl⟩; apply jjT; exact rfl; rintro w' hq; have := hq.toStep; refine jI (eI rfl) (jz ?_); exact ⟨rfl, rfl⟩; apply jjT; exact rfl; rintro w' hq; have := hq.toStep; refine jG rfl rfl rfl (by omega) (jz ?_); exact ⟨rfl, rfl⟩; apply jjT; exact rfl; rintro w' hq; have := hq.toStep; refine jQ rfl rfl (jz ?_); exact ⟨rfl, rfl⟩; apply jjT; exact rfl; rintro w' hq; have := hq.toStep; refine jI (eS rfl) (jz ?_); exact ⟨rfl, rfl⟩; apply jjT; exact rfl; rintro w' hq; have := hq.toStep; refine jI (eI rfl) (jz ?_); exact ⟨rfl, rfl⟩; apply jjT; exact rfl; rintro w' hq; have := hq.toStep; refine jG rfl rfl rfl (by omega) (jz ?_); exact ⟨rfl, rfl⟩; apply jjT; exact rfl; rintro w' hq; have := hq.toStep; refine jQ rfl rfl (jz ?_); exact ⟨rfl, rfl⟩; refine jjU ?_)))
    apply jjW 8 (by decide +kernel) rfl hS2.ext
    have e : rs[k].2.2 = ts[k].2.2 := by
      have h1 : (ts.map (·.2.2))[k]? = (rs.map (·.2.2))[k]? := by rw [he]
      simp [k1, k2] at h1
      exact h1.symm
    have hE2 := hS1.ext.trans hS2.ext
    have i1 := (hrs.ext hE2).get k1
    have i2 := (hts.ext hE2).get k2
    have hc : Ct Tryz.prog 34 [encW rs[k], encW ts[k]] w2 fun v _ => v = .bool true := (SameInts_ref rs[k].1 ts[k].1 rs[k].2.1 ts[k].2.1 rs[k].2.2 ts[k].2.2 w2).mono fun v _ _ e' => e'.trans (by rw [decide_eq_true e])
    refine jjQ hc rfl rfl ?_
    rintro _ w3 hS3 rfl
    refine jz ?_
    have hE3 := hS2.ext.trans hS3.ext
    refine jjV [9] (by decide +kernel) hE3 ?_
    (((apply jjT; exact rfl; rintro w' hq; refine jp rfl (jz ?_); exact ⟨rfl, rfl⟩; refine jjU ?_)))
    refine jjX (by decide +kernel) hE3 ?_
    (refine jjK rfl (jjG (jjC (jI (eI rfl) (jY rfl rfl (by omega) (jJ (eI rfl) ?_))))); refine jz ?_)
    exact ⟨rfl, by (((iterate 18 refine Same.upd rfl ?_); exact Same.ovN)), rs.length - (k + 1), by omega, hS1.ext.trans hE3, k + 1, congrArg (Value.int .i64) (by omega), rfl, by omega⟩
  · exact rfl
end

section
variable (a : Option Addr) (c : Nat) (d : List Int) (w : World) [hrow : RowI w (.slice a d.length c) false 1 (d.map intV)]
end

instance eqPair : EqT Tryz.prog 36 encII := eqT_arr2 Tryz.underlying36 inferInstance (inferInstance : TS Tryz.prog 3 _ 1 _) (by kernel_rfl)

section
variable (a : Option Addr) (c : Nat) (d : List Int) (w : World) [hrow : RowI w (.slice a d.length c) false 1 (d.map intV)]
end

theorem SamePairs_yes (a1 a2 : Option Addr) (c1 c2 : Nat) (l : List (Int × Int)) (w : World) (hl : l.length ≤ 1000000) [h1 : RowI w (.slice a1 l.length c1) true 2 (l.map encII)] [h2 : RowI w (.slice a2 l.length c2) true 2 (l.map encII)] :
    Ct Tryz.prog 19 [.slice a1 l.length c1, .slice a2 l.length c2] w fun v _ => v = .bool true := by
  refine Ct.ofW (by simp) ?_
  (refine jjB (jjC (jJ (eB rfl) (jz (jjB (jjB ?_))))); refine jjC (jI (eS rfl) (jh rfl (jI (eS rfl) (jh rfl (jjk rfl rfl (by omega) ?_))))); refine jz (jjK rfl (jjG (jjB (jjB (jjC ?_))))); refine jJ (eI rfl) (jz (jjD ?_)))
  refine W.loop (11 :: 12 :: 13 :: 14 :: 17 :: 18 :: 19 :: 20 :: 21 :: 22 :: 23 :: 24 :: 25 :: 4 :: 15 :: 16 :: 5 :: []) (fun g s' V => ∃ k : Nat, s' 5 = .int .i64 ((k : Nat) : Int) ∧ g = l.length - k ∧ k ≤ l.length) l.length ⟨0, rfl, rfl, Nat.zero_le _⟩ ?_
  rintro _ sd w1 hS1 ⟨k, h5, rfl, hk⟩
  refine W.fix h5 ?_
  clear h5
  by_cases k1 : k < l.length
  · (refine jjB (jjB (jjC (jI (eI rfl) (jI (eS rfl) (jh rfl ?_))))); refine jjZ rfl rfl (by omega) (jz (jjJ rfl (jjG (jjB (jjD ?_))))); refine jjB ?_)
    refine W.draw (fun w' => Ext w1 w') ?_
    intro w2 hS2
    have hz := (h1.h.ext hS1.ext).place' (map_get k1)
    obtain ⟨q1, o1, rfl, hA1⟩ := hz
    have hz := (h2.h.ext hS1.ext).place' (map_get k1)
    obtain ⟨q2, o2, rfl, hA2⟩ := hz
    refine jjV [0, 1, 2, 3, 4, 5, 6, 7] (by decide +kernel) hS2.ext ?_
    (((apply jjT; exact rfl; rintro w' hq; have := hq.toStep; refine jI (eS rfl) (jz ?_); exact ⟨rfl, rfl⟩; apply jjT; exact rfl; rintro w' hq; have := hq.toStep; refine jI (eI rfl) (jz ?_); exact ⟨rfl, rfl⟩; apply jjT; exact rfl; rintro w' hq; have := hq.toStep; refine jH _ rfl rfl rfl (by omega) (jz ?_); exact ⟨rfl, rfl⟩; apply jjT; exact rfl; rintro w' hq; have := hq.toStep; refine jQ rfl rfl (jz ?_); exact ⟨rfl, rfl⟩; apply jjT; exact rfl; rintro w' hq; have := hq.toStep; refine jI (eS rfl) (jz ?_); exact ⟨rfl, rfl⟩; apply jjT; exact rfl; rintro w' hq; have := hq.toStep; refine jI (eI rfl) (jz ?_); exact ⟨rfl, rfl⟩; apply jjT; exact rfl; rintro w' hq; have := hq.toStep; refine jH _ rfl rfl rfl (by omega) (jz ?_); exact ⟨rfl, rfl⟩; apply jjT; exact rfl; rintro w' hq; have := hq.toStep; refine jQ rfl rfl (jz ?_); exact ⟨rfl, rfl⟩; refine jjU ?_)))
    apply jjW 8 (by decide +kernel) rfl hS2.ext
    refine Ops.neqTN (enc := encII) l[k] rfl rfl ?_
    refine jz ?_
    refine jjX (by decide +kernel) hS2.ext ?_
    (refine jjK rfl (jjG (jjC (jI (eI rfl) (jY rfl rfl (by omega) (jJ (eI rfl) ?_))))); refine jz ?_)
    exact ⟨rfl, by (((iterate 17 refine Same.upd rfl ?_); exact Same.ovN)), l.length - (k + 1), by omega, hS1.ext.trans hS2.ext, k + 1, congrArg (Value.int .i64) (by omega), rfl, by omega⟩
  · (refine jjB (jjB (jjC (jI (eI rfl) (jI (eS rfl) (jh rfl ?_))))); refine jja rfl rfl (by omega) (jz (jjK rfl (jjE (jjB (jjC ?_))))); refine jJ (eB rfl) (jz (jjF ?_)); refine jB rfl rfl ⟨inferInstance, ?_⟩)
    exact rfl

/-- A new row of zeros. -/
theorem SD.make {w : World} {b n e : Nat} (h : Bk w b (List.replicate n (.int .i64 0)) e) (hn : n ≤ 1000000) : SD e w b n n (List.replicate n 0) := by
  have hm : maxLen = 9223372036854775807 := rfl
  refine ⟨by simp, OwnL.ofCells h (by simp) (Nat.le_refl _) (by omega) ?_ (by omega) (Nat.le_refl _) (int_fit _)⟩
  rw [List.take_of_length_le (by simp)]; simp

section
variable (a : Option Addr) (c : Nat) (d : List Int) (w : World) [hrow : RowI w (.slice a d.length c) false 1 (d.map intV)]
end

section
variable (a : Option Addr) (c : Nat) (d : List Int) (w : World) [hrow : RowI w (.slice a d.length c) false 1 (d.map intV)]
end

section
variable (pa : Option Addr) (pc : Nat) (ms : List (Int × Int)) (w : World) [hp : RowI w (.slice pa ms.length pc) true 2 (ms.map encII)]
end

theorem SameMoves_yes (a1 a2 : Option Addr) (c1 c2 : Nat) (l : List (Int × Int)) (w : World) (hl : l.length ≤ 1000000) [h1 : RowI w (.slice a1 l.length c1) true 2 (l.map encII)] [h2 : RowI w (.slice a2 l.length c2) true 2 (l.map encII)] :
    Ct Tryz.prog 52 [.slice a1 l.length c1, .slice a2 l.length c2] w fun v _ => v = .bool true := by
  refine Ct.ofW (by simp) ?_
  (refine jjB (jjC (jJ (eB rfl) (jz (jjB (jjB ?_))))); refine jjC (jI (eS rfl) (jh rfl (jI (eS rfl) (jh rfl (jjk rfl rfl (by omega) ?_))))); refine jz (jjK rfl (jjG (jjB (jjB (jjC ?_))))); refine jJ (eI rfl) (jz (jjD ?_)))
  refine W.loop (11 :: 12 :: 13 :: 14 :: 17 :: 18 :: 19 :: 20 :: 21 :: 22 :: 23 :: 24 :: 25 :: 4 :: 15 :: 16 :: 5 :: []) (fun g s' V => ∃ k : Nat, s' 5 = .int .i64 ((k : Nat) : Int) ∧ g = l.length - k ∧ k ≤ l.length) l.length ⟨0, rfl, rfl, Nat.zero_le _⟩ ?_
  rintro _ sd w1 hS1 ⟨k, h5, rfl, hk⟩
  refine W.fix h5 ?_
  clear h5
  by_cases k1 : k < l.length
  · (refine jjB (jjB (jjC (jI (eI rfl) (jI (eS rfl) (jh rfl ?_))))); refine jjZ rfl rfl (by omega) (jz (jjJ rfl (jjG (jjB (jjD ?_))))); refine jjB ?_)
    refine W.draw (fun w' => Ext w1 w') ?_
    intro w2 hS2
    have hz := (h1.h.ext hS1.ext).place' (map_get k1)
    obtain ⟨q1, o1, rfl, hA1⟩ := hz
    have hz := (h2.h.ext hS1.ext).place' (map_get k1)
    obtain ⟨q2, o2, rfl, hA2⟩ := hz
    refine jjV [0, 1, 2, 3, 4, 5, 6, 7] (by decide +kernel) hS2.ext ?_
    (((apply jjT; exact rfl; rintro w' hq; have := hq.toStep; refine jI (eS rfl) (jz ?_); exact ⟨rfl, rfl⟩; apply jjT; exact rfl; rintro w' hq; have := hq.toStep; refine jI (eI rfl) (jz ?_); exact ⟨rfl, rfl⟩; apply jjT; exact rfl; rintro w' hq; have := hq.toStep; refine jH _ rfl rfl rfl (by omega) (jz ?_); exact ⟨rfl, rfl⟩; apply jjT; exact rfl; rintro w' hq; have := hq.toStep; refine jQ rfl rfl (jz ?_); exact ⟨rfl, rfl⟩; apply jjT; exact rfl; rintro w' hq; have := hq.toStep; refine jI (eS rfl) (jz ?_); exact ⟨rfl, rfl⟩; apply jjT; exact rfl; rintro w' hq; have := hq.toStep; refine jI (eI rfl) (jz ?_); exact ⟨rfl, rfl⟩; apply jjT; exact rfl; rintro w' hq; have := hq.toStep; refine jH _ rfl rfl rfl (by omega) (jz ?_); exact ⟨rfl, rfl⟩; apply jjT; exact rfl; rintro w' hq; have := hq.toStep; refine jQ rfl rfl (jz ?_); exact ⟨rfl, rfl⟩; refine jjU ?_)))
    apply jjW 8 (by decide +kernel) rfl hS2.ext
    refine Ops.neqTN (enc := encII) l[k] rfl rfl ?_
    refine jz ?_
    refine jjX (by decide +kernel) hS2.ext ?_
    (refine jjK rfl (jjG (jjC (jI (eI rfl) (jY rfl rfl (by omega) (jJ (eI rfl) ?_))))); refine jz ?_)
    exact ⟨rfl, by (((iterate 17 refine Same.upd rfl ?_); exact Same.ovN)), l.length - (k + 1), by omega, hS1.ext.trans hS2.ext, k + 1, congrArg (Value.int .i64) (by omega), rfl, by omega⟩
  · (refine jjB (jjB (jjC (jI (eI rfl) (jI (eS rfl) (jh rfl ?_))))); refine jja rfl rfl (by omega) (jz (jjK rfl (jjE (jjB (jjC ?_))))); refine jJ (eB rfl) (jz (jjF ?_)); refine jB rfl rfl ⟨inferInstance, ?_⟩)
    exact rfl

section
variable {P : Program} {ro : Option Nat} {n : Nat} {all : List Oper} {S : World → Prop} {K : Sl → World → Prop}
theorem Ops1.mono {o : Oper} {s : Sl} {w : World} {K K' : Sl → World → Prop} (h : Ops P ro n all [o] K s w) (hk : ∀ s w, K s w → K' s w) : Ops P ro n all [o] K' s w := by
  rw [op1_ops] at h ⊢
  exact h.mono fun v w' h => hk _ _ h
theorem upd_swap {s : Sl} {d1 d2 : Nat} {v1 v2 : Value} (h : d1 ≠ d2) : upd (upd s d2 v2) d1 v1 = upd (upd s d1 v1) d2 v2 := by
  funext i
  simp only [upd]
  cases h1 : Nat.beq i d1 <;> cases h2 : Nat.beq i d2 <;> simp only [cond_true, cond_false]
  rw [Nat.eq_of_beq_eq_true h1] at h2
  exact absurd (Nat.eq_of_beq_eq_true h2) h
theorem AnyS.joinB (i j : Nat) {o q : Oper} {fuel : Nat} {listed : Array Bool} {s : Sl} {w : World} {d1 d2 : Nat} (hne : d1 ≠ d2) (f1 f2 : Nat → Value) (F : Nat → Nat → World → Prop)
    (hr : (Nat.blt 1 fuel && (Region.ready .any all.toArray listed == [i, j]) && (Region.ready .any all.toArray (listed.setIfInBounds i true) == [j]) && (Region.ready .any all.toArray (listed.setIfInBounds j true) == [i]) && ((listed.setIfInBounds j true).setIfInBounds i true == (listed.setIfInBounds i true).setIfInBounds j true)) = true)
    (ho : all[i]? = some o) (hq : all[j]? = some q) (hS : S w)
    (h1 : Ops P ro n all [o] (fun s1 w1 => S w1 ∧ Ops P ro n all [q] (fun s2 w2 => ∃ b1 b2, s2 = upd (upd s d1 (f1 b1)) d2 (f2 b2) ∧ F b1 b2 w2) s1 w1) s w)
    (h2 : Ops P ro n all [q] (fun s1 w1 => S w1 ∧ Ops P ro n all [o] (fun s2 w2 => ∃ b1 b2, s2 = upd (upd s d2 (f2 b2)) d1 (f1 b1) ∧ F b1 b2 w2) s1 w1) s w)
    (hk : ∀ b1 b2 w2, F b1 b2 w2 → AnyS P ro n all S K (fuel - 1 - 1) ((listed.setIfInBounds i true).setIfInBounds j true) (upd (upd s d1 (f1 b1)) d2 (f2 b2)) w2) : AnyS P ro n all S K fuel listed s w := by
  simp only [Bool.and_eq_true, beq_iff_eq] at hr
  obtain ⟨⟨⟨⟨hf, r1⟩, r2⟩, r3⟩, r4⟩ := hr
  have hf : 1 < fuel := by simpa using hf
  refine jjl i j (by simp [r1]; omega) ho hq hS (Ops1.mono h1 fun s1 w1 ⟨g1, g2⟩ => jjW j (by simp [r2]; omega) hq g1 (Ops1.mono g2 ?_)) (Ops1.mono h2 fun s1 w1 ⟨g1, g2⟩ => jjW i (by simp [r3]; omega) ho g1 (Ops1.mono g2 ?_))
  · rintro s2 w2 ⟨b1, b2, rfl, hF⟩
    exact hk b1 b2 w2 hF
  · rintro s2 w2 ⟨b1, b2, rfl, hF⟩
    rw [r4, upd_swap hne]
    exact hk b1 b2 w2 hF
end

/-- Of an operation: what it stands behind, what it sets, what it looks at: as bits. -/
abbrev RowN := Nat × Nat × Nat
def bitsL (l : List Nat) : Nat := l.foldr (fun x m => 2 ^ x ||| m) 0
theorem bitsL_test (l : List Nat) (i : Nat) : (bitsL l).testBit i = decide (i ∈ l) := by
  induction l with
  | nil => simp [bitsL]
  | cons x l ih =>
    rw [bitsL, List.foldr_cons, Nat.testBit_or, ← bitsL, ih, Nat.testBit_two_pow]
    by_cases h : x = i
    · simp [h]
    · have : i ≠ x := fun e => h e.symm
      simp [h, this]
def rowOf (ops : Array Oper) (o : Oper) : RowN := (bitsL ((o.after.toList.filter fun e => Region.binds .any e).map (·.on)), (match o.dst with | some d => 2 ^ d | none => 0), bitsL (o.looksAt ops))
def rowsOf (all : List Oper) : List RowN := all.map (rowOf all.toArray)
def apartN (x y : RowN) : Bool := Nat.beq (x.2.1 &&& y.2.2) 0 && (Nat.beq x.2.1 0 || !Nat.beq x.2.1 y.2.1) && Nat.beq (y.2.1 &&& x.2.2) 0
theorem and_zero_test {a b i : Nat} (h : Nat.beq (a &&& b) 0 = true) (ha : a.testBit i = true) : b.testBit i = false := by
  have h0 := Nat.eq_of_beq_eq_true h
  have := congrArg (fun m => Nat.testBit m i) h0
  simpa [Nat.testBit_and, ha] using this
theorem apartN_ok {ops : Array Oper} {x y : Oper} (h : apartN (rowOf ops x) (rowOf ops y) = true) : x.apart ops y = true := by
  simp only [apartN, Bool.and_eq_true] at h
  obtain ⟨⟨h1, h2⟩, h3⟩ := h
  have look : ∀ (u v : Oper) (d : Nat), Nat.beq ((rowOf ops u).2.1 &&& (rowOf ops v).2.2) 0 = true → u.dst = some d → ((v.looksAt ops).contains d) = false := fun u v d h hd => by
    have e : (rowOf ops u).2.1 = 2 ^ d := by simp [rowOf, hd]
    rw [e] at h
    have := and_zero_test (i := d) h (by simp [Nat.testBit_two_pow])
    rw [show (rowOf ops v).2.2 = bitsL (v.looksAt ops) from rfl, bitsL_test, decide_eq_false_iff_not] at this
    simpa using this
  unfold Oper.apart
  rw [Bool.and_eq_true]
  constructor
  · cases hx : x.dst with
    | none => rfl
    | some d =>
      simp only [Bool.and_eq_true, Bool.not_eq_true', bne_iff_ne, ne_eq]
      refine ⟨look x y d h1 hx, fun hy => ?_⟩
      have ex : (rowOf ops x).2.1 = 2 ^ d := by simp [rowOf, hx]
      have ey : (rowOf ops y).2.1 = 2 ^ d := by simp [rowOf, hy]
      rw [ex, ey] at h2
      have hp : Nat.beq (2 ^ d) 0 = false := by
        cases e : Nat.beq (2 ^ d) 0
        · rfl
        · have := Nat.eq_of_beq_eq_true e
          have := Nat.two_pow_pos d
          omega
      rw [hp, Nat.beq_refl] at h2
      exact absurd h2 (by decide)
  · cases hy : y.dst with
    | none => rfl
    | some d =>
      simp only [Bool.not_eq_true']
      exact look y x d h3 hy
def readyN (M : Nat) : Nat → List RowN → List Nat
  | _, [] => []
  | j, r :: rs => if !M.testBit j && Nat.beq (r.1 &&& M) r.1 then j :: readyN M (j + 1) rs else readyN M (j + 1) rs
def freeN (M i : Nat) (ri : RowN) : Nat → List RowN → Bool
  | _, [] => true
  | j, r :: rs => (Nat.beq j i || M.testBit j || r.1.testBit i || apartN ri r) && freeN M i ri (j + 1) rs
def freeR (R : List RowN) (M i : Nat) : Bool := match R[i]? with
  | none => false
  | some ri => freeN M i ri 0 R
/-- The numbers tell what is listed. -/
structure Lm (listed : Array Bool) (n M : Nat) : Prop where
  sz : listed.size = n
  b : ∀ j, listed.getD j false = M.testBit j
theorem Lm.true_ {listed : Array Bool} {n M j : Nat} (h : Lm listed n M) (hj : j < n) : listed.getD j true = M.testBit j := by
  rw [← h.b j]
  have : j < listed.size := by rw [h.sz]; exact hj
  simp [Array.getD, this]
theorem Lm.set {listed : Array Bool} {n M i : Nat} (h : Lm listed n M) (hi : i < n) : Lm (listed.setIfInBounds i true) n (2 ^ i ||| M) := by
  refine ⟨by simpa using h.sz, fun j => ?_⟩
  have hi' : i < listed.size := by rw [h.sz]; exact hi
  rw [Nat.testBit_or, Nat.testBit_two_pow, ← h.b j]
  by_cases e : i = j
  · subst e
    simp [Array.getD, hi']
  · have hj : (listed.setIfInBounds i true).getD j false = listed.getD j false := by
      simp only [Array.getD_eq_getD_getElem?]
      rw [Array.getElem?_setIfInBounds_ne e]
    rw [hj]; simp [e]
theorem edges_ok {listed : Array Bool} {n M : Nat} {ops : Array Oper} {o : Oper} (h : Lm listed n M) : Nat.beq ((rowOf ops o).1 &&& M) (rowOf ops o).1 = true ↔ ∀ e ∈ o.after, Region.binds .any e = true → listed.getD e.on false = true := by
  constructor
  · intro hb e he hbi
    have h0 := Nat.eq_of_beq_eq_true hb
    have := congrArg (fun m => Nat.testBit m e.on) h0
    have hm : (rowOf ops o).1.testBit e.on = true := by
      rw [show (rowOf ops o).1 = bitsL ((o.after.toList.filter fun e => Region.binds .any e).map (·.on)) from rfl, bitsL_test, decide_eq_true_eq]
      exact List.mem_map.2 ⟨e, List.mem_filter.2 ⟨by simpa using he, hbi⟩, rfl⟩
    simp only [Nat.testBit_and, hm, Bool.true_and] at this
    rw [h.b]; exact this
  · intro hl
    have : (rowOf ops o).1 &&& M = (rowOf ops o).1 := by
      apply Nat.eq_of_testBit_eq
      intro i
      rw [Nat.testBit_and]
      cases hb : (rowOf ops o).1.testBit i
      · rfl
      · rw [show (rowOf ops o).1 = bitsL ((o.after.toList.filter fun e => Region.binds .any e).map (·.on)) from rfl, bitsL_test, decide_eq_true_eq] at hb
        obtain ⟨e, he, rfl⟩ := List.mem_map.1 hb
        obtain ⟨h1, h2⟩ := List.mem_filter.1 he
        have := hl e (by simpa using h1) h2
        rw [h.b] at this
        rw [this]; rfl
    rw [this]; exact Nat.beq_refl _
theorem mem_readyN {M : Nat} : ∀ {R : List RowN} {k j : Nat}, j ∈ readyN M k R ↔ ∃ i r, R[i]? = some r ∧ j = k + i ∧ M.testBit j = false ∧ Nat.beq (r.1 &&& M) r.1 = true
  | [], k, j => by simp [readyN]
  | r :: R, k, j => by
    have ih := mem_readyN (M := M) (R := R) (k := k + 1) (j := j)
    rw [readyN]
    have tail : (∃ i q, R[i]? = some q ∧ j = k + 1 + i ∧ M.testBit j = false ∧ Nat.beq (q.1 &&& M) q.1 = true) ↔ ∃ i q, (r :: R)[i + 1]? = some q ∧ j = k + (i + 1) ∧ M.testBit j = false ∧ Nat.beq (q.1 &&& M) q.1 = true := by
      constructor
      · rintro ⟨i, q, h1, h2, h3⟩; exact ⟨i, q, by simpa using h1, by omega, h3⟩
      · rintro ⟨i, q, h1, h2, h3⟩; exact ⟨i, q, by simpa using h1, by omega, h3⟩
    split
    · rename_i hc
      simp only [Bool.and_eq_true, Bool.not_eq_true'] at hc
      rw [List.mem_cons, ih, tail]
      constructor
      · rintro (rfl | ⟨i, q, h⟩)
        · exact ⟨0, r, rfl, by omega, hc.1, hc.2⟩
        · exact ⟨i + 1, q, h⟩
      · rintro ⟨i, q, h1, h2, h3⟩
        cases i with
        | zero => left; omega
        | succ i => right; exact ⟨i, q, h1, h2, h3⟩
    · rename_i hc
      rw [ih, tail]
      constructor
      · rintro ⟨i, q, h⟩; exact ⟨i + 1, q, h⟩
      · rintro ⟨i, q, h1, h2, h3, h4⟩
        cases i with
        | zero =>
          have e : r = q := by simpa using h1
          subst e
          obtain rfl : j = k := by omega
          exact absurd (by rw [Bool.and_eq_true, Bool.not_eq_true']; exact ⟨h3, h4⟩) hc
        | succ i => exact ⟨i, q, h1, h2, h3, h4⟩
theorem readyN_up {M : Nat} : ∀ {R : List RowN} {k : Nat}, (readyN M k R).Pairwise (· < ·) ∧ ∀ j ∈ readyN M k R, k ≤ j
  | [], k => by simp [readyN]
  | r :: R, k => by
    obtain ⟨h1, h2⟩ := readyN_up (M := M) (R := R) (k := k + 1)
    rw [readyN]
    split
    · exact ⟨List.pairwise_cons.2 ⟨fun j hj => by have := h2 j hj; omega, h1⟩, fun j hj => by
        rcases List.mem_cons.1 hj with rfl | hj
        · exact Nat.le_refl _
        · have := h2 j hj; omega⟩
    · exact ⟨h1, fun j hj => by have := h2 j hj; omega⟩
theorem up_same : ∀ {l m : List Nat}, l.Pairwise (· < ·) → m.Pairwise (· < ·) → (∀ x, x ∈ l ↔ x ∈ m) → l = m
  | [], [], _, _, _ => rfl
  | [], y :: m, _, _, h => absurd ((h y).2 (by simp)) (by simp)
  | x :: l, [], _, _, h => absurd ((h x).1 (by simp)) (by simp)
  | x :: l, y :: m, h1, h2, h => by
    rw [List.pairwise_cons] at h1 h2
    have hx := (h x).1 (by simp)
    have hy := (h y).2 (by simp)
    have e : x = y := by
      rcases List.mem_cons.1 hx with e | e
      · exact e
      · rcases List.mem_cons.1 hy with e' | e'
        · exact e'.symm
        · have := h2.1 x e; have := h1.1 y e'; omega
    subst e
    rw [up_same h1.2 h2.2 fun z => ?_]
    constructor
    · intro hz
      have := (h z).1 (List.mem_cons_of_mem _ hz)
      rcases List.mem_cons.1 this with e | e
      · subst e; have := h1.1 z hz; omega
      · exact e
    · intro hz
      have := (h z).2 (List.mem_cons_of_mem _ hz)
      rcases List.mem_cons.1 this with e | e
      · subst e; have := h2.1 z hz; omega
      · exact e
theorem ready_eq {all : List Oper} {listed : Array Bool} {M : Nat} (h : Lm listed all.length M) : Region.ready .any all.toArray listed = readyN M 0 (rowsOf all) := by
  refine up_same ?_ readyN_up.1 fun j => ?_
  · unfold Region.ready
    exact (List.pairwise_lt_range).filter _
  · rw [mem_ready, mem_readyN]
    constructor
    · rintro ⟨h1, o, ho, he⟩
      have hj : j < all.length := by simpa using (Array.getElem?_eq_some_iff.1 ho).1
      rw [h.true_ hj] at h1
      refine ⟨j, rowOf all.toArray o, ?_, by omega, h1, (edges_ok h).2 he⟩
      rw [rowsOf, List.getElem?_map]
      rw [show all[j]? = some o by simpa using ho]; rfl
    · rintro ⟨i, r, hr, hj, h1, h2⟩
      obtain rfl : i = j := by omega
      rw [rowsOf, List.getElem?_map] at hr
      obtain ⟨o, ho, rfl⟩ := Option.map_eq_some_iff.1 hr
      have hj : i < all.length := (List.getElem?_eq_some_iff.1 ho).1
      exact ⟨by rw [h.true_ hj]; exact h1, o, by simpa using ho, (edges_ok h).1 h2⟩

theorem freeN_ok {M i : Nat} {ri : RowN} : ∀ {R : List RowN} {k : Nat}, freeN M i ri k R = true → ∀ p r, R[p]? = some r → k + p ≠ i → M.testBit (k + p) = false → r.1.testBit i = false → apartN ri r = true
  | [], k, _, p, r, hr, _, _, _ => by simp at hr
  | q :: R, k, h, p, r, hr, hne, hM, hb => by
    rw [freeN, Bool.and_eq_true] at h
    cases p with
    | zero =>
      have e : q = r := by simpa using hr
      subst e
      have h1 := h.1
      rw [Nat.add_zero] at hM hne
      rw [hM, hb] at h1
      cases hk : Nat.beq k i
      · rw [hk] at h1; simpa using h1
      · exact absurd (Nat.eq_of_beq_eq_true hk) hne
    | succ p => exact freeN_ok (k := k + 1) h.2 p r (by simpa using hr) (by omega) (by rw [show k + 1 + p = k + (p + 1) by omega]; exact hM) hb
def isReady (R : List RowN) (M i : Nat) : Bool := match R[i]? with
  | some r => !M.testBit i && Nat.beq (r.1 &&& M) r.1
  | none => false
def okF (R : List RowN) : List Nat → Nat → Bool
  | [], _ => true
  | i :: is, M => isReady R M i && freeR R M i && okF R is (2 ^ i ||| M)
def maskF (M : Nat) (is : List Nat) : Nat := is.foldl (fun m i => 2 ^ i ||| m) M
theorem Takes.nil_iff {P : Program} {ro : Option Nat} {n : Nat} {all : List Oper} {S : World → Prop} {K : Sl → Prop} {s : Sl} : Takes P ro n all S [] K s ↔ K s := by with_unfolding_all exact Iff.rfl
theorem Takes.cons_iff {P : Program} {ro : Option Nat} {n : Nat} {all : List Oper} {S : World → Prop} {K : Sl → Prop} {i : Nat} {is : List Nat} {s : Sl} : Takes P ro n all S (i :: is) K s ↔ ∃ o v, all[i]? = some o ∧ (∀ w, S w → Ops P ro n all [o] (fun s' w' => s' = putS s o.dst v ∧ w' = w) s w) ∧ Takes P ro n all S is K (putS s o.dst v) := by with_unfolding_all exact Iff.rfl
section
variable (P : Program) (ro : Option Nat) (n : Nat) (all : List Oper) (S : World → Prop) (K : Sl → World → Prop)
/-- Whatever has been listed as M tells: all orders of the rest end, and K. -/
def AnyF (R : List RowN) (fuel M : Nat) (s : Sl) (w : World) : Prop :=
  rowsOf all = R → niceAll all = true → ∀ listed : Array Bool, Lm listed all.length M → AnyS P ro n all S K fuel listed s w
end
section
variable {P : Program} {ro : Option Nat} {n : Nat} {all : List Oper} {S : World → Prop} {K : Sl → World → Prop} {R : List RowN}
theorem free_of {oi : Oper} {i M : Nat} {listed : Array Bool} (hi : all[i]? = some oi) (hl : Lm listed all.length M) (hf : freeR (rowsOf all) M i = true) (j : Nat) (oj : Oper) (hj : all[j]? = some oj) (hne : j ≠ i) (hun : listed.getD j true = false)
    (hno : ∀ e ∈ oj.after, Region.binds .any e = true → e.on ≠ i) : oi.apart all.toArray oj = true := by
  have hjl : j < all.length := (List.getElem?_eq_some_iff.1 hj).1
  have hri : (rowsOf all)[i]? = some (rowOf all.toArray oi) := by rw [rowsOf, List.getElem?_map, hi]; rfl
  have hrj : (rowsOf all)[j]? = some (rowOf all.toArray oj) := by rw [rowsOf, List.getElem?_map, hj]; rfl
  rw [freeR, hri] at hf
  refine apartN_ok (freeN_ok hf j _ hrj (by omega) ?_ ?_)
  · rw [Nat.zero_add, ← hl.true_ hjl]; exact hun
  · rw [show (rowOf all.toArray oj).1 = bitsL ((oj.after.toList.filter fun e => Region.binds .any e).map (·.on)) from rfl, bitsL_test, decide_eq_false_iff_not]
    intro hm
    obtain ⟨e, he, rfl⟩ := List.mem_map.1 hm
    obtain ⟨h1, h2⟩ := List.mem_filter.1 he
    exact hno e (by simpa using h1) h2 rfl
theorem ready_of {i M : Nat} {listed : Array Bool} (hl : Lm listed all.length M) (h : isReady (rowsOf all) M i = true) : i ∈ Region.ready .any all.toArray listed := by
  rw [ready_eq hl, mem_readyN]
  rw [isReady] at h
  cases hr : (rowsOf all)[i]? with
  | none => rw [hr] at h; cases h
  | some r =>
    rw [hr] at h
    simp only [Bool.and_eq_true, Bool.not_eq_true'] at h
    exact ⟨i, r, hr, by omega, h.1, h.2⟩
theorem AnyF.takes : ∀ (is : List Nat) {fuel M : Nat} {s : Sl} {w : World}, okF R is M = true → S w →
    Takes P ro n all S is (fun s' => AnyF P ro n all S K R fuel (maskF M is) s' w) s → AnyF P ro n all S K R (fuel + is.length) M s w := by
  intro is
  induction is with
  | nil => intro fuel M s w _ _ h; exact Takes.nil_iff.1 h
  | cons i is ih =>
    intro fuel M s w hok hS h hR hn listed hl
    subst hR
    simp only [okF, Bool.and_eq_true] at hok
    obtain ⟨⟨h1, h2⟩, h3⟩ := hok
    obtain ⟨o, v, ho, hq, hr⟩ := Takes.cons_iff.1 h
    have hi : i < all.length := (List.getElem?_eq_some_iff.1 ho).1
    refine AnyS.first (v := v) hn ho (fuel + is.length) listed s w (free_of ho hl h2) (ready_of hl h1) ?_ hS (ih h3 hS hr rfl hn _ (hl.set hi))
    intro w hw
    have := hq w hw
    rw [op1_ops] at this
    refine this.mono fun u w' ⟨e1, e2⟩ => ⟨fun d hd => ?_, e2⟩
    rw [hd] at e1
    have := congrFun e1 d
    simpa [putS, upd] using this
theorem AnyF.take (is : List Nat) {fuel M : Nat} {s : Sl} {w : World} (hok : (Nat.ble is.length fuel && okF R is M) = true) (hS : S w)
    (h : Takes P ro n all S is (fun s' => AnyF P ro n all S K R (fuel - is.length) (maskF M is) s' w) s) : AnyF P ro n all S K R fuel M s w := by
  simp only [Bool.and_eq_true] at hok
  have hle : is.length ≤ fuel := by simpa using hok.1
  have := AnyF.takes (K := K) (fuel := fuel - is.length) is hok.2 hS h
  rwa [Nat.sub_add_cancel hle] at this
theorem AnyF.one (i : Nat) {o : Oper} {fuel M : Nat} {s : Sl} {w : World} (hr : (Nat.blt 0 fuel && (readyN M 0 R == [i])) = true) (ho : all[i]? = some o) (hS : S w)
    (h : Ops P ro n all [o] (fun s' w' => AnyF P ro n all S K R (fuel - 1) (2 ^ i ||| M) s' w') s w) : AnyF P ro n all S K R fuel M s w := by
  intro hR hn listed hl
  subst hR
  have hi : i < all.length := (List.getElem?_eq_some_iff.1 ho).1
  rw [← ready_eq hl] at hr
  exact jjW i hr ho hS (Ops1.mono h fun s w h => h rfl hn _ (hl.set hi))
theorem AnyF.done {fuel M : Nat} {s : Sl} {w : World} (hr : (readyN M 0 R).isEmpty = true) (hS : S w) (h : K s w) : AnyF P ro n all S K R fuel M s w := by
  intro hR hn listed hl
  subst hR
  rw [← ready_eq hl] at hr
  exact jjX hr hS h
theorem AnyF.joinB (i j : Nat) {o q : Oper} {fuel M : Nat} {s : Sl} {w : World} {d1 d2 : Nat} (hne : d1 ≠ d2) (f1 f2 : Nat → Value) (F : Nat → Nat → World → Prop)
    (hr : (Nat.blt 1 fuel && (readyN M 0 R == [i, j]) && (readyN (2 ^ i ||| M) 0 R == [j]) && (readyN (2 ^ j ||| M) 0 R == [i])) = true)
    (ho : all[i]? = some o) (hq : all[j]? = some q) (hS : S w)
    (h1 : Ops P ro n all [o] (fun s1 w1 => S w1 ∧ Ops P ro n all [q] (fun s2 w2 => ∃ b1 b2, s2 = upd (upd s d1 (f1 b1)) d2 (f2 b2) ∧ F b1 b2 w2) s1 w1) s w)
    (h2 : Ops P ro n all [q] (fun s1 w1 => S w1 ∧ Ops P ro n all [o] (fun s2 w2 => ∃ b1 b2, s2 = upd (upd s d2 (f2 b2)) d1 (f1 b1) ∧ F b1 b2 w2) s1 w1) s w)
    (hk : ∀ b1 b2 w2, F b1 b2 w2 → AnyF P ro n all S K R (fuel - 1 - 1) (2 ^ j ||| (2 ^ i ||| M)) (upd (upd s d1 (f1 b1)) d2 (f2 b2)) w2) : AnyF P ro n all S K R fuel M s w := by
  intro hR hn listed hl
  subst hR
  have hi : i < all.length := (List.getElem?_eq_some_iff.1 ho).1
  have hj : j < all.length := (List.getElem?_eq_some_iff.1 hq).1
  simp only [Bool.and_eq_true, beq_iff_eq] at hr
  obtain ⟨⟨⟨hf, r1⟩, r2⟩, r3⟩ := hr
  have hf : 1 < fuel := by simpa using hf
  have l1 := hl.set hi
  have l2 := hl.set hj
  rw [← ready_eq hl] at r1
  rw [← ready_eq l1] at r2
  rw [← ready_eq l2] at r3
  refine jjl i j (by simp [r1]; omega) ho hq hS (Ops1.mono h1 fun s1 w1 ⟨g1, g2⟩ => jjW j (by simp [r2]; omega) hq g1 (Ops1.mono g2 ?_)) (Ops1.mono h2 fun s1 w1 ⟨g1, g2⟩ => jjW i (by simp [r3]; omega) ho g1 (Ops1.mono g2 ?_))
  · rintro s2 w2 ⟨b1, b2, rfl, hF⟩
    exact hk b1 b2 w2 hF rfl hn _ (l1.set hj)
  · rintro s2 w2 ⟨b1, b2, rfl, hF⟩
    rw [upd_swap hne]
    have := l2.set hi
    rw [← Nat.or_assoc, Nat.or_comm (2 ^ i), Nat.or_assoc] at this
    exact hk b1 b2 w2 hF rfl hn _ this
end
/-- A region that draws its order, its rows told. -/
theorem W.drawF {P : Program} {ro : Option Nat} {n : Nat} {X : Ctx} {s : Sl} {ds : List Deferred} {w : World} {id : Nat} {ops : List Oper} [hm : Mixed P] (S : World → Prop) (R : List RowN) (hR : rowsOf ops = R) (hn : niceAll ops = true)
    (h : ∀ w1, Step w w1 → AnyF P ro n ops S (fun s' w' => X.nx s' ds w') R ops.length 0 s w1) : W P ro n (.region id ops.toArray true) X s ds w :=
  W.draw S fun w1 hS => h w1 hS hR hn _ ⟨by simp, fun j => by
    rw [Nat.zero_testBit]
    by_cases hj : j < ops.length
    · simp [Array.getD, hj]
    · simp [Array.getD, hj]⟩

/-- What the operations of the last region stand behind, set, look at. -/
def aliveR : List RowN := [(0, 4835703278458516698824704, 4), (1, 9671406556917033397649408, 4835703278458516698824704), (2, 19342813113834066795298816, 9671406556917033397649408), (4, 38685626227668133590597632, 19342813113834066795298818), (4,
  77371252455336267181195264, 19342813113834066795298816), (28, 154742504910672534362390528, 135399691796838467567091712), (36, 309485009821345068724781056, 174085318024506601157689344), (96, 618970019642690137449562112,
  309485009821345068724781056), (128, 1237940039285380274899124224, 618970019642690137449562128), (384, 2475880078570760549798248448, 1856910058928070412348686336), (640, 4951760157141521099596496896, 3094850098213450687247810560),
  (1152, 9903520314283042199192993792, 4951760157141521099596496896), (2048, 19807040628566084398385987584, 9903520314283042199192993800), (6144, 39614081257132168796771975168, 29710560942849126597578981376), (10240,
  79228162514264337593543950336, 49517601571415210995964968960), (18432, 158456325028528675187087900672, 79228162514264337593543950336), (32768, 316912650057057350374175801344, 158456325028528675187087900736), (98304,
  633825300114114700748351602688, 475368975085586025561263702016), (163840, 1267650600228229401496703205376, 792281625142643375935439503360), (294912, 2535301200456458802993406410752, 1267650600228229401496703205376), (524288,
  5070602400912917605986812821504, 2535301200456458802993406410784), (524288, 10141204801825835211973625643008, 2535301200456458802993406410752), (524288, 20282409603651670423947251286016, 2535301200456458802993406410752), (6815744,
  40564819207303340847894502572032, 32958915605933964438914283339776), (9961472, 81129638414606681695789005144064, 48170722808672717256874721804288), (17301504, 162259276829213363391578010288128, 83664939615063140498782411554816),
  (50331648, 324518553658426726783156020576256, 162259276829213363391578010288128), (67108864, 649037107316853453566312041152512, 324518553658426726783156020576512), (201326592, 1298074214633706907132624082305024,
  973555660975280180349468061728768), (335544320, 2596148429267413814265248164610048, 1622592768292133633915780102881280), (603979776, 5192296858534827628530496329220096, 2596148429267413814265248164610048), (1073741824,
  10384593717069655257060992658440192, 5192296858534827628530496329220224), (1073741824, 20769187434139310514121985316880384, 5192296858534827628530496329220096), (7516192768, 41538374868278621028243970633760768,
  36346078009743793399713474304540672), (9663676416, 83076749736557242056487941267521536, 46730671726813448656774466962980864), (25769803776, 166153499473114484112975882535043072, 83076749736557242056487941267521536), (34359738368,
  332306998946228968225951765070086144, 166153499473114484112975882535044096), (103079215104, 664613997892457936451903530140172288, 498460498419343452338927647605129216), (171798691840, 1329227995784915872903807060280344576,
  830767497365572420564879412675215360), (309237645312, 2658455991569831745807614120560689152, 1329227995784915872903807060280344576), (549755813888, 5316911983139663491615228241121378304, 2658455991569831745807614120560689664),
  (549755813888, 10633823966279326983230456482242756608, 2658455991569831745807614120560689152), (549755813888, 21267647932558653966460912964485513216, 2658455991569831745807614120560689152), (7146825580544,
  42535295865117307932921825928971026432, 34559927890407812695498983567288958976), (10445360463872, 85070591730234615865843651857942052864, 50510663839826803170344668290653093888), (18141941858304,
  170141183460469231731687303715884105728, 87729047721804447611651265978502742016), (52776558133248, 340282366920938463463374607431768211456, 170141183460469231731687303715884105728), (70368744177664,
  680564733841876926926749214863536422912, 340282366920938463463374607431768215552), (211106232532992, 1361129467683753853853498429727072845824, 1020847100762815390390123822295304634368), (351843720888320,
  2722258935367507707706996859454145691648, 1701411834604692317316873037158841057280), (633318697598976, 5444517870735015415413993718908291383296, 2722258935367507707706996859454145691648), (1125899906842624,
  10889035741470030830827987437816582766592, 5444517870735015415413993718908291385344), (1125899906842624, 21778071482940061661655974875633165533184, 5444517870735015415413993718908291383296), (7881299347898368,
  43556142965880123323311949751266331066368, 38111625095145107907897956032358039683072), (10133099161583616, 87112285931760246646623899502532662132736, 49000660836615138738725943470174622449664), (27021597764222976,
  174224571863520493293247799005065324265472, 87112285931760246646623899502532662132736), (36028797018963968, 348449143727040986586495598010130648530944, 174224571863520493293247799005065324281856), (108086391056891904,
  696898287454081973172991196020261297061888, 522673715590561479879743397015195972796416), (180143985094819840, 1393796574908163946345982392040522594123776, 871122859317602466466238995025326621327360), (324259173170675712,
  2787593149816327892691964784081045188247552, 1393796574908163946345982392040522594123776), (576460752303423488, 5575186299632655785383929568162090376495104, 2787593149816327892691964784081045188255744), (576460752303423488,
  11150372599265311570767859136324180752990208, 2787593149816327892691964784081045188247552), (4035225266123964416, 22300745198530623141535718272648361505980416, 19513152048714295248843753488567316317732864), (5188146770730811392,
  44601490397061246283071436545296723011960832, 25088338348346951034227683056729406694227968), (13835058055282163712, 89202980794122492566142873090593446023921664, 44601490397061246283071436545296723011960832),
  (18446744073709551616, 178405961588244985132285746181186892047843328, 89202980794122492566142873090593446023987200), (55340232221128654848, 356811923176489970264571492362373784095686656,
  267608942382367477698428619271780338071764992), (92233720368547758080, 713623846352979940529142984724747568191373312, 446014903970612462830714365452967230119608320), (166020696663385964544,
  1427247692705959881058285969449495136382746624, 713623846352979940529142984724747568191373312), (295147905179352825856, 2854495385411919762116571938898990272765493248, 1427247692705959881058285969449495136382779392),
  (295147905179352825856, 5708990770823839524233143877797980545530986496, 1427247692705959881058285969449495136382746624), (295147905179352825856, 11417981541647679048466287755595961091061972992,
  1427247692705959881058285969449495136382746624), (3836922767331586736128, 22835963083295358096932575511191922182123945984, 18554220005177478453757717602843436772975706112), (5607810198407703691264,
  45671926166590716193865151022383844364247891968, 27117706161413237740107433419540407591272185856), (9739880870918643253248, 91343852333181432387730302044767688728495783936, 47099173859296676074923436991833339500630638592),
  (28334198897217871282176, 182687704666362864775460604089535377456991567872, 91343852333181432387730302044767688728495783936), (37778931862957161709568, 365375409332725729550921208179070754913983135744,
  182687704666362864775460604089535377456991830016), (113336795588871485128704, 730750818665451459101842416358141509827966271488, 548063113999088594326381812268606132370974703616), (188894659314785808547840,
  1461501637330902918203684832716283019655932542976, 913438523331814323877303020447676887284957839360), (340010386766614455386112, 2923003274661805836407369665432566039311865085952,
  1461501637330902918203684832716283019655932542976), (604462909807314587353088, 5846006549323611672814739330865132078623730171904, 2923003274661805836407369665432566039311865217024), (604462909807314587353088,
  11692013098647223345629478661730264157247460343808, 2923003274661805836407369665432566039311865085952), (4231240368651202111471616, 23384026197294446691258957323460528314494920687616,
  20461022922632640854851587658027962275183055601664), (5440166188265831286177792, 46768052394588893382517914646921056628989841375232, 26307029471956252527666326988893094353806785773568), (14507109835375550096474112,
  93536104789177786765035829293842113257979682750464, 46768052394588893382517914646921056628989841375232), (19342813113834066795298816, 187072209578355573530071658587684226515959365500928,
  93536104789177786765035829293842113257979683799040), (58028439341502200385896448, 374144419156711147060143317175368453031918731001856, 280608314367533360295107487881526339773939048251392), (96714065569170333976494080,
  748288838313422294120286634350736906063837462003712, 467680523945888933825179146469210566289898413752320), (174085318024506601157689344, 1496577676626844588240573268701473812127674924007424,
  748288838313422294120286634350736906063837462003712), (309485009821345068724781056, 2993155353253689176481146537402947624255349848014848, 1496577676626844588240573268701473812127674924531712), (309485009821345068724781056,
  5986310706507378352962293074805895248510699696029696, 1496577676626844588240573268701473812127674924007424), (2166395068749415481073467392, 11972621413014756705924586149611790497021399392059392,
  10476043736387912117684012880910316684893724468051968), (2785365088392105618523029504, 23945242826029513411849172299223580994042798784118784, 13469199089641601294165159418313264309149074316066816), (7427640235712281649394745344,
  47890485652059026823698344598447161988085597568237568, 23945242826029513411849172299223580994042798784118784), (9903520314283042199192993792, 95780971304118053647396689196894323976171195136475136,
  47890485652059026823698344598447161988085597576626176), (29710560942849126597578981376, 191561942608236107294793378393788647952342390272950272, 143671456956177080471095033795341485964256792704712704),
  (49517601571415210995964968960, 383123885216472214589586756787577295904684780545900544, 239452428260295134118491722992235809940427987841187840), (89131682828547379792736944128,
  766247770432944429179173513575154591809369561091801088, 383123885216472214589586756787577295904684780545900544), (158456325028528675187087900672, 1532495540865888858358347027150309183618739122183602176,
  766247770432944429179173513575154591809369561095995392), (475368975085586025561263702016, 3064991081731777716716694054300618367237478244367204352, 2298743311298833287537520540725463775428108683275403264),
  (792281625142643375935439503360, 6129982163463555433433388108601236734474956488734408704, 3831238852164722145895867567875772959046847805459005440), (1426106925256758076683791106048,
  12259964326927110866866776217202473468949912977468817408, 6129982163463555433433388108601236734474956488734408704), (2535301200456458802993406410752, 24519928653854221733733552434404946937899825954937634816,
  12259964326927110866866776217202473468949912977470914560), (7605903601369376408980219232256, 49039857307708443467467104868809893875799651909875269632, 36779892980781332600600328651607420406849738932406452224),
  (12676506002282294014967032053760, 98079714615416886934934209737619787751599303819750539264, 61299821634635554334333881086012367344749564887344087040), (22817710804108129226940657696768,
  196159429230833773869868419475239575503198607639501078528, 110339678942343997801800985954822261220549216797219356672), (43100120407759799650887908982784, 392318858461667547739736838950479151006397215279002157056,
  196159429230833773869868419475239575503198607639501078528), (81129638414606681695789005144064, 784637716923335095479473677900958302012794430558004314112, 392318858461667547739736838950479151006397215279004254208),
  (243388915243820045087367015432192, 1569275433846670190958947355801916604025588861116008628224, 1176956575385002643219210516851437453019191645837006471168), (405648192073033408478945025720320,
  3138550867693340381917894711603833208051177722232017256448, 1961594292308337738698684194752395755031986076395010785280), (730166745731460135262101046296576, 6277101735386680763835789423207666416102355444464034512896,
  3530869726155007929657631550554312359057574937511019413504), (1379203853048313588828413087449088, 12554203470773361527671578846415332832204710888928069025792, 6669420593848348311575526262158145567108752659743036669952),
  (2677278067682020495961037169754112, 25108406941546723055343157692830665664409421777856138051584, 12946522329235029075411315685365811983211108104207071182848), (5273426496949434310226285334364160,
  50216813883093446110686315385661331328818843555712276103168, 25108406941546723055343157692830665664409421777856138051584), (10384593717069655257060992658440192, 100433627766186892221372630771322662657637687111424552206336,
  50216813883093446110686315385661331328818843555712278200320), (31153781151208965771182977975320576, 200867255532373784442745261542645325315275374222849104412672, 150650441649280338332058946156983993986456530667136828309504),
  (51922968585348276285304963292200960, 401734511064747568885490523085290650630550748445698208825344, 251084069415467230553431576928306656644094217778561380515840), (93461343453626897313548933925961728,
  803469022129495137770981046170581301261101496891396417650688, 451951324947841014996176838470951981959369592001410484928512), (176538093190184139370036875193483264, 1606938044258990275541962092341162602522202993782792835301376,
  853685836012588583881667361556242632589920340447108693753856), (342691592663298623483012757728526336, 3213876088517980551083924184682325205044405987565585670602752, 1657154858142083721652648407726823933851021837338505111404544),
  (674998591609527591708964522798612480, 6427752177035961102167848369364650410088811975131171341205504, 3213876088517980551083924184682325205044405987565585670602752), (1329227995784915872903807060280344576,
  12855504354071922204335696738729300820177623950262342682411008, 6427752177035961102167848369364650410088811975131171343302656), (3987683987354747618711421180841033728,
  25711008708143844408671393477458601640355247900524685364822016, 19283256531107883306503545108093951230266435925393514023616512), (6646139978924579364519035301401722880,
  51422017416287688817342786954917203280710495801049370729644032, 32138760885179805510839241846823252050444059875655856706027520), (1329227995784915872903807060280344576,
  102844034832575377634685573909834406561420991602098741459288064, 6427752177035961102167848369364650410088811975131171341205504), (22596875928343569839364720024765857792,
  205688069665150755269371147819668813122841983204197482918576128, 109271787009611338736853422279199056971509803577229912800493568), (43864523860902223805825632989251371008,
  411376139330301510538742295639337626245683966408394965837152256, 212115821842186716371538996189033463532930795179328654259781632), (97033643692298858721977915400465154048,
  822752278660603021077484591278675252491367932816789931674304512, 469225908923625160458252930963619479936483274184575507908001792), (171470411456254147604591110776164450304,
  1645504557321206042154969182557350504982735865633579863348609024, 829180030837638982179652439648039902901456744791921103015510016), (361550014853497117429835520396253724672,
  3291009114642412084309938365114701009965471731267159726697218048, 1645504557321206042154969182557350504982735865633579863348609024), (680564733841876926926749214863536422912,
  6582018229284824168619876730229402019930943462534319453394436096, 3291009114642412084309938365114701009965471731267159726699315200), (2041694201525630780780247644590609268736,
  13164036458569648337239753460458804039861886925068638906788872192, 9873027343927236252929815095344103029896415193801479180091654144), (3402823669209384634633746074317682114560,
  26328072917139296674479506920917608079723773850137277813577744384, 16455045573212060421549691825573505049827358656335798633486090240), (680564733841876926926749214863536422912,
  52656145834278593348959013841835216159447547700274555627155488768, 3291009114642412084309938365114701009965471731267159726697218048), (11569600475311907757754736652680119189504,
  105312291668557186697918027683670432318895095400549111254310977536, 55947154948921005433268952206949917169413019431541715353852706816), (22458636216781938588582724090496701956096,
  210624583337114373395836055367340864637790190801098222508621955072, 108603300783199598782227966048785133328860567131816270981008195584), (49681225570457015665652692685038158872576,
  421249166674228746791672110734681729275580381602196445017243910144, 240243665368896082154625500653373173727479436382502660048896917504), (87792850665602123573550648717396198555648,
  842498333348457493583344221469363458551160763204392890034487820288, 424540175788871158875982049099796430285545853333463604743941128192), (348449143727040986586495598010130648530943, 1,
  842498333348457493583344221469363458551160763204392890034487820288)]

section
variable (w : World) [hgb : At w 0 0 bysC] [hmx : MxI w]
omit hgb hmx in
theorem same_ex (a : Option Addr) (c b n : Nat) (xs : List Int) (hn : n = xs.length) (hx : n ≤ 100) (h1 : RowV w false 1 (.slice a n c) (xs.map intV)) (h2 : Bk w b (xs.map intV) 3) : Ct Tryz.prog 51 [.slice a n c, .slice (some ⟨b, 0, none⟩) n n] w fun v _ => v = .bool true := by
  subst hn
  have i1 : RowI w (.slice a xs.length c) false 1 (xs.map intV) := ⟨h1⟩
  have i2 : RowI w (.slice (some ⟨b, 0, none⟩) xs.length xs.length) false 1 (xs.map intV) := ⟨by have := h2.row (fun x hx => by obtain ⟨y, _, rfl⟩ := List.mem_map.1 hx; rfl) (by rw [List.length_map]; omega); rwa [List.length_map] at this⟩
  exact (same_law6 a (some ⟨b, 0, none⟩) c xs.length xs xs w).mono fun v _ _ e => e.trans (by rw [decide_eq_true rfl])
set_option maxRecDepth 20000 in
set_option maxHeartbeats 16000000 in
theorem alive_law6 : Ct Tryz.prog 13 [] w fun v _ => v = .bool true := by
  refine Ct.ofW (by simp) ?_
  (refine jjB (jjC (jJ (eB rfl) (jz (jjB (jjC ?_))))))
  refine jjQ (deck_law6 _) rfl rfl ?_
  rintro _ w1 hS1 ⟨d1, rfl, hD1⟩
  skip
  refine jjQ (ex_runs d1 _ hD1) rfl rfl ?_
  rintro _ w2 hS2 ⟨a2, c2, rfl, hR2⟩
  (refine jI (eU rfl) (ju rfl rfl (ju rfl rfl (jJ (eS rfl) (jJ (eI rfl) (jz ?_))))); refine jjB (jjC ?_))
  refine jjQ (deck_law6 _) rfl rfl ?_
  rintro _ w3 hS3 ⟨d3, rfl, hD3⟩
  skip
  refine jjQ (ex_passes2 d3 _ hD3) rfl rfl ?_
  rintro _ w4 hS4 rfl
  (refine jI (eU rfl) (ju rfl rfl (ju rfl rfl (jJ (eI rfl) (jJ (eI rfl) (jz ?_))))); refine jjB (jjC ?_))
  refine jjQ (deck_law6 _) rfl rfl ?_
  rintro _ w5 hS5 ⟨d5, rfl, hD5⟩
  skip
  refine jjQ (ex_plan2 d5 _ hD5) rfl rfl ?_
  rintro _ w6 hS6 ⟨a6, c6, rs, rfl, hrs, hP6, hI6⟩
  have iP6 : RowI w6 (.slice a6 rs.length c6) false 1 (rs.map encW) := ⟨hP6⟩
  (refine jI (eU rfl) (ju rfl rfl (ju rfl rfl (jJ (eS rfl) (jJ (eI rfl) (jz ?_))))); refine jjB (jjC ?_))
  refine jjQ (deck_law6 _) rfl rfl ?_
  rintro _ w7 hS7 ⟨d7, rfl, hD7⟩
  (apply jI; exact eS rfl)
  refine jjQ (ex_sort d7 _ hD7 a6 c6 rs hrs) rfl rfl ?_
  rintro _ w8 hS8 ⟨a8, c8, rfl, hR8⟩
  (refine jI (eU rfl) (ju rfl rfl (ju rfl rfl (jJ (eS rfl) (jJ (eI rfl) (jz ?_))))); refine jjB (jjC ?_))
  refine jjQ (deck_law6 _) rfl rfl ?_
  rintro _ w9 hS9 ⟨d9, rfl, hD9⟩
  skip
  refine jjQ (ex_proof2 d9 _ hD9) rfl rfl ?_
  rintro _ w10 hS10 ⟨a10, c10, rfl, hR10⟩
  (refine jI (eU rfl) (ju rfl rfl (ju rfl rfl (jJ (eS rfl) (jJ (eI rfl) (jz ?_))))); refine jjB (jjC ?_))
  refine jjQ (deck_law6 _) rfl rfl ?_
  rintro _ w11 hS11 ⟨d11, rfl, hD11⟩
  skip
  refine jjQ (ex_keep d11 _ hD11) rfl rfl ?_
  rintro _ w12 hS12 ⟨a12, c12, rfl, hR12⟩
  (refine jI (eU rfl) (ju rfl rfl (ju rfl rfl (jJ (eS rfl) (jJ (eI rfl) (jz ?_))))); refine jjB (jjC ?_))
  refine jjQ (deck_law6 _) rfl rfl ?_
  rintro _ w13 hS13 ⟨d13, rfl, hD13⟩
  skip
  refine jjQ (ex_chains d13 _ hD13) rfl rfl ?_
  rintro _ w14 hS14 ⟨a14, c14, rfl, hR14⟩
  (refine jI (eU rfl) (ju rfl rfl (ju rfl rfl (jJ (eS rfl) (jJ (eI rfl) (jz ?_))))); refine jjB (jjC ?_))
  refine jjQ (deck_law6 _) rfl rfl ?_
  rintro _ w15 hS15 ⟨d15, rfl, hD15⟩
  skip
  refine jjQ (ex_mend d15 _ hD15) rfl rfl ?_
  rintro _ w16 hS16 ⟨a16, c16, rfl, hR16⟩
  (refine jI (eU rfl) (ju rfl rfl (ju rfl rfl (jJ (eS rfl) (jJ (eI rfl) (jz ?_))))); refine jjB (jjC ?_))
  refine jjQ (deck_law6 _) rfl rfl ?_
  rintro _ w17 hS17 ⟨d17, rfl, hD17⟩
  (apply jI; exact eS rfl)
  refine jjQ (ex_moved d17 _ hD17 a16 c16 (hR16.ext hS17.ext)) rfl rfl ?_
  rintro _ w18 hS18 ⟨a18, c18, rfl, hR18⟩
  (refine jI (eU rfl) (ju rfl rfl (ju rfl rfl (jJ (eS rfl) (jJ (eI rfl) (jz ?_))))); refine jjB (jjC ?_))
  refine jjQ (slips_law6 _) rfl rfl ?_
  rintro _ w19 hS19 ⟨d19, rfl, hD19⟩
  skip
  refine jjQ (ex_ranks d19 _ hD19) rfl rfl ?_
  rintro _ w20 hS20 ⟨a20, c20, rfl, hR20⟩
  (refine jI (eU rfl) (ju rfl rfl (ju rfl rfl (jJ (eS rfl) (jJ (eI rfl) (jz ?_))))); refine jjB (jjC ?_))
  refine jjQ (slips_law6 _) rfl rfl ?_
  rintro _ w21 hS21 ⟨d21, rfl, hD21⟩
  skip
  refine jjQ (ex_file d21 _ hD21) rfl rfl ?_
  rintro _ w22 hS22 ⟨a22, c22, rfl, hR22⟩
  (refine jI (eU rfl) (ju rfl rfl (ju rfl rfl (ju rfl rfl (jJ (eS rfl) (jJ (eI rfl) ?_))))); refine jJ (eI rfl) (jz (jjB ?_)))
  have e4 : fileL exS 2 2 = [((0, 0, 0), xAnd, ⟨#[]⟩, ⟨#[]⟩), ((0, 0, 0), xOld, ⟨#[]⟩, ⟨#[]⟩), ((0, 0, 0), xSea, ⟨#[]⟩, ⟨#[]⟩), ((0, 0, 0), xSea, ⟨#[]⟩, xIs)] := exS_file
  rw [e4] at hR22
  obtain ⟨pb, po, rfl, -⟩ := hR22.place' (j := 0) rfl
  have P0 : At w22 pb (po + 0 * 6) [.int .i64 0, .int .i64 0, .int .i64 0, .string xAnd, .string ⟨#[]⟩, .string ⟨#[]⟩] := place_k hR22 (j := 0) rfl
  have P1 : At w22 pb (po + 1 * 6) [.int .i64 0, .int .i64 0, .int .i64 0, .string xOld, .string ⟨#[]⟩, .string ⟨#[]⟩] := place_k hR22 (j := 1) rfl
  have P2 : At w22 pb (po + 2 * 6) (encSl exS[0]).cells.toList := place_k hR22 (j := 2) rfl
  have P3 : At w22 pb (po + 3 * 6) (encSl exS[2]).cells.toList := place_k hR22 (j := 3) rfl
  have i10 : RowI w22 (.slice a10 ([(3, 2), (2, 0)] : List (Int × Int)).length c10) true 2 (([(3, 2), (2, 0)] : List (Int × Int)).map encII) := ⟨hR10.ext inferInstance⟩
  have i16 : RowI w22 (.slice a16 ([(0, 3), (2, 1)] : List (Int × Int)).length c16) true 2 (([(0, 3), (2, 1)] : List (Int × Int)).map encII) := ⟨hR16.ext inferInstance⟩
  have hl2 : rs.length = 2 := by have := congrArg List.length hrs; simpa using this
  have iP22 : RowI w22 (.slice a6 rs.length c6) false 1 (rs.map encW) := inferInstance
  have iI22 : RowsI w22 rs := hI6.ext inferInstance
  refine W.keep0 [(1, .slice a2 4 c2), (2, .int .i64 0), (3, .int .i64 2), (4, .int .i64 0), (5, .slice a6 rs.length c6), (6, .int .i64 0), (7, .slice a8 4 c8), (8, .int .i64 0), (9, .slice a10 2 c10), (10, .int .i64 0), (11, .slice a12 2 c12), (12, .int .i64 0), (13, .slice a14 4 c14), (14, .int .i64 0), (15, .slice a16 2 c16), (16, .int .i64 0), (17, .slice a18 4 c18), (18, .int .i64 0), (19, .slice a20 4 c20), (20, .int .i64 0), (21, .slice (some ⟨pb, po, none⟩) 4 c22), (22, .int .i64 2), (23, .int .i64 0)] ⟨eS rfl, eI rfl, eI rfl, eI rfl, eS rfl, eI rfl, eS rfl, eI rfl, eS rfl, eI rfl, eS rfl, eI rfl, eS rfl, eI rfl, eS rfl, eI rfl, eS rfl, eI rfl, eS rfl, eI rfl, eS rfl, eI rfl, eI rfl, trivial⟩ fun s0 => ?_
  refine W.drawF (fun w' => Ext w22 w') aliveR (by decide +kernel) (by decide +kernel) ?_
  intro w23 hS23
  refine AnyF.take [0, 1, 2, 3] (by decide +kernel) inferInstance ?_
  (((apply jjT; exact rfl; rintro w' hq; have := hq.toStep; refine jI (eI rfl) (jz ?_); exact ⟨rfl, rfl⟩; apply jjT; exact rfl; rintro w' hq; have := hq.toStep; refine jjh rfl rfl (by omega) (jz ?_); exact ⟨rfl, rfl⟩; apply jjT; exact rfl; rintro w' hq; have := hq.toStep; refine jI (eB rfl) (jz ?_); exact ⟨rfl, rfl⟩; apply jjT; exact rfl; rintro w' hq; have := hq.toStep; refine jT rfl rfl rfl (jI (eS rfl) (jz ?_)); exact ⟨rfl, rfl⟩; refine jjU ?_)))
  (apply AnyF.one 4; (decide +kernel); exact rfl; (exact inferInstance))
  refine jT rfl rfl rfl ?_
  refine Ops.buildSliceF (cells := [.int .i64 2, .int .i64 0, .int .i64 1, .int .i64 0]) rfl rfl rfl ?_
  intro b24 w24 hb24 hs24 hS24 hk24
  refine jz ?_
  (apply AnyF.one 5; (decide +kernel); exact rfl; (exact inferInstance))
  refine jT rfl rfl rfl ?_
  refine jjQ (same_ex _ a2 c2 b24 4 [2, 0, 1, 0] rfl (by decide) (hR2.ext inferInstance) hk24) rfl rfl ?_
  rintro _ w25 hS25 rfl
  refine jz ?_
  refine AnyF.take [6, 7, 8, 9, 10, 11, 12, 13, 14, 15, 16, 17, 18, 19, 20] (by decide +kernel) inferInstance ?_
  (((apply jjT; exact rfl; rintro w' hq; have := hq.toStep; refine jK rfl (eB rfl) (jz ?_); exact ⟨rfl, rfl⟩; apply jjT; exact rfl; rintro w' hq; have := hq.toStep; refine jI (eB rfl) (jz ?_); exact ⟨rfl, rfl⟩; apply jjT; exact rfl; rintro w' hq; have := hq.toStep; refine jT rfl rfl rfl (jI (eI rfl) (jz ?_)); exact ⟨rfl, rfl⟩; apply jjT; exact rfl; rintro w' hq; have := hq.toStep; refine jT rfl rfl rfl (jjh rfl rfl (by omega) (jz ?_)); exact ⟨rfl, rfl⟩; apply jjT; exact rfl; rintro w' hq; have := hq.toStep; refine jK rfl (eB rfl) (jz ?_); exact ⟨rfl, rfl⟩; apply jjT; exact rfl; rintro w' hq; have := hq.toStep; refine jI (eB rfl) (jz ?_); exact ⟨rfl, rfl⟩; apply jjT; exact rfl; rintro w' hq; have := hq.toStep; refine jT rfl rfl rfl (jI (eI rfl) (jz ?_)); exact ⟨rfl, rfl⟩; apply jjT; exact rfl; rintro w' hq; have := hq.toStep; refine jT rfl rfl rfl (jjh rfl rfl (by omega) (jz ?_)); exact ⟨rfl, rfl⟩; apply jjT; exact rfl; rintro w' hq; have := hq.toStep; refine jK rfl (eB rfl) (jz ?_); exact ⟨rfl, rfl⟩; apply jjT; exact rfl; rintro w' hq; have := hq.toStep; refine jI (eB rfl) (jz ?_); exact ⟨rfl, rfl⟩; apply jjT; exact rfl; rintro w' hq; have := hq.toStep; refine jT rfl rfl rfl (jI (eI rfl) (jz ?_)); exact ⟨rfl, rfl⟩; apply jjT; exact rfl; rintro w' hq; have := hq.toStep; refine jT rfl rfl rfl (jjh rfl rfl (by omega) (jz ?_)); exact ⟨rfl, rfl⟩; apply jjT; exact rfl; rintro w' hq; have := hq.toStep; refine jK rfl (eB rfl) (jz ?_); exact ⟨rfl, rfl⟩; apply jjT; exact rfl; rintro w' hq; have := hq.toStep; refine jI (eB rfl) (jz ?_); exact ⟨rfl, rfl⟩; apply jjT; exact rfl; rintro w' hq; have := hq.toStep; refine jT rfl rfl rfl (jI (eS rfl) (jz ?_)); exact ⟨rfl, rfl⟩; refine jjU ?_)))
  refine AnyF.joinB 21 22 (d1 := 103) (d2 := 104) (by decide) (fun b => .slice (some ⟨b, 0, none⟩) 4 4) (fun b => .slice (some ⟨b, 0, none⟩) 4 4) (fun b1 b2 w2 => Ext w25 w2 ∧ Bk w2 b1 [.int .i64 0, .int .i64 0, .int .i64 1, .int .i64 0] 3 ∧ Bk w2 b2 [.int .i64 1, .int .i64 0, .int .i64 0, .int .i64 0] 3) (by decide +kernel) rfl rfl inferInstance ?_ ?_ ?_
  · refine jT rfl rfl rfl ?_
    refine Ops.buildSliceF (cells := [.int .i64 0, .int .i64 0, .int .i64 1, .int .i64 0]) rfl rfl rfl ?_
    intro b1 w1' hb1 hs1 hS1' hk1
    refine jz ?_
    refine ⟨inferInstance, ?_⟩
    refine jT rfl rfl rfl ?_
    refine Ops.buildSliceF (cells := [.int .i64 1, .int .i64 0, .int .i64 0, .int .i64 0]) rfl rfl rfl ?_
    intro b2 w2' hb2 hs2 hS2' hk2
    refine jz ?_
    exact ⟨b1, b2, rfl, inferInstance, inferInstance, inferInstance⟩
  · refine jT rfl rfl rfl ?_
    refine Ops.buildSliceF (cells := [.int .i64 1, .int .i64 0, .int .i64 0, .int .i64 0]) rfl rfl rfl ?_
    intro b1 w1' hb1 hs1 hS1' hk1
    refine jz ?_
    refine ⟨inferInstance, ?_⟩
    refine jT rfl rfl rfl ?_
    refine Ops.buildSliceF (cells := [.int .i64 0, .int .i64 0, .int .i64 1, .int .i64 0]) rfl rfl rfl ?_
    intro b2 w2' hb2 hs2 hS2' hk2
    refine jz ?_
    exact ⟨b2, b1, rfl, inferInstance, inferInstance, inferInstance⟩
  rintro b26 b27 w27 ⟨hE27, kk1, kk2⟩
  have hS27 := hE27.toStep
  (apply AnyF.one 23; (decide +kernel); exact rfl; (exact inferInstance))
  refine jT rfl rfl rfl ?_
  refine Ops.buildSliceF (cells := [.slice (some ⟨b26, 0, none⟩) 4 4, .slice (some ⟨b27, 0, none⟩) 4 4]) rfl rfl rfl ?_
  intro b28 w28 hb28 hs28 hS28 hk28
  refine jz ?_
  obtain ⟨ts, hts⟩ : ∃ ts : List Rw, ts = [(some ⟨b26, 0, none⟩, 4, [0, 0, 1, 0]), (some ⟨b27, 0, none⟩, 4, [1, 0, 0, 0])] := ⟨_, rfl⟩
  have it : RowI w28 (.slice (some ⟨b28, 0, none⟩) ts.length 2) false 1 (ts.map encW) := ⟨by subst hts; exact hk28.row (fun x hx => by simp at hx; rcases hx with rfl | rfl <;> rfl) (by simp)⟩
  have k1 : Bk w28 b26 [.int .i64 0, .int .i64 0, .int .i64 1, .int .i64 0] 3 := inferInstance
  have k2 : Bk w28 b27 [.int .i64 1, .int .i64 0, .int .i64 0, .int .i64 0] 3 := inferInstance
  have its : RowsI w28 ts := ⟨by
    subst hts
    intro x hx
    simp only [List.mem_cons, List.not_mem_nil, or_false] at hx
    rcases hx with rfl | rfl
    · exact k1.row (fun x hx => by simp at hx; rcases hx with rfl | rfl | rfl | rfl <;> rfl) (by simp)
    · exact k2.row (fun x hx => by simp at hx; rcases hx with rfl | rfl | rfl | rfl <;> rfl) (by simp)⟩
  have ets : ts.length = 2 := by rw [hts]; rfl
  have iP27 : RowI w28 (.slice a6 rs.length c6) false 1 (rs.map encW) := inferInstance
  have iI27 : RowsI w28 rs := inferInstance
  (apply AnyF.one 24; (decide +kernel); exact rfl; (exact inferInstance))
  refine jT rfl rfl rfl ?_
  refine jjQ (SameLists_yes a6 c6 rs _ (some ⟨b28, 0, none⟩) 2 ts (by rw [hrs, hts]; rfl) (by omega)) rfl (by rw [ets]; rfl) ?_
  rintro _ w29 hS29 rfl
  refine jz ?_
  refine AnyF.take [25, 26, 27, 28, 29, 30, 31] (by decide +kernel) inferInstance ?_
  (((apply jjT; exact rfl; rintro w' hq; have := hq.toStep; refine jK rfl (eB rfl) (jz ?_); exact ⟨rfl, rfl⟩; apply jjT; exact rfl; rintro w' hq; have := hq.toStep; refine jI (eB rfl) (jz ?_); exact ⟨rfl, rfl⟩; apply jjT; exact rfl; rintro w' hq; have := hq.toStep; refine jT rfl rfl rfl (jI (eI rfl) (jz ?_)); exact ⟨rfl, rfl⟩; apply jjT; exact rfl; rintro w' hq; have := hq.toStep; refine jT rfl rfl rfl (jjh rfl rfl (by omega) (jz ?_)); exact ⟨rfl, rfl⟩; apply jjT; exact rfl; rintro w' hq; have := hq.toStep; refine jK rfl (eB rfl) (jz ?_); exact ⟨rfl, rfl⟩; apply jjT; exact rfl; rintro w' hq; have := hq.toStep; refine jI (eB rfl) (jz ?_); exact ⟨rfl, rfl⟩; apply jjT; exact rfl; rintro w' hq; have := hq.toStep; refine jT rfl rfl rfl (jI (eS rfl) (jz ?_)); exact ⟨rfl, rfl⟩; refine jjU ?_)))
  (apply AnyF.one 32; (decide +kernel); exact rfl; (exact inferInstance))
  refine jT rfl rfl rfl ?_
  refine Ops.buildSliceF (cells := [.int .i64 1, .int .i64 3, .int .i64 2, .int .i64 0]) rfl rfl rfl ?_
  intro b30 w30 hb30 hs30 hS30 hk30
  refine jz ?_
  (apply AnyF.one 33; (decide +kernel); exact rfl; (exact inferInstance))
  refine jT rfl rfl rfl ?_
  refine jjQ (same_ex _ a8 c8 b30 4 [1, 3, 2, 0] rfl (by decide) (hR8.ext inferInstance) hk30) rfl rfl ?_
  rintro _ w31 hS31 rfl
  refine jz ?_
  refine AnyF.take [34, 35, 36, 37, 38, 39, 40] (by decide +kernel) inferInstance ?_
  (((apply jjT; exact rfl; rintro w' hq; have := hq.toStep; refine jK rfl (eB rfl) (jz ?_); exact ⟨rfl, rfl⟩; apply jjT; exact rfl; rintro w' hq; have := hq.toStep; refine jI (eB rfl) (jz ?_); exact ⟨rfl, rfl⟩; apply jjT; exact rfl; rintro w' hq; have := hq.toStep; refine jT rfl rfl rfl (jI (eI rfl) (jz ?_)); exact ⟨rfl, rfl⟩; apply jjT; exact rfl; rintro w' hq; have := hq.toStep; refine jT rfl rfl rfl (jjh rfl rfl (by omega) (jz ?_)); exact ⟨rfl, rfl⟩; apply jjT; exact rfl; rintro w' hq; have := hq.toStep; refine jK rfl (eB rfl) (jz ?_); exact ⟨rfl, rfl⟩; apply jjT; exact rfl; rintro w' hq; have := hq.toStep; refine jI (eB rfl) (jz ?_); exact ⟨rfl, rfl⟩; apply jjT; exact rfl; rintro w' hq; have := hq.toStep; refine jT rfl rfl rfl (jI (eS rfl) (jz ?_)); exact ⟨rfl, rfl⟩; refine jjU ?_)))
  refine AnyF.take [41] (by decide +kernel) inferInstance (jjT (v := encII (3, 2)) rfl (fun w' q1 => ?_) (jjU ?_)); (refine jT rfl rfl rfl ?_; (refine jjS (cells := [.int .i64 3, .int .i64 2]) ?_ ?_; exact rfl); refine jz ?_; exact ⟨rfl, rfl⟩)
  refine AnyF.take [42] (by decide +kernel) inferInstance (jjT (v := encII (2, 0)) rfl (fun w' q1 => ?_) (jjU ?_)); (refine jT rfl rfl rfl ?_; (refine jjS (cells := [.int .i64 2, .int .i64 0]) ?_ ?_; exact rfl); refine jz ?_; exact ⟨rfl, rfl⟩)
  (apply AnyF.one 43; (decide +kernel); exact rfl; (exact inferInstance))
  refine jT rfl rfl rfl ?_
  refine Ops.buildSliceF (cells := [.int .i64 3, .int .i64 2, .int .i64 2, .int .i64 0]) rfl rfl rfl ?_
  intro b32 w32 hb32 hs32 hS32 hk32
  refine jz ?_
  have i32' : RowI w32 (.slice (some ⟨b32, 0, none⟩) ([(3, 2), (2, 0)] : List (Int × Int)).length 2) true 2 (([(3, 2), (2, 0)] : List (Int × Int)).map encII) := ⟨Bk.rows (xs := ([(3, 2), (2, 0)] : List (Int × Int)).map encII) hk32 (by simp [fitsV, encII]) (by simp)⟩
  (apply AnyF.one 44; (decide +kernel); exact rfl; (exact inferInstance))
  refine jT rfl rfl rfl ?_
  refine jjQ (SamePairs_yes a10 (some ⟨b32, 0, none⟩) c10 2 [(3, 2), (2, 0)] _ (by decide)) rfl rfl ?_
  rintro _ w33 hS33 rfl
  refine jz ?_
  refine AnyF.take [45, 46, 47, 48, 49, 50, 51] (by decide +kernel) inferInstance ?_
  (((apply jjT; exact rfl; rintro w' hq; have := hq.toStep; refine jK rfl (eB rfl) (jz ?_); exact ⟨rfl, rfl⟩; apply jjT; exact rfl; rintro w' hq; have := hq.toStep; refine jI (eB rfl) (jz ?_); exact ⟨rfl, rfl⟩; apply jjT; exact rfl; rintro w' hq; have := hq.toStep; refine jT rfl rfl rfl (jI (eI rfl) (jz ?_)); exact ⟨rfl, rfl⟩; apply jjT; exact rfl; rintro w' hq; have := hq.toStep; refine jT rfl rfl rfl (jjh rfl rfl (by omega) (jz ?_)); exact ⟨rfl, rfl⟩; apply jjT; exact rfl; rintro w' hq; have := hq.toStep; refine jK rfl (eB rfl) (jz ?_); exact ⟨rfl, rfl⟩; apply jjT; exact rfl; rintro w' hq; have := hq.toStep; refine jI (eB rfl) (jz ?_); exact ⟨rfl, rfl⟩; apply jjT; exact rfl; rintro w' hq; have := hq.toStep; refine jT rfl rfl rfl (jI (eS rfl) (jz ?_)); exact ⟨rfl, rfl⟩; refine jjU ?_)))
  (apply AnyF.one 52; (decide +kernel); exact rfl; (exact inferInstance))
  refine jT rfl rfl rfl ?_
  refine Ops.buildSliceF (cells := [.int .i64 1, .int .i64 2]) rfl rfl rfl ?_
  intro b34 w34 hb34 hs34 hS34 hk34
  refine jz ?_
  (apply AnyF.one 53; (decide +kernel); exact rfl; (exact inferInstance))
  refine jT rfl rfl rfl ?_
  refine jjQ (same_ex _ a12 c12 b34 2 [1, 2] rfl (by decide) (hR12.ext inferInstance) hk34) rfl rfl ?_
  rintro _ w35 hS35 rfl
  refine jz ?_
  refine AnyF.take [54, 55, 56, 57, 58, 59, 60] (by decide +kernel) inferInstance ?_
  (((apply jjT; exact rfl; rintro w' hq; have := hq.toStep; refine jK rfl (eB rfl) (jz ?_); exact ⟨rfl, rfl⟩; apply jjT; exact rfl; rintro w' hq; have := hq.toStep; refine jI (eB rfl) (jz ?_); exact ⟨rfl, rfl⟩; apply jjT; exact rfl; rintro w' hq; have := hq.toStep; refine jT rfl rfl rfl (jI (eI rfl) (jz ?_)); exact ⟨rfl, rfl⟩; apply jjT; exact rfl; rintro w' hq; have := hq.toStep; refine jT rfl rfl rfl (jjh rfl rfl (by omega) (jz ?_)); exact ⟨rfl, rfl⟩; apply jjT; exact rfl; rintro w' hq; have := hq.toStep; refine jK rfl (eB rfl) (jz ?_); exact ⟨rfl, rfl⟩; apply jjT; exact rfl; rintro w' hq; have := hq.toStep; refine jI (eB rfl) (jz ?_); exact ⟨rfl, rfl⟩; apply jjT; exact rfl; rintro w' hq; have := hq.toStep; refine jT rfl rfl rfl (jI (eS rfl) (jz ?_)); exact ⟨rfl, rfl⟩; refine jjU ?_)))
  (apply AnyF.one 61; (decide +kernel); exact rfl; (exact inferInstance))
  refine jT rfl rfl rfl ?_
  refine Ops.buildSliceF (cells := [.int .i64 0, .int .i64 0, .int .i64 1, .int .i64 1]) rfl rfl rfl ?_
  intro b36 w36 hb36 hs36 hS36 hk36
  refine jz ?_
  (apply AnyF.one 62; (decide +kernel); exact rfl; (exact inferInstance))
  refine jT rfl rfl rfl ?_
  refine jjQ (same_ex _ a14 c14 b36 4 [0, 0, 1, 1] rfl (by decide) (hR14.ext inferInstance) hk36) rfl rfl ?_
  rintro _ w37 hS37 rfl
  refine jz ?_
  refine AnyF.take [63, 64, 65, 66, 67, 68, 69] (by decide +kernel) inferInstance ?_
  (((apply jjT; exact rfl; rintro w' hq; have := hq.toStep; refine jK rfl (eB rfl) (jz ?_); exact ⟨rfl, rfl⟩; apply jjT; exact rfl; rintro w' hq; have := hq.toStep; refine jI (eB rfl) (jz ?_); exact ⟨rfl, rfl⟩; apply jjT; exact rfl; rintro w' hq; have := hq.toStep; refine jT rfl rfl rfl (jI (eI rfl) (jz ?_)); exact ⟨rfl, rfl⟩; apply jjT; exact rfl; rintro w' hq; have := hq.toStep; refine jT rfl rfl rfl (jjh rfl rfl (by omega) (jz ?_)); exact ⟨rfl, rfl⟩; apply jjT; exact rfl; rintro w' hq; have := hq.toStep; refine jK rfl (eB rfl) (jz ?_); exact ⟨rfl, rfl⟩; apply jjT; exact rfl; rintro w' hq; have := hq.toStep; refine jI (eB rfl) (jz ?_); exact ⟨rfl, rfl⟩; apply jjT; exact rfl; rintro w' hq; have := hq.toStep; refine jT rfl rfl rfl (jI (eS rfl) (jz ?_)); exact ⟨rfl, rfl⟩; refine jjU ?_)))
  refine AnyF.take [70] (by decide +kernel) inferInstance (jjT (v := encII (0, 3)) rfl (fun w' q1 => ?_) (jjU ?_)); (refine jT rfl rfl rfl ?_; (refine jjS (cells := [.int .i64 0, .int .i64 3]) ?_ ?_; exact rfl); refine jz ?_; exact ⟨rfl, rfl⟩)
  refine AnyF.take [71] (by decide +kernel) inferInstance (jjT (v := encII (2, 1)) rfl (fun w' q1 => ?_) (jjU ?_)); (refine jT rfl rfl rfl ?_; (refine jjS (cells := [.int .i64 2, .int .i64 1]) ?_ ?_; exact rfl); refine jz ?_; exact ⟨rfl, rfl⟩)
  (apply AnyF.one 72; (decide +kernel); exact rfl; (exact inferInstance))
  refine jT rfl rfl rfl ?_
  refine Ops.buildSliceF (cells := [.int .i64 0, .int .i64 3, .int .i64 2, .int .i64 1]) rfl rfl rfl ?_
  intro b38 w38 hb38 hs38 hS38 hk38
  refine jz ?_
  have i38' : RowI w38 (.slice (some ⟨b38, 0, none⟩) ([(0, 3), (2, 1)] : List (Int × Int)).length 2) true 2 (([(0, 3), (2, 1)] : List (Int × Int)).map encII) := ⟨Bk.rows (xs := ([(0, 3), (2, 1)] : List (Int × Int)).map encII) hk38 (by simp [fitsV, encII]) (by simp)⟩
  (apply AnyF.one 73; (decide +kernel); exact rfl; (exact inferInstance))
  refine jT rfl rfl rfl ?_
  refine jjQ (SameMoves_yes a16 (some ⟨b38, 0, none⟩) c16 2 [(0, 3), (2, 1)] _ (by decide)) rfl rfl ?_
  rintro _ w39 hS39 rfl
  refine jz ?_
  refine AnyF.take [74, 75, 76, 77, 78, 79, 80] (by decide +kernel) inferInstance ?_
  (((apply jjT; exact rfl; rintro w' hq; have := hq.toStep; refine jK rfl (eB rfl) (jz ?_); exact ⟨rfl, rfl⟩; apply jjT; exact rfl; rintro w' hq; have := hq.toStep; refine jI (eB rfl) (jz ?_); exact ⟨rfl, rfl⟩; apply jjT; exact rfl; rintro w' hq; have := hq.toStep; refine jT rfl rfl rfl (jI (eI rfl) (jz ?_)); exact ⟨rfl, rfl⟩; apply jjT; exact rfl; rintro w' hq; have := hq.toStep; refine jT rfl rfl rfl (jjh rfl rfl (by omega) (jz ?_)); exact ⟨rfl, rfl⟩; apply jjT; exact rfl; rintro w' hq; have := hq.toStep; refine jK rfl (eB rfl) (jz ?_); exact ⟨rfl, rfl⟩; apply jjT; exact rfl; rintro w' hq; have := hq.toStep; refine jI (eB rfl) (jz ?_); exact ⟨rfl, rfl⟩; apply jjT; exact rfl; rintro w' hq; have := hq.toStep; refine jT rfl rfl rfl (jI (eS rfl) (jz ?_)); exact ⟨rfl, rfl⟩; refine jjU ?_)))
  (apply AnyF.one 81; (decide +kernel); exact rfl; (exact inferInstance))
  refine jT rfl rfl rfl ?_
  refine Ops.buildSliceF (cells := [.int .i64 1, .int .i64 3, .int .i64 2, .int .i64 0]) rfl rfl rfl ?_
  intro b40 w40 hb40 hs40 hS40 hk40
  refine jz ?_
  (apply AnyF.one 82; (decide +kernel); exact rfl; (exact inferInstance))
  refine jT rfl rfl rfl ?_
  refine jjQ (same_ex _ a18 c18 b40 4 [1, 3, 2, 0] rfl (by decide) (hR18.ext inferInstance) hk40) rfl rfl ?_
  rintro _ w41 hS41 rfl
  refine jz ?_
  refine AnyF.take [83, 84, 85, 86, 87, 88, 89] (by decide +kernel) inferInstance ?_
  (((apply jjT; exact rfl; rintro w' hq; have := hq.toStep; refine jK rfl (eB rfl) (jz ?_); exact ⟨rfl, rfl⟩; apply jjT; exact rfl; rintro w' hq; have := hq.toStep; refine jI (eB rfl) (jz ?_); exact ⟨rfl, rfl⟩; apply jjT; exact rfl; rintro w' hq; have := hq.toStep; refine jT rfl rfl rfl (jI (eI rfl) (jz ?_)); exact ⟨rfl, rfl⟩; apply jjT; exact rfl; rintro w' hq; have := hq.toStep; refine jT rfl rfl rfl (jjh rfl rfl (by omega) (jz ?_)); exact ⟨rfl, rfl⟩; apply jjT; exact rfl; rintro w' hq; have := hq.toStep; refine jK rfl (eB rfl) (jz ?_); exact ⟨rfl, rfl⟩; apply jjT; exact rfl; rintro w' hq; have := hq.toStep; refine jI (eB rfl) (jz ?_); exact ⟨rfl, rfl⟩; apply jjT; exact rfl; rintro w' hq; have := hq.toStep; refine jT rfl rfl rfl (jI (eS rfl) (jz ?_)); exact ⟨rfl, rfl⟩; refine jjU ?_)))
  (apply AnyF.one 90; (decide +kernel); exact rfl; (exact inferInstance))
  refine jT rfl rfl rfl ?_
  refine Ops.buildSliceF (cells := [.int .i64 2, .int .i64 1, .int .i64 2, .int .i64 0]) rfl rfl rfl ?_
  intro b42 w42 hb42 hs42 hS42 hk42
  refine jz ?_
  (apply AnyF.one 91; (decide +kernel); exact rfl; (exact inferInstance))
  refine jT rfl rfl rfl ?_
  refine jjQ (same_ex _ a20 c20 b42 4 [2, 1, 2, 0] rfl (by decide) (hR20.ext inferInstance) hk42) rfl rfl ?_
  rintro _ w43 hS43 rfl
  refine jz ?_
  refine AnyF.take [92, 93, 94, 95, 96, 97, 98, 99, 100, 101, 102, 103, 104, 105, 106, 107] (by decide +kernel) inferInstance ?_
  (((apply jjT; exact rfl; rintro w' hq; have := hq.toStep; refine jK rfl (eB rfl) (jz ?_); exact ⟨rfl, rfl⟩; apply jjT; exact rfl; rintro w' hq; have := hq.toStep; refine jI (eB rfl) (jz ?_); exact ⟨rfl, rfl⟩; apply jjT; exact rfl; rintro w' hq; have := hq.toStep; refine jT rfl rfl rfl (jI (eI rfl) (jz ?_)); exact ⟨rfl, rfl⟩; apply jjT; exact rfl; rintro w' hq; have := hq.toStep; refine jT rfl rfl rfl (jjh rfl rfl (by omega) (jz ?_)); exact ⟨rfl, rfl⟩; apply jjT; exact rfl; rintro w' hq; have := hq.toStep; refine jK rfl (eB rfl) (jz ?_); exact ⟨rfl, rfl⟩; apply jjT; exact rfl; rintro w' hq; have := hq.toStep; refine jI (eB rfl) (jz ?_); exact ⟨rfl, rfl⟩; apply jjT; exact rfl; rintro w' hq; have := hq.toStep; refine jT rfl rfl rfl (jI (eI rfl) (jz ?_)); exact ⟨rfl, rfl⟩; apply jjT; exact rfl; rintro w' hq; have := hq.toStep; refine jT rfl rfl rfl (jjh rfl rfl (by omega) (jz ?_)); exact ⟨rfl, rfl⟩; apply jjT; exact rfl; rintro w' hq; have := hq.toStep; refine jK rfl (eB rfl) (jz ?_); exact ⟨rfl, rfl⟩; apply jjT; exact rfl; rintro w' hq; have := hq.toStep; refine jI (eB rfl) (jz ?_); exact ⟨rfl, rfl⟩; apply jjT; exact rfl; rintro w' hq; have := hq.toStep; refine jT rfl rfl rfl (jI (eS rfl) (jz ?_)); exact ⟨rfl, rfl⟩; apply jjT; exact rfl; rintro w' hq; have := hq.toStep; refine jT rfl rfl rfl (jh rfl (jz ?_)); exact ⟨rfl, rfl⟩; apply jjT; exact rfl; rintro w' hq; have := hq.toStep; refine jT rfl rfl rfl (jjh rfl rfl (by omega) (jz ?_)); exact ⟨rfl, rfl⟩; apply jjT; exact rfl; rintro w' hq; have := hq.toStep; refine jK rfl (eB rfl) (jz ?_); exact ⟨rfl, rfl⟩; apply jjT; exact rfl; rintro w' hq; have := hq.toStep; refine jI (eB rfl) (jz ?_); exact ⟨rfl, rfl⟩; apply jjT; exact rfl; rintro w' hq; have := hq.toStep; refine jT rfl rfl rfl (jI (eS rfl) (jz ?_)); exact ⟨rfl, rfl⟩; refine jjU ?_)))
  refine AnyF.take [108] (by decide +kernel) inferInstance (jjT (v := .pointer (some ⟨pb, po + 0 * 6, none⟩)) rfl (fun w' q1 => ?_) (jjU ?_)); (refine jT rfl rfl rfl ?_; refine jH 0 rfl rfl rfl (by omega) ?_; refine jz ?_; exact ⟨rfl, rfl⟩)
  refine AnyF.take [109] (by decide +kernel) inferInstance (jjT (v := .pointer (some ⟨pb, po + 0 * 6 + 3, none⟩)) rfl (fun w' q1 => ?_) (jjU ?_)); (refine jT rfl rfl rfl (jn rfl (jz ?_)); exact ⟨rfl, rfl⟩)
  refine AnyF.take [110] (by decide +kernel) inferInstance (jjT (v := .string xAnd) rfl (fun w' q1 => ?_) (jjU ?_)); (refine jT rfl rfl rfl ?_; refine jR ((P0.ext q1).get (i := 3) rfl) rfl rfl ?_; refine jz ?_; exact ⟨rfl, rfl⟩)
  refine AnyF.take [111] (by decide +kernel) inferInstance (jjT (v := .bool true) rfl (fun w' q1 => ?_) (jjU ?_)); (refine jT rfl rfl rfl ?_; refine Ops.eqlS rfl rfl ?_; rw [decide_eq_true rfl]; refine jz ?_; exact ⟨rfl, rfl⟩)
  refine AnyF.take [112, 113, 114] (by decide +kernel) inferInstance ?_
  (((apply jjT; exact rfl; rintro w' hq; have := hq.toStep; refine jK rfl (eB rfl) (jz ?_); exact ⟨rfl, rfl⟩; apply jjT; exact rfl; rintro w' hq; have := hq.toStep; refine jI (eB rfl) (jz ?_); exact ⟨rfl, rfl⟩; apply jjT; exact rfl; rintro w' hq; have := hq.toStep; refine jT rfl rfl rfl (jI (eS rfl) (jz ?_)); exact ⟨rfl, rfl⟩; refine jjU ?_)))
  refine AnyF.take [115] (by decide +kernel) inferInstance (jjT (v := .pointer (some ⟨pb, po + 1 * 6, none⟩)) rfl (fun w' q1 => ?_) (jjU ?_)); (refine jT rfl rfl rfl ?_; refine jH 1 rfl rfl rfl (by omega) ?_; refine jz ?_; exact ⟨rfl, rfl⟩)
  refine AnyF.take [116] (by decide +kernel) inferInstance (jjT (v := .pointer (some ⟨pb, po + 1 * 6 + 3, none⟩)) rfl (fun w' q1 => ?_) (jjU ?_)); (refine jT rfl rfl rfl (jn rfl (jz ?_)); exact ⟨rfl, rfl⟩)
  refine AnyF.take [117] (by decide +kernel) inferInstance (jjT (v := .string xOld) rfl (fun w' q1 => ?_) (jjU ?_)); (refine jT rfl rfl rfl ?_; refine jR ((P1.ext q1).get (i := 3) rfl) rfl rfl ?_; refine jz ?_; exact ⟨rfl, rfl⟩)
  refine AnyF.take [118] (by decide +kernel) inferInstance (jjT (v := .bool true) rfl (fun w' q1 => ?_) (jjU ?_)); (refine jT rfl rfl rfl ?_; refine Ops.eqlS rfl rfl ?_; rw [decide_eq_true rfl]; refine jz ?_; exact ⟨rfl, rfl⟩)
  refine AnyF.take [119, 120, 121] (by decide +kernel) inferInstance ?_
  (((apply jjT; exact rfl; rintro w' hq; have := hq.toStep; refine jK rfl (eB rfl) (jz ?_); exact ⟨rfl, rfl⟩; apply jjT; exact rfl; rintro w' hq; have := hq.toStep; refine jI (eB rfl) (jz ?_); exact ⟨rfl, rfl⟩; apply jjT; exact rfl; rintro w' hq; have := hq.toStep; refine jT rfl rfl rfl (jI (eS rfl) (jz ?_)); exact ⟨rfl, rfl⟩; refine jjU ?_)))
  refine AnyF.take [122] (by decide +kernel) inferInstance (jjT (v := .pointer (some ⟨pb, po + 2 * 6, none⟩)) rfl (fun w' q1 => ?_) (jjU ?_)); (refine jT rfl rfl rfl ?_; refine jH 2 rfl rfl rfl (by omega) ?_; refine jz ?_; exact ⟨rfl, rfl⟩)
  refine AnyF.take [123] (by decide +kernel) inferInstance (jjT (v := encSl exS[0]) rfl (fun w' q1 => ?_) (jjU ?_)); (refine jT rfl rfl rfl ?_; refine Ops.loadOA (off := 0) (P2.ext q1) rfl rfl rfl rfl ?_; refine jz ?_; exact ⟨rfl, rfl⟩)
  (apply AnyF.one 124; (decide +kernel); exact rfl; (exact inferInstance))
  refine jT rfl rfl rfl ?_
  refine jjQ (slips_law6 _) rfl rfl ?_
  rintro _ w44 hS44 ⟨e2, rfl, hQ2⟩
  refine jz ?_
  have Q2 : At w44 e2 (0 + 0 * 6) (encSl exS[0]).cells.toList := place_k hQ2 (j := 0) rfl
  (apply AnyF.one 125; (decide +kernel); exact rfl; (exact inferInstance))
  refine jT rfl rfl rfl ?_
  refine jH 0 rfl rfl rfl (by omega) ?_
  refine jz ?_
  (apply AnyF.one 126; (decide +kernel); exact rfl; (exact inferInstance))
  refine jT rfl rfl rfl ?_
  refine Ops.loadOA (off := 0) Q2 rfl rfl rfl rfl ?_
  refine jz ?_
  (apply AnyF.one 127; (decide +kernel); exact rfl; (exact inferInstance))
  refine jT rfl rfl rfl ?_
  refine Ops.eqlT (enc := encSl) exS[0] exS[0] rfl rfl ?_
  rw [decide_eq_true rfl]
  refine jz ?_
  refine AnyF.take [128, 129, 130] (by decide +kernel) inferInstance ?_
  (((apply jjT; exact rfl; rintro w' hq; have := hq.toStep; refine jK rfl (eB rfl) (jz ?_); exact ⟨rfl, rfl⟩; apply jjT; exact rfl; rintro w' hq; have := hq.toStep; refine jI (eB rfl) (jz ?_); exact ⟨rfl, rfl⟩; apply jjT; exact rfl; rintro w' hq; have := hq.toStep; refine jT rfl rfl rfl (jI (eS rfl) (jz ?_)); exact ⟨rfl, rfl⟩; refine jjU ?_)))
  refine AnyF.take [131] (by decide +kernel) inferInstance (jjT (v := .pointer (some ⟨pb, po + 3 * 6, none⟩)) rfl (fun w' q1 => ?_) (jjU ?_)); (refine jT rfl rfl rfl ?_; refine jH 3 rfl rfl rfl (by omega) ?_; refine jz ?_; exact ⟨rfl, rfl⟩)
  refine AnyF.take [132] (by decide +kernel) inferInstance (jjT (v := encSl exS[2]) rfl (fun w' q1 => ?_) (jjU ?_)); (refine jT rfl rfl rfl ?_; refine Ops.loadOA (off := 0) (P3.ext q1) rfl rfl rfl rfl ?_; refine jz ?_; exact ⟨rfl, rfl⟩)
  (apply AnyF.one 133; (decide +kernel); exact rfl; (exact inferInstance))
  refine jT rfl rfl rfl ?_
  refine jjQ (slips_law6 _) rfl rfl ?_
  rintro _ w45 hS45 ⟨e3, rfl, hQ3⟩
  refine jz ?_
  have Q3 : At w45 e3 (0 + 2 * 6) (encSl exS[2]).cells.toList := place_k hQ3 (j := 2) rfl
  (apply AnyF.one 134; (decide +kernel); exact rfl; (exact inferInstance))
  refine jT rfl rfl rfl ?_
  refine jH 2 rfl rfl rfl (by omega) ?_
  refine jz ?_
  (apply AnyF.one 135; (decide +kernel); exact rfl; (exact inferInstance))
  refine jT rfl rfl rfl ?_
  refine Ops.loadOA (off := 0) Q3 rfl rfl rfl rfl ?_
  refine jz ?_
  (apply AnyF.one 136; (decide +kernel); exact rfl; (exact inferInstance))
  refine jT rfl rfl rfl ?_
  refine Ops.eqlT (enc := encSl) exS[2] exS[2] rfl rfl ?_
  rw [decide_eq_true rfl]
  refine jz ?_
  refine AnyF.take [137, 138] (by decide +kernel) inferInstance ?_
  (((apply jjT; exact rfl; rintro w' hq; have := hq.toStep; refine jK rfl (eB rfl) (jz ?_); exact ⟨rfl, rfl⟩; apply jjT; exact rfl; rintro w' hq; have := hq.toStep; refine jJ (eB rfl) (jz ?_); exact ⟨rfl, rfl⟩; refine jjU ?_)))
  refine AnyF.done (by decide +kernel) inferInstance ?_
  (refine jjF ?_; refine jB rfl rfl ⟨inferInstance, ?_⟩)
  exact rfl
end
end Go.Proofs.YtpijeomnplmakaaGreatDoor
