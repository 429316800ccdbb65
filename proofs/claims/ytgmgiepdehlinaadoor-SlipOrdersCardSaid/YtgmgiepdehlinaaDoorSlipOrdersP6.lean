/- Texts of the proof, part 6: LawSo. -/
import Derived.Test.YtgmgiepdehlinaaDoorSlipOrdersP5
/- The law: the order of slips, where copies have what stands in a place. -/
namespace Go.Proofs.YtgmgiepdehlinaaDoor
open Go.RowKit

theorem small_of_greatS {x : Slp} (h : greatS x = false) : SmallS x := by
  simp only [greatS, Bool.or_eq_false_iff, decide_eq_false_iff_not] at h
  exact ⟨by omega, by omega, by omega⟩
theorem AnyS.three {P : Program} {ro : Option Nat} {n : Nat} {all : List Oper} {K : Sl → World → Prop} {S : World → Prop} (i j k : Nat) {o q r : Oper} {fuel : Nat} {listed : Array Bool} {s : Sl} {w : World} (hr : (Nat.blt 0 fuel && (Region.ready .any all.toArray listed == [i, j, k])) = true) (ho : all[i]? = some o) (hq : all[j]? = some q) (hr' : all[k]? = some r) (hS : S w)
    (h : Ops P ro n all [o] (fun s' w' => AnyS P ro n all S K (fuel - 1) (listed.setIfInBounds i true) s' w') s w)
    (h2 : Ops P ro n all [q] (fun s' w' => AnyS P ro n all S K (fuel - 1) (listed.setIfInBounds j true) s' w') s w)
    (h3 : Ops P ro n all [r] (fun s' w' => AnyS P ro n all S K (fuel - 1) (listed.setIfInBounds k true) s' w') s w) : AnyS P ro n all S K fuel listed s w := by
  simp only [Bool.and_eq_true, beq_iff_eq] at hr
  obtain ⟨hf, hr⟩ := hr
  have hf : 0 < fuel := by simpa using hf
  obtain ⟨f, rfl⟩ : ∃ f, fuel = f + 1 := ⟨fuel - 1, by omega⟩
  rw [AnyS.succ]
  refine ⟨hS, fun h0 => (by rw [hr] at h0; cases h0), fun l hl oj hoj => ?_⟩
  rw [hr] at hl
  rcases List.mem_cons.1 hl with rfl | hl
  · obtain rfl : o = oj := by rw [ho] at hoj; exact Option.some.inj hoj
    rw [op1_ops] at h; exact h
  rcases List.mem_cons.1 hl with rfl | hl
  · obtain rfl : q = oj := by rw [hq] at hoj; exact Option.some.inj hoj
    rw [op1_ops] at h2; exact h2
  · obtain rfl : l = k := by simpa using hl
    obtain rfl : r = oj := by rw [hr'] at hoj; exact Option.some.inj hoj
    rw [op1_ops] at h3; exact h3
theorem OwnCh.putB {w w' : World} {B b e' : Nat} {o : Obj} {v : Value} {cs : List Ch} {vs : List Value} (h : OwnCh w B v cs) (p : PutO w w' b o) (hb : Bk w b vs e') (h1 : 68 ≠ e') (h2 : 69 ≠ e') (h3 : 9 ≠ e') : OwnCh w' B v cs :=
  ⟨h.out.put p (h.out.neB hb h1), fun x hx => ⟨(h.ins x hx).out.put p ((h.ins x hx).out.neB hb h2), fun y hy => ((h.ins x hx).ins y hy).put p (((h.ins x hx).ins y hy).neB hb h3)⟩⟩
set_option maxHeartbeats 16000000 in
theorem SlipOrders_law (a : Option Addr) (c : Nat) (cs : List Ch) (w : World) [hrow : RowI w (.slice a cs.length c) true 2 (cs.map encCh)] [hT : TextI w cs] [hg : At w 1 0 kindsC] [hmx : MxI w] (id : Int) (ra : Option Addr) (rc : Nat) (rs : List Rd) [hrd : RowI w (.slice ra rs.length rc) true 5 (rs.map encRd)]
    (hby : ∀ r ∈ rs, 0 ≤ r.2.1 ∧ r.2.1 ≤ 255) (p : Pl) (x y : Slp) : Ct Tryd.prog 4 [.agg #[.slice a cs.length c], .agg #[.int .i64 id, .slice ra rs.length rc], encPl p, encSl x, encSl y] w fun v _ => v = .bool true := by
  refine Ct.ofW (by simp) ?_
  (refine jjB ?_; refine jjC ?_)
  (refine jy rfl ?_; intro b5 w_b5 hb_b5 hs_b5 hS_b5 hk_b5; have hA_b5 := At.ofBlock hk_b5)
  skip
  (refine jy rfl ?_; intro b6 w_b6 hb_b6 hs_b6 hS_b6 hk_b6; have hA_b6 := At.ofBlock hk_b6)
  skip
  (refine jy rfl ?_; intro b7 w_b7 hb_b7 hs_b7 hS_b7 hk_b7; have hA_b7 := At.ofBlock hk_b7)
  skip
  (refine jy rfl ?_; intro b8 w_b8 hb_b8 hs_b8 hS_b8 hk_b8; have hA_b8 := At.ofBlock hk_b8)
  skip
  (refine jy rfl ?_; intro b9 w_b9 hb_b9 hs_b9 hS_b9 hk_b9; have hA_b9 := At.ofBlock hk_b9)
  (apply jJ; exact eB rfl; refine jz ?_; refine jjB ?_; refine jjB ?_; refine jjC ?_; refine jO rfl rfl rfl rfl ?_)
  obtain ⟨G1, hG1⟩ : ∃ G, greatT (txF cs) = G := ⟨_, rfl⟩
  refine jjQ ((Great_ref1 a c cs _).mono fun v _ _ h => h.trans (by rw [hG1])) rfl rfl ?_
  rintro _ w2 hS2 rfl
  cases G1 with
  | true =>
    (apply jI; exact eB rfl; refine jU rfl rfl rfl rfl ?_; refine jU rfl rfl rfl rfl ?_; apply jK rfl; exact eB rfl; apply jI; exact eB rfl; refine jU rfl rfl rfl rfl ?_; refine jU rfl rfl rfl rfl ?_; apply jK rfl; exact eB rfl; apply jI; exact eB rfl; refine jU rfl rfl rfl rfl ?_; refine jU rfl rfl rfl rfl ?_; apply jK rfl; exact eB rfl; refine jz ?_; refine jjJ rfl ?_; refine jjB ?_; refine jjC ?_; apply jJ; exact eB rfl; refine jz ?_; refine jjF ?_; refine jB rfl rfl ⟨inferInstance, ?_⟩)
    exact rfl
  | false =>
  have hs := small_of_great hG1
  have hz : ∃ G, greatR rs = G := ⟨_, rfl⟩
  obtain ⟨G2, hG2⟩ := hz
  (apply jI; exact eB rfl; refine jT rfl rfl rfl ?_; refine jO rfl rfl rfl rfl ?_; refine jT rfl rfl rfl ?_)
  refine jjQ ((GreatCopy_ref1 id ra rc rs _).mono fun v _ _ h => h.trans (by rw [hG2])) rfl rfl ?_
  rintro _ w3 hS3 rfl
  cases G2 with
  | true =>
    (apply jL rfl; exact eB rfl; apply jI; exact eB rfl; refine jU rfl rfl rfl rfl ?_; refine jU rfl rfl rfl rfl ?_; apply jK rfl; exact eB rfl; apply jI; exact eB rfl; refine jU rfl rfl rfl rfl ?_; refine jU rfl rfl rfl rfl ?_; apply jK rfl; exact eB rfl; refine jz ?_; refine jjJ rfl ?_; refine jjB ?_; refine jjC ?_; apply jJ; exact eB rfl; refine jz ?_; refine jjF ?_; refine jB rfl rfl ⟨inferInstance, ?_⟩)
    exact rfl
  | false =>
  have hrs := small_of_greatR hG2 hby
  have hz : ∃ G, greatS x = G := ⟨_, rfl⟩
  obtain ⟨G3, hG3⟩ := hz
  (apply jL rfl; exact eB rfl; apply jI; exact eB rfl; refine jT rfl rfl rfl ?_; refine jO rfl rfl rfl rfl ?_; refine jT rfl rfl rfl ?_)
  refine jjQ ((Great_ref3 x _).mono fun v _ _ h => h.trans (by rw [hG3])) rfl rfl ?_
  rintro _ w4 hS4 rfl
  cases G3 with
  | true =>
    (apply jL rfl; exact eB rfl; apply jI; exact eB rfl; refine jU rfl rfl rfl rfl ?_; refine jU rfl rfl rfl rfl ?_; apply jK rfl; exact eB rfl; refine jz ?_; refine jjJ rfl ?_; refine jjB ?_; refine jjC ?_; apply jJ; exact eB rfl; refine jz ?_; refine jjF ?_; refine jB rfl rfl ⟨inferInstance, ?_⟩)
    exact rfl
  | false =>
  have hxs := small_of_greatS hG3
  have hz : ∃ G, greatS y = G := ⟨_, rfl⟩
  obtain ⟨G4, hG4⟩ := hz
  (apply jL rfl; exact eB rfl; apply jI; exact eB rfl; refine jT rfl rfl rfl ?_; refine jO rfl rfl rfl rfl ?_; refine jT rfl rfl rfl ?_)
  refine jjQ ((Great_ref3 y _).mono fun v _ _ h => h.trans (by rw [hG4])) rfl rfl ?_
  rintro _ w5 hS5 rfl
  cases G4 with
  | true =>
    (apply jL rfl; exact eB rfl; refine jz ?_; refine jjJ rfl ?_; refine jjB ?_; refine jjC ?_; apply jJ; exact eB rfl; refine jz ?_; refine jjF ?_; refine jB rfl rfl ⟨inferInstance, ?_⟩)
    exact rfl
  | false =>
  have hys := small_of_greatS hG4
  (apply jL rfl; exact eB rfl; refine jz ?_; refine jjK rfl ?_; refine jjG ?_; refine jjB ?_)
  have hE5 : Ext w w5 := inferInstance
  have hA5 : At w5 b5 0 [.slice a cs.length c] := inferInstance
  have hA6 : At w5 b6 0 [.int .i64 id, .slice ra rs.length rc] := inferInstance
  have hA7 : At w5 b7 0 [.int .i64 p.1, .int .i64 p.2.1, .int .i64 p.2.2] := inferInstance
  have hA8 : At w5 b8 0 [.int .i64 x.1.1, .int .i64 x.1.2.1, .int .i64 x.1.2.2, .string x.2.1, .string x.2.2.1, .string x.2.2.2] := inferInstance
  have hA9 : At w5 b9 0 [.int .i64 y.1.1, .int .i64 y.1.2.1, .int .i64 y.1.2.2, .string y.2.1, .string y.2.2.1, .string y.2.2.2] := inferInstance
  have hrow5 : RowI w5 (.slice a cs.length c) true 2 (cs.map encCh) := inferInstance
  have hT5 : TextI w5 cs := inferInstance
  have hg5 : At w5 1 0 kindsC := inferInstance
  have hm5 : MxI w5 := inferInstance
  have hrd5 : RowI w5 (.slice ra rs.length rc) true 5 (rs.map encRd) := inferInstance
  refine W.keep0 [(5, .pointer (some ⟨b5, 0, none⟩)), (6, .pointer (some ⟨b6, 0, none⟩)), (7, .pointer (some ⟨b7, 0, none⟩)), (8, .pointer (some ⟨b8, 0, none⟩)), (9, .pointer (some ⟨b9, 0, none⟩))] ⟨eP rfl, eP rfl, eP rfl, eP rfl, eP rfl, trivial⟩ fun s0 => ?_
  refine W.draw (fun w' => Ext w5 w') ?_
  intro w1 hS1
  have x1 := hS1.ext
  (refine jjV [0, 2] ?_ ?_ ?_; (decide +kernel); (exact x1); (((apply jjT; exact rfl; rintro w' hq; have := hq.toStep; refine jO rfl rfl rfl rfl ?_; refine jz ?_; exact ⟨rfl, rfl⟩; apply jjT; exact rfl; rintro w' hq; have := hq.toStep; refine jO rfl rfl rfl rfl ?_; refine jz ?_; exact ⟨rfl, rfl⟩; refine jjU ?_))))
  refine AnyS.mono (K' := fun s w' => s 5 = .pointer (some ⟨b5, 0, none⟩) ∧ s 6 = .pointer (some ⟨b6, 0, none⟩) ∧ s 7 = .pointer (some ⟨b7, 0, none⟩) ∧ s 8 = .pointer (some ⟨b8, 0, none⟩) ∧ s 9 = .pointer (some ⟨b9, 0, none⟩) ∧ (∃ (b11 b12 : Nat) (a' ra' : Option Addr) (c' rc' : Nat) (ds : List Ch), s 11 = .pointer (some ⟨b11, 0, none⟩) ∧ s 12 = .pointer (some ⟨b12, 0, none⟩) ∧ At w' b11 0 [.slice a' ds.length c'] ∧ At w' b12 0 [.int .i64 id, .slice ra' rs.length rc'] ∧ txF ds = txF cs ∧ OwnCh w' w5.heap.size (.slice a' ds.length c') ds ∧ OwnL w' w5.heap.size 88 true 5 (.slice ra' rs.length rc') (rs.map encRd)) ∧ Ext w5 w') ?_ ?_
  rotate_left
  · skip
    refine AnyS.three 1 4 5 (by decide +kernel) rfl rfl rfl x1 ?_ ?_ ?_
    · skip
      refine jjQ (Twin_ref1 a c cs _ hs) rfl rfl ?_
      rintro _ v1 hv1 ⟨a', c', ds, rfl, htx, hO_1⟩
      have e0 : (ds.map encCh).length = ds.length := List.length_map _
      rw [e0] at hO_1 ⊢
      have hOm_1 := hO_1.mono x1.size
      have xv1 := x1.trans hv1.ext
      refine jz ?_
      refine AnyS.three 3 4 5 (by decide +kernel) rfl rfl rfl xv1 ?_ ?_ ?_
      · skip
        refine jjQ (TwinCopy_ref1 id ra rc rs _ hrs.len) rfl rfl ?_
        rintro _ v2 hv2 ⟨ra', rc', rfl, hOr_2⟩
        have hO_2 := hOm_1.ext hv2.ext
        have hOrm_2 := hOr_2.mono xv1.size
        have xv2 := xv1.trans hv2.ext
        refine jz ?_
        refine jjl 4 5 (by decide +kernel) rfl rfl xv2 ?_ ?_
        · skip
          refine jjY ?_
          intro b11 v3 hbb11 hs3 hv3 hk3
          have zbb11 : w5.heap.size ≤ b11 := by have := xv2.size; omega
          have k11_3 := Bk.of hk3
          have hO_3 := hO_2.ext hv3.ext
          have hOr_3 := hOrm_2.ext hv3.ext
          have xv3 := xv2.trans hv3.ext
          refine jz ?_
          (apply jjW 5; (decide +kernel); exact rfl; (exact xv3))
          refine jjY ?_
          intro b12 v4 hbb12 hs4 hv4 hk4
          have zbb12 : w5.heap.size ≤ b12 := by have := xv3.size; omega
          have k12_4 := Bk.of hk4
          have hO_4 := hO_3.ext hv4.ext
          have hOr_4 := hOr_3.ext hv4.ext
          have k11_4 := k11_3.ext hv4.ext
          have xv4 := xv3.trans hv4.ext
          refine jz ?_
          (apply jjW 6; (decide +kernel); exact rfl; (exact xv4))
          have y11 := k11_4
          have y12 := k12_4
          refine Ops.store rfl rfl rfl rfl rfl ?_
          intro wc hpc
          have zx := xv4.size
          have hne : b12 ≠ b11 := by have := y11.h; have := y12.h; intro e; subst e; simp_all
          have hOc := hO_4.putB hpc y11 (by decide) (by decide) (by decide)
          have hOrc := hOr_4.put hpc (hOr_4.neB y11 (by decide))
          have m12 := hpc.bk y12 hne
          have m11 : Bk wc b11 [.slice a' ds.length c'] 24 := ⟨hpc.new⟩
          refine jz ?_
          have ec := hpc.ext xv4 (by omega)
          (apply jjW 7; (decide +kernel); exact rfl; (exact ec))
          refine Ops.store rfl rfl rfl rfl rfl ?_
          intro wd hpd
          have hOd := hOc.putB hpd m12 (by decide) (by decide) (by decide)
          have hOrd := hOrc.put hpd (hOrc.neB m12 (by decide))
          have n11 := hpd.bk m11 (fun e => hne e.symm)
          have n12 : Bk wd b12 [.int .i64 id, .slice ra' rs.length rc'] 52 := ⟨hpd.new⟩
          have ed := hpd.ext ec (by omega)
          refine jz ?_
          refine jjX (by decide +kernel) ed ?_
          exact ⟨rfl, rfl, rfl, rfl, rfl, ⟨b11, b12, a', ra', c', rc', ds, rfl, rfl, Bk.toAt (h := n11), Bk.toAt (h := n12), htx, hOd, hOrd⟩, ed⟩
        · skip
          refine jjY ?_
          intro b12 v5 hbb12 hs5 hv5 hk5
          have zbb12 : w5.heap.size ≤ b12 := by have := xv2.size; omega
          have k12_5 := Bk.of hk5
          have hO_5 := hO_2.ext hv5.ext
          have hOr_5 := hOrm_2.ext hv5.ext
          have xv5 := xv2.trans hv5.ext
          refine jz ?_
          (apply jjW 4; (decide +kernel); exact rfl; (exact xv5))
          refine jjY ?_
          intro b11 v6 hbb11 hs6 hv6 hk6
          have zbb11 : w5.heap.size ≤ b11 := by have := xv5.size; omega
          have k11_6 := Bk.of hk6
          have hO_6 := hO_5.ext hv6.ext
          have hOr_6 := hOr_5.ext hv6.ext
          have k12_6 := k12_5.ext hv6.ext
          have xv6 := xv5.trans hv6.ext
          refine jz ?_
          (apply jjW 6; (decide +kernel); exact rfl; (exact xv6))
          have y11 := k11_6
          have y12 := k12_6
          refine Ops.store rfl rfl rfl rfl rfl ?_
          intro wc hpc
          have zx := xv6.size
          have hne : b12 ≠ b11 := by have := y11.h; have := y12.h; intro e; subst e; simp_all
          have hOc := hO_6.putB hpc y11 (by decide) (by decide) (by decide)
          have hOrc := hOr_6.put hpc (hOr_6.neB y11 (by decide))
          have m12 := hpc.bk y12 hne
          have m11 : Bk wc b11 [.slice a' ds.length c'] 24 := ⟨hpc.new⟩
          refine jz ?_
          have ec := hpc.ext xv6 (by omega)
          (apply jjW 7; (decide +kernel); exact rfl; (exact ec))
          refine Ops.store rfl rfl rfl rfl rfl ?_
          intro wd hpd
          have hOd := hOc.putB hpd m12 (by decide) (by decide) (by decide)
          have hOrd := hOrc.put hpd (hOrc.neB m12 (by decide))
          have n11 := hpd.bk m11 (fun e => hne e.symm)
          have n12 : Bk wd b12 [.int .i64 id, .slice ra' rs.length rc'] 52 := ⟨hpd.new⟩
          have ed := hpd.ext ec (by omega)
          refine jz ?_
          refine jjX (by decide +kernel) ed ?_
          exact ⟨rfl, rfl, rfl, rfl, rfl, ⟨b11, b12, a', ra', c', rc', ds, rfl, rfl, Bk.toAt (h := n11), Bk.toAt (h := n12), htx, hOd, hOrd⟩, ed⟩
      · skip
        refine jjY ?_
        intro b11 v7 hbb11 hs7 hv7 hk7
        have zbb11 : w5.heap.size ≤ b11 := by have := xv1.size; omega
        have k11_7 := Bk.of hk7
        have hO_7 := hOm_1.ext hv7.ext
        have xv7 := xv1.trans hv7.ext
        refine jz ?_
        refine jjl 3 5 (by decide +kernel) rfl rfl xv7 ?_ ?_
        · skip
          refine jjQ (TwinCopy_ref1 id ra rc rs _ hrs.len) rfl rfl ?_
          rintro _ v8 hv8 ⟨ra', rc', rfl, hOr_8⟩
          have hO_8 := hO_7.ext hv8.ext
          have k11_8 := k11_7.ext hv8.ext
          have hOrm_8 := hOr_8.mono xv7.size
          have xv8 := xv7.trans hv8.ext
          refine jz ?_
          (apply jjW 5; (decide +kernel); exact rfl; (exact xv8))
          refine jjY ?_
          intro b12 v9 hbb12 hs9 hv9 hk9
          have zbb12 : w5.heap.size ≤ b12 := by have := xv8.size; omega
          have k12_9 := Bk.of hk9
          have hO_9 := hO_8.ext hv9.ext
          have hOr_9 := hOrm_8.ext hv9.ext
          have k11_9 := k11_8.ext hv9.ext
          have xv9 := xv8.trans hv9.ext
          refine jz ?_
          (apply jjW 6; (decide +kernel); exact rfl; (exact xv9))
          have y11 := k11_9
          have y12 := k12_9
          refine Ops.store rfl rfl rfl rfl rfl ?_
          intro wc hpc
          have zx := xv9.size
          have hne : b12 ≠ b11 := by have := y11.h; have := y12.h; intro e; subst e; simp_all
          have hOc := hO_9.putB hpc y11 (by decide) (by decide) (by decide)
          have hOrc := hOr_9.put hpc (hOr_9.neB y11 (by decide))
          have m12 := hpc.bk y12 hne
          have m11 : Bk wc b11 [.slice a' ds.length c'] 24 := ⟨hpc.new⟩
          refine jz ?_
          have ec := hpc.ext xv9 (by omega)
          (apply jjW 7; (decide +kernel); exact rfl; (exact ec))
          refine Ops.store rfl rfl rfl rfl rfl ?_
          intro wd hpd
          have hOd := hOc.putB hpd m12 (by decide) (by decide) (by decide)
          have hOrd := hOrc.put hpd (hOrc.neB m12 (by decide))
          have n11 := hpd.bk m11 (fun e => hne e.symm)
          have n12 : Bk wd b12 [.int .i64 id, .slice ra' rs.length rc'] 52 := ⟨hpd.new⟩
          have ed := hpd.ext ec (by omega)
          refine jz ?_
          refine jjX (by decide +kernel) ed ?_
          exact ⟨rfl, rfl, rfl, rfl, rfl, ⟨b11, b12, a', ra', c', rc', ds, rfl, rfl, Bk.toAt (h := n11), Bk.toAt (h := n12), htx, hOd, hOrd⟩, ed⟩
        · skip
          refine jjY ?_
          intro b12 v10 hbb12 hs10 hv10 hk10
          have zbb12 : w5.heap.size ≤ b12 := by have := xv7.size; omega
          have k12_10 := Bk.of hk10
          have hO_10 := hO_7.ext hv10.ext
          have k11_10 := k11_7.ext hv10.ext
          have xv10 := xv7.trans hv10.ext
          refine jz ?_
          (apply jjW 3; (decide +kernel); exact rfl; (exact xv10))
          refine jjQ (TwinCopy_ref1 id ra rc rs _ hrs.len) rfl rfl ?_
          rintro _ v11 hv11 ⟨ra', rc', rfl, hOr_11⟩
          have hO_11 := hO_10.ext hv11.ext
          have k11_11 := k11_10.ext hv11.ext
          have k12_11 := k12_10.ext hv11.ext
          have hOrm_11 := hOr_11.mono xv10.size
          have xv11 := xv10.trans hv11.ext
          refine jz ?_
          (apply jjW 6; (decide +kernel); exact rfl; (exact xv11))
          have y11 := k11_11
          have y12 := k12_11
          refine Ops.store rfl rfl rfl rfl rfl ?_
          intro wc hpc
          have zx := xv11.size
          have hne : b12 ≠ b11 := by have := y11.h; have := y12.h; intro e; subst e; simp_all
          have hOc := hO_11.putB hpc y11 (by decide) (by decide) (by decide)
          have hOrc := hOrm_11.put hpc (hOrm_11.neB y11 (by decide))
          have m12 := hpc.bk y12 hne
          have m11 : Bk wc b11 [.slice a' ds.length c'] 24 := ⟨hpc.new⟩
          refine jz ?_
          have ec := hpc.ext xv11 (by omega)
          (apply jjW 7; (decide +kernel); exact rfl; (exact ec))
          refine Ops.store rfl rfl rfl rfl rfl ?_
          intro wd hpd
          have hOd := hOc.putB hpd m12 (by decide) (by decide) (by decide)
          have hOrd := hOrc.put hpd (hOrc.neB m12 (by decide))
          have n11 := hpd.bk m11 (fun e => hne e.symm)
          have n12 : Bk wd b12 [.int .i64 id, .slice ra' rs.length rc'] 52 := ⟨hpd.new⟩
          have ed := hpd.ext ec (by omega)
          refine jz ?_
          refine jjX (by decide +kernel) ed ?_
          exact ⟨rfl, rfl, rfl, rfl, rfl, ⟨b11, b12, a', ra', c', rc', ds, rfl, rfl, Bk.toAt (h := n11), Bk.toAt (h := n12), htx, hOd, hOrd⟩, ed⟩
      · skip
        refine jjY ?_
        intro b12 v12 hbb12 hs12 hv12 hk12
        have zbb12 : w5.heap.size ≤ b12 := by have := xv1.size; omega
        have k12_12 := Bk.of hk12
        have hO_12 := hOm_1.ext hv12.ext
        have xv12 := xv1.trans hv12.ext
        refine jz ?_
        refine jjl 3 4 (by decide +kernel) rfl rfl xv12 ?_ ?_
        · skip
          refine jjQ (TwinCopy_ref1 id ra rc rs _ hrs.len) rfl rfl ?_
          rintro _ v13 hv13 ⟨ra', rc', rfl, hOr_13⟩
          have hO_13 := hO_12.ext hv13.ext
          have k12_13 := k12_12.ext hv13.ext
          have hOrm_13 := hOr_13.mono xv12.size
          have xv13 := xv12.trans hv13.ext
          refine jz ?_
          (apply jjW 4; (decide +kernel); exact rfl; (exact xv13))
          refine jjY ?_
          intro b11 v14 hbb11 hs14 hv14 hk14
          have zbb11 : w5.heap.size ≤ b11 := by have := xv13.size; omega
          have k11_14 := Bk.of hk14
          have hO_14 := hO_13.ext hv14.ext
          have hOr_14 := hOrm_13.ext hv14.ext
          have k12_14 := k12_13.ext hv14.ext
          have xv14 := xv13.trans hv14.ext
          refine jz ?_
          (apply jjW 6; (decide +kernel); exact rfl; (exact xv14))
          have y11 := k11_14
          have y12 := k12_14
          refine Ops.store rfl rfl rfl rfl rfl ?_
          intro wc hpc
          have zx := xv14.size
          have hne : b12 ≠ b11 := by have := y11.h; have := y12.h; intro e; subst e; simp_all
          have hOc := hO_14.putB hpc y11 (by decide) (by decide) (by decide)
          have hOrc := hOr_14.put hpc (hOr_14.neB y11 (by decide))
          have m12 := hpc.bk y12 hne
          have m11 : Bk wc b11 [.slice a' ds.length c'] 24 := ⟨hpc.new⟩
          refine jz ?_
          have ec := hpc.ext xv14 (by omega)
          (apply jjW 7; (decide +kernel); exact rfl; (exact ec))
          refine Ops.store rfl rfl rfl rfl rfl ?_
          intro wd hpd
          have hOd := hOc.putB hpd m12 (by decide) (by decide) (by decide)
          have hOrd := hOrc.put hpd (hOrc.neB m12 (by decide))
          have n11 := hpd.bk m11 (fun e => hne e.symm)
          have n12 : Bk wd b12 [.int .i64 id, .slice ra' rs.length rc'] 52 := ⟨hpd.new⟩
          have ed := hpd.ext ec (by omega)
          refine jz ?_
          refine jjX (by decide +kernel) ed ?_
          exact ⟨rfl, rfl, rfl, rfl, rfl, ⟨b11, b12, a', ra', c', rc', ds, rfl, rfl, Bk.toAt (h := n11), Bk.toAt (h := n12), htx, hOd, hOrd⟩, ed⟩
        · skip
          refine jjY ?_
          intro b11 v15 hbb11 hs15 hv15 hk15
          have zbb11 : w5.heap.size ≤ b11 := by have := xv12.size; omega
          have k11_15 := Bk.of hk15
          have hO_15 := hO_12.ext hv15.ext
          have k12_15 := k12_12.ext hv15.ext
          have xv15 := xv12.trans hv15.ext
          refine jz ?_
          (apply jjW 3; (decide +kernel); exact rfl; (exact xv15))
          refine jjQ (TwinCopy_ref1 id ra rc rs _ hrs.len) rfl rfl ?_
          rintro _ v16 hv16 ⟨ra', rc', rfl, hOr_16⟩
          have hO_16 := hO_15.ext hv16.ext
          have k11_16 := k11_15.ext hv16.ext
          have k12_16 := k12_15.ext hv16.ext
          have hOrm_16 := hOr_16.mono xv15.size
          have xv16 := xv15.trans hv16.ext
          refine jz ?_
          (apply jjW 6; (decide +kernel); exact rfl; (exact xv16))
          have y11 := k11_16
          have y12 := k12_16
          refine Ops.store rfl rfl rfl rfl rfl ?_
          intro wc hpc
          have zx := xv16.size
          have hne : b12 ≠ b11 := by have := y11.h; have := y12.h; intro e; subst e; simp_all
          have hOc := hO_16.putB hpc y11 (by decide) (by decide) (by decide)
          have hOrc := hOrm_16.put hpc (hOrm_16.neB y11 (by decide))
          have m12 := hpc.bk y12 hne
          have m11 : Bk wc b11 [.slice a' ds.length c'] 24 := ⟨hpc.new⟩
          refine jz ?_
          have ec := hpc.ext xv16 (by omega)
          (apply jjW 7; (decide +kernel); exact rfl; (exact ec))
          refine Ops.store rfl rfl rfl rfl rfl ?_
          intro wd hpd
          have hOd := hOc.putB hpd m12 (by decide) (by decide) (by decide)
          have hOrd := hOrc.put hpd (hOrc.neB m12 (by decide))
          have n11 := hpd.bk m11 (fun e => hne e.symm)
          have n12 : Bk wd b12 [.int .i64 id, .slice ra' rs.length rc'] 52 := ⟨hpd.new⟩
          have ed := hpd.ext ec (by omega)
          refine jz ?_
          refine jjX (by decide +kernel) ed ?_
          exact ⟨rfl, rfl, rfl, rfl, rfl, ⟨b11, b12, a', ra', c', rc', ds, rfl, rfl, Bk.toAt (h := n11), Bk.toAt (h := n12), htx, hOd, hOrd⟩, ed⟩
    · skip
      refine jjY ?_
      intro b11 v17 hbb11 hs17 hv17 hk17
      have zbb11 : w5.heap.size ≤ b11 := by have := x1.size; omega
      have k11_17 := Bk.of hk17
      have xv17 := x1.trans hv17.ext
      refine jz ?_
      refine jjl 1 5 (by decide +kernel) rfl rfl xv17 ?_ ?_
      · skip
        refine jjQ (Twin_ref1 a c cs _ hs) rfl rfl ?_
        rintro _ v18 hv18 ⟨a', c', ds, rfl, htx, hO_18⟩
        have e0 : (ds.map encCh).length = ds.length := List.length_map _
        rw [e0] at hO_18 ⊢
        have k11_18 := k11_17.ext hv18.ext
        have hOm_18 := hO_18.mono xv17.size
        have xv18 := xv17.trans hv18.ext
        refine jz ?_
        refine jjl 3 5 (by decide +kernel) rfl rfl xv18 ?_ ?_
        · skip
          refine jjQ (TwinCopy_ref1 id ra rc rs _ hrs.len) rfl rfl ?_
          rintro _ v19 hv19 ⟨ra', rc', rfl, hOr_19⟩
          have hO_19 := hOm_18.ext hv19.ext
          have k11_19 := k11_18.ext hv19.ext
          have hOrm_19 := hOr_19.mono xv18.size
          have xv19 := xv18.trans hv19.ext
          refine jz ?_
          (apply jjW 5; (decide +kernel); exact rfl; (exact xv19))
          refine jjY ?_
          intro b12 v20 hbb12 hs20 hv20 hk20
          have zbb12 : w5.heap.size ≤ b12 := by have := xv19.size; omega
          have k12_20 := Bk.of hk20
          have hO_20 := hO_19.ext hv20.ext
          have hOr_20 := hOrm_19.ext hv20.ext
          have k11_20 := k11_19.ext hv20.ext
          have xv20 := xv19.trans hv20.ext
          refine jz ?_
          (apply jjW 6; (decide +kernel); exact rfl; (exact xv20))
          have y11 := k11_20
          have y12 := k12_20
          refine Ops.store rfl rfl rfl rfl rfl ?_
          intro wc hpc
          have zx := xv20.size
          have hne : b12 ≠ b11 := by have := y11.h; have := y12.h; intro e; subst e; simp_all
          have hOc := hO_20.putB hpc y11 (by decide) (by decide) (by decide)
          have hOrc := hOr_20.put hpc (hOr_20.neB y11 (by decide))
          have m12 := hpc.bk y12 hne
          have m11 : Bk wc b11 [.slice a' ds.length c'] 24 := ⟨hpc.new⟩
          refine jz ?_
          have ec := hpc.ext xv20 (by omega)
          (apply jjW 7; (decide +kernel); exact rfl; (exact ec))
          refine Ops.store rfl rfl rfl rfl rfl ?_
          intro wd hpd
          have hOd := hOc.putB hpd m12 (by decide) (by decide) (by decide)
          have hOrd := hOrc.put hpd (hOrc.neB m12 (by decide))
          have n11 := hpd.bk m11 (fun e => hne e.symm)
          have n12 : Bk wd b12 [.int .i64 id, .slice ra' rs.length rc'] 52 := ⟨hpd.new⟩
          have ed := hpd.ext ec (by omega)
          refine jz ?_
          refine jjX (by decide +kernel) ed ?_
          exact ⟨rfl, rfl, rfl, rfl, rfl, ⟨b11, b12, a', ra', c', rc', ds, rfl, rfl, Bk.toAt (h := n11), Bk.toAt (h := n12), htx, hOd, hOrd⟩, ed⟩
        · skip
          refine jjY ?_
          intro b12 v21 hbb12 hs21 hv21 hk21
          have zbb12 : w5.heap.size ≤ b12 := by have := xv18.size; omega
          have k12_21 := Bk.of hk21
          have hO_21 := hOm_18.ext hv21.ext
          have k11_21 := k11_18.ext hv21.ext
          have xv21 := xv18.trans hv21.ext
          refine jz ?_
          (apply jjW 3; (decide +kernel); exact rfl; (exact xv21))
          refine jjQ (TwinCopy_ref1 id ra rc rs _ hrs.len) rfl rfl ?_
          rintro _ v22 hv22 ⟨ra', rc', rfl, hOr_22⟩
          have hO_22 := hO_21.ext hv22.ext
          have k11_22 := k11_21.ext hv22.ext
          have k12_22 := k12_21.ext hv22.ext
          have hOrm_22 := hOr_22.mono xv21.size
          have xv22 := xv21.trans hv22.ext
          refine jz ?_
          (apply jjW 6; (decide +kernel); exact rfl; (exact xv22))
          have y11 := k11_22
          have y12 := k12_22
          refine Ops.store rfl rfl rfl rfl rfl ?_
          intro wc hpc
          have zx := xv22.size
          have hne : b12 ≠ b11 := by have := y11.h; have := y12.h; intro e; subst e; simp_all
          have hOc := hO_22.putB hpc y11 (by decide) (by decide) (by decide)
          have hOrc := hOrm_22.put hpc (hOrm_22.neB y11 (by decide))
          have m12 := hpc.bk y12 hne
          have m11 : Bk wc b11 [.slice a' ds.length c'] 24 := ⟨hpc.new⟩
          refine jz ?_
          have ec := hpc.ext xv22 (by omega)
          (apply jjW 7; (decide +kernel); exact rfl; (exact ec))
          refine Ops.store rfl rfl rfl rfl rfl ?_
          intro wd hpd
          have hOd := hOc.putB hpd m12 (by decide) (by decide) (by decide)
          have hOrd := hOrc.put hpd (hOrc.neB m12 (by decide))
          have n11 := hpd.bk m11 (fun e => hne e.symm)
          have n12 : Bk wd b12 [.int .i64 id, .slice ra' rs.length rc'] 52 := ⟨hpd.new⟩
          have ed := hpd.ext ec (by omega)
          refine jz ?_
          refine jjX (by decide +kernel) ed ?_
          exact ⟨rfl, rfl, rfl, rfl, rfl, ⟨b11, b12, a', ra', c', rc', ds, rfl, rfl, Bk.toAt (h := n11), Bk.toAt (h := n12), htx, hOd, hOrd⟩, ed⟩
      · skip
        refine jjY ?_
        intro b12 v23 hbb12 hs23 hv23 hk23
        have zbb12 : w5.heap.size ≤ b12 := by have := xv17.size; omega
        have k12_23 := Bk.of hk23
        have k11_23 := k11_17.ext hv23.ext
        have xv23 := xv17.trans hv23.ext
        refine jz ?_
        (apply jjW 1; (decide +kernel); exact rfl; (exact xv23))
        refine jjQ (Twin_ref1 a c cs _ hs) rfl rfl ?_
        rintro _ v24 hv24 ⟨a', c', ds, rfl, htx, hO_24⟩
        have e0 : (ds.map encCh).length = ds.length := List.length_map _
        rw [e0] at hO_24 ⊢
        have k11_24 := k11_23.ext hv24.ext
        have k12_24 := k12_23.ext hv24.ext
        have hOm_24 := hO_24.mono xv23.size
        have xv24 := xv23.trans hv24.ext
        refine jz ?_
        (apply jjW 3; (decide +kernel); exact rfl; (exact xv24))
        refine jjQ (TwinCopy_ref1 id ra rc rs _ hrs.len) rfl rfl ?_
        rintro _ v25 hv25 ⟨ra', rc', rfl, hOr_25⟩
        have hO_25 := hOm_24.ext hv25.ext
        have k11_25 := k11_24.ext hv25.ext
        have k12_25 := k12_24.ext hv25.ext
        have hOrm_25 := hOr_25.mono xv24.size
        have xv25 := xv24.trans hv25.ext
        refine jz ?_
        (apply jjW 6; (decide +kernel); exact rfl; (exact xv25))
        have y11 := k11_25
        have y12 := k12_25
        refine Ops.store rfl rfl rfl rfl rfl ?_
        intro wc hpc
        have zx := xv25.size
        have hne : b12 ≠ b11 := by have := y11.h; have := y12.h; intro e; subst e; simp_all
        have hOc := hO_25.putB hpc y11 (by decide) (by decide) (by decide)
        have hOrc := hOrm_25.put hpc (hOrm_25.neB y11 (by decide))
        have m12 := hpc.bk y12 hne
        have m11 : Bk wc b11 [.slice a' ds.length c'] 24 := ⟨hpc.new⟩
        refine jz ?_
        have ec := hpc.ext xv25 (by omega)
        (apply jjW 7; (decide +kernel); exact rfl; (exact ec))
        refine Ops.store rfl rfl rfl rfl rfl ?_
        intro wd hpd
        have hOd := hOc.putB hpd m12 (by decide) (by decide) (by decide)
        have hOrd := hOrc.put hpd (hOrc.neB m12 (by decide))
        have n11 := hpd.bk m11 (fun e => hne e.symm)
        have n12 : Bk wd b12 [.int .i64 id, .slice ra' rs.length rc'] 52 := ⟨hpd.new⟩
        have ed := hpd.ext ec (by omega)
        refine jz ?_
        refine jjX (by decide +kernel) ed ?_
        exact ⟨rfl, rfl, rfl, rfl, rfl, ⟨b11, b12, a', ra', c', rc', ds, rfl, rfl, Bk.toAt (h := n11), Bk.toAt (h := n12), htx, hOd, hOrd⟩, ed⟩
    · skip
      refine jjY ?_
      intro b12 v26 hbb12 hs26 hv26 hk26
      have zbb12 : w5.heap.size ≤ b12 := by have := x1.size; omega
      have k12_26 := Bk.of hk26
      have xv26 := x1.trans hv26.ext
      refine jz ?_
      refine jjl 1 4 (by decide +kernel) rfl rfl xv26 ?_ ?_
      · skip
        refine jjQ (Twin_ref1 a c cs _ hs) rfl rfl ?_
        rintro _ v27 hv27 ⟨a', c', ds, rfl, htx, hO_27⟩
        have e0 : (ds.map encCh).length = ds.length := List.length_map _
        rw [e0] at hO_27 ⊢
        have k12_27 := k12_26.ext hv27.ext
        have hOm_27 := hO_27.mono xv26.size
        have xv27 := xv26.trans hv27.ext
        refine jz ?_
        refine jjl 3 4 (by decide +kernel) rfl rfl xv27 ?_ ?_
        · skip
          refine jjQ (TwinCopy_ref1 id ra rc rs _ hrs.len) rfl rfl ?_
          rintro _ v28 hv28 ⟨ra', rc', rfl, hOr_28⟩
          have hO_28 := hOm_27.ext hv28.ext
          have k12_28 := k12_27.ext hv28.ext
          have hOrm_28 := hOr_28.mono xv27.size
          have xv28 := xv27.trans hv28.ext
          refine jz ?_
          (apply jjW 4; (decide +kernel); exact rfl; (exact xv28))
          refine jjY ?_
          intro b11 v29 hbb11 hs29 hv29 hk29
          have zbb11 : w5.heap.size ≤ b11 := by have := xv28.size; omega
          have k11_29 := Bk.of hk29
          have hO_29 := hO_28.ext hv29.ext
          have hOr_29 := hOrm_28.ext hv29.ext
          have k12_29 := k12_28.ext hv29.ext
          have xv29 := xv28.trans hv29.ext
          refine jz ?_
          (apply jjW 6; (decide +kernel); exact rfl; (exact xv29))
          have y11 := k11_29
          have y12 := k12_29
          refine Ops.store rfl rfl rfl rfl rfl ?_
          intro wc hpc
          have zx := xv29.size
          have hne : b12 ≠ b11 := by have := y11.h; have := y12.h; intro e; subst e; simp_all
          have hOc := hO_29.putB hpc y11 (by decide) (by decide) (by decide)
          have hOrc := hOr_29.put hpc (hOr_29.neB y11 (by decide))
          have m12 := hpc.bk y12 hne
          have m11 : Bk wc b11 [.slice a' ds.length c'] 24 := ⟨hpc.new⟩
          refine jz ?_
          have ec := hpc.ext xv29 (by omega)
          (apply jjW 7; (decide +kernel); exact rfl; (exact ec))
          refine Ops.store rfl rfl rfl rfl rfl ?_
          intro wd hpd
          have hOd := hOc.putB hpd m12 (by decide) (by decide) (by decide)
          have hOrd := hOrc.put hpd (hOrc.neB m12 (by decide))
          have n11 := hpd.bk m11 (fun e => hne e.symm)
          have n12 : Bk wd b12 [.int .i64 id, .slice ra' rs.length rc'] 52 := ⟨hpd.new⟩
          have ed := hpd.ext ec (by omega)
          refine jz ?_
          refine jjX (by decide +kernel) ed ?_
          exact ⟨rfl, rfl, rfl, rfl, rfl, ⟨b11, b12, a', ra', c', rc', ds, rfl, rfl, Bk.toAt (h := n11), Bk.toAt (h := n12), htx, hOd, hOrd⟩, ed⟩
        · skip
          refine jjY ?_
          intro b11 v30 hbb11 hs30 hv30 hk30
          have zbb11 : w5.heap.size ≤ b11 := by have := xv27.size; omega
          have k11_30 := Bk.of hk30
          have hO_30 := hOm_27.ext hv30.ext
          have k12_30 := k12_27.ext hv30.ext
          have xv30 := xv27.trans hv30.ext
          refine jz ?_
          (apply jjW 3; (decide +kernel); exact rfl; (exact xv30))
          refine jjQ (TwinCopy_ref1 id ra rc rs _ hrs.len) rfl rfl ?_
          rintro _ v31 hv31 ⟨ra', rc', rfl, hOr_31⟩
          have hO_31 := hO_30.ext hv31.ext
          have k11_31 := k11_30.ext hv31.ext
          have k12_31 := k12_30.ext hv31.ext
          have hOrm_31 := hOr_31.mono xv30.size
          have xv31 := xv30.trans hv31.ext
          refine jz ?_
          (apply jjW 6; (decide +kernel); exact rfl; (exact xv31))
          have y11 := k11_31
          have y12 := k12_31
          refine Ops.store rfl rfl rfl rfl rfl ?_
          intro wc hpc
          have zx := xv31.size
          have hne : b12 ≠ b11 := by have := y11.h; have := y12.h; intro e; subst e; simp_all
          have hOc := hO_31.putB hpc y11 (by decide) (by decide) (by decide)
          have hOrc := hOrm_31.put hpc (hOrm_31.neB y11 (by decide))
          have m12 := hpc.bk y12 hne
          have m11 : Bk wc b11 [.slice a' ds.length c'] 24 := ⟨hpc.new⟩
          refine jz ?_
          have ec := hpc.ext xv31 (by omega)
          (apply jjW 7; (decide +kernel); exact rfl; (exact ec))
          refine Ops.store rfl rfl rfl rfl rfl ?_
          intro wd hpd
          have hOd := hOc.putB hpd m12 (by decide) (by decide) (by decide)
          have hOrd := hOrc.put hpd (hOrc.neB m12 (by decide))
          have n11 := hpd.bk m11 (fun e => hne e.symm)
          have n12 : Bk wd b12 [.int .i64 id, .slice ra' rs.length rc'] 52 := ⟨hpd.new⟩
          have ed := hpd.ext ec (by omega)
          refine jz ?_
          refine jjX (by decide +kernel) ed ?_
          exact ⟨rfl, rfl, rfl, rfl, rfl, ⟨b11, b12, a', ra', c', rc', ds, rfl, rfl, Bk.toAt (h := n11), Bk.toAt (h := n12), htx, hOd, hOrd⟩, ed⟩
      · skip
        refine jjY ?_
        intro b11 v32 hbb11 hs32 hv32 hk32
        have zbb11 : w5.heap.size ≤ b11 := by have := xv26.size; omega
        have k11_32 := Bk.of hk32
        have k12_32 := k12_26.ext hv32.ext
        have xv32 := xv26.trans hv32.ext
        refine jz ?_
        (apply jjW 1; (decide +kernel); exact rfl; (exact xv32))
        refine jjQ (Twin_ref1 a c cs _ hs) rfl rfl ?_
        rintro _ v33 hv33 ⟨a', c', ds, rfl, htx, hO_33⟩
        have e0 : (ds.map encCh).length = ds.length := List.length_map _
        rw [e0] at hO_33 ⊢
        have k11_33 := k11_32.ext hv33.ext
        have k12_33 := k12_32.ext hv33.ext
        have hOm_33 := hO_33.mono xv32.size
        have xv33 := xv32.trans hv33.ext
        refine jz ?_
        (apply jjW 3; (decide +kernel); exact rfl; (exact xv33))
        refine jjQ (TwinCopy_ref1 id ra rc rs _ hrs.len) rfl rfl ?_
        rintro _ v34 hv34 ⟨ra', rc', rfl, hOr_34⟩
        have hO_34 := hOm_33.ext hv34.ext
        have k11_34 := k11_33.ext hv34.ext
        have k12_34 := k12_33.ext hv34.ext
        have hOrm_34 := hOr_34.mono xv33.size
        have xv34 := xv33.trans hv34.ext
        refine jz ?_
        (apply jjW 6; (decide +kernel); exact rfl; (exact xv34))
        have y11 := k11_34
        have y12 := k12_34
        refine Ops.store rfl rfl rfl rfl rfl ?_
        intro wc hpc
        have zx := xv34.size
        have hne : b12 ≠ b11 := by have := y11.h; have := y12.h; intro e; subst e; simp_all
        have hOc := hO_34.putB hpc y11 (by decide) (by decide) (by decide)
        have hOrc := hOrm_34.put hpc (hOrm_34.neB y11 (by decide))
        have m12 := hpc.bk y12 hne
        have m11 : Bk wc b11 [.slice a' ds.length c'] 24 := ⟨hpc.new⟩
        refine jz ?_
        have ec := hpc.ext xv34 (by omega)
        (apply jjW 7; (decide +kernel); exact rfl; (exact ec))
        refine Ops.store rfl rfl rfl rfl rfl ?_
        intro wd hpd
        have hOd := hOc.putB hpd m12 (by decide) (by decide) (by decide)
        have hOrd := hOrc.put hpd (hOrc.neB m12 (by decide))
        have n11 := hpd.bk m11 (fun e => hne e.symm)
        have n12 : Bk wd b12 [.int .i64 id, .slice ra' rs.length rc'] 52 := ⟨hpd.new⟩
        have ed := hpd.ext ec (by omega)
        refine jz ?_
        refine jjX (by decide +kernel) ed ?_
        exact ⟨rfl, rfl, rfl, rfl, rfl, ⟨b11, b12, a', ra', c', rc', ds, rfl, rfl, Bk.toAt (h := n11), Bk.toAt (h := n12), htx, hOd, hOrd⟩, ed⟩
  rintro s w8 ⟨h5, h6, h7, h8, h9, ⟨b11, b12, a', ra', c', rc', ds, h11, h12, hA11, hA12, htx, hO8, hOr8⟩, x8⟩
  have s8 : Step w5 w8 := x8.toStep
  have j0 : RowI w8 (.slice a' ds.length c') true 2 (ds.map encCh) := ⟨hO8.out.row⟩
  have j1 : TextI w8 ds := hO8.text
  have j2 : RowI w8 (.slice ra' rs.length rc') true 5 (rs.map encRd) := ⟨hOr8.row⟩
  have hsd := small_of_great (cs := ds) (by rw [htx]; exact hG1)
  refine W.keep0 [(5, .pointer (some ⟨b5, 0, none⟩)), (6, .pointer (some ⟨b6, 0, none⟩)), (7, .pointer (some ⟨b7, 0, none⟩)), (8, .pointer (some ⟨b8, 0, none⟩)), (9, .pointer (some ⟨b9, 0, none⟩)), (11, .pointer (some ⟨b11, 0, none⟩)), (12, .pointer (some ⟨b12, 0, none⟩))] ⟨h5, h6, h7, h8, h9, h11, h12, trivial⟩ fun s1 => ?_
  clear h5 h6 h7 h8 h9 h11 h12
  (refine jjB ?_; refine jjC ?_; refine jO rfl rfl rfl rfl ?_; refine jO rfl rfl rfl rfl ?_)
  refine jjQ (Order_slip _ x y hxs hys) rfl rfl ?_
  rintro _ wA hSA rfl
  (apply jI; exact eU rfl; refine ju rfl rfl ?_; refine ju rfl rfl ?_; apply jJ; exact eI rfl; apply jJ; exact eI rfl; refine jz ?_; refine jjB ?_; refine jjC ?_; refine jO rfl rfl rfl rfl ?_; refine jO rfl rfl rfl rfl ?_)
  refine jjQ (Order_ref3 x y _ hxs hys) rfl rfl ?_
  rintro _ wB hSB rfl
  have hmv := Moved_slip a' c' ds wB id ra' rc' rs p hsd hrs
  rw [htx] at hmv
  (apply jI; exact eU rfl; refine ju rfl rfl ?_; refine ju rfl rfl ?_; apply jJ; exact eI rfl; apply jJ; exact eI rfl; refine jz ?_; refine jjB ?_; refine jjC ?_; refine jO rfl rfl rfl rfl ?_; refine jO rfl rfl rfl rfl ?_; refine jO rfl rfl rfl rfl ?_)
  refine jjQ hmv rfl rfl ?_
  rintro _ wC hSC rfl
  (apply jI; exact eU rfl; refine ju rfl rfl ?_; refine ju rfl rfl ?_)
  (apply jjR rfl; (intro _; first|exact eI rfl|exact eB rfl|exact eP rfl|exact eS rfl|exact eT rfl|exact eA rfl|exact eU rfl|exact eF rfl|exact eM rfl|exact eN rfl|exact rfl); exact rfl; exact rfl; exact rfl; exact rfl; intro b17 w_b17 hb_b17 hs_b17 hS_b17 hk_b17; have hA_b17 := Bk.of hk_b17)
  (apply jJ; exact eI rfl; refine jz ?_; refine jjB ?_; refine jjC ?_; refine jO rfl rfl rfl rfl ?_; refine jO rfl rfl rfl rfl ?_; refine jO rfl rfl rfl rfl ?_)
  refine jjQ (Moved_ref3 a c cs _ id ra rc rs p hs hrs) rfl rfl ?_
  rintro _ wD hSD rfl
  (apply jI; exact eU rfl; refine ju rfl rfl ?_; refine ju rfl rfl ?_)
  (apply jjR rfl; (intro _; first|exact eI rfl|exact eB rfl|exact eP rfl|exact eS rfl|exact eT rfl|exact eA rfl|exact eU rfl|exact eF rfl|exact eM rfl|exact eN rfl|exact rfl); exact rfl; exact rfl; exact rfl; exact rfl; intro b19 w_b19 hb_b19 hs_b19 hS_b19 hk_b19; have hA_b19 := Bk.of hk_b19)
  have hA17 := Bk.toAt (h := (hA_b17.ext hSD.ext).ext hS_b19.ext)
  have hA19 := Bk.toAt (h := hA_b19)
  (apply jJ; exact eI rfl; refine jz ?_; refine jjB ?_; refine jjC ?_; apply jI; exact eI rfl; apply jI; exact eI rfl; refine jjh rfl rfl (by omega) ?_; apply jI; exact eB rfl; refine jT rfl rfl rfl ?_; apply jI; exact eI rfl; refine jT rfl rfl rfl ?_; apply jI; exact eI rfl; refine jT rfl rfl rfl ?_; refine jjh rfl rfl (by omega) ?_; apply jK rfl; exact eB rfl; apply jI; exact eB rfl; refine jT rfl rfl rfl ?_; refine jO rfl rfl rfl rfl ?_; refine jT rfl rfl rfl ?_; refine jO rfl rfl rfl rfl ?_; refine jT rfl rfl rfl ?_)
  refine Ops.eqlT (enc := encPl) (movedS (txF cs) id rs p).1 (movedS (txF cs) id rs p).1 rfl rfl ?_
  rw [decide_eq_true rfl]
  (apply jK rfl; exact eB rfl; apply jI; exact eB rfl; refine jT rfl rfl rfl ?_; apply jI; exact eI rfl; refine jT rfl rfl rfl ?_; apply jI; exact eI rfl; refine jT rfl rfl rfl ?_; refine jjh rfl rfl (by omega) ?_; apply jK rfl; exact eB rfl; apply jI; exact eB rfl; refine jT rfl rfl rfl ?_; refine jO rfl rfl rfl rfl ?_; refine jT rfl rfl rfl ?_; refine jO rfl rfl rfl rfl ?_; refine jT rfl rfl rfl ?_)
  refine jjQ ((Same_ref1 a' a c' c ds cs _ hsd).mono fun v _ _ h => h.trans (by rw [decide_eq_true htx])) rfl rfl ?_
  rintro _ wE hSE rfl
  (apply jK rfl; exact eB rfl; apply jI; exact eB rfl; refine jT rfl rfl rfl ?_; refine jO rfl rfl rfl rfl ?_; refine jT rfl rfl rfl ?_; refine jO rfl rfl rfl rfl ?_; refine jT rfl rfl rfl ?_)
  refine jjQ (SameCopy_ref1 id ra' ra rc' rc rs _ hrs.len) rfl rfl ?_
  rintro _ wF hSF rfl
  (apply jK rfl; exact eB rfl; apply jJ; exact eB rfl; refine jz ?_; refine jjF ?_; refine jB rfl rfl ⟨inferInstance, ?_⟩)
  exact rfl
end Go.Proofs.YtgmgiepdehlinaaDoor
