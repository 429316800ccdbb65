/- Texts of the proof, part 5: Rb11, Mon, Rk6, Sm1, LawRf. -/
import Derived.WalkKit
import Derived.Calls
import Derived.Test.YtpijeomnplmakaaDoorRF4
/- Reference 6: File. -/
namespace Go.Proofs.YtpijeomnplmakaaDoor
open Go.RowKit

abbrev dS6 : Slp := ((0, 0, 0), ⟨#[]⟩, ⟨#[]⟩, ⟨#[]⟩)
theorem ranks_len {l : List Slp} {n : Int} (he : (ranksR l n).2 = 0) : (ranksR l n).1.length = l.length ∧ l.length ≤ 60 ∧ deckB (ranksR l n).1 = true := by
  by_cases h1 : 60 < l.length
  · rw [ranksR, if_pos h1] at he; exact absurd he (by decide)
  by_cases h2 : l.all slipB = true
  · by_cases h3 : 1 ≤ n ∧ n ≤ 4
    · have hd := ranks_deck (l := l) (n := n)
      rw [ranksR_ok (by omega) h2 h3]
      refine ⟨List.length_map _, by omega, ?_⟩
      rw [deckB, Bool.and_eq_true, decide_eq_true_eq, List.length_map, List.all_eq_true]
      exact ⟨by omega, fun x hx => by have := hd x hx; rw [inB, decide_eq_true_eq]; omega⟩
    · rw [ranksR, if_neg h1, if_neg (by simp [h2]), if_pos h3] at he; exact absurd he (by decide)
  · rw [ranksR, if_neg h1, if_pos h2] at he; exact absurd he (by decide)
section
variable (a : Option Addr) (c : Nat) (l : List Slp) (w : World) [hrow : RowI w (.slice a l.length c) true 6 (l.map encSl)]
set_option maxHeartbeats 4000000 in
theorem File_ref6 (n : Nat) (boxes : Int) (hs : ∀ x ∈ l, SmallS x) (hn : n ≤ 255) : Ct Tryd.prog 8 [.slice a l.length c, .int .u8 (n : Int), .int .i64 boxes] w fun v w' => FileR l (n : Int) boxes w.heap.size v w' := by
  refine Ct.ofW (by simp) ?_
  (refine jjB ?_; refine jjC ?_; apply jJ; exact eS rfl; apply jJ; exact eI rfl; apply jJ; exact eI rfl; refine jz ?_; refine jjB ?_; refine jjC ?_; apply jI; exact eS rfl; apply jI; exact eI rfl)
  refine jjQ (Ranks_ref6 a c l _ n hs hn) rfl rfl ?_
  rintro _ w2 hS2 ⟨da, dc, rfl, hOd⟩
  have hfE : fileE l n boxes = if (ranksR l n).2 = 0 then opE (ranksR l n).1 boxes else (ranksR l n).2 := rfl
  have hE2 : Ext w w2 := inferInstance
  by_cases he : (ranksR l n).2 = 0
  rotate_left
  · rw [if_neg he] at hfE
    have hfL : fileL l n boxes = [] := by rw [fileL, if_neg (by rw [hfE]; exact he)]
    (apply jI; exact eU rfl; refine ju rfl rfl ?_; refine ju rfl rfl ?_; apply jJ; exact eS rfl; apply jJ; exact eI rfl; refine jz ?_; refine jjB ?_; refine jjB ?_; refine jjC ?_; apply jI; exact eI rfl; refine jjj rfl rfl (by omega) ?_; refine jz ?_; refine jjJ rfl ?_; refine jjB ?_; refine jjC ?_; apply jI; exact eI rfl; apply jJ; exact eS rfl; apply jJ; exact eI rfl; apply jJ; exact eI rfl; refine jz ?_; refine jjF ?_; refine jD rfl rfl rfl rfl ⟨inferInstance, ?_⟩)
    refine ⟨0, none, 0, ?_, ?_, ?_⟩
    · rw [if_neg (by rw [hfE]; exact he)]
    · rw [hfL, hfE]; exact rfl
    · rw [hfL]; exact OwnL.nil _ _ _ _ _
  rw [if_pos he] at hfE
  obtain ⟨hdl, hl60, hdk⟩ := ranks_len he
  have hfd : fileL l n boxes = if fileE l n boxes = 0 then (ordF (ranksR l n).1).map fun i => l.getD i.toNat ((0, 0, 0), ⟨#[]⟩, ⟨#[]⟩, ⟨#[]⟩) else [] := rfl
  unfold FileR
  rw [he]
  have hop : opE (ranksR l n).1 boxes = if inB 2 20 boxes then 0 else 61 := by rw [opE, hdk]; rfl
  rw [hop] at hfE
  generalize fileE l n boxes = FE at *
  generalize fileL l n boxes = FL at *
  generalize (ranksR l n).1 = d at *
  have hrd : RowI w2 (.slice da d.length dc) false 1 (d.map intV) := ⟨hOd.row⟩
  (apply jI; exact eU rfl; refine ju rfl rfl ?_; refine ju rfl rfl ?_; apply jJ; exact eS rfl; apply jJ; exact eI rfl; refine jz ?_; refine jjB ?_; refine jjB ?_; refine jjC ?_; apply jI; exact eI rfl; refine jjk rfl rfl (by omega) ?_; refine jz ?_; refine jjK rfl ?_; refine jjG ?_; refine jjB ?_; refine jjB ?_; refine jjC ?_; apply jI; exact eI rfl)
  refine jjQ (within_postilref06 boxes 2 20 _) rfl rfl ?_
  rintro _ w3 hS3 rfl
  by_cases hbx : inB 2 20 boxes = true
  rotate_left
  · rw [show inB 2 20 boxes = false by simpa using hbx] at hfE ⊢
    rw [if_neg (by decide)] at hfE
    subst hfE
    rw [if_neg (by decide)] at hfd
    subst hfd
    (refine jq rfl ?_; refine jz ?_; refine jjJ rfl ?_; refine jjB ?_; refine jjC ?_; apply jJ; exact eS rfl; apply jJ; exact eI rfl; apply jJ; exact eI rfl; refine jz ?_; refine jjF ?_; refine jD rfl rfl rfl rfl ⟨inferInstance, ?_⟩)
    exact ⟨0, none, 0, by rw [if_neg (by decide)], rfl, OwnL.nil _ _ _ _ _⟩
  rw [hbx] at hfE ⊢
  rw [if_pos rfl] at hfE
  subst hfE
  rw [if_pos rfl] at hfd
  subst hfd
  have hb : 2 ≤ boxes ∧ boxes ≤ 20 := by rw [inB, decide_eq_true_eq] at hbx; exact hbx
  obtain ⟨b, rfl⟩ : ∃ b : Nat, boxes = (b : Int) := ⟨boxes.toNat, by omega⟩
  (refine jp rfl ?_; refine jz ?_; refine jjK rfl ?_; refine jjG ?_; refine jjB ?_; refine jjC ?_; apply jJ; exact eS rfl; refine jz ?_; refine jjB ?_; refine jjC ?_; apply jI; exact eS rfl)
  refine jjQ (Order_ref da dc d _ (by omega)) rfl rfl ?_
  rintro _ w4 hS4 ⟨oa, oc, rfl, hOo⟩
  have hol := ordF_len d
  have hE4 : Ext w w4 := inferInstance
  have hrd4 : RowI w4 (.slice da d.length dc) false 1 (d.map intV) := inferInstance
  have hro : RowI w4 (.slice oa d.length oc) false 1 ((ordF d).map intV) := ⟨hOo.row⟩
  have hmem : ∀ x ∈ ordF d, 0 ≤ x ∧ x < (l.length : Int) := fun x hx => by have := ordF_mem.1 hx; omega
  generalize ordF d = o at *
  (apply jJ; exact eS rfl; refine jz ?_; refine jjB ?_; refine jjB ?_; refine jjC ?_; apply jJ; exact eI rfl; refine jz ?_; refine jjD ?_)
  refine W.keep0 [(0, .slice a l.length c), (2, .int .i64 (b : Int)), (9, .slice da d.length dc), (11, .slice none 0 0), (12, .slice oa d.length oc), (13, .int .i64 ((0 : Nat) : Int))] ⟨eS rfl, eI rfl, eS rfl, eS rfl, eS rfl, eI rfl, trivial⟩ fun s0 => ?_
  refine W.loopG (28 :: 29 :: 30 :: 31 :: 34 :: 35 :: 36 :: 37 :: 38 :: 39 :: 40 :: 41 :: 42 :: 43 :: 11 :: 32 :: 33 :: 13 :: []) (fun g s' V => ∃ (k : Nat) (ov : Value), s' 13 = .int .i64 (k : Int) ∧ s' 11 = ov ∧ g = o.length - k ∧ k ≤ o.length ∧ Ext w4 V ∧ OwnL V w4.heap.size 39 true 6 ov (((o.take k).map fun i => l.getD i.toNat dS6).map encSl)) o.length ⟨0, _, rfl, rfl, rfl, Nat.zero_le _, Ext.refl _, OwnL.nil _ _ _ _ _⟩ ?_
  rintro _ sd V ⟨k, ov, h13, h11, rfl, hk, hEV, hO⟩
  refine W.fix h13 (W.fix (d := 11) h11 ?_)
  clear h13 h11
  obtain ⟨va, vc, rfl⟩ := hO.slice
  have hvl : (((o.take k).map fun i => l.getD i.toNat dS6).map encSl).length = k := by simp; omega
  rw [hvl] at hO ⊢
  have := hEV.toStep
  have zV := hEV.size
  have z4 := hE4.size
  by_cases hk1 : k < o.length
  rotate_left
  · obtain rfl : k = o.length := by omega
    rw [List.take_length] at hO
    (refine jjB ?_; refine jjB ?_; refine jjC ?_; apply jI; exact eI rfl; apply jI; exact eS rfl; refine jh rfl ?_; refine jja rfl rfl (by omega) ?_; refine jz ?_; refine jjK rfl ?_; refine jjE ?_; refine jjB ?_; refine jjC ?_; apply jI; exact eS rfl; apply jI; exact eS rfl; apply jI; exact eI rfl)
    refine jjQ (passes_ref da dc d _ b (by omega) (by omega)) rfl rfl ?_
    rintro _ w8 hS8 ⟨p, hp, rfl⟩
    (apply jJ; exact eS rfl; apply jJ; exact eI rfl; apply jJ; exact eI rfl; refine jz ?_; refine jjF ?_; refine jD rfl rfl rfl rfl ⟨inferInstance, ?_⟩)
    refine ⟨p, va, vc, ?_, ?_, ?_⟩
    · rw [if_pos rfl, Int.toNat_natCast]; exact hp
    · rw [List.length_map]; rfl
    · rw [List.length_map]; exact (hO.ext hS8.ext).mono z4
  have hx := hmem o[k] (List.getElem_mem hk1)
  obtain ⟨xi, hxi⟩ : ∃ xi : Nat, o[k] = (xi : Int) := ⟨o[k].toNat, by omega⟩
  have hxl : xi < l.length := by omega
  have hgl : (l.map encSl)[xi]? = some (encSl l[xi]) := by rw [List.getElem?_map, List.getElem?_eq_getElem hxl]; rfl
  obtain ⟨pb, po, rfl, -⟩ := hrow.h.place' hgl
  (refine jjB ?_; refine jjB ?_; refine jjC ?_; apply jI; exact eI rfl; apply jI; exact eS rfl; refine jh rfl ?_; refine jjZ rfl rfl (by omega) ?_; refine jz ?_; refine jjJ rfl ?_; refine jjG ?_; refine jjB ?_; refine jjD ?_; refine jjC ?_; apply jI; exact eS rfl; apply jI; exact eS rfl; apply jI; exact eS rfl; apply jI; exact eI rfl; refine jF rfl rfl rfl (map_get (by omega)) ?_; intro _ _ _; refine jQ rfl rfl ?_)
  rw [hxi]
  refine jH xi rfl rfl rfl (by omega) ?_
  have hwV : Ext w V := hE4.trans hEV
  refine Ops.loadOA (off := 0) (place_k (hrow.h.ext hwV) hgl) rfl rfl rfl rfl ?_
  (refine jjP (v := .agg _) rfl (by exact rfl) (by exact rfl) (by exact rfl) (by exact rfl) ?_; intro b10 w_b10 hb_b10 hs_b10 hS_b10 hk_b10; have hR_b10 := RowV.one (agg := true) (k := 6) rfl hk_b10)
  have hE10 : Ext V w_b10 := hS_b10.ext
  have hR1 : RowV w_b10 true 6 (.slice (some ⟨b10, 0, none⟩) 1 1) [encSl l[xi]] := hR_b10
  have z10 := hS_b10.size
  skip
  refine Ops.appendL (hO.ext hE10) (by omega) hR1 rfl rfl rfl rfl rfl ?_ ?_ ?_
  · rw [hvl]; simp only [List.length_cons, List.length_nil]; omega
  · rw [hvl]; simp only [List.length_cons, List.length_nil]; omega
  intro v6 w6 hA6 hO6 _ _
  (apply jJ; exact rfl; refine jz ?_; refine jjC ?_; apply jI; exact eI rfl; refine jY rfl rfl (by omega) ?_; apply jJ; exact eI rfl; refine jz ?_)
  refine ⟨rfl, by ((refine Same.upd rfl ?_; refine Same.upd rfl ?_; refine Same.upd rfl ?_; refine Same.upd rfl ?_; refine Same.upd rfl ?_; refine Same.upd rfl ?_; refine Same.upd rfl ?_; refine Same.upd rfl ?_; refine Same.upd rfl ?_; refine Same.upd rfl ?_; refine Same.upd rfl ?_; refine Same.upd rfl ?_; refine Same.upd rfl ?_; refine Same.upd rfl ?_; refine Same.upd rfl ?_; refine Same.upd rfl ?_; refine Same.upd rfl ?_; refine Same.upd rfl ?_; refine Same.upd rfl ?_; refine Same.upd rfl ?_; exact Same.ovN)), o.length - (k + 1), by omega, k + 1, v6, congrArg (Value.int .i64) (by omega), rfl, rfl, by omega, hA6.ext (hEV.trans hE10) (Nat.le_refl _), ?_⟩
  rw [take_snoc_get (List.getElem?_eq_getElem hk1), List.map_append, List.map_append]
  rw [hxi]
  simp only [List.map_cons, List.map_nil, Int.toNat_natCast]
  rw [show l.getD xi dS6 = l[xi] by rw [List.getD_eq_getElem?_getD, List.getElem?_eq_getElem hxl]; rfl]
  exact hO6
end
end Go.Proofs.YtpijeomnplmakaaDoor

/- The tape is never given back: what runs has asked it no less behind than ahead. -/
namespace Go.Proofs.YtpijeomnplmakaaDoor
open Go Go.RowKit

def Rw' {α : Type} : Result α → World
  | .ok _ w => w
  | .halt _ w => w
theorem ask_drawn {α : Type} (m : Ask α) : ∀ (w : World), w.drawn ≤ (w.ask m).2.drawn := by
  induction m with
  | done a => intro w; exact Nat.le_refl _
  | ask what range k ih =>
    intro w
    simp only [World.ask]
    split
    · exact ih _ w
    · exact Nat.le_trans (Nat.le_succ _) (ih ((Question.extern what range).cut (w.tape w.drawn (Question.extern what range))) { w with drawn := w.drawn + 1 })
theorem sys_drawn (w : World) (c : Sys) : w.drawn ≤ (w.sys c).2.drawn := by
  unfold World.sys
  have := ask_drawn (Kernel.perform c w.os) w
  split
  · exact Nat.le_refl _
  · rename_i h; rw [h] at this; exact this
theorem view_drawn {P : Program} {w w' : World} {x : Addr} {y : TypeId} {a : Addr} {v : Value} {t : Bool} {l : List Addr} (h : World.viewStore P w x y a v t = .ok (w', l)) : w'.drawn = w.drawn := by
  unfold World.viewStore at h
  simp only [bind, Except.bind, pure, Except.pure] at h
  (repeat' split at h) <;> simp_all
  obtain ⟨h1, _⟩ := h
  rw [← h1]
theorem far_drawn {P : Program} {w w' : World} {a : Addr} {v : Value} {t : Bool} {l : List Addr} (h : w.farStore P a v t = .ok (w', l)) : w'.drawn = w.drawn := by
  unfold World.farStore at h
  (repeat' split at h) <;> simp_all
  rename_i h1
  exact view_drawn h1
theorem frz_drawn (w : World) (a : Addr) (n : Nat) : (w.freeze a n).drawn = w.drawn := by unfold World.freeze; (repeat' split) <;> rfl
theorem runT_drawn {α : Type} {P : Program} (m : Sem α) : ∀ (w : World) (es : Array Event), w.drawn ≤ (Rw' (m.runT P w es).1).drawn := by
  induction m with
  | pure a => intro w es; exact Nat.le_refl _
  | load m a k ih => intro w es; simp only [Sem.runT]; (repeat' split) <;> first | exact ih _ _ _ | exact Nat.le_refl _
  | store m a v k ih =>
    intro w es
    cases v <;> simp only [Sem.runT] <;> (repeat' split) <;> first
      | exact Nat.le_refl _
      | exact ih (w.setCell a _) _
      | (rename_i hf; have := far_drawn hf; rw [← this]; exact ih _ _)
  | new o k ih => intro w es; exact ih w.heap.size { w with heap := w.heap.push o } es
  | shape r k ih => intro w es; exact ih _ _ _
  | freeze a n k ih => intro w es; have := ih (w.freeze a n) es; rw [frz_drawn] at this; exact this
  | frozen a k ih => intro w es; exact ih _ _ _
  | getObj r k ih => intro w es; simp only [Sem.runT]; (repeat' split) <;> first | exact ih _ _ _ | exact Nat.le_refl _
  | setObj r o k ih => intro w es; simp only [Sem.runT]; (repeat' split) <;> first | exact ih { w with heap := w.heap.setIfInBounds r o } _ | exact Nat.le_refl _
  | choose q k ih =>
    intro w es
    simp only [Sem.runT]
    split
    · exact ih _ _ _
    · exact Nat.le_trans (Nat.le_succ _) (ih (q.cut (w.tape w.drawn q)) { w with drawn := w.drawn + 1 } es)
  | sys c k ih => intro w es; exact Nat.le_trans (sys_drawn w c) (ih _ _ _)
  | program k ih => intro w es; exact ih _ _ _
  | mark m k ih => intro w es; exact ih _ _
  | halt h => intro w es; exact Nat.le_refl _
theorem run_drawn {α : Type} {P : Program} (m : Sem α) : ∀ (w : World), w.drawn ≤ (Rw' (m.run P w)).drawn := by
  induction m with
  | pure a => intro w; exact Nat.le_refl _
  | load m a k ih => intro w; simp only [Sem.run]; (repeat' split) <;> first | exact ih _ _ | exact Nat.le_refl _
  | store m a v k ih =>
    intro w
    cases v <;> simp only [Sem.run] <;> (repeat' split) <;> first
      | exact Nat.le_refl _
      | exact ih (w.setCell a _)
      | (rename_i hf; have := far_drawn hf; rw [← this]; exact ih _)
  | new o k ih => intro w; exact ih w.heap.size { w with heap := w.heap.push o }
  | shape r k ih => intro w; exact ih _ _
  | freeze a n k ih => intro w; have := ih (w.freeze a n); rw [frz_drawn] at this; exact this
  | frozen a k ih => intro w; exact ih _ _
  | getObj r k ih => intro w; simp only [Sem.run]; (repeat' split) <;> first | exact ih _ _ | exact Nat.le_refl _
  | setObj r o k ih => intro w; simp only [Sem.run]; (repeat' split) <;> first | exact ih { w with heap := w.heap.setIfInBounds r o } | exact Nat.le_refl _
  | choose q k ih =>
    intro w
    simp only [Sem.run]
    split
    · exact ih _ _
    · exact Nat.le_trans (Nat.le_succ _) (ih (q.cut (w.tape w.drawn q)) { w with drawn := w.drawn + 1 })
  | sys c k ih => intro w; exact Nat.le_trans (sys_drawn w c) (ih _ _)
  | program k ih => intro w; exact ih _ _
  | mark m k ih => intro w; exact ih _
  | halt h => intro w; exact Nat.le_refl _

theorem run_ok {α : Type} {P : Program} {m : Sem α} {w w' : World} {v : α} (h : m.run P w = .ok v w') : w.drawn ≤ w'.drawn := by
  have := run_drawn (P := P) m w
  rwa [h] at this
theorem run_halt {α : Type} {P : Program} {m : Sem α} {w w' : World} {e : Halt} (h : m.run P w = .halt e w') : w.drawn ≤ w'.drawn := by
  have := run_drawn (P := P) m w
  rwa [h] at this
theorem runT_eq {α : Type} {P : Program} {m : Sem α} {w : World} {es es' : Array Event} {r : Result α} (h : m.runT P w es = (r, es')) : w.drawn ≤ (Rw' r).drawn := by
  have := runT_drawn (P := P) m w es
  rwa [h] at this
def GOk (n : Nat) : GStep → Prop
  | .go _ w _ | .comm _ _ _ _ w _ | .spawn _ _ w _ | .count _ w _ | .timer _ _ w _ | .alone _ _ w _ | .newcoro _ _ _ w _ | .coroswitch _ _ _ w _ | .collect _ w _ | .watch _ w _ => n ≤ w.drawn
  | .ended .. => True
theorem GOk.after {n : Nat} {es : Array Event} {s : GStep} (h : GOk n s) : GOk n (GStep.after es s) := by cases s <;> exact h
theorem GOk.le {n m : Nat} {s : GStep} (h : GOk n s) (hm : m ≤ n) : GOk m s := by cases s <;> first | exact Nat.le_trans hm h | trivial
theorem endWith_ok (w : World) (fd : Nat) (t : ByteArray) (o : Outcome) (n : Nat) : GOk n (endWith w fd t o) := by
  unfold endWith
  dsimp only
  (repeat' split) <;> trivial
theorem endThrow_ok (fr : Frame) (m : String) (w : World) : GOk w.drawn (endThrow fr m w) := Nat.le_refl _
theorem endPrinting_ok (p : Program) (fr : Frame) (v : Value) (w : World) : GOk w.drawn (endPrinting p fr v w) := by
  unfold endPrinting
  dsimp only
  split
  · exact Nat.le_refl _
  · trivial
theorem endFatal_ok (p : Program) (fr : Frame) (cs : List Frame) (dy : Option Dying) (m : String) (w : World) : GOk w.drawn (endFatal p fr cs dy m w) := by
  unfold endFatal
  dsimp only
  split
  · rename_i h
    exact run_ok h
  · trivial
  · trivial
theorem writeOn_ok (p : Program) (fr : Frame) (d : Dying) (f : Fatal) (w : World) : GOk w.drawn (writeOn p fr d f w) := by
  unfold writeOn
  dsimp only
  split
  · trivial
  · rename_i piece rest _
    split
    · rename_i h
      exact runT_eq h
    · rename_i h
      exact runT_eq h
    · trivial
    · trivial
theorem die_ok (p : Program) (fr : Frame) (d : Dying) (w : World) : GOk w.drawn (die p fr d w) := by
  unfold die
  dsimp only
  split
  · exact writeOn_ok _ _ _ _ _
  · split
    · split
      · exact Nat.le_refl _
      · exact endWith_ok _ _ _ _ _
    · split
      · exact Nat.le_refl _
      · split
        · rename_i h; exact run_ok h
        · trivial
      · rename_i t recv name _
        have hr := runT_drawn (P := p) (invoke (.fn (.method name) #[]) #[.iface t recv]) w #[]
        generalize (invoke (.fn (.method name) #[]) #[.iface t recv]).runT p w #[] = x at *
        obtain ⟨r, es⟩ := x
        refine GOk.after ?_
        dsimp only at hr ⊢
        split
        · exact hr
        · exact hr
        · trivial
        · exact GOk.le (endPrinting_ok _ _ _ _) hr
        · trivial
      · trivial
theorem doReturn_ok (p : Program) (main : Bool) (fr : Frame) (cs : List Frame) (dy : Option Dying) (v : Value) (w : World) : GOk w.drawn (doReturn p main fr cs dy v w) := by
  unfold doReturn
  (repeat' split) <;> first | exact Nat.le_refl _ | trivial
theorem callDeferred_ok (p : Program) (fr : Frame) (cs : List Frame) (dy : Option Dying) (d : Deferred) (w : World) : GOk w.drawn (callDeferred p fr cs dy d w) := by
  unfold callDeferred
  have hr := runT_drawn (P := p) (invoke d.target d.args) w #[]
  generalize (invoke d.target d.args).runT p w #[] = x at *
  obtain ⟨r, es⟩ := x
  dsimp only at hr ⊢
  generalize hc : ((match d.target with | .nil => true | _ => false) && (match fr.mode with | .panicking _ => true | _ => false)) = c
  cases c with
  | true => trivial
  | false =>
    refine GOk.after ?_
    (repeat' split) <;> first | exact hr | trivial | exact GOk.le (endFatal_ok _ _ _ _ _ _) hr | exact GOk.le (endThrow_ok _ _ _) hr
theorem unwind_ok (p : Program) (main : Bool) (fr : Frame) (cs : List Frame) (dy : Option Dying) (w : World) : GOk w.drawn (unwind p main fr cs dy w) := by
  unfold unwind
  split
  · rename_i block _ ds _
    have hr := runT_drawn (P := p) (Instr.takeDeferred block) w #[]
    generalize (Instr.takeDeferred block).runT p w #[] = x at *
    obtain ⟨r, es⟩ := x
    dsimp only at hr ⊢
    refine GOk.after ?_
    split <;> first | exact hr | trivial
  · exact callDeferred_ok _ _ _ _ _ _
  · split
    · trivial
    · split
      · trivial
      · split
        · exact Nat.le_refl _
        · split
          · split
            · exact Nat.le_refl _
            · split
              · rename_i h; exact run_ok h
              · trivial
              · trivial
          · split
            · exact endPrinting_ok _ _ _ _
            · trivial
    · split
      · exact doReturn_ok _ _ _ _ _ _ _
      · rename_i fn _
        have hr := runT_drawn (P := p) (results fn fr.tmps) w #[]
        generalize (results fn fr.tmps).runT p w #[] = x at *
        obtain ⟨r, es⟩ := x
        dsimp only at hr ⊢
        refine GOk.after ?_
        split
        · exact GOk.le (doReturn_ok _ _ _ _ _ _ _) hr
        · trivial
        · trivial
theorem early_ok (p : Program) (fr : Frame) (cs : List Frame) (dy : Option Dying) (g : Nat) (w : World) : GOk w.drawn (early p fr cs dy g w) := by
  unfold early
  dsimp only
  (repeat' split) <;> first | exact Nat.le_refl _ | trivial | (have h1 := ‹Sem.run p (choose _) w = Result.ok _ _›; have h2 := run_ok h1; exact h2)
theorem apply_ok (p : Program) (li : Bool) (fr : Frame) (cs : List Frame) (dy : Option Dying) (s : Sem Next) (w : World) : GOk w.drawn (stepG.apply p li fr cs dy s w) := by
  unfold stepG.apply
  dsimp only
  have hr : w.drawn ≤ (Rw' (if li then s.runT p w #[] else (s.run p w, #[])).1).drawn := by
    split
    · exact runT_drawn s w #[]
    · exact run_drawn s w
  generalize (if li then s.runT p w #[] else (s.run p w, #[])) = x at *
  obtain ⟨r, es⟩ := x
  dsimp only at hr ⊢
  refine GOk.after ?_
  (repeat' split) <;> first | exact hr | trivial | exact GOk.le (endFatal_ok _ _ _ _ _ _) hr | exact GOk.le (endThrow_ok _ _ _) hr | exact GOk.le (early_ok _ _ _ _ _ _) hr
theorem oper_ok (p : Program) (li : Bool) (fr : Frame) (cs : List Frame) (dy : Option Dying) (w : World) : GOk w.drawn (stepG.oper p li fr cs dy w) := by
  unfold stepG.oper
  (repeat' split) <;> first | trivial | exact apply_ok _ _ _ _ _ _ _
theorem exec_ok (p : Program) (main li : Bool) (fr : Frame) (cs : List Frame) (dy : Option Dying) (w : World) : GOk w.drawn (stepG.exec p main li fr cs dy w) := by
  have hl : ∀ jump : Option Code, GOk w.drawn (match fr.roundOf with
      | none => if (match jump with | none | some .ret => true | _ => false) then GStep.go { frame := { fr with mode := .returning }, callers := cs, status := .running, dying := dy } w else .ended (.stuck "exit, goto: no such block or label" (fr.pos p)) w
      | some l =>
        let (r, es) := (Instr.endRound l jump).runT p w #[]
        GStep.after (seen p fr.fn es) <| match r with
        | .ok v w => doReturn p main fr cs dy v w
        | .halt _ w => .ended (.stuck "range over a function: no such loop" (fr.pos p)) w) := fun jump => by
    split
    · (repeat' split) <;> first | exact Nat.le_refl _ | trivial
    · rename_i l _
      have hr := runT_drawn (P := p) (Instr.endRound l jump) w #[]
      generalize (Instr.endRound l jump).runT p w #[] = x at *
      obtain ⟨r, es⟩ := x
      dsimp only at hr ⊢
      refine GOk.after ?_
      split
      · exact GOk.le (doReturn_ok _ _ _ _ _ _ _) hr
      · trivial
  unfold stepG.exec
  dsimp only
  split
  · exact hl none
  · exact hl (some .ret)
  · exact Nat.le_refl _
  · exact Nat.le_refl _
  · exact Nat.le_refl _
  · exact Nat.le_refl _
  · exact Nat.le_refl _
  · split
    · exact Nat.le_refl _
    · trivial
  · exact Nat.le_refl _
  · exact Nat.le_refl _
  · exact Nat.le_refl _
  · exact Nat.le_refl _
  · rename_i id k _
    cases exitTo id k with
    | none => exact hl (some (.exit id))
    | some _ => exact Nat.le_refl _
  · rename_i l k _
    cases gotoIn l k with
    | none => exact hl (some (.goto l))
    | some _ => exact Nat.le_refl _
  · rename_i f params assign body k _
    have hr := runT_drawn (P := p) (Instr.enterLoop fr.fn fr.tmps params assign body fr.roundOf) w #[]
    generalize (Instr.enterLoop fr.fn fr.tmps params assign body fr.roundOf).runT p w #[] = x at *
    obtain ⟨r, es⟩ := x
    dsimp only at hr ⊢
    refine GOk.after ?_
    split
    · exact GOk.le (apply_ok _ _ _ _ _ _ _) hr
    · trivial
  · trivial
  · exact apply_ok _ _ _ _ _ _ _
  · rename_i l k _
    have hr := runT_drawn (P := p) (Instr.endLoop l) w #[]
    generalize (Instr.endLoop l).runT p w #[] = x at *
    obtain ⟨r, es⟩ := x
    dsimp only at hr ⊢
    refine GOk.after ?_
    split
    · exact hr
    · exact hr
    · trivial
  · trivial
  · exact apply_ok _ _ _ _ _ _ _
  · rename_i row args _ _
    cases Extern.next row with
    | none => trivial
    | some e => exact apply_ok _ _ _ _ _ _ _
  · split
    · exact Nat.le_refl _
    · split
      · rename_i h; exact run_ok h
      · trivial
  · exact Nat.le_refl _
  · split
    · exact oper_ok _ _ _ _ _ _
    · exact Nat.le_refl _
theorem stepG_ok (p : Program) (main : Bool) (g : Goroutine) (w : World) (li : Bool) : GOk w.drawn (stepG p main g w li) := by
  unfold stepG
  dsimp only
  split
  · exact die_ok _ _ _ _
  · exact exec_ok _ _ _ _ _ _ _
  · exact unwind_ok _ _ _ _ _ _

def SOk (n : Nat) : Stepped → Prop
  | .next m => n ≤ m.world.drawn
  | .ended .. => True
theorem SOk.le {n m : Nat} {s : Stepped} (h : SOk n s) (hm : m ≤ n) : SOk m s := by cases s <;> first | exact Nat.le_trans hm h | trivial
theorem wait_ok {rest : Rest} {cases : Array CommCase} {w w' : World} (h : waitingAt rest cases w = some w') : w'.drawn = w.drawn := by
  unfold waitingAt at h
  (repeat' split at h) <;> first | cases h | skip
  all_goals first | rfl | (cases h; rfl)
theorem communicate_ok (p : Program) (rest : Rest) (gs : Array Goroutine) (i : Nat) (g : Goroutine) (cases : Array CommCase) (bl : Bool) (sh : CommShape) (w : World) : SOk w.drawn (communicate p rest gs i g cases bl sh w).1 := by
  unfold communicate
  dsimp only
  split
  · trivial
  · split
    · split
      · split
        · rename_i h; exact Nat.le_of_eq (wait_ok h).symm
        · trivial
      · exact Nat.le_refl _
    · split
      · trivial
      · rename_i h
        have h1 := run_ok h
        clear h
        split
        · split
          · rename_i h; exact Nat.le_trans h1 (run_halt h)
          · trivial
        · exact h1
        · exact h1
        · split
          · exact h1
          · split
            · rename_i h; have h2 := run_ok h; exact Nat.le_trans h1 h2
            · trivial
        · exact h1
        · exact h1
        · trivial
theorem look_ok (p : Program) (gs : Array Goroutine) (rest : Rest) (w : World) : SOk w.drawn (look p gs rest w) := by
  unfold look
  dsimp only
  split
  · split
    · trivial
    · split
      · trivial
      · split
        · rename_i h; have h1 := run_ok h; exact h1
        · trivial
        · trivial
  · trivial
theorem drain_ok (w : World) (c : Nat) : (drain w c).2.drawn = w.drawn := by
  unfold drain
  split <;> rfl
theorem retime_ok (m : Machine) (k : Nat) (t : Timer) (a b : Nat) : (retime m k t a b).2.world.drawn = m.world.drawn := by
  unfold retime
  dsimp only
  cases t.chan with
  | none => rfl
  | some c => exact drain_ok _ _
theorem named_ok {m : Machine} {var : Addr} {f : Nat → Timer → Value × Machine} {v : Value} {m' : Machine} {n : Nat} (hf : ∀ k t, (f k t).2.world.drawn = n) (h : timerOp.named m var f = .ok (v, m')) : m'.world.drawn = n := by
  unfold timerOp.named at h
  split at h
  · rename_i k _
    have := hf k (m.rest.timers.getD k default)
    simp only [Except.ok.injEq] at h
    rw [h] at this
    exact this
  · cases h
theorem opened_ok {m m' : Machine} {var : Addr} (h : timerOp.opened m var = some m') : m'.world.drawn = m.world.drawn := by
  unfold timerOp.opened at h
  (repeat' split at h) <;> first | (cases h; rfl) | cases h
theorem timerOp_ok {m m' : Machine} {op : TimerOp} {v : Value} (h : timerOp m op = .ok (v, m')) : m'.world.drawn = m.world.drawn := by
  cases op with
  | new t =>
    simp only [timerOp] at h
    (repeat' split at h) <;> first | (cases h; rfl) | cases h
  | stop var =>
    simp only [timerOp] at h
    exact named_ok (fun k t => retime_ok m k t 0 t.period) h
  | reset var a b =>
    simp only [timerOp] at h
    split at h
    · rename_i m1 h1
      rw [← opened_ok h1]
      exact named_ok (fun k t => retime_ok m1 k t a b) h
    · cases h
  | deadline ctx a b c =>
    simp only [timerOp] at h
    cases h
    rfl
theorem serve_ok (p : Program) (m : Machine) (k : Nat) : SOk m.world.drawn (serve p m k) := by
  unfold serve
  split
  · trivial
  · exact Nat.le_refl _
  · dsimp only
    split
    · trivial
    · exact Nat.le_refl _
theorem runT_ok (p : Program) (m : Machine) (i : Nat) (li : Bool) : SOk m.world.drawn (runT p m i li).1 := by
  unfold runT
  dsimp only
  generalize m.gs.swapAt! i { (default : Goroutine) with status := .finished } = x
  obtain ⟨g, gs⟩ := x
  dsimp only
  have hg := stepG_ok p (i == 0) g m.world li
  generalize stepG p (i == 0) g m.world li = s at *
  cases s with
  | ended o w es => trivial
  | comm g cases bl sh w es => exact SOk.le (communicate_ok _ _ _ _ _ _ _ _ _) hg
  | go g w es => exact hg
  | spawn g c w es => exact hg
  | count g w es =>
    dsimp only
    split
    · trivial
    · exact hg
  | alone g on w es => exact hg
  | collect g w es => exact SOk.le (look_ok _ _ _ _) hg
  | watch g w es => exact hg
  | newcoro g c d w es => exact hg
  | coroswitch g c ex w es =>
    dsimp only
    split
    · exact hg
    · exact hg
    · trivial
  | timer g op w es =>
    dsimp only
    split
    · rename_i h
      have h1 := timerOp_ok h
      exact Nat.le_trans hg (Nat.le_of_eq h1.symm)
    · exact hg
    · trivial
    · trivial

def MOk (n : Nat) : Move → Prop
  | .goroutine m _ => n ≤ m.world.drawn
  | .machine s _ => SOk n s
theorem MOk.le {n m : Nat} {s : Move} (h : MOk n s) (hm : m ≤ n) : MOk m s := by
  cases s with
  | goroutine m' i => exact Nat.le_trans hm h
  | machine s ops => exact SOk.le h hm
theorem askOn_ok (p : Program) (m : Machine) : MOk m.world.drawn (askOn p m) := by
  have hp : ∀ m : Machine, MOk m.world.drawn (
      match (choose (.sched (runnable m.gs m.world.os.mono).length)).run p m.world with
      | .halt _ w => .machine (.ended (.stuck "sched" "") w)
      | .ok k world => .goroutine m 0) := fun m => by
    split
    · trivial
    · exact Nat.le_refl _
  unfold askOn
  dsimp only
  split
  · trivial
  · rename_i h
    have h1 := run_ok h
    clear h
    split
    · exact SOk.le (serve_ok p _ _) h1
    · split
      · split
        · exact h1
        · split
          · exact h1
          · split <;> trivial
      · split
        · split
          · trivial
          · rename_i h; have h2 := run_ok h
            split
            · exact Nat.le_trans h1 h2
            · split
              · trivial
              · rename_i h; have h3 := run_ok h; exact Nat.le_trans h1 (Nat.le_trans h2 h3)
        · split
          · trivial
          · rename_i h
            have h2 := run_ok h
            clear h
            split
            · trivial
            · rename_i h; have h3 := run_ok h
              split
              · exact Nat.le_trans h1 (Nat.le_trans h2 h3)
              · split
                · trivial
                · rename_i h; have h4 := run_ok h; exact Nat.le_trans h1 (Nat.le_trans h2 (Nat.le_trans h3 h4))
          · rename_i h
            have h2 := run_ok h
            exact Nat.le_trans h1 h2
          · rename_i h
            have h2 := run_ok h
            clear h
            split
            · trivial
            · rename_i h; have h3 := run_ok h
              split
              · exact Nat.le_trans h1 (Nat.le_trans h2 h3)
              · split
                · trivial
                · rename_i h; have h4 := run_ok h; exact Nat.le_trans h1 (Nat.le_trans h2 (Nat.le_trans h3 h4))
theorem ask_ok (p : Program) (m : Machine) : MOk m.world.drawn (ask p m) := by
  unfold ask
  split
  · split
    · trivial
    · rename_i h
      have h1 := run_ok h
      split
      · rename_i h2
        have h3 := look_ok p m.gs m.rest ‹World›
        rw [h2] at h3
        exact MOk.le (askOn_ok _ _) (Nat.le_trans h1 h3)
      · exact SOk.le (look_ok _ _ _ _) h1
    · rename_i h
      have h1 := run_ok h
      exact MOk.le (askOn_ok _ _) h1
  · exact askOn_ok _ _
theorem move_ok (p : Program) (m : Machine) : MOk m.world.drawn (move p m) := by
  unfold move
  split
  · split
    · exact Nat.le_refl _
    · trivial
  · split
    · split
      · exact Nat.le_refl _
      · exact ask_ok p { m with rest := { m.rest with slice := none } }
    · exact ask_ok _ _
theorem step_ok (p : Program) (m : Machine) : SOk m.world.drawn (step p m) := by
  have := move_ok p m
  unfold step stepT
  split
  · rename_i h
    rw [h] at this
    exact SOk.le (runT_ok _ _ _ _) this
  · rename_i h
    rw [h] at this
    exact this
theorem runN_drawn {p : Program} : ∀ (n : Nat) {m m' : Machine}, runN p n m = .next m' → m.world.drawn ≤ m'.world.drawn
  | 0, m, m', h => by
    simp only [runN] at h
    cases h
    exact Nat.le_refl _
  | n + 1, m, m', h => by
    simp only [runN] at h
    have h1 := step_ok p m
    split at h
    · rename_i h2
      rw [h2] at h1
      exact Nat.le_trans h1 (runN_drawn n h)
    · rename_i h2
      exact absurd h (h2 _)
theorem steps_drawn {p : Program} {m m' : Machine} (h : Steps p m m') : m.world.drawn ≤ m'.world.drawn := by
  obtain ⟨n, h⟩ := h
  exact runN_drawn n h
/-- What a call draws it does not give back. -/
theorem calls_drawn {P : Program} {f : FuncId} {args : Array Value} {w : World} {R : Ending → World → Prop} (h : Calls P f args w R) : Calls P f args w fun e w' => R e w' ∧ (e ≠ .outgrown → w.drawn ≤ w'.drawn) := fun cs => by
  obtain ⟨e, w', fr, hR, hC, hf, hl⟩ := h cs
  refine ⟨e, w', fr, ⟨hR, fun he => ?_⟩, hC, hf, hl⟩
  cases e with
  | returned v => exact steps_drawn hC
  | panicked c => exact steps_drawn hC
  | outgrown => exact absurd rfl he
end Go.Proofs.YtpijeomnplmakaaDoor

/- The comparator of the order of slips, with what it draws; Ranks and File, however slips are ranked. -/
namespace Go.Proofs.YtpijeomnplmakaaDoor
open Go.RowKit

set_option maxHeartbeats 1000000 in
theorem by1_calls (x y : Slp) (w : World) (hmx : MxI w) (hx : GdS x) (hy : GdS y) : Calls Tryd.prog 113 [encSl x, encSl y].toArray w fun e w' => e = .returned (.int .i64 (cmpBy 1 x y)) ∧ Ext w w' := by
  refine Calls.ofW (by simp) ?_
  (refine jjB ?_; refine jjC ?_)
  (refine jy rfl ?_; intro b3 w_b3 hb_b3 hs_b3 hS_b3 hk_b3; have hA_b3 := At.ofBlock hk_b3)
  (refine jy rfl ?_; intro b4 w_b4 hb_b4 hs_b4 hS_b4 hk_b4; have hA_b4 := At.ofBlock hk_b4)
  (apply jJ; exact eI rfl; refine jz ?_; refine jjB ?_; refine jjC ?_; refine jO rfl rfl rfl rfl ?_; refine jO rfl rfl rfl rfl ?_)
  refine jjQ (Order_slip _ x y hx.2 hy.2) rfl rfl ?_
  rintro _ w6 hS6 rfl
  (apply jI; exact eU rfl; refine ju rfl rfl ?_; refine ju rfl rfl ?_; apply jJ; exact eI rfl; apply jJ; exact eI rfl; refine jz ?_; refine jjB ?_; refine jjC ?_; apply jI; exact eI rfl; apply jJ; exact eI rfl; refine jz ?_; refine jjF ?_)
  refine jB rfl rfl ⟨?_, inferInstance⟩
  show Ending.returned (Value.int .i64 (ordR x y).1) = _
  rw [show cmpBy 1 x y = ordS x y from rfl, show (ordR x y).1 = ordS x y by simp [ordR, hx.1, hy.1]]
theorem by1_slip : CmpQ 113 (cmpBy 1) := fun x y w hmx hx hy =>
  (calls_drawn (by1_calls x y w hmx hx hy)).mono fun e w' ⟨⟨h1, h2⟩, h3⟩ => ⟨h1, h2, h3 (by rw [h1]; exact fun h => by cases h)⟩
end Go.Proofs.YtpijeomnplmakaaDoor

/- The reference: the same list of slips. -/
namespace Go.Proofs.YtpijeomnplmakaaDoor
open Go.RowKit

set_option maxHeartbeats 2000000 in
theorem SameSl_yes (a1 a2 : Option Addr) (c1 c2 : Nat) (l : List Slp) (w : World) (hl : l.length ≤ 1000000) [h1 : RowI w (.slice a1 l.length c1) true 6 (l.map encSl)] [h2 : RowI w (.slice a2 l.length c2) true 6 (l.map encSl)] :
    Ct Tryd.prog 10 [.slice a1 l.length c1, .slice a2 l.length c2] w fun v _ => v = .bool true := by
  refine Ct.ofW (by simp) ?_
  (refine jjB ?_; refine jjC ?_; apply jJ; exact eB rfl; refine jz ?_; refine jjB ?_; refine jjB ?_; refine jjC ?_; apply jI; exact eS rfl; refine jh rfl ?_; apply jI; exact eS rfl; refine jh rfl ?_; refine jjk rfl rfl (by omega) ?_; refine jz ?_; refine jjK rfl ?_; refine jjG ?_; refine jjB ?_; refine jjB ?_; refine jjC ?_; apply jJ; exact eI rfl; refine jz ?_; refine jjD ?_)
  refine W.loop (11 :: 12 :: 13 :: 14 :: 17 :: 18 :: 19 :: 20 :: 21 :: 22 :: 23 :: 24 :: 25 :: 4 :: 15 :: 16 :: 5 :: []) (fun g s' V => ∃ k : Nat, s' 5 = .int .i64 ((k : Nat) : Int) ∧ g = l.length - k ∧ k ≤ l.length) l.length ⟨0, rfl, rfl, Nat.zero_le _⟩ ?_
  rintro _ sd w1 hS1 ⟨k, h5, rfl, hk⟩
  refine W.fix h5 ?_
  clear h5
  by_cases k1 : k < l.length
  · (refine jjB ?_; refine jjB ?_; refine jjC ?_; apply jI; exact eI rfl; apply jI; exact eS rfl; refine jh rfl ?_; refine jjZ rfl rfl (by omega) ?_; refine jz ?_; refine jjJ rfl ?_; refine jjG ?_; refine jjB ?_; refine jjD ?_; refine jjB ?_)
    refine W.draw (fun w' => Ext w1 w') ?_
    intro w2 hS2
    have hz := (h1.h.ext hS1.ext).place' (map_get k1)
    obtain ⟨q1, o1, rfl, hA1⟩ := hz
    have hz := (h2.h.ext hS1.ext).place' (map_get k1)
    obtain ⟨q2, o2, rfl, hA2⟩ := hz
    refine jjV [0, 1, 2, 3, 4, 5, 6, 7] (by decide +kernel) hS2.ext ?_
    (((apply jjT; exact rfl; rintro w' hq; have := hq.toStep; apply jI; exact eS rfl; refine jz ?_; exact ⟨rfl, rfl⟩; apply jjT; exact rfl; rintro w' hq; have := hq.toStep; apply jI; exact eI rfl; refine jz ?_; exact ⟨rfl, rfl⟩; apply jjT; exact rfl; rintro w' hq; have := hq.toStep; refine jH _ rfl rfl rfl (by omega) ?_; refine jz ?_; exact ⟨rfl, rfl⟩; apply jjT; exact rfl; rintro w' hq; have := hq.toStep; refine jQ rfl rfl ?_; refine jz ?_; exact ⟨rfl, rfl⟩; apply jjT; exact rfl; rintro w' hq; have := hq.toStep; apply jI; exact eS rfl; refine jz ?_; exact ⟨rfl, rfl⟩; apply jjT; exact rfl; rintro w' hq; have := hq.toStep; apply jI; exact eI rfl; refine jz ?_; exact ⟨rfl, rfl⟩; apply jjT; exact rfl; rintro w' hq; have := hq.toStep; refine jH _ rfl rfl rfl (by omega) ?_; refine jz ?_; exact ⟨rfl, rfl⟩; apply jjT; exact rfl; rintro w' hq; have := hq.toStep; refine jQ rfl rfl ?_; refine jz ?_; exact ⟨rfl, rfl⟩; refine jjU ?_)))
    apply jjW 8 (by decide +kernel) rfl hS2.ext
    refine Ops.neqTN (enc := encSl) l[k] rfl rfl ?_
    refine jz ?_
    refine jjX (by decide +kernel) hS2.ext ?_
    (refine jjK rfl ?_; refine jjG ?_; refine jjC ?_; apply jI; exact eI rfl; refine jY rfl rfl (by omega) ?_; apply jJ; exact eI rfl; refine jz ?_)
    exact ⟨rfl, by ((refine Same.upd rfl ?_; refine Same.upd rfl ?_; refine Same.upd rfl ?_; refine Same.upd rfl ?_; refine Same.upd rfl ?_; refine Same.upd rfl ?_; refine Same.upd rfl ?_; refine Same.upd rfl ?_; refine Same.upd rfl ?_; refine Same.upd rfl ?_; refine Same.upd rfl ?_; refine Same.upd rfl ?_; refine Same.upd rfl ?_; refine Same.upd rfl ?_; refine Same.upd rfl ?_; refine Same.upd rfl ?_; refine Same.upd rfl ?_; exact Same.ovN)), l.length - (k + 1), by omega, hS1.ext.trans hS2.ext, k + 1, congrArg (Value.int .i64) (by omega), rfl, by omega⟩
  · (refine jjB ?_; refine jjB ?_; refine jjC ?_; apply jI; exact eI rfl; apply jI; exact eS rfl; refine jh rfl ?_; refine jja rfl rfl (by omega) ?_; refine jz ?_; refine jjK rfl ?_; refine jjE ?_; refine jjB ?_; refine jjC ?_; apply jJ; exact eB rfl; refine jz ?_; refine jjF ?_; refine jB rfl rfl ⟨inferInstance, ?_⟩)
    exact rfl
end Go.Proofs.YtpijeomnplmakaaDoor

/- The law RackFiles: ranks of slips, and slips that are filed. -/
namespace Go.Proofs.YtpijeomnplmakaaDoor
open Go.RowKit

theorem all_slR (l : List Slp) : (l.map encSl).all (fun v => v.cells.toList.all (·.oneCell')) = true := by
  rw [List.all_eq_true]; intro x hx; obtain ⟨y, _, rfl⟩ := List.mem_map.1 hx; rfl
theorem file_len (l : List Slp) (n boxes : Int) : (fileL l n boxes).length ≤ 60 := by
  rw [fileL]
  split
  · rename_i h
    rw [fileE] at h
    split at h
    · rename_i h2
      rw [List.length_map, ordF_len]
      have := ranks_len h2
      omega
    · rename_i h2; exact absurd h h2
  · simp
section
variable (a : Option Addr) (c : Nat) (l : List Slp) (w : World) [hgb : At w 0 0 bysC] [hmx : MxI w] [hrow : RowI w (.slice a l.length c) true 6 (l.map encSl)]
set_option maxHeartbeats 8000000 in
theorem RackFiles_law (n : Nat) (boxes : Int) (hn : n ≤ 255) : Ct Tryd.prog 3 [.slice a l.length c, .int .u8 (n : Int), .int .i64 boxes] w fun v _ => v = .bool true := by
  refine Ct.ofW (by simp) ?_
  (refine jjB ?_; refine jjC ?_; apply jJ; exact eB rfl; refine jz ?_; refine jjB ?_; refine jjB ?_; refine jjC ?_; apply jI; exact eS rfl)
  obtain ⟨G, hG⟩ : ∃ G, greatL6 l = G := ⟨_, rfl⟩
  refine jjQ ((GreatSlips_ref6 a c l _).mono fun v _ _ h => h.trans (by rw [hG])) rfl rfl ?_
  rintro _ w1 hS1 rfl
  cases G with
  | true =>
    (refine jz ?_; refine jjJ rfl ?_; refine jjB ?_; refine jjC ?_; apply jJ; exact eB rfl; refine jz ?_; refine jjF ?_; refine jB rfl rfl ⟨inferInstance, ?_⟩)
    exact rfl
  | false =>
  obtain ⟨hl80, hs⟩ := small_of_great6 hG
  (refine jz ?_; refine jjK rfl ?_; refine jjG ?_; refine jjB ?_; refine jjC ?_)
  refine Ops.buildSlice0 ?_
  intro b22 w2 hb22 hs22 hS22 hk22
  have hO2 := OwnL.empty (agg := true) (k := 6) (B := w1.heap.size) (by omega) hk22
  (apply jI; exact eS rfl)
  refine Ops.appendL hO2 (by omega) (hrow.h.ext inferInstance) rfl rfl rfl rfl (all_slR l) ?_ ?_ ?_
  · simp only [List.length_map, List.length_nil]; omega
  · simp only [List.length_map, List.length_nil]; omega
  intro v3 w3 hA3 hO3 _ _
  rw [List.nil_append] at hO3
  obtain ⟨ma, mc, rfl⟩ := hO3.slice
  rw [List.length_map] at hO3 ⊢
  have hE3 : Ext w w3 := hA3.ext inferInstance (by have := hS1.size; omega)
  have hS3 := hE3.toStep
  have i2 : RowI w3 (.slice ma l.length mc) true 6 (l.map encSl) := ⟨hO3.row⟩
  (apply jJ; exact eS rfl; refine jz ?_; refine jjB ?_; refine jjC ?_; apply jI; exact eS rfl; apply jI; exact eI rfl)
  refine jjQ (Ranks_rack ma mc l (n : Int) _ (fun _ => by1_slip) hs ⟨by omega, by omega⟩) rfl rfl ?_
  rintro _ w4 hS4 ⟨a4, c4, rfl, hO4⟩
  have i4 : RowI w4 (.slice a4 (ranksR l n).1.length c4) false 1 ((ranksR l n).1.map intV) := ⟨hO4.row⟩
  (apply jI; exact eU rfl; refine ju rfl rfl ?_; refine ju rfl rfl ?_; apply jJ; exact eS rfl; apply jJ; exact eI rfl; refine jz ?_; refine jjB ?_; refine jjC ?_; apply jI; exact eS rfl; apply jI; exact eI rfl)
  refine jjQ (Ranks_ref6 a c l _ n hs hn) rfl rfl ?_
  rintro _ w5 hS5 ⟨a5, c5, rfl, hO5⟩
  have i5 : RowI w5 (.slice a5 (ranksR l n).1.length c5) false 1 ((ranksR l n).1.map intV) := ⟨hO5.row⟩
  (apply jI; exact eU rfl; refine ju rfl rfl ?_; refine ju rfl rfl ?_; apply jJ; exact eS rfl; apply jJ; exact eI rfl; refine jz ?_; refine jjB ?_; refine jjC ?_; apply jI; exact eS rfl; apply jI; exact eI rfl; apply jI; exact eI rfl)
  refine jjQ (File_rack ma mc l (n : Int) boxes _ (fun _ => by1_slip) hs ⟨by omega, by omega⟩) rfl rfl ?_
  rintro _ w6 hS6 ⟨p, a6, c6, hp, rfl, hO6⟩
  have i6 : RowI w6 (.slice a6 (fileL l n boxes).length c6) true 6 ((fileL l n boxes).map encSl) := ⟨hO6.row⟩
  (apply jI; exact eU rfl; refine ju rfl rfl ?_; refine ju rfl rfl ?_; refine ju rfl rfl ?_; apply jJ; exact eS rfl; apply jJ; exact eI rfl; apply jJ; exact eI rfl; refine jz ?_; refine jjB ?_; refine jjC ?_; apply jI; exact eS rfl; apply jI; exact eI rfl; apply jI; exact eI rfl)
  refine jjQ (File_ref6 a c l _ n boxes hs hn) rfl rfl ?_
  rintro _ w7 hS7 ⟨p', a7, c7, hp', rfl, hO7⟩
  obtain rfl : p = p' := by
    by_cases he : fileE l n boxes = 0
    · rw [if_pos he] at hp hp'; exact hp.uniq hp'
    · rw [if_neg he] at hp hp'; omega
  clear hp hp'
  have i7 : RowI w7 (.slice a7 (fileL l n boxes).length c7) true 6 ((fileL l n boxes).map encSl) := ⟨hO7.row⟩
  have hfl := file_len l n boxes
  (apply jI; exact eU rfl; refine ju rfl rfl ?_; refine ju rfl rfl ?_; refine ju rfl rfl ?_; apply jJ; exact eS rfl; apply jJ; exact eI rfl; apply jJ; exact eI rfl; refine jz ?_; refine jjB ?_; refine jjC ?_; apply jI; exact eS rfl; apply jI; exact eS rfl)
  refine jjQ (SameInts_yes a4 a5 c4 c5 _ _) rfl rfl ?_
  rintro _ w8 hS8 rfl
  (apply jI; exact eB rfl; refine jT rfl rfl rfl ?_; apply jI; exact eI rfl; refine jT rfl rfl rfl ?_; apply jI; exact eI rfl; refine jT rfl rfl rfl ?_; refine jjh rfl rfl (by omega) ?_; apply jK rfl; exact eB rfl; apply jI; exact eB rfl; refine jT rfl rfl rfl ?_; apply jI; exact eS rfl; refine jT rfl rfl rfl ?_; apply jI; exact eS rfl; refine jT rfl rfl rfl ?_)
  refine jjQ (SameSl_yes a6 a7 c6 c7 (fileL l n boxes) _ (by omega)) rfl rfl ?_
  rintro _ w9 hS9 rfl
  have hO9 : OwnL w9 w5.heap.size 39 true 6 (.slice a6 (fileL l n boxes).length c6) ((fileL l n boxes).map encSl) := hO6.ext inferInstance
  have hE59 : Ext w5 w9 := inferInstance
  have h25 : RowI w5 (.slice ma l.length mc) true 6 (l.map encSl) := inferInstance
  generalize fileL l n boxes = F at *
  (apply jK rfl; exact eB rfl; apply jI; exact eB rfl; refine jT rfl rfl rfl ?_; apply jI; exact eI rfl; refine jT rfl rfl rfl ?_; apply jI; exact eI rfl; refine jT rfl rfl rfl ?_; refine jjh rfl rfl (by omega) ?_; apply jK rfl; exact eB rfl; apply jI; exact eB rfl; refine jT rfl rfl rfl ?_; apply jI; exact eI rfl; refine jT rfl rfl rfl ?_; apply jI; exact eI rfl; refine jT rfl rfl rfl ?_; refine jjh rfl rfl (by omega) ?_; apply jK rfl; exact eB rfl; apply jJ; exact eB rfl; refine jz ?_; refine jjB ?_; refine jjB ?_; refine jjC ?_; apply jI; exact eS rfl; refine jh rfl ?_; apply jI; exact eI rfl; refine jz ?_; refine jjD ?_)
  refine W.keep0 [(0, .slice a l.length c), (7, .slice ma l.length mc), (12, .slice a6 F.length c6), (18, .bool true), (77, .int .i64 (F.length : Int)), (78, .int .i64 ((0 : Nat) : Int))] ⟨eS rfl, eS rfl, eS rfl, eB rfl, eI rfl, eI rfl, trivial⟩ fun s0 => ?_
  refine W.loopG (79 :: 80 :: 19 :: 81 :: 82 :: 83 :: 84 :: 85 :: 78 :: []) (fun g s' V => ∃ (k : Nat) (xs : List Slp), s' 78 = .int .i64 (k : Int) ∧ g = F.length - k ∧ k ≤ F.length ∧ Ext w5 V ∧ xs.length = F.length ∧ OwnL V w5.heap.size 39 true 6 (.slice a6 F.length c6) (xs.map encSl)) F.length ⟨0, F, rfl, rfl, Nat.zero_le _, hE59, rfl, hO9⟩ ?_
  rintro _ sd V ⟨k, xs, h78, rfl, hk, hEV, hxs, hO⟩
  refine W.fix h78 ?_
  clear h78
  have hwV : Ext w V := (inferInstance : Ext w w5).trans hEV
  have := hwV.toStep
  by_cases hk1 : k < F.length
  rotate_left
  · have hr1 : RowI V (.slice ma l.length mc) true 6 (l.map encSl) := ⟨h25.h.ext hEV⟩
    (refine jjB ?_; refine jjC ?_; refine jja rfl rfl (by omega) ?_; refine jz ?_; refine jjB ?_; refine jjK rfl ?_; refine jjE ?_; refine jjB ?_; refine jjC ?_; apply jI; exact eB rfl; apply jI; exact eB rfl; refine jT rfl rfl rfl ?_; apply jI; exact eS rfl; refine jT rfl rfl rfl ?_; apply jI; exact eS rfl; refine jT rfl rfl rfl ?_)
    refine jjQ (SameSl_yes ma a mc c l _ (by omega)) rfl rfl ?_
    rintro _ w10 hS10 rfl
    (apply jK rfl; exact eB rfl; apply jJ; exact eB rfl; refine jz ?_; refine jjF ?_; refine jB rfl rfl ⟨inferInstance, ?_⟩)
    exact rfl
  obtain ⟨g, rfl⟩ := own_addr hO (by omega)
  have hkx : k < xs.length := by omega
  have hg := hO.block g rfl
  (refine jjB ?_; refine jjC ?_; refine jjZ rfl rfl (by omega) ?_; refine jz ?_; refine jjB ?_; refine jjJ rfl ?_; refine jjG ?_; refine jjB ?_; refine jjD ?_; refine jjB ?_; refine jjC ?_; apply jI; exact eI rfl; apply jJ; exact eI rfl; refine jz ?_; refine jjC ?_; apply jI; exact eS rfl; apply jI; exact eI rfl)
  refine jH k rfl rfl rfl (by omega) ?_
  (refine jm ?_; refine jn rfl ?_)
  refine Ops.storeL (g := g) (j := k) (i := 3) (X := encSl xs[k]) (X' := encSl (xs[k].1, ⟨#[]⟩, xs[k].2.2)) hO rfl (by rw [List.getElem?_map, List.getElem?_eq_getElem hkx]; rfl) rfl rfl rfl (show Value.pointer (some ⟨g, 0 + k * 6 + 3, none⟩) = Value.pointer (some ⟨g, k * 6 + 3, none⟩) from by rw [Nat.zero_add]) (eT rfl) rfl rfl ?_
  intro V4 o4 hp4 hX4
  rw [← List.map_set] at hX4
  (refine jz ?_; refine jjC ?_; refine jY rfl rfl (by omega) ?_; apply jI; exact eI rfl; refine jz ?_)
  exact ⟨rfl, by ((refine Same.upd rfl ?_; refine Same.upd rfl ?_; refine Same.upd rfl ?_; refine Same.upd rfl ?_; refine Same.upd rfl ?_; refine Same.upd rfl ?_; refine Same.upd rfl ?_; refine Same.upd rfl ?_; refine Same.upd rfl ?_; refine Same.upd rfl ?_; exact Same.ovN)), F.length - (k + 1), by omega, k + 1, xs.set k (xs[k].1, ⟨#[]⟩, xs[k].2.2), congrArg (Value.int .i64) (by omega), rfl, by omega, hp4.ext hEV hg.1, by rw [List.length_set]; exact hxs, hX4⟩
end
end Go.Proofs.YtpijeomnplmakaaDoor
