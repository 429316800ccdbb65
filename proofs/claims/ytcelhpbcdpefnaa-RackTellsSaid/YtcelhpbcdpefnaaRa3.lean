/- rack: open. -/
import Derived.Test.YtcelhpbcdpefnaaRa2
import Derived.Test.YtcelhpbcdpefnaaEng17
namespace Go.Proofs.Ytcelhpbcdpefnaa
open Go.RowKit

abbrev OpS := Int × List (Int × Int) × List Int
def opS (st : OpS) (i : Int) : OpS := (i, (if i < st.1 then st.2.1 ++ [(st.1, i)] else st.2.1), st.2.2.set i.toNat (if i < st.1 then st.2.1 ++ [(st.1, i)] else st.2.1).length)
def opF (n : Nat) (L : List Int) : OpS := L.foldl opS (-1, [], List.replicate n 0)
theorem opF_snoc (n : Nat) (L : List Int) (i : Int) : opF n (L ++ [i]) = opS (opF n L) i := by simp [opF]
theorem opF_len (n : Nat) (L : List Int) : (opF n L).2.2.length = n ∧ (opF n L).2.1.length ≤ L.length := by
  suffices h : ∀ (M : List Int) (st : OpS), (M.foldl opS st).2.2.length = st.2.2.length ∧ (M.foldl opS st).2.1.length ≤ st.2.1.length + M.length by
    have := h L (-1, [], List.replicate n 0)
    simp only [List.length_replicate, List.length_nil] at this
    exact ⟨this.1, by simpa [opF] using this.2⟩
  intro M
  induction M with
  | nil => intro st; simp
  | cons x M ih =>
    intro st
    have := ih (opS st x)
    simp only [List.foldl_cons, List.length_cons]
    refine ⟨by rw [this.1]; simp [opS], Nat.le_trans this.2 ?_⟩
    simp only [opS]
    split
    · simp; omega
    · omega
/-- The error of a deck and boxes. -/
def opE (d : List Int) (boxes : Int) : Int := if deckB d then (if inB 2 20 boxes then 0 else 61) else 60

def OpenR (a : Option Addr) (c : Nat) (d : List Int) (boxes : Int) (B : Nat) (v : Value) (w' : World) : Prop :=
  (opE d boxes ≠ 0 ∧ v = .tuple #[.pointer none, .int .i64 (opE d boxes)]) ∨
  (opE d boxes = 0 ∧ ∃ bb bn ae ce, v = .tuple #[.pointer (some ⟨bb, 0, none⟩), .int .i64 0] ∧ B ≤ bb ∧ B ≤ bn ∧
    At w' bb 0 [.slice (some ⟨bn, 0, none⟩) d.length d.length, .slice ae (opF d.length (ordF d)).2.1.length ce, .slice a d.length c, .int .i64 boxes] ∧
    RowV w' false 1 (.slice (some ⟨bn, 0, none⟩) d.length d.length) ((opF d.length (ordF d)).2.2.map intV) ∧ RowV w' true 2 (.slice ae (opF d.length (ordF d)).2.1.length ce) ((opF d.length (ordF d)).2.1.map encII))
theorem deckB_len {d : List Int} (h : deckB d = true) : d.length ≤ 60 := by simp [deckB] at h; exact h.1

set_option maxHeartbeats 4000000 in
theorem open_rack (a : Option Addr) (c : Nat) (d : List Int) (boxes : Int) (w : World) (hl : d.length ≤ 1000000) [hrow : RowI w (.slice a d.length c) false 1 (d.map intV)] :
    Ct Try.prog 34 [.slice a d.length c, .int .i64 boxes] w fun v w' => OpenR a c d boxes w.heap.size v w' := by
  refine Ct.ofWM (by simp) ?_
  repeat' (first |((first|apply jI|apply jJ|apply jK rfl|apply jL rfl); first|exact eI rfl|exact eB rfl|exact eP rfl|exact eS rfl|exact eT rfl|exact eA rfl|exact eU rfl|exact eF rfl|exact eM rfl|exact eN rfl|exact rfl)|(refine jM ?_; first|refine jN rfl rfl rfl ?_|refine jO rfl rfl rfl rfl ?_|refine jP rfl rfl rfl ?_|refine jQ rfl rfl ?_|refine jR (by assumption) rfl rfl ?_)|(refine jS ?_; first|refine jT rfl rfl rfl ?_|refine jU rfl rfl rfl rfl ?_|refine jV rfl rfl ?_)|(refine jW ?_; first|refine jX rfl rfl ?_|refine jY rfl rfl (by omega) ?_|refine jZ rfl rfl (by omega) ?_|refine ja rfl rfl ?_|refine jb rfl rfl ?_|refine jc rfl rfl ?_|refine jd rfl rfl ?_|refine je rfl rfl ?_|refine jf rfl rfl ?_)|(refine jg ?_; first|refine jh rfl ?_|refine ji rfl ?_|refine jj rfl rfl ?_|refine jk rfl rfl ?_|refine jl rfl ?_)|(refine jm ?_; refine jn rfl ?_)|(refine jo ?_; first|refine jp rfl ?_|refine jq rfl ?_|refine jr rfl ?_|refine js rfl ?_) |(refine jE ?_; first|(refine jF rfl rfl rfl (map_get (by omega)) ?_; intro _ _ _)|refine jG rfl rfl rfl (by omega) ?_)|refine jt rfl rfl rfl (by omega) ?_|refine ju rfl rfl ?_|refine jv ?_|refine jw rfl ?_ |refine jz ?_|(refine jjA ?_; first|refine jjB ?_|refine jjC ?_|refine jjD ?_|refine jjE ?_|refine jjF ?_|refine jjG ?_|refine jjH ?_|refine jjI ?_|refine jjJ rfl ?_|refine jjK rfl ?_) |refine jA rfl ⟨⟨_, rfl⟩, ?_⟩|refine jB rfl rfl ⟨inferInstance, ?_⟩|refine jC rfl rfl rfl ⟨inferInstance, ?_⟩|refine jD rfl rfl rfl rfl ⟨inferInstance, ?_⟩|refine jA rfl ⟨inferInstance, ?_⟩)
  refine jjQ (Check_rack a c d _ hl) rfl rfl ?_
  rintro _ w2 hS2 rfl
  cases hdk : deckB d
  · repeat' (first |(refine jW ?_; first|refine jjZ rfl rfl (by omega) ?_|refine jja rfl rfl (by omega) ?_|refine jjb rfl rfl (by omega) ?_|refine jjc rfl rfl (by omega) ?_|refine jjd rfl rfl (by omega) ?_|refine jje rfl rfl (by omega) ?_|refine jjf rfl rfl (by omega) ?_|refine jjg rfl rfl (by omega) ?_|refine jjh rfl rfl (by omega) ?_|refine jji rfl rfl (by omega) ?_|refine jjj rfl rfl (by omega) ?_|refine jjk rfl rfl (by omega) ?_) |((first|apply jI|apply jJ|apply jK rfl|apply jL rfl); first|exact eI rfl|exact eB rfl|exact eP rfl|exact eS rfl|exact eT rfl|exact eA rfl|exact eU rfl|exact eF rfl|exact eM rfl|exact eN rfl|exact rfl)|(refine jM ?_; first|refine jN rfl rfl rfl ?_|refine jO rfl rfl rfl rfl ?_|refine jP rfl rfl rfl ?_|refine jQ rfl rfl ?_|refine jR (by assumption) rfl rfl ?_)|(refine jS ?_; first|refine jT rfl rfl rfl ?_|refine jU rfl rfl rfl rfl ?_|refine jV rfl rfl ?_)|(refine jW ?_; first|refine jX rfl rfl ?_|refine jY rfl rfl (by omega) ?_|refine jZ rfl rfl (by omega) ?_|refine ja rfl rfl ?_|refine jb rfl rfl ?_|refine jc rfl rfl ?_|refine jd rfl rfl ?_|refine je rfl rfl ?_|refine jf rfl rfl ?_)|(refine jg ?_; first|refine jh rfl ?_|refine ji rfl ?_|refine jj rfl rfl ?_|refine jk rfl rfl ?_|refine jl rfl ?_)|(refine jm ?_; refine jn rfl ?_)|(refine jo ?_; first|refine jp rfl ?_|refine jq rfl ?_|refine jr rfl ?_|refine js rfl ?_) |(refine jE ?_; first|(refine jF rfl rfl rfl (map_get (by omega)) ?_; intro _ _ _)|refine jG rfl rfl rfl (by omega) ?_)|refine jt rfl rfl rfl (by omega) ?_|refine ju rfl rfl ?_|refine jv ?_|refine jw rfl ?_ |(refine jx ?_; refine jy rfl ?_; intro _ _ _ _ _ hblk; have := At.ofBlock hblk; clear hblk) |refine jz ?_|(refine jjA ?_; first|refine jjB ?_|refine jjC ?_|refine jjD ?_|refine jjE ?_|refine jjF ?_|refine jjG ?_|refine jjH ?_|refine jjI ?_|refine jjJ rfl ?_|refine jjK rfl ?_) |refine jA rfl ⟨⟨_, rfl⟩, ?_⟩|refine jB rfl rfl ⟨inferInstance, ?_⟩|refine jC rfl rfl rfl ⟨inferInstance, ?_⟩|refine jD rfl rfl rfl rfl ⟨inferInstance, ?_⟩|refine jA rfl ⟨inferInstance, ?_⟩)
    refine fin2M rfl rfl rfl inferInstance fun w' g => ⟨Ext.ofGrow inferInstance g (Nat.le_refl _), .inl ⟨by simp [opE, hdk], ?_⟩⟩
    simp only [opE, hdk]; exact rfl
  · repeat' (first |(refine jW ?_; first|refine jjZ rfl rfl (by omega) ?_|refine jja rfl rfl (by omega) ?_|refine jjb rfl rfl (by omega) ?_|refine jjc rfl rfl (by omega) ?_|refine jjd rfl rfl (by omega) ?_|refine jje rfl rfl (by omega) ?_|refine jjf rfl rfl (by omega) ?_|refine jjg rfl rfl (by omega) ?_|refine jjh rfl rfl (by omega) ?_|refine jji rfl rfl (by omega) ?_|refine jjj rfl rfl (by omega) ?_|refine jjk rfl rfl (by omega) ?_) |((first|apply jI|apply jJ|apply jK rfl|apply jL rfl); first|exact eI rfl|exact eB rfl|exact eP rfl|exact eS rfl|exact eT rfl|exact eA rfl|exact eU rfl|exact eF rfl|exact eM rfl|exact eN rfl|exact rfl)|(refine jM ?_; first|refine jN rfl rfl rfl ?_|refine jO rfl rfl rfl rfl ?_|refine jP rfl rfl rfl ?_|refine jQ rfl rfl ?_|refine jR (by assumption) rfl rfl ?_)|(refine jS ?_; first|refine jT rfl rfl rfl ?_|refine jU rfl rfl rfl rfl ?_|refine jV rfl rfl ?_)|(refine jW ?_; first|refine jX rfl rfl ?_|refine jY rfl rfl (by omega) ?_|refine jZ rfl rfl (by omega) ?_|refine ja rfl rfl ?_|refine jb rfl rfl ?_|refine jc rfl rfl ?_|refine jd rfl rfl ?_|refine je rfl rfl ?_|refine jf rfl rfl ?_)|(refine jg ?_; first|refine jh rfl ?_|refine ji rfl ?_|refine jj rfl rfl ?_|refine jk rfl rfl ?_|refine jl rfl ?_)|(refine jm ?_; refine jn rfl ?_)|(refine jo ?_; first|refine jp rfl ?_|refine jq rfl ?_|refine jr rfl ?_|refine js rfl ?_) |(refine jE ?_; first|(refine jF rfl rfl rfl (map_get (by omega)) ?_; intro _ _ _)|refine jG rfl rfl rfl (by omega) ?_)|refine jt rfl rfl rfl (by omega) ?_|refine ju rfl rfl ?_|refine jv ?_|refine jw rfl ?_ |(refine jx ?_; refine jy rfl ?_; intro _ _ _ _ _ hblk; have := At.ofBlock hblk; clear hblk) |refine jz ?_|(refine jjA ?_; first|refine jjB ?_|refine jjC ?_|refine jjD ?_|refine jjE ?_|refine jjF ?_|refine jjG ?_|refine jjH ?_|refine jjI ?_|refine jjJ rfl ?_|refine jjK rfl ?_) |refine jA rfl ⟨⟨_, rfl⟩, ?_⟩|refine jB rfl rfl ⟨inferInstance, ?_⟩|refine jC rfl rfl rfl ⟨inferInstance, ?_⟩|refine jD rfl rfl rfl rfl ⟨inferInstance, ?_⟩|refine jA rfl ⟨inferInstance, ?_⟩)
    (refine jjP (v := .int _ _) rfl (by exact rfl) (by exact rfl) (by exact rfl) (by exact rfl) ?_; intro b3 w_b3 hb_b3 hs_b3 hS_b3 hk_b3; have hR_b3 := RowV.one (agg := false) (k := 1) rfl hk_b3)
    ((repeat' (first |((first|apply jI|apply jJ|apply jK rfl|apply jL rfl); first|exact eI rfl|exact eB rfl|exact eP rfl|exact eS rfl|exact eT rfl|exact eA rfl|exact eU rfl|exact eF rfl|exact eM rfl|exact eN rfl|exact rfl)|(refine jM ?_; first|refine jN rfl rfl rfl ?_|refine jO rfl rfl rfl rfl ?_|refine jP rfl rfl rfl ?_|refine jQ rfl rfl ?_|refine jR (by assumption) rfl rfl ?_)|(refine jS ?_; first|refine jT rfl rfl rfl ?_|refine jU rfl rfl rfl rfl ?_|refine jV rfl rfl ?_)|(refine jW ?_; first|refine jX rfl rfl ?_|refine jY rfl rfl (by omega) ?_|refine jZ rfl rfl (by omega) ?_|refine ja rfl rfl ?_|refine jb rfl rfl ?_|refine jc rfl rfl ?_|refine jd rfl rfl ?_|refine je rfl rfl ?_|refine jf rfl rfl ?_)|(refine jg ?_; first|refine jh rfl ?_|refine ji rfl ?_|refine jj rfl rfl ?_|refine jk rfl rfl ?_|refine jl rfl ?_)|(refine jm ?_; refine jn rfl ?_)|(refine jo ?_; first|refine jp rfl ?_|refine jq rfl ?_|refine jr rfl ?_|refine js rfl ?_) |(refine jE ?_; first|(refine jF rfl rfl rfl (map_get (by omega)) ?_; intro _ _ _)|refine jG rfl rfl rfl (by omega) ?_)|refine jt rfl rfl rfl (by omega) ?_|refine ju rfl rfl ?_|refine jv ?_|refine jw rfl ?_ |refine jz ?_|(refine jjA ?_; first|refine jjB ?_|refine jjC ?_|refine jjD ?_|refine jjE ?_|refine jjF ?_|refine jjG ?_|refine jjH ?_|refine jjI ?_|refine jjJ rfl ?_|refine jjK rfl ?_) |refine jA rfl ⟨⟨_, rfl⟩, ?_⟩|refine jB rfl rfl ⟨inferInstance, ?_⟩|refine jC rfl rfl rfl ⟨inferInstance, ?_⟩|refine jD rfl rfl rfl rfl ⟨inferInstance, ?_⟩|refine jA rfl ⟨inferInstance, ?_⟩)); refine jjQ (in_rack 2 20 _ [boxes] _ hR_b3) rfl rfl ?_)
    rintro _ w3 hS3 rfl
    have z03 := (inferInstance : Ext w w3).size
    have z33 := hS3.size
    rw [all_one]
    cases hbx : inB 2 20 boxes
    · repeat' (first |(refine jW ?_; first|refine jjZ rfl rfl (by omega) ?_|refine jja rfl rfl (by omega) ?_|refine jjb rfl rfl (by omega) ?_|refine jjc rfl rfl (by omega) ?_|refine jjd rfl rfl (by omega) ?_|refine jje rfl rfl (by omega) ?_|refine jjf rfl rfl (by omega) ?_|refine jjg rfl rfl (by omega) ?_|refine jjh rfl rfl (by omega) ?_|refine jji rfl rfl (by omega) ?_|refine jjj rfl rfl (by omega) ?_|refine jjk rfl rfl (by omega) ?_) |((first|apply jI|apply jJ|apply jK rfl|apply jL rfl); first|exact eI rfl|exact eB rfl|exact eP rfl|exact eS rfl|exact eT rfl|exact eA rfl|exact eU rfl|exact eF rfl|exact eM rfl|exact eN rfl|exact rfl)|(refine jM ?_; first|refine jN rfl rfl rfl ?_|refine jO rfl rfl rfl rfl ?_|refine jP rfl rfl rfl ?_|refine jQ rfl rfl ?_|refine jR (by assumption) rfl rfl ?_)|(refine jS ?_; first|refine jT rfl rfl rfl ?_|refine jU rfl rfl rfl rfl ?_|refine jV rfl rfl ?_)|(refine jW ?_; first|refine jX rfl rfl ?_|refine jY rfl rfl (by omega) ?_|refine jZ rfl rfl (by omega) ?_|refine ja rfl rfl ?_|refine jb rfl rfl ?_|refine jc rfl rfl ?_|refine jd rfl rfl ?_|refine je rfl rfl ?_|refine jf rfl rfl ?_)|(refine jg ?_; first|refine jh rfl ?_|refine ji rfl ?_|refine jj rfl rfl ?_|refine jk rfl rfl ?_|refine jl rfl ?_)|(refine jm ?_; refine jn rfl ?_)|(refine jo ?_; first|refine jp rfl ?_|refine jq rfl ?_|refine jr rfl ?_|refine js rfl ?_) |(refine jE ?_; first|(refine jF rfl rfl rfl (map_get (by omega)) ?_; intro _ _ _)|refine jG rfl rfl rfl (by omega) ?_)|refine jt rfl rfl rfl (by omega) ?_|refine ju rfl rfl ?_|refine jv ?_|refine jw rfl ?_ |(refine jx ?_; refine jy rfl ?_; intro _ _ _ _ _ hblk; have := At.ofBlock hblk; clear hblk) |refine jz ?_|(refine jjA ?_; first|refine jjB ?_|refine jjC ?_|refine jjD ?_|refine jjE ?_|refine jjF ?_|refine jjG ?_|refine jjH ?_|refine jjI ?_|refine jjJ rfl ?_|refine jjK rfl ?_) |refine jA rfl ⟨⟨_, rfl⟩, ?_⟩|refine jB rfl rfl ⟨inferInstance, ?_⟩|refine jC rfl rfl rfl ⟨inferInstance, ?_⟩|refine jD rfl rfl rfl rfl ⟨inferInstance, ?_⟩|refine jA rfl ⟨inferInstance, ?_⟩)
      refine fin2M rfl rfl rfl inferInstance fun w' g => ⟨Ext.ofGrow inferInstance g (Nat.le_refl _), .inl ⟨by simp [opE, hdk, hbx], ?_⟩⟩
      simp only [opE, hdk, hbx]; exact rfl
    have he : opE d boxes = 0 := by simp [opE, hdk, hbx]
    have hd60 := deckB_len hdk
    repeat' (first |(refine jW ?_; first|refine jjZ rfl rfl (by omega) ?_|refine jja rfl rfl (by omega) ?_|refine jjb rfl rfl (by omega) ?_|refine jjc rfl rfl (by omega) ?_|refine jjd rfl rfl (by omega) ?_|refine jje rfl rfl (by omega) ?_|refine jjf rfl rfl (by omega) ?_|refine jjg rfl rfl (by omega) ?_|refine jjh rfl rfl (by omega) ?_|refine jji rfl rfl (by omega) ?_|refine jjj rfl rfl (by omega) ?_|refine jjk rfl rfl (by omega) ?_) |((first|apply jI|apply jJ|apply jK rfl|apply jL rfl); first|exact eI rfl|exact eB rfl|exact eP rfl|exact eS rfl|exact eT rfl|exact eA rfl|exact eU rfl|exact eF rfl|exact eM rfl|exact eN rfl|exact rfl)|(refine jM ?_; first|refine jN rfl rfl rfl ?_|refine jO rfl rfl rfl rfl ?_|refine jP rfl rfl rfl ?_|refine jQ rfl rfl ?_|refine jR (by assumption) rfl rfl ?_)|(refine jS ?_; first|refine jT rfl rfl rfl ?_|refine jU rfl rfl rfl rfl ?_|refine jV rfl rfl ?_)|(refine jW ?_; first|refine jX rfl rfl ?_|refine jY rfl rfl (by omega) ?_|refine jZ rfl rfl (by omega) ?_|refine ja rfl rfl ?_|refine jb rfl rfl ?_|refine jc rfl rfl ?_|refine jd rfl rfl ?_|refine je rfl rfl ?_|refine jf rfl rfl ?_)|(refine jg ?_; first|refine jh rfl ?_|refine ji rfl ?_|refine jj rfl rfl ?_|refine jk rfl rfl ?_|refine jl rfl ?_)|(refine jm ?_; refine jn rfl ?_)|(refine jo ?_; first|refine jp rfl ?_|refine jq rfl ?_|refine jr rfl ?_|refine js rfl ?_) |(refine jE ?_; first|(refine jF rfl rfl rfl (map_get (by omega)) ?_; intro _ _ _)|refine jG rfl rfl rfl (by omega) ?_)|refine jt rfl rfl rfl (by omega) ?_|refine ju rfl rfl ?_|refine jv ?_|refine jw rfl ?_ |(refine jx ?_; refine jy rfl ?_; intro _ _ _ _ _ hblk; have := At.ofBlock hblk; clear hblk) |refine jz ?_|(refine jjA ?_; first|refine jjB ?_|refine jjC ?_|refine jjD ?_|refine jjE ?_|refine jjF ?_|refine jjG ?_|refine jjH ?_|refine jjI ?_|refine jjJ rfl ?_|refine jjK rfl ?_) |refine jA rfl ⟨⟨_, rfl⟩, ?_⟩|refine jB rfl rfl ⟨inferInstance, ?_⟩|refine jC rfl rfl rfl ⟨inferInstance, ?_⟩|refine jD rfl rfl rfl rfl ⟨inferInstance, ?_⟩|refine jA rfl ⟨inferInstance, ?_⟩)
    (refine jjS (cells := [.slice none 0 0, .slice none 0 0, .slice a d.length c, .int .i64 boxes]) ?_ ?_; exact rfl)
    (refine jy rfl ?_; intro bb w_bb hb_bb hs_bb hS_bb hk_bb; have hA_bb := At.ofBlock hk_bb)
    have hB_bb : Bk w_bb bb [.slice none 0 0, .slice none 0 0, .slice a d.length c, .int .i64 boxes] 75 := ⟨hk_bb⟩
    (apply jjR rfl; (intro _; first|exact eI rfl|exact eB rfl|exact eP rfl|exact eS rfl|exact eT rfl|exact eA rfl|exact eU rfl|exact eF rfl|exact eM rfl|exact eN rfl|exact rfl); exact rfl; exact rfl; exact rfl; exact rfl; intro b7 w_b7 hb_b7 hs_b7 hS_b7 hk_b7; have hA_b7 := Bk.of hk_b7)
    have z7 := hS_b7.size
    repeat' (first |((first|apply jI|apply jJ|apply jK rfl|apply jL rfl); first|exact eI rfl|exact eB rfl|exact eP rfl|exact eS rfl|exact eT rfl|exact eA rfl|exact eU rfl|exact eF rfl|exact eM rfl|exact eN rfl|exact rfl)|(refine jM ?_; first|refine jN rfl rfl rfl ?_|refine jO rfl rfl rfl rfl ?_|refine jP rfl rfl rfl ?_|refine jQ rfl rfl ?_|refine jR (by assumption) rfl rfl ?_)|(refine jS ?_; first|refine jT rfl rfl rfl ?_|refine jU rfl rfl rfl rfl ?_|refine jV rfl rfl ?_)|(refine jW ?_; first|refine jX rfl rfl ?_|refine jY rfl rfl (by omega) ?_|refine jZ rfl rfl (by omega) ?_|refine ja rfl rfl ?_|refine jb rfl rfl ?_|refine jc rfl rfl ?_|refine jd rfl rfl ?_|refine je rfl rfl ?_|refine jf rfl rfl ?_)|(refine jg ?_; first|refine jh rfl ?_|refine ji rfl ?_|refine jj rfl rfl ?_|refine jk rfl rfl ?_|refine jl rfl ?_)|(refine jm ?_; refine jn rfl ?_)|(refine jo ?_; first|refine jp rfl ?_|refine jq rfl ?_|refine jr rfl ?_|refine js rfl ?_) |(refine jE ?_; first|(refine jF rfl rfl rfl (map_get (by omega)) ?_; intro _ _ _)|refine jG rfl rfl rfl (by omega) ?_)|refine jt rfl rfl rfl (by omega) ?_|refine ju rfl rfl ?_|refine jv ?_|refine jw rfl ?_ |refine jz ?_|(refine jjA ?_; first|refine jjB ?_|refine jjC ?_|refine jjD ?_|refine jjE ?_|refine jjF ?_|refine jjG ?_|refine jjH ?_|refine jjI ?_|refine jjJ rfl ?_|refine jjK rfl ?_) |refine jA rfl ⟨⟨_, rfl⟩, ?_⟩|refine jB rfl rfl ⟨inferInstance, ?_⟩|refine jC rfl rfl rfl ⟨inferInstance, ?_⟩|refine jD rfl rfl rfl rfl ⟨inferInstance, ?_⟩|refine jA rfl ⟨inferInstance, ?_⟩)
    refine W.draw (fun w' => Only bb w_b7 w') ?_
    intro w5 hS5
    have hO5 : Only bb w_b7 w5 := .ofExt hS5.ext
    refine jjV [0, 1, 2] (by decide +kernel) hO5 ?_
    ((repeat' (first|(apply jjT; exact rfl)|rintro w' hq; have := hq.at_ (hA_b7.toAt) (show b7 ≠ bb by omega); |((first|apply jI|apply jJ|apply jK rfl|apply jL rfl); first|exact eI rfl|exact eB rfl|exact eP rfl|exact eS rfl|exact eT rfl|exact eA rfl|exact eU rfl|exact eF rfl|exact eM rfl|exact eN rfl|exact rfl)|(refine jM ?_; first|refine jN rfl rfl rfl ?_|refine jO rfl rfl rfl rfl ?_|refine jP rfl rfl rfl ?_|refine jQ rfl rfl ?_|refine jR (by assumption) rfl rfl ?_)|(refine jS ?_; first|refine jT rfl rfl rfl ?_|refine jU rfl rfl rfl rfl ?_|refine jV rfl rfl ?_)|(refine jW ?_; first|refine jX rfl rfl ?_|refine jY rfl rfl (by omega) ?_|refine jZ rfl rfl (by omega) ?_|refine ja rfl rfl ?_|refine jb rfl rfl ?_|refine jc rfl rfl ?_|refine jd rfl rfl ?_|refine je rfl rfl ?_|refine jf rfl rfl ?_)|(refine jg ?_; first|refine jh rfl ?_|refine ji rfl ?_|refine jj rfl rfl ?_|refine jk rfl rfl ?_|refine jl rfl ?_)|(refine jm ?_; refine jn rfl ?_)|(refine jo ?_; first|refine jp rfl ?_|refine jq rfl ?_|refine jr rfl ?_|refine js rfl ?_) |(refine jE ?_; first|refine jG rfl rfl rfl (by omega) ?_|refine jG rfl rfl (by assumption) (by omega) ?_|refine jH _ rfl rfl rfl (by omega) ?_)|refine jt rfl rfl rfl (by omega) ?_|refine ju rfl rfl ?_|refine jv ?_|refine jw rfl ?_|refine jz ?_|exact ⟨rfl, rfl⟩|refine jjU ?_)))
    apply jjW 3 (by decide +kernel) rfl hO5
    refine Ops.makeS (m := d.length) rfl rfl rfl rfl (by omega) (by omega) ?_
    intro bn w6 hbn hs6 hS6 hB6
    refine jz ?_
    have z5 := hS5.size
    have hO6 : Only bb w_b7 w6 := hO5.trans (.ofExt hS6.ext)
    refine jjV [4, 5, 6] (by decide +kernel) hO6 ?_
    ((repeat' (first|(apply jjT; exact rfl)|rintro w' hq; |((first|apply jI|apply jJ|apply jK rfl|apply jL rfl); first|exact eI rfl|exact eB rfl|exact eP rfl|exact eS rfl|exact eT rfl|exact eA rfl|exact eU rfl|exact eF rfl|exact eM rfl|exact eN rfl|exact rfl)|(refine jM ?_; first|refine jN rfl rfl rfl ?_|refine jO rfl rfl rfl rfl ?_|refine jP rfl rfl rfl ?_|refine jQ rfl rfl ?_|refine jR (by assumption) rfl rfl ?_)|(refine jS ?_; first|refine jT rfl rfl rfl ?_|refine jU rfl rfl rfl rfl ?_|refine jV rfl rfl ?_)|(refine jW ?_; first|refine jX rfl rfl ?_|refine jY rfl rfl (by omega) ?_|refine jZ rfl rfl (by omega) ?_|refine ja rfl rfl ?_|refine jb rfl rfl ?_|refine jc rfl rfl ?_|refine jd rfl rfl ?_|refine je rfl rfl ?_|refine jf rfl rfl ?_)|(refine jg ?_; first|refine jh rfl ?_|refine ji rfl ?_|refine jj rfl rfl ?_|refine jk rfl rfl ?_|refine jl rfl ?_)|(refine jm ?_; refine jn rfl ?_)|(refine jo ?_; first|refine jp rfl ?_|refine jq rfl ?_|refine jr rfl ?_|refine js rfl ?_) |(refine jE ?_; first|refine jG rfl rfl rfl (by omega) ?_|refine jG rfl rfl (by assumption) (by omega) ?_|refine jH _ rfl rfl rfl (by omega) ?_)|refine jt rfl rfl rfl (by omega) ?_|refine ju rfl rfl ?_|refine jv ?_|refine jw rfl ?_|refine jz ?_|exact ⟨rfl, rfl⟩|refine jjU ?_)))
    apply jjW 7 (by decide +kernel) rfl hO6
    have hBb6 : Bk w6 bb [.slice none 0 0, .slice none 0 0, .slice a d.length c, .int .i64 boxes] 75 := (hB_bb.ext hS_b7.ext).ext (hS5.ext.trans hS6.ext)
    refine Ops.store rfl (eS rfl) rfl rfl rfl ?_
    intro w7 hp7
    refine jz ?_
    refine jjX (by decide +kernel) (hO6.trans (.ofPut hp7)) ?_
    have hE6 : Ext w w6 := inferInstance
    have z6 := hE6.size
    have hE7 : Ext w w7 := hp7.ext hE6 (by omega)
    have hS7 := hE7.toStep
    have z7' := hp7.size
    have hBb7 : Bk w7 bb [.slice (some ⟨bn, 0, none⟩) d.length d.length, .slice none 0 0, .slice a d.length c, .int .i64 boxes] 75 := ⟨hp7.new⟩
    have hB77 : Bk w7 b7 [.pointer (some ⟨bb, 0, none⟩)] _ := hp7.bk ((hA_b7.ext hS5.ext).ext hS6.ext) (show b7 ≠ bb by omega)
    have hBn7 : Bk w7 bn _ _ := hp7.bk hB6 (show bn ≠ bb by omega)
    have hrep : List.replicate d.length (Value.int .i64 0) = (List.replicate d.length (0 : Int)).map intV := by simp
    rw [hrep] at hBn7
    clear hp7 hBb6 hO6 hB6 hE6 hO5
    repeat' (first |((first|apply jI|apply jJ|apply jK rfl|apply jL rfl); first|exact eI rfl|exact eB rfl|exact eP rfl|exact eS rfl|exact eT rfl|exact eA rfl|exact eU rfl|exact eF rfl|exact eM rfl|exact eN rfl|exact rfl)|(refine jM ?_; first|refine jN rfl rfl rfl ?_|refine jO rfl rfl rfl rfl ?_|refine jP rfl rfl rfl ?_|refine jQ rfl rfl ?_|refine jR (by assumption) rfl rfl ?_)|(refine jS ?_; first|refine jT rfl rfl rfl ?_|refine jU rfl rfl rfl rfl ?_|refine jV rfl rfl ?_)|(refine jW ?_; first|refine jX rfl rfl ?_|refine jY rfl rfl (by omega) ?_|refine jZ rfl rfl (by omega) ?_|refine ja rfl rfl ?_|refine jb rfl rfl ?_|refine jc rfl rfl ?_|refine jd rfl rfl ?_|refine je rfl rfl ?_|refine jf rfl rfl ?_)|(refine jg ?_; first|refine jh rfl ?_|refine ji rfl ?_|refine jj rfl rfl ?_|refine jk rfl rfl ?_|refine jl rfl ?_)|(refine jm ?_; refine jn rfl ?_)|(refine jo ?_; first|refine jp rfl ?_|refine jq rfl ?_|refine jr rfl ?_|refine js rfl ?_) |(refine jE ?_; first|(refine jF rfl rfl rfl (map_get (by omega)) ?_; intro _ _ _)|refine jG rfl rfl rfl (by omega) ?_)|refine jt rfl rfl rfl (by omega) ?_|refine ju rfl rfl ?_|refine jv ?_|refine jw rfl ?_ |refine jz ?_|(refine jjA ?_; first|refine jjB ?_|refine jjC ?_|refine jjD ?_|refine jjE ?_|refine jjF ?_|refine jjG ?_|refine jjH ?_|refine jjI ?_|refine jjJ rfl ?_|refine jjK rfl ?_) |refine jA rfl ⟨⟨_, rfl⟩, ?_⟩|refine jB rfl rfl ⟨inferInstance, ?_⟩|refine jC rfl rfl rfl ⟨inferInstance, ?_⟩|refine jD rfl rfl rfl rfl ⟨inferInstance, ?_⟩|refine jA rfl ⟨inferInstance, ?_⟩)
    (apply jjR rfl; (intro _; first|exact eI rfl|exact eB rfl|exact eP rfl|exact eS rfl|exact eT rfl|exact eA rfl|exact eU rfl|exact eF rfl|exact eM rfl|exact eN rfl|exact rfl); exact rfl; exact rfl; exact rfl; exact rfl; intro b8 w_b8 hb_b8 hs_b8 hS_b8 hk_b8; have hA_b8 := Bk.of hk_b8)
    have z8 := hS_b8.size
    repeat' (first |((first|apply jI|apply jJ|apply jK rfl|apply jL rfl); first|exact eI rfl|exact eB rfl|exact eP rfl|exact eS rfl|exact eT rfl|exact eA rfl|exact eU rfl|exact eF rfl|exact eM rfl|exact eN rfl|exact rfl)|(refine jM ?_; first|refine jN rfl rfl rfl ?_|refine jO rfl rfl rfl rfl ?_|refine jP rfl rfl rfl ?_|refine jQ rfl rfl ?_|refine jR (by assumption) rfl rfl ?_)|(refine jS ?_; first|refine jT rfl rfl rfl ?_|refine jU rfl rfl rfl rfl ?_|refine jV rfl rfl ?_)|(refine jW ?_; first|refine jX rfl rfl ?_|refine jY rfl rfl (by omega) ?_|refine jZ rfl rfl (by omega) ?_|refine ja rfl rfl ?_|refine jb rfl rfl ?_|refine jc rfl rfl ?_|refine jd rfl rfl ?_|refine je rfl rfl ?_|refine jf rfl rfl ?_)|(refine jg ?_; first|refine jh rfl ?_|refine ji rfl ?_|refine jj rfl rfl ?_|refine jk rfl rfl ?_|refine jl rfl ?_)|(refine jm ?_; refine jn rfl ?_)|(refine jo ?_; first|refine jp rfl ?_|refine jq rfl ?_|refine jr rfl ?_|refine js rfl ?_) |(refine jE ?_; first|(refine jF rfl rfl rfl (map_get (by omega)) ?_; intro _ _ _)|refine jG rfl rfl rfl (by omega) ?_)|refine jt rfl rfl rfl (by omega) ?_|refine ju rfl rfl ?_|refine jv ?_|refine jw rfl ?_ |refine jz ?_|(refine jjA ?_; first|refine jjB ?_|refine jjC ?_|refine jjD ?_|refine jjE ?_|refine jjF ?_|refine jjG ?_|refine jjH ?_|refine jjI ?_|refine jjJ rfl ?_|refine jjK rfl ?_) |refine jA rfl ⟨⟨_, rfl⟩, ?_⟩|refine jB rfl rfl ⟨inferInstance, ?_⟩|refine jC rfl rfl rfl ⟨inferInstance, ?_⟩|refine jD rfl rfl rfl rfl ⟨inferInstance, ?_⟩|refine jA rfl ⟨inferInstance, ?_⟩)
    ((repeat' (first |((first|apply jI|apply jJ|apply jK rfl|apply jL rfl); first|exact eI rfl|exact eB rfl|exact eP rfl|exact eS rfl|exact eT rfl|exact eA rfl|exact eU rfl|exact eF rfl|exact eM rfl|exact eN rfl|exact rfl)|(refine jM ?_; first|refine jN rfl rfl rfl ?_|refine jO rfl rfl rfl rfl ?_|refine jP rfl rfl rfl ?_|refine jQ rfl rfl ?_|refine jR (by assumption) rfl rfl ?_)|(refine jS ?_; first|refine jT rfl rfl rfl ?_|refine jU rfl rfl rfl rfl ?_|refine jV rfl rfl ?_)|(refine jW ?_; first|refine jX rfl rfl ?_|refine jY rfl rfl (by omega) ?_|refine jZ rfl rfl (by omega) ?_|refine ja rfl rfl ?_|refine jb rfl rfl ?_|refine jc rfl rfl ?_|refine jd rfl rfl ?_|refine je rfl rfl ?_|refine jf rfl rfl ?_)|(refine jg ?_; first|refine jh rfl ?_|refine ji rfl ?_|refine jj rfl rfl ?_|refine jk rfl rfl ?_|refine jl rfl ?_)|(refine jm ?_; refine jn rfl ?_)|(refine jo ?_; first|refine jp rfl ?_|refine jq rfl ?_|refine jr rfl ?_|refine js rfl ?_) |(refine jE ?_; first|(refine jF rfl rfl rfl (map_get (by omega)) ?_; intro _ _ _)|refine jG rfl rfl rfl (by omega) ?_)|refine jt rfl rfl rfl (by omega) ?_|refine ju rfl rfl ?_|refine jv ?_|refine jw rfl ?_ |refine jz ?_|(refine jjA ?_; first|refine jjB ?_|refine jjC ?_|refine jjD ?_|refine jjE ?_|refine jjF ?_|refine jjG ?_|refine jjH ?_|refine jjI ?_|refine jjJ rfl ?_|refine jjK rfl ?_) |refine jA rfl ⟨⟨_, rfl⟩, ?_⟩|refine jB rfl rfl ⟨inferInstance, ?_⟩|refine jC rfl rfl rfl ⟨inferInstance, ?_⟩|refine jD rfl rfl rfl rfl ⟨inferInstance, ?_⟩|refine jA rfl ⟨inferInstance, ?_⟩)); refine jjQ (order_rack a c d _) rfl rfl ?_)
    rintro _ w9 hS9 ⟨bx, hbx9, hAx, rfl⟩
    repeat' (first |((first|apply jI|apply jJ|apply jK rfl|apply jL rfl); first|exact eI rfl|exact eB rfl|exact eP rfl|exact eS rfl|exact eT rfl|exact eA rfl|exact eU rfl|exact eF rfl|exact eM rfl|exact eN rfl|exact rfl)|(refine jM ?_; first|refine jN rfl rfl rfl ?_|refine jO rfl rfl rfl rfl ?_|refine jP rfl rfl rfl ?_|refine jQ rfl rfl ?_|refine jR (by assumption) rfl rfl ?_)|(refine jS ?_; first|refine jT rfl rfl rfl ?_|refine jU rfl rfl rfl rfl ?_|refine jV rfl rfl ?_)|(refine jW ?_; first|refine jX rfl rfl ?_|refine jY rfl rfl (by omega) ?_|refine jZ rfl rfl (by omega) ?_|refine ja rfl rfl ?_|refine jb rfl rfl ?_|refine jc rfl rfl ?_|refine jd rfl rfl ?_|refine je rfl rfl ?_|refine jf rfl rfl ?_)|(refine jg ?_; first|refine jh rfl ?_|refine ji rfl ?_|refine jj rfl rfl ?_|refine jk rfl rfl ?_|refine jl rfl ?_)|(refine jm ?_; refine jn rfl ?_)|(refine jo ?_; first|refine jp rfl ?_|refine jq rfl ?_|refine jr rfl ?_|refine js rfl ?_) |(refine jE ?_; first|(refine jF rfl rfl rfl (map_get (by omega)) ?_; intro _ _ _)|refine jG rfl rfl rfl (by omega) ?_)|refine jt rfl rfl rfl (by omega) ?_|refine ju rfl rfl ?_|refine jv ?_|refine jw rfl ?_ |refine jz ?_|(refine jjA ?_; first|refine jjB ?_|refine jjC ?_|refine jjD ?_|refine jjE ?_|refine jjF ?_|refine jjG ?_|refine jjH ?_|refine jjI ?_|refine jjJ rfl ?_|refine jjK rfl ?_) |refine jA rfl ⟨⟨_, rfl⟩, ?_⟩|refine jB rfl rfl ⟨inferInstance, ?_⟩|refine jC rfl rfl rfl ⟨inferInstance, ?_⟩|refine jD rfl rfl rfl rfl ⟨inferInstance, ?_⟩|refine jA rfl ⟨inferInstance, ?_⟩)
    have hE9 : Ext w w9 := inferInstance
    have hE79 : Ext w7 w9 := hS_b8.ext.trans hS9.ext
    have z9 := hS9.size
    have hax := hAx.lt
    have hol := ordF_len d
    refine W.rangeM w.heap.size (ordF d) encI (order1_rack bx a c d (by omega)) rfl (fun _ => rfl) trivial inferInstance hE9.size
      (fun i V => Ext w V ∧ w9.heap.size ≤ V.heap.size ∧ At V b7 0 [.pointer (some ⟨bb, 0, none⟩)] ∧ Bk V b8 [.int .i64 (opF d.length ((ordF d).take i)).1] 3 ∧ At V bx 0 [.slice a d.length c] ∧ Bk V bn ((opF d.length ((ordF d).take i)).2.2.map intV) 3 ∧ ∃ ev, Bk V bb [.slice (some ⟨bn, 0, none⟩) d.length d.length, ev, .slice a d.length c, .int .i64 boxes] 75 ∧ OwnL V w9.heap.size 77 true 2 ev ((opF d.length ((ordF d).take i)).2.1.map encII))
      (fun _ _ _ => False) ?hJ (fun _ _ _ _ h _ => h) ?hF ?h0 (MO w9.heap.size bb 1) ?hW1 ?hW2 ?hW3 (fun x s' _ => s' 7 = .pointer (some ⟨b7, 0, none⟩) ∧ s' 8 = .pointer (some ⟨b8, 0, none⟩) ∧ s' 9 = .int .i64 x) (fun _ _ _ _ h _ => h) ?hassign ?hbody ?hdone (fun _ _ _ _ _ _ _ h => h.elim)
    case hJ =>
      rintro i V V' ⟨q1, q2, q3, q4, q5, q6, ev, q7, q8⟩ g
      exact ⟨q1.ofGrow g hE9.size, Nat.le_trans q2 g.size, q3.grow g, q4.grow g, q5.grow g, q6.grow g, ev, q7.grow g, q8.grow g⟩
    case hF =>
      rintro i V ⟨q1, q2, q3, q4, q5, _⟩
      exact ⟨q5, hrow.h.ext q1⟩
    case h0 =>
      exact ⟨hE9, Nat.le_refl _, (Bk.toAt (h := hB77)).ext hE79, inferInstance, hAx, hBn7.ext hE79, _, hBb7.ext hE79, OwnL.nil _ _ _ _ _⟩
    case hW1 => exact fun i V k ⟨q1, q2, q3, q4, q5, q6, ev, q7, q8⟩ h => MO.lt q2 (q7.cellO rfl) (fun g e => (q8.block g e).2) h
    case hW2 => exact fun i V V' k ⟨q1, q2, q3, q4, q5, q6, ev, q7, q8⟩ g h => MO.back (q7.cellO rfl) g h
    case hW3 => exact fun V V' k g h => .inl (MO.grow (by omega) g h)
    case hassign =>
      intro l i x V hx hJ hl hr
      repeat' (first |((first|apply jI|apply jJ|apply jK rfl|apply jL rfl); first|exact eI rfl|exact eB rfl|exact eP rfl|exact eS rfl|exact eT rfl|exact eA rfl|exact eU rfl|exact eF rfl|exact eM rfl|exact eN rfl|exact rfl)|(refine jM ?_; first|refine jN rfl rfl rfl ?_|refine jO rfl rfl rfl rfl ?_|refine jP rfl rfl rfl ?_|refine jQ rfl rfl ?_|refine jR (by assumption) rfl rfl ?_)|(refine jS ?_; first|refine jT rfl rfl rfl ?_|refine jU rfl rfl rfl rfl ?_|refine jV rfl rfl ?_)|(refine jW ?_; first|refine jX rfl rfl ?_|refine jY rfl rfl (by omega) ?_|refine jZ rfl rfl (by omega) ?_|refine ja rfl rfl ?_|refine jb rfl rfl ?_|refine jc rfl rfl ?_|refine jd rfl rfl ?_|refine je rfl rfl ?_|refine jf rfl rfl ?_)|(refine jg ?_; first|refine jh rfl ?_|refine ji rfl ?_|refine jj rfl rfl ?_|refine jk rfl rfl ?_|refine jl rfl ?_)|(refine jm ?_; refine jn rfl ?_)|(refine jo ?_; first|refine jp rfl ?_|refine jq rfl ?_|refine jr rfl ?_|refine js rfl ?_) |(refine jE ?_; first|(refine jF rfl rfl rfl (map_get (by omega)) ?_; intro _ _ _)|refine jG rfl rfl rfl (by omega) ?_)|refine jt rfl rfl rfl (by omega) ?_|refine ju rfl rfl ?_|refine jv ?_|refine jw rfl ?_ |refine jz ?_|(refine jjA ?_; first|refine jjB ?_|refine jjC ?_|refine jjD ?_|refine jjE ?_|refine jjF ?_|refine jjG ?_|refine jjH ?_|refine jjI ?_|refine jjJ rfl ?_|refine jjK rfl ?_) |refine jA rfl ⟨⟨_, rfl⟩, ?_⟩|refine jB rfl rfl ⟨inferInstance, ?_⟩|refine jC rfl rfl rfl ⟨inferInstance, ?_⟩|refine jD rfl rfl rfl rfl ⟨inferInstance, ?_⟩|refine jA rfl ⟨inferInstance, ?_⟩)
      exact ⟨rfl, Tr.refl _, Fr.refl _ _, hJ, rfl, rfl, rfl⟩
    case hbody =>
      rintro l i x s' V hx ⟨q1, q2, q3, q4, q5, q6, ev, q7, q8⟩ ⟨ha7, ha8, ha9⟩ hl hr
      have hxm := List.mem_of_getElem? hx
      rw [ordF, ssort_mem, upN_mem] at hxm
      obtain ⟨xi, rfl⟩ : ∃ xi : Nat, x = xi := ⟨x.toNat, by omega⟩
      have hlt := (List.getElem?_eq_some_iff.1 hx).1
      have hlen := opF_len d.length ((ordF d).take i)
      rw [List.length_take] at hlen
      refine W.fix (d := 7) ha7 (W.fix (d := 8) ha8 (W.fix (d := 9) ha9 ?_))
      have hxn : xi < d.length := by omega
      obtain ⟨st, hst⟩ : ∃ st, st = opF d.length ((ordF d).take i) := ⟨_, rfl⟩
      have hst1 : opF d.length ((ordF d).take (i + 1)) = opS st (xi : Int) := by rw [take_snoc_get hx, opF_snoc, hst]
      rw [hst1]
      rw [← hst] at q4 q6 q8 hlen
      clear hst hst1 ha7 ha8 ha9 hx
      have hb7 := q3.lt
      have hbb := q7.lt
      have hb8 := q4.lt
      have hbn' := q6.lt
      refine jjA ?_
      refine jjD ?_
      refine jjA ?_
      refine jjB ?_
      refine W.cutL [(7, .pointer (some ⟨b7, 0, none⟩)), (8, .pointer (some ⟨b8, 0, none⟩)), (9, .int .i64 (xi : Int))] (fun V1 => ∃ ev1, Bk V1 bb [.slice (some ⟨bn, 0, none⟩) d.length d.length, ev1, .slice a d.length c, .int .i64 boxes] 75 ∧ OwnL V1 w9.heap.size 77 true 2 ev1 ((opS st (xi : Int)).2.1.map encII) ∧ Tr V V1 ∧ Ext w V1 ∧ (∀ k ob, V.heap[k]? = some ob → w9.heap.size ≤ k → ev.ownBlock ≠ some k → V1.heap[k]? = some ob) ∧ (ev1.ownBlock = ev.ownBlock ∨ ∃ g, ev1.ownBlock = some g ∧ V.heap.size ≤ g) ∧ At V1 b7 0 [.pointer (some ⟨bb, 0, none⟩)] ∧ Bk V1 b8 [.int .i64 st.1] 3 ∧ At V1 bx 0 [.slice a d.length c] ∧ Bk V1 bn (st.2.2.map intV) 3) ?_ ?_
      · repeat' (first |((first|apply jI|apply jJ|apply jK rfl|apply jL rfl); first|exact eI rfl|exact eB rfl|exact eP rfl|exact eS rfl|exact eT rfl|exact eA rfl|exact eU rfl|exact eF rfl|exact eM rfl|exact eN rfl|exact rfl)|(refine jM ?_; first|refine jN rfl rfl rfl ?_|refine jO rfl rfl rfl rfl ?_|refine jP rfl rfl rfl ?_|refine jQ rfl rfl ?_|refine jR (by assumption) rfl rfl ?_)|(refine jS ?_; first|refine jT rfl rfl rfl ?_|refine jU rfl rfl rfl rfl ?_|refine jV rfl rfl ?_)|(refine jW ?_; first|refine jX rfl rfl ?_|refine jY rfl rfl (by omega) ?_|refine jZ rfl rfl (by omega) ?_|refine ja rfl rfl ?_|refine jb rfl rfl ?_|refine jc rfl rfl ?_|refine jd rfl rfl ?_|refine je rfl rfl ?_|refine jf rfl rfl ?_)|(refine jg ?_; first|refine jh rfl ?_|refine ji rfl ?_|refine jj rfl rfl ?_|refine jk rfl rfl ?_|refine jl rfl ?_)|(refine jm ?_; refine jn rfl ?_)|(refine jo ?_; first|refine jp rfl ?_|refine jq rfl ?_|refine jr rfl ?_|refine js rfl ?_) |(refine jE ?_; first|(refine jF rfl rfl rfl (map_get (by omega)) ?_; intro _ _ _)|refine jG rfl rfl rfl (by omega) ?_)|refine jt rfl rfl rfl (by omega) ?_|refine ju rfl rfl ?_|refine jv ?_|refine jw rfl ?_ |(refine jx ?_; refine jy rfl ?_; intro _ _ _ _ _ hblk; have := At.ofBlock hblk; clear hblk) |refine jz ?_|(refine jjA ?_; first|refine jjB ?_|refine jjC ?_|refine jjD ?_|refine jjE ?_|refine jjF ?_|refine jjG ?_|refine jjH ?_|refine jjI ?_|refine jjJ rfl ?_|refine jjK rfl ?_) |(refine jS ?_; first|(refine jjL rfl rfl ?_ ?_ <;> intro _)|(refine jjM rfl rfl ?_ ?_ <;> intro _))|(refine jjA ?_; first|(refine jjN rfl ?_ ?_ <;> intro _)|(refine jjO rfl ?_ ?_ <;> intro _)) |refine jA rfl ⟨⟨_, rfl⟩, ?_⟩|refine jB rfl rfl ⟨inferInstance, ?_⟩|refine jC rfl rfl rfl ⟨inferInstance, ?_⟩|refine jD rfl rfl rfl rfl ⟨inferInstance, ?_⟩|refine jA rfl ⟨inferInstance, ?_⟩)
        · have hlt' : (xi : Int) < st.1 := ‹_›
          refine W.draw (fun V' => At V' b7 0 [.pointer (some ⟨bb, 0, none⟩)] ∧ At V' b8 0 [.int .i64 st.1]) ?_
          intro V1 hS1
          have s1 : At V1 b7 0 [.pointer (some ⟨bb, 0, none⟩)] ∧ At V1 b8 0 [.int .i64 st.1] := ⟨q3.ext hS1.ext, (Bk.toAt (h := q4)).ext hS1.ext⟩
          refine jjV [0, 1, 2, 3, 4, 6, 7] (by decide +kernel) s1 ?_
          ((repeat' (first|(apply jjT; exact rfl)|rintro w' ⟨hq1, hq2⟩; |((first|apply jI|apply jJ|apply jK rfl|apply jL rfl); first|exact eI rfl|exact eB rfl|exact eP rfl|exact eS rfl|exact eT rfl|exact eA rfl|exact eU rfl|exact eF rfl|exact eM rfl|exact eN rfl|exact rfl)|(refine jM ?_; first|refine jN rfl rfl rfl ?_|refine jO rfl rfl rfl rfl ?_|refine jP rfl rfl rfl ?_|refine jQ rfl rfl ?_|refine jR (by assumption) rfl rfl ?_)|(refine jS ?_; first|refine jT rfl rfl rfl ?_|refine jU rfl rfl rfl rfl ?_|refine jV rfl rfl ?_)|(refine jW ?_; first|refine jX rfl rfl ?_|refine jY rfl rfl (by omega) ?_|refine jZ rfl rfl (by omega) ?_|refine ja rfl rfl ?_|refine jb rfl rfl ?_|refine jc rfl rfl ?_|refine jd rfl rfl ?_|refine je rfl rfl ?_|refine jf rfl rfl ?_)|(refine jg ?_; first|refine jh rfl ?_|refine ji rfl ?_|refine jj rfl rfl ?_|refine jk rfl rfl ?_|refine jl rfl ?_)|(refine jm ?_; refine jn rfl ?_)|(refine jo ?_; first|refine jp rfl ?_|refine jq rfl ?_|refine jr rfl ?_|refine js rfl ?_) |(refine jE ?_; first|refine jG rfl rfl rfl (by omega) ?_|refine jG rfl rfl (by assumption) (by omega) ?_|refine jH _ rfl rfl rfl (by omega) ?_)|refine jt rfl rfl rfl (by omega) ?_|refine ju rfl rfl ?_|refine jv ?_|refine jw rfl ?_|refine jz ?_|exact ⟨rfl, rfl⟩|refine jjU ?_)))
          refine jjV [8] (by decide +kernel) s1 ?_
          apply jjT
          · exact rfl
          · intro wq _
            (refine jjS (cells := [.int .i64 st.1, .int .i64 (xi : Int)]) ?_ ?_; exact rfl)
            refine jz ?_
            exact ⟨rfl, rfl⟩
          refine jjU ?_
          have q71 : Bk V1 bb _ _ := q7.ext hS1.ext
          have hcev := q71.cellO (o := 1) rfl
          have zV1 := hS1.size
          obtain ⟨ae, ce, rfl⟩ := q8.slice
          have hne : ∀ k, k < w9.heap.size → (Value.slice ae (st.2.1.map encII).length ce).ownBlock ≠ some k := fun k hk e => by have := (q8.block k e).1; omega
          refine jjl 5 9 (by decide +kernel) rfl rfl s1 ?b1 ?b2
          case b1 =>
            refine jR hcev rfl rfl ?_
            refine jz ?_
            apply jjW 9 (by decide +kernel) rfl s1
            (refine jjP (v := .agg _) rfl (by exact rfl) (by exact rfl) (by exact rfl) (by exact rfl) ?_; intro b45 w_b45 hb_b45 hs_b45 hS_b45 hk_b45; have hR_b45 := RowV.one (agg := true) (k := 2) rfl hk_b45)
            refine jz ?_
            have s2 : At w_b45 b7 0 [.pointer (some ⟨bb, 0, none⟩)] ∧ At w_b45 b8 0 [.int .i64 st.1] := ⟨s1.1.ext hS_b45.ext, s1.2.ext hS_b45.ext⟩
            have z45 := hS_b45.size
            have hEV : Ext V w_b45 := hS1.ext.trans hS_b45.ext
            apply jjW 10 (by decide +kernel) rfl s2
            refine Ops.appendL (q8.ext hEV) (by omega) hR_b45 rfl rfl rfl rfl rfl ?_ ?_ ?_
            · simp only [List.length_map, List.length_cons, List.length_nil]; omega
            · simp only [List.length_map, List.length_cons, List.length_nil]; omega
            intro v46 V3 hA3 hO3 _ hw3
            obtain ⟨a3, c3, rfl⟩ := hO3.slice
            refine jz ?_
            have s3 : At V3 b7 0 [.pointer (some ⟨bb, 0, none⟩)] ∧ At V3 b8 0 [.int .i64 st.1] := ⟨hA3.at_ s2.1 (hne b7 (by omega)), hA3.at_ s2.2 (hne b8 (by omega))⟩
            refine jjV [11, 12, 13] (by decide +kernel) s3 ?_
            ((repeat' (first|(apply jjT; exact rfl)|rintro w' ⟨hq1, hq2⟩; |((first|apply jI|apply jJ|apply jK rfl|apply jL rfl); first|exact eI rfl|exact eB rfl|exact eP rfl|exact eS rfl|exact eT rfl|exact eA rfl|exact eU rfl|exact eF rfl|exact eM rfl|exact eN rfl|exact rfl)|(refine jM ?_; first|refine jN rfl rfl rfl ?_|refine jO rfl rfl rfl rfl ?_|refine jP rfl rfl rfl ?_|refine jQ rfl rfl ?_|refine jR (by assumption) rfl rfl ?_)|(refine jS ?_; first|refine jT rfl rfl rfl ?_|refine jU rfl rfl rfl rfl ?_|refine jV rfl rfl ?_)|(refine jW ?_; first|refine jX rfl rfl ?_|refine jY rfl rfl (by omega) ?_|refine jZ rfl rfl (by omega) ?_|refine ja rfl rfl ?_|refine jb rfl rfl ?_|refine jc rfl rfl ?_|refine jd rfl rfl ?_|refine je rfl rfl ?_|refine jf rfl rfl ?_)|(refine jg ?_; first|refine jh rfl ?_|refine ji rfl ?_|refine jj rfl rfl ?_|refine jk rfl rfl ?_|refine jl rfl ?_)|(refine jm ?_; refine jn rfl ?_)|(refine jo ?_; first|refine jp rfl ?_|refine jq rfl ?_|refine jr rfl ?_|refine js rfl ?_) |(refine jE ?_; first|refine jG rfl rfl rfl (by omega) ?_|refine jG rfl rfl (by assumption) (by omega) ?_|refine jH _ rfl rfl rfl (by omega) ?_)|refine jt rfl rfl rfl (by omega) ?_|refine ju rfl rfl ?_|refine jv ?_|refine jw rfl ?_|refine jz ?_|exact ⟨rfl, rfl⟩|refine jjU ?_)))
            apply jjW 14 (by decide +kernel) rfl s3
            have B3 : Bk V3 bb _ _ := hA3.bk (q7.ext hEV) (hne bb (by omega))
            have zA := hA3.g.size
            refine Ops.store rfl (eS rfl) rfl rfl rfl ?_
            intro V4 hp4
            refine jz ?_
            have s4 : At V4 b7 0 [.pointer (some ⟨bb, 0, none⟩)] ∧ At V4 b8 0 [.int .i64 st.1] := ⟨hp4.at_ s3.1 (by omega), hp4.at_ s3.2 (by omega)⟩
            refine jjX (by decide +kernel) s4 ?_
            have e1 : (opS st (xi : Int)).2.1 = st.2.1 ++ [(st.1, (xi : Int))] := by simp only [opS]; rw [if_pos hlt']
            rw [e1, List.map_append]
            have hB4 : Bk V4 bb _ _ := ⟨hp4.new⟩
            refine ⟨rfl, ⟨eP rfl, eP rfl, eI rfl, trivial⟩, _, hB4, hO3.put hp4 ?_, (hEV.tr.trans hA3.tr).trans (hp4.tr ⟨_, B3.h, rfl⟩), hp4.ext (hA3.ext (q1.trans hEV) (by omega)) (by omega), fun k ob h1 hk hn => (hp4.other k (by omega)).trans (hA3.other (hEV.block' h1) hn), ?_, s4.1, hp4.bk (hA3.bk (q4.ext hEV) (hne b8 (by omega))) (by omega), hp4.at_ (hA3.at_ (q5.ext hEV) (hne bx (by omega))) (by omega), hp4.bk (hA3.bk (q6.ext hEV) (hne bn (by omega))) (by omega)⟩
            · intro e
              rcases hw3 with h | h
              · rw [h] at e; exact hne bb (by omega) e
              · rw [h] at e; cases e; omega
            · rcases hw3 with h | h
              · exact .inl h
              · exact .inr ⟨_, h, by have := hEV.size; omega⟩
          case b2 =>
            (refine jjP (v := .agg _) rfl (by exact rfl) (by exact rfl) (by exact rfl) (by exact rfl) ?_; intro b45 w_b45 hb_b45 hs_b45 hS_b45 hk_b45; have hR_b45 := RowV.one (agg := true) (k := 2) rfl hk_b45)
            refine jz ?_
            have s2 : At w_b45 b7 0 [.pointer (some ⟨bb, 0, none⟩)] ∧ At w_b45 b8 0 [.int .i64 st.1] := ⟨s1.1.ext hS_b45.ext, s1.2.ext hS_b45.ext⟩
            apply jjW 5 (by decide +kernel) rfl s2
            refine jR ((q71.ext hS_b45.ext).cellO (o := 1) rfl) rfl rfl ?_
            refine jz ?_
            have z45 := hS_b45.size
            have hEV : Ext V w_b45 := hS1.ext.trans hS_b45.ext
            apply jjW 10 (by decide +kernel) rfl s2
            refine Ops.appendL (q8.ext hEV) (by omega) hR_b45 rfl rfl rfl rfl rfl ?_ ?_ ?_
            · simp only [List.length_map, List.length_cons, List.length_nil]; omega
            · simp only [List.length_map, List.length_cons, List.length_nil]; omega
            intro v46 V3 hA3 hO3 _ hw3
            obtain ⟨a3, c3, rfl⟩ := hO3.slice
            refine jz ?_
            have s3 : At V3 b7 0 [.pointer (some ⟨bb, 0, none⟩)] ∧ At V3 b8 0 [.int .i64 st.1] := ⟨hA3.at_ s2.1 (hne b7 (by omega)), hA3.at_ s2.2 (hne b8 (by omega))⟩
            refine jjV [11, 12, 13] (by decide +kernel) s3 ?_
            ((repeat' (first|(apply jjT; exact rfl)|rintro w' ⟨hq1, hq2⟩; |((first|apply jI|apply jJ|apply jK rfl|apply jL rfl); first|exact eI rfl|exact eB rfl|exact eP rfl|exact eS rfl|exact eT rfl|exact eA rfl|exact eU rfl|exact eF rfl|exact eM rfl|exact eN rfl|exact rfl)|(refine jM ?_; first|refine jN rfl rfl rfl ?_|refine jO rfl rfl rfl rfl ?_|refine jP rfl rfl rfl ?_|refine jQ rfl rfl ?_|refine jR (by assumption) rfl rfl ?_)|(refine jS ?_; first|refine jT rfl rfl rfl ?_|refine jU rfl rfl rfl rfl ?_|refine jV rfl rfl ?_)|(refine jW ?_; first|refine jX rfl rfl ?_|refine jY rfl rfl (by omega) ?_|refine jZ rfl rfl (by omega) ?_|refine ja rfl rfl ?_|refine jb rfl rfl ?_|refine jc rfl rfl ?_|refine jd rfl rfl ?_|refine je rfl rfl ?_|refine jf rfl rfl ?_)|(refine jg ?_; first|refine jh rfl ?_|refine ji rfl ?_|refine jj rfl rfl ?_|refine jk rfl rfl ?_|refine jl rfl ?_)|(refine jm ?_; refine jn rfl ?_)|(refine jo ?_; first|refine jp rfl ?_|refine jq rfl ?_|refine jr rfl ?_|refine js rfl ?_) |(refine jE ?_; first|refine jG rfl rfl rfl (by omega) ?_|refine jG rfl rfl (by assumption) (by omega) ?_|refine jH _ rfl rfl rfl (by omega) ?_)|refine jt rfl rfl rfl (by omega) ?_|refine ju rfl rfl ?_|refine jv ?_|refine jw rfl ?_|refine jz ?_|exact ⟨rfl, rfl⟩|refine jjU ?_)))
            apply jjW 14 (by decide +kernel) rfl s3
            have B3 : Bk V3 bb _ _ := hA3.bk (q7.ext hEV) (hne bb (by omega))
            have zA := hA3.g.size
            refine Ops.store rfl (eS rfl) rfl rfl rfl ?_
            intro V4 hp4
            refine jz ?_
            have s4 : At V4 b7 0 [.pointer (some ⟨bb, 0, none⟩)] ∧ At V4 b8 0 [.int .i64 st.1] := ⟨hp4.at_ s3.1 (by omega), hp4.at_ s3.2 (by omega)⟩
            refine jjX (by decide +kernel) s4 ?_
            have e1 : (opS st (xi : Int)).2.1 = st.2.1 ++ [(st.1, (xi : Int))] := by simp only [opS]; rw [if_pos hlt']
            rw [e1, List.map_append]
            have hB4 : Bk V4 bb _ _ := ⟨hp4.new⟩
            refine ⟨rfl, ⟨eP rfl, eP rfl, eI rfl, trivial⟩, _, hB4, hO3.put hp4 ?_, (hEV.tr.trans hA3.tr).trans (hp4.tr ⟨_, B3.h, rfl⟩), hp4.ext (hA3.ext (q1.trans hEV) (by omega)) (by omega), fun k ob h1 hk hn => (hp4.other k (by omega)).trans (hA3.other (hEV.block' h1) hn), ?_, s4.1, hp4.bk (hA3.bk (q4.ext hEV) (hne b8 (by omega))) (by omega), hp4.at_ (hA3.at_ (q5.ext hEV) (hne bx (by omega))) (by omega), hp4.bk (hA3.bk (q6.ext hEV) (hne bn (by omega))) (by omega)⟩
            · intro e
              rcases hw3 with h | h
              · rw [h] at e; exact hne bb (by omega) e
              · rw [h] at e; cases e; omega
            · rcases hw3 with h | h
              · exact .inl h
              · exact .inr ⟨_, h, by have := hEV.size; omega⟩
        · have e1 : (opS st (xi : Int)).2.1 = st.2.1 := by simp only [opS]; rw [if_neg ‹_›]
          rw [e1]
          exact ⟨rfl, ⟨eP rfl, eP rfl, eI rfl, trivial⟩, ev, q7, q8, Tr.refl _, q1, fun k ob h1 _ _ => h1, .inl rfl, q3, q4, q5, q6⟩
      rintro s1 V1 ⟨ev1, r1, r2, r3, r4, r5, r6, r7, r8, r9, r10⟩
      have hnl : st.2.2.length = d.length := hlen.1
      repeat' (first |((first|apply jI|apply jJ|apply jK rfl|apply jL rfl); first|exact eI rfl|exact eB rfl|exact eP rfl|exact eS rfl|exact eT rfl|exact eA rfl|exact eU rfl|exact eF rfl|exact eM rfl|exact eN rfl|exact rfl)|(refine jM ?_; first|refine jN rfl rfl rfl ?_|refine jO rfl rfl rfl rfl ?_|refine jP rfl rfl rfl ?_|refine jQ rfl rfl ?_|refine jR (by assumption) rfl rfl ?_)|(refine jS ?_; first|refine jT rfl rfl rfl ?_|refine jU rfl rfl rfl rfl ?_|refine jV rfl rfl ?_)|(refine jW ?_; first|refine jX rfl rfl ?_|refine jY rfl rfl (by omega) ?_|refine jZ rfl rfl (by omega) ?_|refine ja rfl rfl ?_|refine jb rfl rfl ?_|refine jc rfl rfl ?_|refine jd rfl rfl ?_|refine je rfl rfl ?_|refine jf rfl rfl ?_)|(refine jg ?_; first|refine jh rfl ?_|refine ji rfl ?_|refine jj rfl rfl ?_|refine jk rfl rfl ?_|refine jl rfl ?_)|(refine jm ?_; refine jn rfl ?_)|(refine jo ?_; first|refine jp rfl ?_|refine jq rfl ?_|refine jr rfl ?_|refine js rfl ?_) |(refine jE ?_; first|(refine jF rfl rfl rfl (map_get (by omega)) ?_; intro _ _ _)|refine jG rfl rfl rfl (by omega) ?_)|refine jt rfl rfl rfl (by omega) ?_|refine ju rfl rfl ?_|refine jv ?_|refine jw rfl ?_ |refine jz ?_|(refine jjA ?_; first|refine jjB ?_|refine jjC ?_|refine jjD ?_|refine jjE ?_|refine jjF ?_|refine jjG ?_|refine jjH ?_|refine jjI ?_|refine jjJ rfl ?_|refine jjK rfl ?_) |refine jA rfl ⟨⟨_, rfl⟩, ?_⟩|refine jB rfl rfl ⟨inferInstance, ?_⟩|refine jC rfl rfl rfl ⟨inferInstance, ?_⟩|refine jD rfl rfl rfl rfl ⟨inferInstance, ?_⟩|refine jA rfl ⟨inferInstance, ?_⟩)
      refine W.draw (fun V' => Only bn V1 V') ?_
      intro V2 hS2
      have hO2 : Only bn V1 V2 := .ofExt hS2.ext
      obtain ⟨ae1, ce1, rfl⟩ := r2.slice
      refine jjV [0, 1, 2, 3, 4, 5, 6, 7, 8, 9, 10, 11, 12] (by decide +kernel) hO2 ?_
      ((repeat' (first|(apply jjT; exact rfl)|rintro w' hq; have g1 := hq.at_ r7 (show b7 ≠ bn by omega); have g2 := hq.bk r1 (show bb ≠ bn by omega); |((first|apply jI|apply jJ|apply jK rfl|apply jL rfl); first|exact eI rfl|exact eB rfl|exact eP rfl|exact eS rfl|exact eT rfl|exact eA rfl|exact eU rfl|exact eF rfl|exact eM rfl|exact eN rfl|exact rfl)|(refine jM ?_; first|refine jN rfl rfl rfl ?_|refine jO rfl rfl rfl rfl ?_|refine jP rfl rfl rfl ?_|refine jQ rfl rfl ?_|refine jR (by assumption) rfl rfl ?_)|(refine jS ?_; first|refine jT rfl rfl rfl ?_|refine jU rfl rfl rfl rfl ?_|refine jV rfl rfl ?_)|(refine jW ?_; first|refine jX rfl rfl ?_|refine jY rfl rfl (by omega) ?_|refine jZ rfl rfl (by omega) ?_|refine ja rfl rfl ?_|refine jb rfl rfl ?_|refine jc rfl rfl ?_|refine jd rfl rfl ?_|refine je rfl rfl ?_|refine jf rfl rfl ?_)|(refine jg ?_; first|refine jh rfl ?_|refine ji rfl ?_|refine jj rfl rfl ?_|refine jk rfl rfl ?_|refine jl rfl ?_)|(refine jm ?_; refine jn rfl ?_)|(refine jo ?_; first|refine jp rfl ?_|refine jq rfl ?_|refine jr rfl ?_|refine js rfl ?_) |(refine jE ?_; first|refine jG rfl rfl rfl (by omega) ?_|refine jG rfl rfl (by assumption) (by omega) ?_|refine jH _ rfl rfl rfl (by omega) ?_)|refine jt rfl rfl rfl (by omega) ?_|refine ju rfl rfl ?_|refine jv ?_|refine jw rfl ?_|refine jz ?_|exact ⟨rfl, rfl⟩|refine jjU ?_)))
      apply jjW 13 (by decide +kernel) rfl hO2
      have hB2 : Bk V2 bn _ _ := r10.ext hS2.ext
      refine Ops.storeC (b := bn) (j := xi) rfl (eI rfl) rfl rfl (by rw [List.length_map]; omega) ?_
      intro V3 hp3
      refine jz ?_
      refine jjX (by decide +kernel) (hO2.trans (.ofPut hp3)) ?_
      have hE12 := hS2.ext
      have z12 := hE12.size
      have z3 := hp3.size
      have hB3 : Bk V3 bn (((st.2.2.set xi ((opS st (xi : Int)).2.1.length : Int))).map intV) 3 := by
        refine Bk.setI (by omega) ?_
        have := hp3.new
        rw [List.length_map] at this
        exact ⟨this⟩
      have hB83 : Bk V3 b8 _ _ := hp3.bk (r8.ext hE12) (by omega)
      repeat' (first |((first|apply jI|apply jJ|apply jK rfl|apply jL rfl); first|exact eI rfl|exact eB rfl|exact eP rfl|exact eS rfl|exact eT rfl|exact eA rfl|exact eU rfl|exact eF rfl|exact eM rfl|exact eN rfl|exact rfl)|(refine jM ?_; first|refine jN rfl rfl rfl ?_|refine jO rfl rfl rfl rfl ?_|refine jP rfl rfl rfl ?_|refine jQ rfl rfl ?_|refine jR (by assumption) rfl rfl ?_)|(refine jS ?_; first|refine jT rfl rfl rfl ?_|refine jU rfl rfl rfl rfl ?_|refine jV rfl rfl ?_)|(refine jW ?_; first|refine jX rfl rfl ?_|refine jY rfl rfl (by omega) ?_|refine jZ rfl rfl (by omega) ?_|refine ja rfl rfl ?_|refine jb rfl rfl ?_|refine jc rfl rfl ?_|refine jd rfl rfl ?_|refine je rfl rfl ?_|refine jf rfl rfl ?_)|(refine jg ?_; first|refine jh rfl ?_|refine ji rfl ?_|refine jj rfl rfl ?_|refine jk rfl rfl ?_|refine jl rfl ?_)|(refine jm ?_; refine jn rfl ?_)|(refine jo ?_; first|refine jp rfl ?_|refine jq rfl ?_|refine jr rfl ?_|refine js rfl ?_) |(refine jE ?_; first|(refine jF rfl rfl rfl (map_get (by omega)) ?_; intro _ _ _)|refine jG rfl rfl rfl (by omega) ?_)|refine jt rfl rfl rfl (by omega) ?_|refine ju rfl rfl ?_|refine jv ?_|refine jw rfl ?_ |refine jz ?_|(refine jjA ?_; first|refine jjB ?_|refine jjC ?_|refine jjD ?_|refine jjE ?_|refine jjF ?_|refine jjG ?_|refine jjH ?_|refine jjI ?_|refine jjJ rfl ?_|refine jjK rfl ?_) |refine jA rfl ⟨⟨_, rfl⟩, ?_⟩|refine jB rfl rfl ⟨inferInstance, ?_⟩|refine jC rfl rfl rfl ⟨inferInstance, ?_⟩|refine jD rfl rfl rfl rfl ⟨inferInstance, ?_⟩|refine jA rfl ⟨inferInstance, ?_⟩)
      refine Ops.store rfl (eI rfl) rfl rfl rfl ?_
      intro V4 hp4
      repeat' (first |((first|apply jI|apply jJ|apply jK rfl|apply jL rfl); first|exact eI rfl|exact eB rfl|exact eP rfl|exact eS rfl|exact eT rfl|exact eA rfl|exact eU rfl|exact eF rfl|exact eM rfl|exact eN rfl|exact rfl)|(refine jM ?_; first|refine jN rfl rfl rfl ?_|refine jO rfl rfl rfl rfl ?_|refine jP rfl rfl rfl ?_|refine jQ rfl rfl ?_|refine jR (by assumption) rfl rfl ?_)|(refine jS ?_; first|refine jT rfl rfl rfl ?_|refine jU rfl rfl rfl rfl ?_|refine jV rfl rfl ?_)|(refine jW ?_; first|refine jX rfl rfl ?_|refine jY rfl rfl (by omega) ?_|refine jZ rfl rfl (by omega) ?_|refine ja rfl rfl ?_|refine jb rfl rfl ?_|refine jc rfl rfl ?_|refine jd rfl rfl ?_|refine je rfl rfl ?_|refine jf rfl rfl ?_)|(refine jg ?_; first|refine jh rfl ?_|refine ji rfl ?_|refine jj rfl rfl ?_|refine jk rfl rfl ?_|refine jl rfl ?_)|(refine jm ?_; refine jn rfl ?_)|(refine jo ?_; first|refine jp rfl ?_|refine jq rfl ?_|refine jr rfl ?_|refine js rfl ?_) |(refine jE ?_; first|(refine jF rfl rfl rfl (map_get (by omega)) ?_; intro _ _ _)|refine jG rfl rfl rfl (by omega) ?_)|refine jt rfl rfl rfl (by omega) ?_|refine ju rfl rfl ?_|refine jv ?_|refine jw rfl ?_ |refine jz ?_|(refine jjA ?_; first|refine jjB ?_|refine jjC ?_|refine jjD ?_|refine jjE ?_|refine jjF ?_|refine jjG ?_|refine jjH ?_|refine jjI ?_|refine jjJ rfl ?_|refine jjK rfl ?_) |refine jA rfl ⟨⟨_, rfl⟩, ?_⟩|refine jB rfl rfl ⟨inferInstance, ?_⟩|refine jC rfl rfl rfl ⟨inferInstance, ?_⟩|refine jD rfl rfl rfl rfl ⟨inferInstance, ?_⟩|refine jA rfl ⟨inferInstance, ?_⟩)
      have hB4 : Bk V4 b8 [.int .i64 (xi : Int)] 3 := ⟨hp4.new⟩
      have z4 := hp4.size
      have zT := r3.size
      have r1' : Bk V4 bb _ _ := hp4.bk (hp3.bk (r1.ext hE12) (by omega)) (by omega)
      have hno : ∀ k, k < w9.heap.size → (Value.slice ae1 ((opS st (xi : Int)).2.1.map encII).length ce1).ownBlock ≠ some k := fun k hk e => by have := (r2.block k e).1; omega
      refine ⟨((r3.trans hE12.tr).trans (hp3.tr ⟨_, hB2.h, rfl⟩)).trans (hp4.tr ⟨_, hB83.h, rfl⟩), ?_, hp4.ext (hp3.ext (r4.trans hE12) (by omega)) (by omega), by omega, hp4.at_ (hp3.at_ (r7.ext hE12) (by omega)) (by omega), hB4, hp4.at_ (hp3.at_ (r9.ext hE12) (by omega)) (by omega), hp4.bk hB3 (by omega), _, r1', ((r2.ext hE12).put hp3 (hno bn (by omega))).put hp4 (hno b8 (by omega))⟩
      exact MO.fr (by omega) (q7.cellO rfl) (r1'.cellO rfl) (fun k ob h1 h2 h3 => (hp4.other k (by omega)).trans ((hp3.other k (by omega)).trans (hE12.block' (r5 k ob h1 h2 h3)))) r6
    case hdone =>
      rintro ds' V hmk htr ⟨q1, q2, q3, q4, q5, q6, ev, q7, q8⟩
      rw [List.take_length] at q6 q8
      obtain ⟨ae, ce, rfl⟩ := q8.slice
      rw [List.length_map] at q7 q8
      have hlen := opF_len d.length (ordF d)
      repeat' (first |((first|apply jI|apply jJ|apply jK rfl|apply jL rfl); first|exact eI rfl|exact eB rfl|exact eP rfl|exact eS rfl|exact eT rfl|exact eA rfl|exact eU rfl|exact eF rfl|exact eM rfl|exact eN rfl|exact rfl)|(refine jM ?_; first|refine jN rfl rfl rfl ?_|refine jO rfl rfl rfl rfl ?_|refine jP rfl rfl rfl ?_|refine jQ rfl rfl ?_|refine jR (by assumption) rfl rfl ?_)|(refine jS ?_; first|refine jT rfl rfl rfl ?_|refine jU rfl rfl rfl rfl ?_|refine jV rfl rfl ?_)|(refine jW ?_; first|refine jX rfl rfl ?_|refine jY rfl rfl (by omega) ?_|refine jZ rfl rfl (by omega) ?_|refine ja rfl rfl ?_|refine jb rfl rfl ?_|refine jc rfl rfl ?_|refine jd rfl rfl ?_|refine je rfl rfl ?_|refine jf rfl rfl ?_)|(refine jg ?_; first|refine jh rfl ?_|refine ji rfl ?_|refine jj rfl rfl ?_|refine jk rfl rfl ?_|refine jl rfl ?_)|(refine jm ?_; refine jn rfl ?_)|(refine jo ?_; first|refine jp rfl ?_|refine jq rfl ?_|refine jr rfl ?_|refine js rfl ?_) |(refine jE ?_; first|(refine jF rfl rfl rfl (map_get (by omega)) ?_; intro _ _ _)|refine jG rfl rfl rfl (by omega) ?_)|refine jt rfl rfl rfl (by omega) ?_|refine ju rfl rfl ?_|refine jv ?_|refine jw rfl ?_ |refine jz ?_|(refine jjA ?_; first|refine jjB ?_|refine jjC ?_|refine jjD ?_|refine jjE ?_|refine jjF ?_|refine jjG ?_|refine jjH ?_|refine jjI ?_|refine jjJ rfl ?_|refine jjK rfl ?_) |refine jA rfl ⟨⟨_, rfl⟩, ?_⟩|refine jB rfl rfl ⟨inferInstance, ?_⟩|refine jC rfl rfl rfl ⟨inferInstance, ?_⟩|refine jD rfl rfl rfl rfl ⟨inferInstance, ?_⟩|refine jA rfl ⟨inferInstance, ?_⟩)
      refine fin2M rfl rfl rfl hmk fun w' g => ⟨q1.ofGrow g (Nat.le_refl _), .inr ⟨he, bb, bn, ae, ce, rfl, by omega, by omega, (Bk.toAt (h := q7)).grow g, ?_, q8.row.grow g⟩⟩
      have := (Bk.row q6 (by intro y hy; obtain ⟨z, _, rfl⟩ := List.mem_map.1 hy; rfl) (by rw [List.length_map]; omega)).grow g
      rw [List.length_map, hlen.1] at this
      exact this
end Go.Proofs.Ytcelhpbcdpefnaa
