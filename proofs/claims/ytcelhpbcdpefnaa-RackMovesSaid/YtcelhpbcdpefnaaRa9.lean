/- rack: keep, Keep. -/
import Derived.Test.YtcelhpbcdpefnaaRa8
import Derived.Test.YtcelhpbcdpefnaaRkK
import Derived.Test.YtcelhpbcdpefnaaLib3
namespace Go.Proofs.Ytcelhpbcdpefnaa
open Go.RowKit

theorem longer_rack (a b : Option Addr) (c e : Nat) (l m : List Int) (w : World) (hl : l.length ≤ 1000000) [h1 : RowI w (.slice a l.length c) false 1 (l.map intV)] [h2 : RowI w (.slice b m.length e) false 1 (m.map intV)] :
    Ct Try.prog 68 [.slice a l.length c, .slice b m.length e] w fun v _ => v = .bool (longB l m) := by
  refine Ct.ofW (by simp) ?_
  by_cases c1 : m.length < l.length
  · repeat' (first |(refine jW ?_; first|refine jjZ rfl rfl (by omega) ?_|refine jja rfl rfl (by omega) ?_|refine jjb rfl rfl (by omega) ?_|refine jjc rfl rfl (by omega) ?_|refine jjd rfl rfl (by omega) ?_|refine jje rfl rfl (by omega) ?_|refine jjf rfl rfl (by omega) ?_|refine jjg rfl rfl (by omega) ?_|refine jjh rfl rfl (by omega) ?_|refine jji rfl rfl (by omega) ?_|refine jjj rfl rfl (by omega) ?_|refine jjk rfl rfl (by omega) ?_) |((first|apply jI|apply jJ|apply jK rfl|apply jL rfl); first|exact eI rfl|exact eB rfl|exact eP rfl|exact eS rfl|exact eT rfl|exact eA rfl|exact eU rfl|exact eF rfl|exact eM rfl|exact eN rfl|exact rfl)|(refine jM ?_; first|refine jN rfl rfl rfl ?_|refine jO rfl rfl rfl rfl ?_|refine jP rfl rfl rfl ?_|refine jQ rfl rfl ?_|refine jR (by assumption) rfl rfl ?_)|(refine jS ?_; first|refine jT rfl rfl rfl ?_|refine jU rfl rfl rfl rfl ?_|refine jV rfl rfl ?_)|(refine jW ?_; first|refine jX rfl rfl ?_|refine jY rfl rfl (by omega) ?_|refine jZ rfl rfl (by omega) ?_|refine ja rfl rfl ?_|refine jb rfl rfl ?_|refine jc rfl rfl ?_|refine jd rfl rfl ?_|refine je rfl rfl ?_|refine jf rfl rfl ?_)|(refine jg ?_; first|refine jh rfl ?_|refine ji rfl ?_|refine jj rfl rfl ?_|refine jk rfl rfl ?_|refine jl rfl ?_)|(refine jm ?_; refine jn rfl ?_)|(refine jo ?_; first|refine jp rfl ?_|refine jq rfl ?_|refine jr rfl ?_|refine js rfl ?_) |(refine jE ?_; first|(refine jF rfl rfl rfl (map_get (by omega)) ?_; intro _ _ _)|refine jG rfl rfl rfl (by omega) ?_)|refine jt rfl rfl rfl (by omega) ?_|refine ju rfl rfl ?_|refine jv ?_|refine jw rfl ?_ |(refine jx ?_; refine jy rfl ?_; intro _ _ _ _ _ hblk; have := At.ofBlock hblk; clear hblk) |refine jz ?_|(refine jjA ?_; first|refine jjB ?_|refine jjC ?_|refine jjD ?_|refine jjE ?_|refine jjF ?_|refine jjG ?_|refine jjH ?_|refine jjI ?_|refine jjJ rfl ?_|refine jjK rfl ?_) |refine jA rfl ⟨⟨_, rfl⟩, ?_⟩|refine jB rfl rfl ⟨inferInstance, ?_⟩|refine jC rfl rfl rfl ⟨inferInstance, ?_⟩|refine jD rfl rfl rfl rfl ⟨inferInstance, ?_⟩|refine jA rfl ⟨inferInstance, ?_⟩)
    rw [longB_longer c1]; exact rfl
  · by_cases c2 : l.length = m.length
    · repeat' (first |(refine jW ?_; first|refine jjZ rfl rfl (by omega) ?_|refine jja rfl rfl (by omega) ?_|refine jjb rfl rfl (by omega) ?_|refine jjc rfl rfl (by omega) ?_|refine jjd rfl rfl (by omega) ?_|refine jje rfl rfl (by omega) ?_|refine jjf rfl rfl (by omega) ?_|refine jjg rfl rfl (by omega) ?_|refine jjh rfl rfl (by omega) ?_|refine jji rfl rfl (by omega) ?_|refine jjj rfl rfl (by omega) ?_|refine jjk rfl rfl (by omega) ?_) |((first|apply jI|apply jJ|apply jK rfl|apply jL rfl); first|exact eI rfl|exact eB rfl|exact eP rfl|exact eS rfl|exact eT rfl|exact eA rfl|exact eU rfl|exact eF rfl|exact eM rfl|exact eN rfl|exact rfl)|(refine jM ?_; first|refine jN rfl rfl rfl ?_|refine jO rfl rfl rfl rfl ?_|refine jP rfl rfl rfl ?_|refine jQ rfl rfl ?_|refine jR (by assumption) rfl rfl ?_)|(refine jS ?_; first|refine jT rfl rfl rfl ?_|refine jU rfl rfl rfl rfl ?_|refine jV rfl rfl ?_)|(refine jW ?_; first|refine jX rfl rfl ?_|refine jY rfl rfl (by omega) ?_|refine jZ rfl rfl (by omega) ?_|refine ja rfl rfl ?_|refine jb rfl rfl ?_|refine jc rfl rfl ?_|refine jd rfl rfl ?_|refine je rfl rfl ?_|refine jf rfl rfl ?_)|(refine jg ?_; first|refine jh rfl ?_|refine ji rfl ?_|refine jj rfl rfl ?_|refine jk rfl rfl ?_|refine jl rfl ?_)|(refine jm ?_; refine jn rfl ?_)|(refine jo ?_; first|refine jp rfl ?_|refine jq rfl ?_|refine jr rfl ?_|refine js rfl ?_) |(refine jE ?_; first|(refine jF rfl rfl rfl (map_get (by omega)) ?_; intro _ _ _)|refine jG rfl rfl rfl (by omega) ?_)|refine jt rfl rfl rfl (by omega) ?_|refine ju rfl rfl ?_|refine jv ?_|refine jw rfl ?_ |(refine jx ?_; refine jy rfl ?_; intro _ _ _ _ _ hblk; have := At.ofBlock hblk; clear hblk) |refine jz ?_|(refine jjA ?_; first|refine jjB ?_|refine jjC ?_|refine jjD ?_|refine jjE ?_|refine jjF ?_|refine jjG ?_|refine jjH ?_|refine jjI ?_|refine jjJ rfl ?_|refine jjK rfl ?_) |refine jA rfl ⟨⟨_, rfl⟩, ?_⟩|refine jB rfl rfl ⟨inferInstance, ?_⟩|refine jC rfl rfl rfl ⟨inferInstance, ?_⟩|refine jD rfl rfl rfl rfl ⟨inferInstance, ?_⟩|refine jA rfl ⟨inferInstance, ?_⟩)
      refine jjQ (CompareS_int a b c e l m _ hl) rfl rfl ?_
      rintro _ w2 hS2 rfl
      repeat' (first |((first|apply jI|apply jJ|apply jK rfl|apply jL rfl); first|exact eI rfl|exact eB rfl|exact eP rfl|exact eS rfl|exact eT rfl|exact eA rfl|exact eU rfl|exact eF rfl|exact eM rfl|exact eN rfl|exact rfl)|(refine jM ?_; first|refine jN rfl rfl rfl ?_|refine jO rfl rfl rfl rfl ?_|refine jP rfl rfl rfl ?_|refine jQ rfl rfl ?_|refine jR (by assumption) rfl rfl ?_)|(refine jS ?_; first|refine jT rfl rfl rfl ?_|refine jU rfl rfl rfl rfl ?_|refine jV rfl rfl ?_)|(refine jW ?_; first|refine jX rfl rfl ?_|refine jY rfl rfl (by omega) ?_|refine jZ rfl rfl (by omega) ?_|refine ja rfl rfl ?_|refine jb rfl rfl ?_|refine jc rfl rfl ?_|refine jd rfl rfl ?_|refine je rfl rfl ?_|refine jf rfl rfl ?_)|(refine jg ?_; first|refine jh rfl ?_|refine ji rfl ?_|refine jj rfl rfl ?_|refine jk rfl rfl ?_|refine jl rfl ?_)|(refine jm ?_; refine jn rfl ?_)|(refine jo ?_; first|refine jp rfl ?_|refine jq rfl ?_|refine jr rfl ?_|refine js rfl ?_) |(refine jE ?_; first|(refine jF rfl rfl rfl (map_get (by omega)) ?_; intro _ _ _)|refine jG rfl rfl rfl (by omega) ?_)|refine jt rfl rfl rfl (by omega) ?_|refine ju rfl rfl ?_|refine jv ?_|refine jw rfl ?_ |refine jz ?_|(refine jjA ?_; first|refine jjB ?_|refine jjC ?_|refine jjD ?_|refine jjE ?_|refine jjF ?_|refine jjG ?_|refine jjH ?_|refine jjI ?_|refine jjJ rfl ?_|refine jjK rfl ?_) |refine jA rfl ⟨⟨_, rfl⟩, ?_⟩|refine jB rfl rfl ⟨inferInstance, ?_⟩|refine jC rfl rfl rfl ⟨inferInstance, ?_⟩|refine jD rfl rfl rfl rfl ⟨inferInstance, ?_⟩|refine jA rfl ⟨inferInstance, ?_⟩)
      exact congrArg Value.bool (by simp [longB, c2])
    · repeat' (first |(refine jW ?_; first|refine jjZ rfl rfl (by omega) ?_|refine jja rfl rfl (by omega) ?_|refine jjb rfl rfl (by omega) ?_|refine jjc rfl rfl (by omega) ?_|refine jjd rfl rfl (by omega) ?_|refine jje rfl rfl (by omega) ?_|refine jjf rfl rfl (by omega) ?_|refine jjg rfl rfl (by omega) ?_|refine jjh rfl rfl (by omega) ?_|refine jji rfl rfl (by omega) ?_|refine jjj rfl rfl (by omega) ?_|refine jjk rfl rfl (by omega) ?_) |((first|apply jI|apply jJ|apply jK rfl|apply jL rfl); first|exact eI rfl|exact eB rfl|exact eP rfl|exact eS rfl|exact eT rfl|exact eA rfl|exact eU rfl|exact eF rfl|exact eM rfl|exact eN rfl|exact rfl)|(refine jM ?_; first|refine jN rfl rfl rfl ?_|refine jO rfl rfl rfl rfl ?_|refine jP rfl rfl rfl ?_|refine jQ rfl rfl ?_|refine jR (by assumption) rfl rfl ?_)|(refine jS ?_; first|refine jT rfl rfl rfl ?_|refine jU rfl rfl rfl rfl ?_|refine jV rfl rfl ?_)|(refine jW ?_; first|refine jX rfl rfl ?_|refine jY rfl rfl (by omega) ?_|refine jZ rfl rfl (by omega) ?_|refine ja rfl rfl ?_|refine jb rfl rfl ?_|refine jc rfl rfl ?_|refine jd rfl rfl ?_|refine je rfl rfl ?_|refine jf rfl rfl ?_)|(refine jg ?_; first|refine jh rfl ?_|refine ji rfl ?_|refine jj rfl rfl ?_|refine jk rfl rfl ?_|refine jl rfl ?_)|(refine jm ?_; refine jn rfl ?_)|(refine jo ?_; first|refine jp rfl ?_|refine jq rfl ?_|refine jr rfl ?_|refine js rfl ?_) |(refine jE ?_; first|(refine jF rfl rfl rfl (map_get (by omega)) ?_; intro _ _ _)|refine jG rfl rfl rfl (by omega) ?_)|refine jt rfl rfl rfl (by omega) ?_|refine ju rfl rfl ?_|refine jv ?_|refine jw rfl ?_ |(refine jx ?_; refine jy rfl ?_; intro _ _ _ _ _ hblk; have := At.ofBlock hblk; clear hblk) |refine jz ?_|(refine jjA ?_; first|refine jjB ?_|refine jjC ?_|refine jjD ?_|refine jjE ?_|refine jjF ?_|refine jjG ?_|refine jjH ?_|refine jjI ?_|refine jjJ rfl ?_|refine jjK rfl ?_) |refine jA rfl ⟨⟨_, rfl⟩, ?_⟩|refine jB rfl rfl ⟨inferInstance, ?_⟩|refine jC rfl rfl rfl ⟨inferInstance, ?_⟩|refine jD rfl rfl rfl rfl ⟨inferInstance, ?_⟩|refine jA rfl ⟨inferInstance, ?_⟩)
      rw [longB_shorter (by omega)]; exact rfl

set_option maxHeartbeats 1000000 in
theorem first_rack (a : Option Addr) (c : Nat) (rs : List Rw) (w : World) (hl : rs.length ≤ 1000000) (hne : rs ≠ []) (hil : ∀ x ∈ rs, x.2.2.length ≤ 1000000) [h1 : RowI w (.slice a rs.length c) false 1 (rs.map encW)] [h2 : RowsI w rs] :
    Ct Try.prog 71 [.slice a rs.length c, .func (.func 68) #[] #[]] w fun v _ => ∃ x, x ∈ rs ∧ v = encW x ∧ x.2.2 = firstF (rs.map (·.2.2)) := by
  have h0 : 0 < rs.length := List.length_pos_iff.2 hne
  refine Ct.ofW (by simp) ?_
  repeat' (first |((first|apply jI|apply jJ|apply jK rfl|apply jL rfl); first|exact eI rfl|exact eB rfl|exact eP rfl|exact eS rfl|exact eT rfl|exact eA rfl|exact eU rfl|exact eF rfl|exact eM rfl|exact eN rfl|exact rfl)|(refine jM ?_; first|refine jN rfl rfl rfl ?_|refine jO rfl rfl rfl rfl ?_|refine jP rfl rfl rfl ?_|refine jQ rfl rfl ?_|refine jR (by assumption) rfl rfl ?_)|(refine jS ?_; first|refine jT rfl rfl rfl ?_|refine jU rfl rfl rfl rfl ?_|refine jV rfl rfl ?_)|(refine jW ?_; first|refine jX rfl rfl ?_|refine jY rfl rfl (by omega) ?_|refine jZ rfl rfl (by omega) ?_|refine ja rfl rfl ?_|refine jb rfl rfl ?_|refine jc rfl rfl ?_|refine jd rfl rfl ?_|refine je rfl rfl ?_|refine jf rfl rfl ?_)|(refine jg ?_; first|refine jh rfl ?_|refine ji rfl ?_|refine jj rfl rfl ?_|refine jk rfl rfl ?_|refine jl rfl ?_)|(refine jm ?_; refine jn rfl ?_)|(refine jo ?_; first|refine jp rfl ?_|refine jq rfl ?_|refine jr rfl ?_|refine js rfl ?_) |(refine jE ?_; first|(refine jF rfl rfl rfl (map_get (by omega)) ?_; intro _ _ _)|refine jG rfl rfl rfl (by omega) ?_)|refine jt rfl rfl rfl (by omega) ?_|refine ju rfl rfl ?_|refine jv ?_|refine jw rfl ?_ |refine jz ?_|(refine jjA ?_; first|refine jjB ?_|refine jjC ?_|refine jjD ?_|refine jjE ?_|refine jjF ?_|refine jjG ?_|refine jjH ?_|refine jjI ?_|refine jjJ rfl ?_|refine jjK rfl ?_) |refine jA rfl ⟨⟨_, rfl⟩, ?_⟩|refine jB rfl rfl ⟨inferInstance, ?_⟩|refine jC rfl rfl rfl ⟨inferInstance, ?_⟩|refine jD rfl rfl rfl rfl ⟨inferInstance, ?_⟩|refine jA rfl ⟨inferInstance, ?_⟩)
  refine W.loop (11 :: 12 :: 13 :: 14 :: 6 :: 7 :: 15 :: 16 :: 17 :: 18 :: 19 :: 20 :: 21 :: 22 :: 23 :: 5 :: 24 :: 10 :: []) (fun g s' V => ∃ (j : Nat) (v : Value), s' 10 = .int .i64 ((j : Nat) : Int) ∧ s' 5 = v ∧ g = rs.length - j ∧ j ≤ rs.length ∧ (j = 0 ∨ ∃ x, x ∈ rs ∧ v = encW x ∧ x.2.2 = firstF ((rs.take j).map (·.2.2)))) rs.length ⟨0, _, rfl, rfl, rfl, Nat.zero_le _, .inl rfl⟩ ?_
  rintro _ sd V hSV ⟨j, v, h10, h5, rfl, hj, hI⟩
  refine W.fix h10 (W.fix (d := 5) h5 ?_)
  clear h10 h5
  by_cases hjl : j < rs.length
  · have hg := List.getElem?_eq_getElem hjl
    rcases Nat.eq_zero_or_pos j with hj0 | hj0
    · subst hj0
      repeat' (first |(refine jW ?_; first|refine jjZ rfl rfl (by omega) ?_|refine jja rfl rfl (by omega) ?_|refine jjb rfl rfl (by omega) ?_|refine jjc rfl rfl (by omega) ?_|refine jjd rfl rfl (by omega) ?_|refine jje rfl rfl (by omega) ?_|refine jjf rfl rfl (by omega) ?_|refine jjg rfl rfl (by omega) ?_|refine jjh rfl rfl (by omega) ?_|refine jji rfl rfl (by omega) ?_|refine jjj rfl rfl (by omega) ?_|refine jjk rfl rfl (by omega) ?_) |((first|apply jI|apply jJ|apply jK rfl|apply jL rfl); first|exact eI rfl|exact eB rfl|exact eP rfl|exact eS rfl|exact eT rfl|exact eA rfl|exact eU rfl|exact eF rfl|exact eM rfl|exact eN rfl|exact rfl)|(refine jM ?_; first|refine jN rfl rfl rfl ?_|refine jO rfl rfl rfl rfl ?_|refine jP rfl rfl rfl ?_|refine jQ rfl rfl ?_|refine jR (by assumption) rfl rfl ?_)|(refine jS ?_; first|refine jT rfl rfl rfl ?_|refine jU rfl rfl rfl rfl ?_|refine jV rfl rfl ?_)|(refine jW ?_; first|refine jX rfl rfl ?_|refine jY rfl rfl (by omega) ?_|refine jZ rfl rfl (by omega) ?_|refine ja rfl rfl ?_|refine jb rfl rfl ?_|refine jc rfl rfl ?_|refine jd rfl rfl ?_|refine je rfl rfl ?_|refine jf rfl rfl ?_)|(refine jg ?_; first|refine jh rfl ?_|refine ji rfl ?_|refine jj rfl rfl ?_|refine jk rfl rfl ?_|refine jl rfl ?_)|(refine jm ?_; refine jn rfl ?_)|(refine jo ?_; first|refine jp rfl ?_|refine jq rfl ?_|refine jr rfl ?_|refine js rfl ?_) |(refine jE ?_; first|(refine jF rfl rfl rfl (map_get (by omega)) ?_; intro _ _ _)|refine jG rfl rfl rfl (by omega) ?_)|refine jt rfl rfl rfl (by omega) ?_|refine ju rfl rfl ?_|refine jv ?_|refine jw rfl ?_ |(refine jx ?_; refine jy rfl ?_; intro _ _ _ _ _ hblk; have := At.ofBlock hblk; clear hblk) |refine jz ?_|(refine jjA ?_; first|refine jjB ?_|refine jjC ?_|refine jjD ?_|refine jjE ?_|refine jjF ?_|refine jjG ?_|refine jjH ?_|refine jjI ?_|refine jjJ rfl ?_|refine jjK rfl ?_) |refine jA rfl ⟨⟨_, rfl⟩, ?_⟩|refine jB rfl rfl ⟨inferInstance, ?_⟩|refine jC rfl rfl rfl ⟨inferInstance, ?_⟩|refine jD rfl rfl rfl rfl ⟨inferInstance, ?_⟩|refine jA rfl ⟨inferInstance, ?_⟩)
      refine ⟨rfl, by (repeat' (first|assumption|exact Same.ovN|refine Same.upd rfl ?_|refine Same.putS rfl ?_|refine Same.ovN' rfl ?_|exact Same.refl _ _|exact Same.putN ?_)), rs.length - (0 + 1), by omega, inferInstance, 0 + 1, _, congrArg (Value.int .i64) (by omega), rfl, rfl, by omega, .inr ⟨rs[0], List.getElem_mem hjl, rfl, ?_⟩⟩
      rw [take_snoc_get hg, List.take_zero]; rfl
    · obtain ⟨x, hx, rfl, hxe⟩ := hI.resolve_left (by omega)
      have hrV : RowsI V rs := inferInstance
      have i1 := hrV.get hjl
      have i2 := RowI.mk (hrV.h x hx)
      have hil1 := hil _ (List.getElem_mem hjl)
      have hsn : firstF ((rs.take (j + 1)).map (·.2.2)) = betS (firstF ((rs.take j).map (·.2.2))) rs[j].2.2 := by
        rw [take_snoc_get hg, List.map_append]
        exact firstF_snoc (by rw [Ne, List.map_eq_nil_iff, List.take_eq_nil_iff]; rintro (h | h); omega; exact hne h) _
      repeat' (first |(refine jW ?_; first|refine jjZ rfl rfl (by omega) ?_|refine jja rfl rfl (by omega) ?_|refine jjb rfl rfl (by omega) ?_|refine jjc rfl rfl (by omega) ?_|refine jjd rfl rfl (by omega) ?_|refine jje rfl rfl (by omega) ?_|refine jjf rfl rfl (by omega) ?_|refine jjg rfl rfl (by omega) ?_|refine jjh rfl rfl (by omega) ?_|refine jji rfl rfl (by omega) ?_|refine jjj rfl rfl (by omega) ?_|refine jjk rfl rfl (by omega) ?_) |((first|apply jI|apply jJ|apply jK rfl|apply jL rfl); first|exact eI rfl|exact eB rfl|exact eP rfl|exact eS rfl|exact eT rfl|exact eA rfl|exact eU rfl|exact eF rfl|exact eM rfl|exact eN rfl|exact rfl)|(refine jM ?_; first|refine jN rfl rfl rfl ?_|refine jO rfl rfl rfl rfl ?_|refine jP rfl rfl rfl ?_|refine jQ rfl rfl ?_|refine jR (by assumption) rfl rfl ?_)|(refine jS ?_; first|refine jT rfl rfl rfl ?_|refine jU rfl rfl rfl rfl ?_|refine jV rfl rfl ?_)|(refine jW ?_; first|refine jX rfl rfl ?_|refine jY rfl rfl (by omega) ?_|refine jZ rfl rfl (by omega) ?_|refine ja rfl rfl ?_|refine jb rfl rfl ?_|refine jc rfl rfl ?_|refine jd rfl rfl ?_|refine je rfl rfl ?_|refine jf rfl rfl ?_)|(refine jg ?_; first|refine jh rfl ?_|refine ji rfl ?_|refine jj rfl rfl ?_|refine jk rfl rfl ?_|refine jl rfl ?_)|(refine jm ?_; refine jn rfl ?_)|(refine jo ?_; first|refine jp rfl ?_|refine jq rfl ?_|refine jr rfl ?_|refine js rfl ?_) |(refine jE ?_; first|(refine jF rfl rfl rfl (map_get (by omega)) ?_; intro _ _ _)|refine jG rfl rfl rfl (by omega) ?_)|refine jt rfl rfl rfl (by omega) ?_|refine ju rfl rfl ?_|refine jv ?_|refine jw rfl ?_ |(refine jx ?_; refine jy rfl ?_; intro _ _ _ _ _ hblk; have := At.ofBlock hblk; clear hblk) |refine jz ?_|(refine jjA ?_; first|refine jjB ?_|refine jjC ?_|refine jjD ?_|refine jjE ?_|refine jjF ?_|refine jjG ?_|refine jjH ?_|refine jjI ?_|refine jjJ rfl ?_|refine jjK rfl ?_) |refine jA rfl ⟨⟨_, rfl⟩, ?_⟩|refine jB rfl rfl ⟨inferInstance, ?_⟩|refine jC rfl rfl rfl ⟨inferInstance, ?_⟩|refine jD rfl rfl rfl rfl ⟨inferInstance, ?_⟩|refine jA rfl ⟨inferInstance, ?_⟩)
      refine jjQ (longer_rack rs[j].1 x.1 rs[j].2.1 x.2.1 rs[j].2.2 x.2.2 _ hil1) rfl rfl ?_
      rintro _ w2 hS2 rfl
      cases hb : longB rs[j].2.2 x.2.2
      · repeat' (first |(refine jW ?_; first|refine jjZ rfl rfl (by omega) ?_|refine jja rfl rfl (by omega) ?_|refine jjb rfl rfl (by omega) ?_|refine jjc rfl rfl (by omega) ?_|refine jjd rfl rfl (by omega) ?_|refine jje rfl rfl (by omega) ?_|refine jjf rfl rfl (by omega) ?_|refine jjg rfl rfl (by omega) ?_|refine jjh rfl rfl (by omega) ?_|refine jji rfl rfl (by omega) ?_|refine jjj rfl rfl (by omega) ?_|refine jjk rfl rfl (by omega) ?_) |((first|apply jI|apply jJ|apply jK rfl|apply jL rfl); first|exact eI rfl|exact eB rfl|exact eP rfl|exact eS rfl|exact eT rfl|exact eA rfl|exact eU rfl|exact eF rfl|exact eM rfl|exact eN rfl|exact rfl)|(refine jM ?_; first|refine jN rfl rfl rfl ?_|refine jO rfl rfl rfl rfl ?_|refine jP rfl rfl rfl ?_|refine jQ rfl rfl ?_|refine jR (by assumption) rfl rfl ?_)|(refine jS ?_; first|refine jT rfl rfl rfl ?_|refine jU rfl rfl rfl rfl ?_|refine jV rfl rfl ?_)|(refine jW ?_; first|refine jX rfl rfl ?_|refine jY rfl rfl (by omega) ?_|refine jZ rfl rfl (by omega) ?_|refine ja rfl rfl ?_|refine jb rfl rfl ?_|refine jc rfl rfl ?_|refine jd rfl rfl ?_|refine je rfl rfl ?_|refine jf rfl rfl ?_)|(refine jg ?_; first|refine jh rfl ?_|refine ji rfl ?_|refine jj rfl rfl ?_|refine jk rfl rfl ?_|refine jl rfl ?_)|(refine jm ?_; refine jn rfl ?_)|(refine jo ?_; first|refine jp rfl ?_|refine jq rfl ?_|refine jr rfl ?_|refine js rfl ?_) |(refine jE ?_; first|(refine jF rfl rfl rfl (map_get (by omega)) ?_; intro _ _ _)|refine jG rfl rfl rfl (by omega) ?_)|refine jt rfl rfl rfl (by omega) ?_|refine ju rfl rfl ?_|refine jv ?_|refine jw rfl ?_ |(refine jx ?_; refine jy rfl ?_; intro _ _ _ _ _ hblk; have := At.ofBlock hblk; clear hblk) |refine jz ?_|(refine jjA ?_; first|refine jjB ?_|refine jjC ?_|refine jjD ?_|refine jjE ?_|refine jjF ?_|refine jjG ?_|refine jjH ?_|refine jjI ?_|refine jjJ rfl ?_|refine jjK rfl ?_) |refine jA rfl ⟨⟨_, rfl⟩, ?_⟩|refine jB rfl rfl ⟨inferInstance, ?_⟩|refine jC rfl rfl rfl ⟨inferInstance, ?_⟩|refine jD rfl rfl rfl rfl ⟨inferInstance, ?_⟩|refine jA rfl ⟨inferInstance, ?_⟩)
        refine ⟨rfl, by (repeat' (first|assumption|exact Same.ovN|refine Same.upd rfl ?_|refine Same.putS rfl ?_|refine Same.ovN' rfl ?_|exact Same.refl _ _|exact Same.putN ?_)), rs.length - (j + 1), by omega, inferInstance, j + 1, _, congrArg (Value.int .i64) (by omega), rfl, rfl, by omega, .inr ⟨x, hx, rfl, ?_⟩⟩
        rw [hsn, ← hxe, betS, hb]; rfl
      · repeat' (first |(refine jW ?_; first|refine jjZ rfl rfl (by omega) ?_|refine jja rfl rfl (by omega) ?_|refine jjb rfl rfl (by omega) ?_|refine jjc rfl rfl (by omega) ?_|refine jjd rfl rfl (by omega) ?_|refine jje rfl rfl (by omega) ?_|refine jjf rfl rfl (by omega) ?_|refine jjg rfl rfl (by omega) ?_|refine jjh rfl rfl (by omega) ?_|refine jji rfl rfl (by omega) ?_|refine jjj rfl rfl (by omega) ?_|refine jjk rfl rfl (by omega) ?_) |((first|apply jI|apply jJ|apply jK rfl|apply jL rfl); first|exact eI rfl|exact eB rfl|exact eP rfl|exact eS rfl|exact eT rfl|exact eA rfl|exact eU rfl|exact eF rfl|exact eM rfl|exact eN rfl|exact rfl)|(refine jM ?_; first|refine jN rfl rfl rfl ?_|refine jO rfl rfl rfl rfl ?_|refine jP rfl rfl rfl ?_|refine jQ rfl rfl ?_|refine jR (by assumption) rfl rfl ?_)|(refine jS ?_; first|refine jT rfl rfl rfl ?_|refine jU rfl rfl rfl rfl ?_|refine jV rfl rfl ?_)|(refine jW ?_; first|refine jX rfl rfl ?_|refine jY rfl rfl (by omega) ?_|refine jZ rfl rfl (by omega) ?_|refine ja rfl rfl ?_|refine jb rfl rfl ?_|refine jc rfl rfl ?_|refine jd rfl rfl ?_|refine je rfl rfl ?_|refine jf rfl rfl ?_)|(refine jg ?_; first|refine jh rfl ?_|refine ji rfl ?_|refine jj rfl rfl ?_|refine jk rfl rfl ?_|refine jl rfl ?_)|(refine jm ?_; refine jn rfl ?_)|(refine jo ?_; first|refine jp rfl ?_|refine jq rfl ?_|refine jr rfl ?_|refine js rfl ?_) |(refine jE ?_; first|(refine jF rfl rfl rfl (map_get (by omega)) ?_; intro _ _ _)|refine jG rfl rfl rfl (by omega) ?_)|refine jt rfl rfl rfl (by omega) ?_|refine ju rfl rfl ?_|refine jv ?_|refine jw rfl ?_ |(refine jx ?_; refine jy rfl ?_; intro _ _ _ _ _ hblk; have := At.ofBlock hblk; clear hblk) |refine jz ?_|(refine jjA ?_; first|refine jjB ?_|refine jjC ?_|refine jjD ?_|refine jjE ?_|refine jjF ?_|refine jjG ?_|refine jjH ?_|refine jjI ?_|refine jjJ rfl ?_|refine jjK rfl ?_) |refine jA rfl ⟨⟨_, rfl⟩, ?_⟩|refine jB rfl rfl ⟨inferInstance, ?_⟩|refine jC rfl rfl rfl ⟨inferInstance, ?_⟩|refine jD rfl rfl rfl rfl ⟨inferInstance, ?_⟩|refine jA rfl ⟨inferInstance, ?_⟩)
        refine ⟨rfl, by (repeat' (first|assumption|exact Same.ovN|refine Same.upd rfl ?_|refine Same.putS rfl ?_|refine Same.ovN' rfl ?_|exact Same.refl _ _|exact Same.putN ?_)), rs.length - (j + 1), by omega, inferInstance, j + 1, _, congrArg (Value.int .i64) (by omega), rfl, rfl, by omega, .inr ⟨rs[j], List.getElem_mem hjl, rfl, ?_⟩⟩
        rw [hsn, ← hxe, betS, hb]; rfl
  · obtain rfl : j = rs.length := by omega
    rw [List.take_length] at hI
    repeat' (first |(refine jW ?_; first|refine jjZ rfl rfl (by omega) ?_|refine jja rfl rfl (by omega) ?_|refine jjb rfl rfl (by omega) ?_|refine jjc rfl rfl (by omega) ?_|refine jjd rfl rfl (by omega) ?_|refine jje rfl rfl (by omega) ?_|refine jjf rfl rfl (by omega) ?_|refine jjg rfl rfl (by omega) ?_|refine jjh rfl rfl (by omega) ?_|refine jji rfl rfl (by omega) ?_|refine jjj rfl rfl (by omega) ?_|refine jjk rfl rfl (by omega) ?_) |((first|apply jI|apply jJ|apply jK rfl|apply jL rfl); first|exact eI rfl|exact eB rfl|exact eP rfl|exact eS rfl|exact eT rfl|exact eA rfl|exact eU rfl|exact eF rfl|exact eM rfl|exact eN rfl|exact rfl)|(refine jM ?_; first|refine jN rfl rfl rfl ?_|refine jO rfl rfl rfl rfl ?_|refine jP rfl rfl rfl ?_|refine jQ rfl rfl ?_|refine jR (by assumption) rfl rfl ?_)|(refine jS ?_; first|refine jT rfl rfl rfl ?_|refine jU rfl rfl rfl rfl ?_|refine jV rfl rfl ?_)|(refine jW ?_; first|refine jX rfl rfl ?_|refine jY rfl rfl (by omega) ?_|refine jZ rfl rfl (by omega) ?_|refine ja rfl rfl ?_|refine jb rfl rfl ?_|refine jc rfl rfl ?_|refine jd rfl rfl ?_|refine je rfl rfl ?_|refine jf rfl rfl ?_)|(refine jg ?_; first|refine jh rfl ?_|refine ji rfl ?_|refine jj rfl rfl ?_|refine jk rfl rfl ?_|refine jl rfl ?_)|(refine jm ?_; refine jn rfl ?_)|(refine jo ?_; first|refine jp rfl ?_|refine jq rfl ?_|refine jr rfl ?_|refine js rfl ?_) |(refine jE ?_; first|(refine jF rfl rfl rfl (map_get (by omega)) ?_; intro _ _ _)|refine jG rfl rfl rfl (by omega) ?_)|refine jt rfl rfl rfl (by omega) ?_|refine ju rfl rfl ?_|refine jv ?_|refine jw rfl ?_ |(refine jx ?_; refine jy rfl ?_; intro _ _ _ _ _ hblk; have := At.ofBlock hblk; clear hblk) |refine jz ?_|(refine jjA ?_; first|refine jjB ?_|refine jjC ?_|refine jjD ?_|refine jjE ?_|refine jjF ?_|refine jjG ?_|refine jjH ?_|refine jjI ?_|refine jjJ rfl ?_|refine jjK rfl ?_) |refine jA rfl ⟨⟨_, rfl⟩, ?_⟩|refine jB rfl rfl ⟨inferInstance, ?_⟩|refine jC rfl rfl rfl ⟨inferInstance, ?_⟩|refine jD rfl rfl rfl rfl ⟨inferInstance, ?_⟩|refine jA rfl ⟨inferInstance, ?_⟩)
    exact hI.resolve_left (by omega)

/-! ### The recursion -/
theorem At.ne_map {κ : Type} {encK : κ → Value} {w : World} {b o kb : Nat} {cs : List Value} {m : List (κ × Value)} (h : At w b o cs) (hm : MapE encK w kb m) (hc : cs ≠ []) : b ≠ kb := by
  rintro rfl
  obtain ⟨x, cs, rfl⟩ := List.exists_cons_of_ne_nil hc
  have h0 := h.h 0 x rfl
  obtain ⟨es, c, h1, _⟩ := hm.h
  simp [World.cell?, h1] at h0
theorem Only.atM {κ : Type} {encK : κ → Value} {w w' : World} {b o kb : Nat} {cs : List Value} {m : List (κ × Value)} (O : Only kb w w') (hm : MapE encK w kb m) (h : At w b o cs) : At w' b o cs := by
  cases cs with
  | nil => exact ⟨fun i v hv => by simp at hv⟩
  | cons x cs => exact O.at_ h (h.ne_map hm (by simp))
theorem Only.rowM {κ : Type} {encK : κ → Value} {w w' : World} {kb k : Nat} {agg : Bool} {v : Value} {xs : List Value} {m : List (κ × Value)} (O : Only kb w w') (hm : MapE encK w kb m) (h : RowV w agg k v xs) : RowV w' agg k v xs :=
  ⟨h.len, h.fit, h.at_.imp id fun ⟨b, o, c, hv, hl, hc⟩ => ⟨b, o, c, hv, hl, fun j x hx => O.atM hm (hc j x hx)⟩⟩
theorem OwnL.blockM {κ : Type} {encK : κ → Value} {w : World} {B e kb : Nat} {agg : Bool} {k : Nat} {v : Value} {xs : List Value} {m : List (κ × Value)} (h : OwnL w B e agg k v xs) (hm : MapE encK w kb m) : v.ownBlock ≠ some kb := by
  intro e
  rcases h.own.2 with ⟨rfl, _⟩ | ⟨g, cap, cur, rfl, _, hg, _⟩
  · simp [Value.ownBlock] at e
  · simp only [Value.ownBlock, Option.some.injEq] at e
    subst e
    obtain ⟨es, c, h1, _⟩ := hm.h
    rw [h1] at hg; simp at hg

structure Kc where
  bk : Nat
  bd : Nat
  bf : Nat
  bl : Nat
  kmb : Nat
  a : Option Addr
  c : Nat
  d : List Int
  C : List Int
def Kc.args (q : Kc) : List Value := [.pointer (some ⟨q.bk, 0, none⟩), .pointer (some ⟨q.bd, 0, none⟩), .pointer (some ⟨q.bf, 0, none⟩), .pointer (some ⟨q.bl, 0, none⟩)]
/-- The row that v is holds the best slips from k on. -/
def IsP (q : Kc) (w : World) (k : Nat) (v : Value) : Prop := ∃ a c, v = .slice a (pathK q.d q.C k).length c ∧ OwnL w 0 3 false 1 (.slice a (pathK q.d q.C k).length c) ((pathK q.d q.C k).map intV)
structure KV (q : Kc) (w : World) : Prop where
  kn : At w q.bk 0 [.map (some q.kmb)]
  dd : At w q.bd 0 [.slice q.a q.d.length q.c]
  ff : At w q.bf 0 [.func (.func 70) #[] q.args.toArray]
  lg : At w q.bl 0 [.func (.func 68) #[] #[]]
  row : RowV w false 1 (.slice q.a q.d.length q.c) (q.d.map intV)
  km : ∃ m, MapE (Value.int .i64) w q.kmb m ∧ ∀ n v, mget m n = some v → ∃ k : Nat, n = (k : Int) ∧ k < q.d.length ∧ IsP q w k v
theorem IsP.only {q : Kc} {w w' : World} {k : Nat} {v : Value} {m : List (Int × Value)} (h : IsP q w k v) (hm : MapE (Value.int .i64) w q.kmb m) (o : Only q.kmb w w') : IsP q w' k v := by
  obtain ⟨a, c, e, h⟩ := h
  exact ⟨a, c, e, o.own' h (h.blockM hm)⟩
theorem KV.only {q : Kc} {w w' : World} (f : KV q w) (o : Only q.kmb w w') (h : ∃ m, MapE (Value.int .i64) w' q.kmb m ∧ ∀ n v, mget m n = some v → ∃ k : Nat, n = (k : Int) ∧ k < q.d.length ∧ IsP q w' k v) : KV q w' := by
  obtain ⟨m, hm, _⟩ := f.km
  exact ⟨o.atM hm f.kn, o.atM hm f.dd, o.atM hm f.ff, o.atM hm f.lg, o.rowM hm f.row, h⟩
theorem KV.ext {q : Kc} {w w' : World} (f : KV q w) (e : Ext w w') : KV q w' := f.only (.ofExt e) (by
  obtain ⟨m, hm, h⟩ := f.km
  exact ⟨m, hm.ext e, fun n v hv => by obtain ⟨k, h1, h2, h3⟩ := h n v hv; exact ⟨k, h1, h2, h3.only hm (.ofExt e)⟩⟩)

set_option maxHeartbeats 4000000 in
theorem from_rack (q : Kc) (hb : BegR q.d q.C) (hd : q.d.length ≤ 1000) :
    ∀ (m i : Nat) (w : World), q.d.length - i ≤ m → i < q.d.length → KV q w →
      Calls Try.prog 70 ([Value.int .i64 (i : Int)] ++ q.args).toArray w fun e w' => ∃ v, e = .returned v ∧ IsP q w' i v ∧ Only q.kmb w w' ∧ KV q w' := by
  intro m
  induction m using Nat.strongRecOn with
  | _ m ih =>
  intro i w hm hi hK
  have := hK.kn
  have := hK.ff
  have := hK.lg
  have := hK.dd
  refine Calls.ofW (by simp [Kc.args]) ?_
  repeat' (first |((first|apply jI|apply jJ|apply jK rfl|apply jL rfl); first|exact eI rfl|exact eB rfl|exact eP rfl|exact eS rfl|exact eT rfl|exact eA rfl|exact eU rfl|exact eF rfl|exact eM rfl|exact eN rfl|exact rfl)|(refine jM ?_; first|refine jN rfl rfl rfl ?_|refine jO rfl rfl rfl rfl ?_|refine jP rfl rfl rfl ?_|refine jQ rfl rfl ?_|refine jR (by assumption) rfl rfl ?_)|(refine jS ?_; first|refine jT rfl rfl rfl ?_|refine jU rfl rfl rfl rfl ?_|refine jV rfl rfl ?_)|(refine jW ?_; first|refine jX rfl rfl ?_|refine jY rfl rfl (by omega) ?_|refine jZ rfl rfl (by omega) ?_|refine ja rfl rfl ?_|refine jb rfl rfl ?_|refine jc rfl rfl ?_|refine jd rfl rfl ?_|refine je rfl rfl ?_|refine jf rfl rfl ?_)|(refine jg ?_; first|refine jh rfl ?_|refine ji rfl ?_|refine jj rfl rfl ?_|refine jk rfl rfl ?_|refine jl rfl ?_)|(refine jm ?_; refine jn rfl ?_)|(refine jo ?_; first|refine jp rfl ?_|refine jq rfl ?_|refine jr rfl ?_|refine js rfl ?_) |(refine jE ?_; first|(refine jF rfl rfl rfl (map_get (by omega)) ?_; intro _ _ _)|refine jG rfl rfl rfl (by omega) ?_)|refine jt rfl rfl rfl (by omega) ?_|refine ju rfl rfl ?_|refine jv ?_|refine jw rfl ?_ |refine jz ?_|(refine jjA ?_; first|refine jjB ?_|refine jjC ?_|refine jjD ?_|refine jjE ?_|refine jjF ?_|refine jjG ?_|refine jjH ?_|refine jjI ?_|refine jjJ rfl ?_|refine jjK rfl ?_) |refine jA rfl ⟨⟨_, rfl⟩, ?_⟩|refine jB rfl rfl ⟨inferInstance, ?_⟩|refine jC rfl rfl rfl ⟨inferInstance, ?_⟩|refine jD rfl rfl rfl rfl ⟨inferInstance, ?_⟩|refine jA rfl ⟨inferInstance, ?_⟩)
  obtain ⟨mm, hmm, hok⟩ := hK.km
  refine Ops.lookupOk hmm rfl rfl ?_
  cases hg : mget mm (i : Int) with
  | some v =>
    obtain ⟨k, hk1, hk2, hP⟩ := hok _ _ hg
    obtain rfl : i = k := by omega
    repeat' (first |((first|apply jI|apply jJ|apply jK rfl|apply jL rfl); first|exact eI rfl|exact eB rfl|exact eP rfl|exact eS rfl|exact eT rfl|exact eA rfl|exact eU rfl|exact eF rfl|exact eM rfl|exact eN rfl|exact rfl)|(refine jM ?_; first|refine jN rfl rfl rfl ?_|refine jO rfl rfl rfl rfl ?_|refine jP rfl rfl rfl ?_|refine jQ rfl rfl ?_|refine jR (by assumption) rfl rfl ?_)|(refine jS ?_; first|refine jT rfl rfl rfl ?_|refine jU rfl rfl rfl rfl ?_|refine jV rfl rfl ?_)|(refine jW ?_; first|refine jX rfl rfl ?_|refine jY rfl rfl (by omega) ?_|refine jZ rfl rfl (by omega) ?_|refine ja rfl rfl ?_|refine jb rfl rfl ?_|refine jc rfl rfl ?_|refine jd rfl rfl ?_|refine je rfl rfl ?_|refine jf rfl rfl ?_)|(refine jg ?_; first|refine jh rfl ?_|refine ji rfl ?_|refine jj rfl rfl ?_|refine jk rfl rfl ?_|refine jl rfl ?_)|(refine jm ?_; refine jn rfl ?_)|(refine jo ?_; first|refine jp rfl ?_|refine jq rfl ?_|refine jr rfl ?_|refine js rfl ?_) |(refine jE ?_; first|(refine jF rfl rfl rfl (map_get (by omega)) ?_; intro _ _ _)|refine jG rfl rfl rfl (by omega) ?_)|refine jt rfl rfl rfl (by omega) ?_|refine ju rfl rfl ?_|refine jv ?_|refine jw rfl ?_ |refine jz ?_|(refine jjA ?_; first|refine jjB ?_|refine jjC ?_|refine jjD ?_|refine jjE ?_|refine jjF ?_|refine jjG ?_|refine jjH ?_|refine jjI ?_|refine jjJ rfl ?_|refine jjK rfl ?_) |refine jA rfl ⟨⟨_, rfl⟩, ?_⟩|refine jB rfl rfl ⟨inferInstance, ?_⟩|refine jC rfl rfl rfl ⟨inferInstance, ?_⟩|refine jD rfl rfl rfl rfl ⟨inferInstance, ?_⟩|refine jA rfl ⟨inferInstance, ?_⟩)
    exact jB rfl rfl ⟨_, rfl, hP, .ofExt (.refl w), hK⟩
  | none =>
    repeat' (first |((first|apply jI|apply jJ|apply jK rfl|apply jL rfl); first|exact eI rfl|exact eB rfl|exact eP rfl|exact eS rfl|exact eT rfl|exact eA rfl|exact eU rfl|exact eF rfl|exact eM rfl|exact eN rfl|exact rfl)|(refine jM ?_; first|refine jN rfl rfl rfl ?_|refine jO rfl rfl rfl rfl ?_|refine jP rfl rfl rfl ?_|refine jQ rfl rfl ?_|refine jR (by assumption) rfl rfl ?_)|(refine jS ?_; first|refine jT rfl rfl rfl ?_|refine jU rfl rfl rfl rfl ?_|refine jV rfl rfl ?_)|(refine jW ?_; first|refine jX rfl rfl ?_|refine jY rfl rfl (by omega) ?_|refine jZ rfl rfl (by omega) ?_|refine ja rfl rfl ?_|refine jb rfl rfl ?_|refine jc rfl rfl ?_|refine jd rfl rfl ?_|refine je rfl rfl ?_|refine jf rfl rfl ?_)|(refine jg ?_; first|refine jh rfl ?_|refine ji rfl ?_|refine jj rfl rfl ?_|refine jk rfl rfl ?_|refine jl rfl ?_)|(refine jm ?_; refine jn rfl ?_)|(refine jo ?_; first|refine jp rfl ?_|refine jq rfl ?_|refine jr rfl ?_|refine js rfl ?_) |(refine jE ?_; first|(refine jF rfl rfl rfl (map_get (by omega)) ?_; intro _ _ _)|refine jG rfl rfl rfl (by omega) ?_)|refine jt rfl rfl rfl (by omega) ?_|refine ju rfl rfl ?_|refine jv ?_|refine jw rfl ?_ |refine jz ?_|(refine jjA ?_; first|refine jjB ?_|refine jjC ?_|refine jjD ?_|refine jjE ?_|refine jjF ?_|refine jjG ?_|refine jjH ?_|refine jjI ?_|refine jjJ rfl ?_|refine jjK rfl ?_) |refine jA rfl ⟨⟨_, rfl⟩, ?_⟩|refine jB rfl rfl ⟨inferInstance, ?_⟩|refine jC rfl rfl rfl ⟨inferInstance, ?_⟩|refine jD rfl rfl rfl rfl ⟨inferInstance, ?_⟩|refine jA rfl ⟨inferInstance, ?_⟩)
    (refine jjP (v := .slice _ _ _) rfl (by exact rfl) (by exact rfl) (by exact rfl) (by exact rfl) ?_; intro b7 w_b7 hb_b7 hs_b7 hS_b7 hk_b7; have hR_b7 := RowV.one (agg := false) (k := 1) rfl hk_b7)
    have hO7 := OwnL.one (agg := false) (k := 1) (B := w.heap.size) rfl (by omega) hk_b7
    repeat' (first |((first|apply jI|apply jJ|apply jK rfl|apply jL rfl); first|exact eI rfl|exact eB rfl|exact eP rfl|exact eS rfl|exact eT rfl|exact eA rfl|exact eU rfl|exact eF rfl|exact eM rfl|exact eN rfl|exact rfl)|(refine jM ?_; first|refine jN rfl rfl rfl ?_|refine jO rfl rfl rfl rfl ?_|refine jP rfl rfl rfl ?_|refine jQ rfl rfl ?_|refine jR (by assumption) rfl rfl ?_)|(refine jS ?_; first|refine jT rfl rfl rfl ?_|refine jU rfl rfl rfl rfl ?_|refine jV rfl rfl ?_)|(refine jW ?_; first|refine jX rfl rfl ?_|refine jY rfl rfl (by omega) ?_|refine jZ rfl rfl (by omega) ?_|refine ja rfl rfl ?_|refine jb rfl rfl ?_|refine jc rfl rfl ?_|refine jd rfl rfl ?_|refine je rfl rfl ?_|refine jf rfl rfl ?_)|(refine jg ?_; first|refine jh rfl ?_|refine ji rfl ?_|refine jj rfl rfl ?_|refine jk rfl rfl ?_|refine jl rfl ?_)|(refine jm ?_; refine jn rfl ?_)|(refine jo ?_; first|refine jp rfl ?_|refine jq rfl ?_|refine jr rfl ?_|refine js rfl ?_) |(refine jE ?_; first|(refine jF rfl rfl rfl (map_get (by omega)) ?_; intro _ _ _)|refine jG rfl rfl rfl (by omega) ?_)|refine jt rfl rfl rfl (by omega) ?_|refine ju rfl rfl ?_|refine jv ?_|refine jw rfl ?_ |refine jz ?_|(refine jjA ?_; first|refine jjB ?_|refine jjC ?_|refine jjD ?_|refine jjE ?_|refine jjF ?_|refine jjG ?_|refine jjH ?_|refine jjI ?_|refine jjJ rfl ?_|refine jjK rfl ?_) |refine jA rfl ⟨⟨_, rfl⟩, ?_⟩|refine jB rfl rfl ⟨inferInstance, ?_⟩|refine jC rfl rfl rfl ⟨inferInstance, ?_⟩|refine jD rfl rfl rfl rfl ⟨inferInstance, ?_⟩|refine jA rfl ⟨inferInstance, ?_⟩)
    have hkm := hmm.lt
    have hE7 : Ext w w_b7 := inferInstance
    have hS1 : ∀ k, i + 1 ≤ k → k < q.d.length → ((upR (i + 1) (k + 1)).filter fun j => decide (gd q.d i ≤ gd q.d j)).map (pathK q.d q.C) = ((upR (i + 1) k).filter fun j => decide (gd q.d i ≤ gd q.d j)).map (pathK q.d q.C) ++ if gd q.d i ≤ gd q.d k then [pathK q.d q.C k] else [] := by
      intro k h1 h2
      rw [upR_snoc h1, List.filter_append, List.map_append]
      congr 1
      by_cases hh : gd q.d i ≤ gd q.d k
      · rw [if_pos hh, List.filter_cons_of_pos (by rw [decide_eq_true_eq]; exact hh)]; rfl
      · rw [if_neg hh, List.filter_cons_of_neg (by rw [decide_eq_true_eq]; exact hh)]; rfl
    refine W.loopG (22 :: 23 :: 24 :: 25 :: 28 :: 29 :: 30 :: 31 :: 32 :: 33 :: 34 :: 35 :: 36 :: 37 :: 38 :: 39 :: 40 :: 41 :: 42 :: 9 :: 26 :: 27 :: 10 :: []) (fun g s' w' => ∃ (k : Nat) (v : Value) (rs : List Rw), s' 10 = .int .i64 ((k : Nat) : Int) ∧ s' 9 = v ∧ i + 1 ≤ k ∧ k ≤ q.d.length ∧ g = q.d.length - k ∧ rs.length ≤ k + 1 ∧ Only q.kmb w w' ∧ KV q w' ∧ OwnL w' w.heap.size 22 false 1 v (rs.map encW) ∧ (∀ x ∈ rs, OwnL w' 0 3 false 1 (encW x) (x.2.2.map intV)) ∧ rs.map (·.2.2) = [] :: ((upR (i + 1) k).filter fun j => decide (gd q.d i ≤ gd q.d j)).map (pathK q.d q.C)) (q.d.length - (i + 1)) ⟨i + 1, _, [(none, 0, [])], congrArg (Value.int .i64) (by omega), rfl, Nat.le_refl _, hi, rfl, by simp, .ofExt hE7, hK.ext hE7, hO7, by intro x hx; simp at hx; subst hx; exact OwnL.nil _ _ _ _ _, by rw [upR_nil (Nat.le_refl _)]; rfl⟩ ?_
    rintro _ sd w' ⟨k, v, rs, h10, h9, hik, hkn, rfl, hrl, hOn, hKk, hO, hRs, hrs⟩
    refine W.fix h10 (W.fix (d := 9) h9 ?_)
    clear h10 h9
    have z' := hOn.size
    have hEd := hKk.dd
    by_cases hkl : k < q.d.length
    · repeat' (first |(refine jW ?_; first|refine jjZ rfl rfl (by omega) ?_|refine jja rfl rfl (by omega) ?_|refine jjb rfl rfl (by omega) ?_|refine jjc rfl rfl (by omega) ?_|refine jjd rfl rfl (by omega) ?_|refine jje rfl rfl (by omega) ?_|refine jjf rfl rfl (by omega) ?_|refine jjg rfl rfl (by omega) ?_|refine jjh rfl rfl (by omega) ?_|refine jji rfl rfl (by omega) ?_|refine jjj rfl rfl (by omega) ?_|refine jjk rfl rfl (by omega) ?_) |((first|apply jI|apply jJ|apply jK rfl|apply jL rfl); first|exact eI rfl|exact eB rfl|exact eP rfl|exact eS rfl|exact eT rfl|exact eA rfl|exact eU rfl|exact eF rfl|exact eM rfl|exact eN rfl|exact rfl)|(refine jM ?_; first|refine jN rfl rfl rfl ?_|refine jO rfl rfl rfl rfl ?_|refine jP rfl rfl rfl ?_|refine jQ rfl rfl ?_|refine jR (by assumption) rfl rfl ?_)|(refine jS ?_; first|refine jT rfl rfl rfl ?_|refine jU rfl rfl rfl rfl ?_|refine jV rfl rfl ?_)|(refine jW ?_; first|refine jX rfl rfl ?_|refine jY rfl rfl (by omega) ?_|refine jZ rfl rfl (by omega) ?_|refine ja rfl rfl ?_|refine jb rfl rfl ?_|refine jc rfl rfl ?_|refine jd rfl rfl ?_|refine je rfl rfl ?_|refine jf rfl rfl ?_)|(refine jg ?_; first|refine jh rfl ?_|refine ji rfl ?_|refine jj rfl rfl ?_|refine jk rfl rfl ?_|refine jl rfl ?_)|(refine jm ?_; refine jn rfl ?_)|(refine jo ?_; first|refine jp rfl ?_|refine jq rfl ?_|refine jr rfl ?_|refine js rfl ?_) |(refine jE ?_; first|(refine jF rfl rfl rfl (map_get (by omega)) ?_; intro _ _ _)|refine jG rfl rfl rfl (by omega) ?_)|refine jt rfl rfl rfl (by omega) ?_|refine ju rfl rfl ?_|refine jv ?_|refine jw rfl ?_ |(refine jx ?_; refine jy rfl ?_; intro _ _ _ _ _ hblk; have := At.ofBlock hblk; clear hblk) |refine jz ?_|(refine jjA ?_; first|refine jjB ?_|refine jjC ?_|refine jjD ?_|refine jjE ?_|refine jjF ?_|refine jjG ?_|refine jjH ?_|refine jjI ?_|refine jjJ rfl ?_|refine jjK rfl ?_) |refine jA rfl ⟨⟨_, rfl⟩, ?_⟩|refine jB rfl rfl ⟨inferInstance, ?_⟩|refine jC rfl rfl rfl ⟨inferInstance, ?_⟩|refine jD rfl rfl rfl rfl ⟨inferInstance, ?_⟩|refine jA rfl ⟨inferInstance, ?_⟩)
      refine W.draw (fun wq => Ext w' wq) ?_
      intro w1 hS1'
      have hz := hKk.row.place' (map_get hkl)
      obtain ⟨p1, o1, e1, hA1⟩ := hz
      have hz := hKk.row.place' (map_get hi)
      obtain ⟨p2, o2, e2, hA2⟩ := hz
      have e3 := e1.symm.trans e2
      cases e3
      rw [Nat.mul_one] at hA1 hA2
      have hdd : At w' q.bd 0 [.slice (some ⟨p1, o1, none⟩) q.d.length q.c] := by rw [← e1]; exact hKk.dd
      clear hEd
      refine jjV [0, 1, 2, 3, 4, 5, 6, 7, 8] (by decide +kernel) hS1'.ext ?_
      ((repeat' (first|(apply jjT; exact rfl)|rintro wq hq; have := hq.toStep; |((first|apply jI|apply jJ|apply jK rfl|apply jL rfl); first|exact eI rfl|exact eB rfl|exact eP rfl|exact eS rfl|exact eT rfl|exact eA rfl|exact eU rfl|exact eF rfl|exact eM rfl|exact eN rfl|exact rfl)|(refine jM ?_; first|refine jN rfl rfl rfl ?_|refine jO rfl rfl rfl rfl ?_|refine jP rfl rfl rfl ?_|refine jQ rfl rfl ?_|refine jR (by assumption) rfl rfl ?_)|(refine jS ?_; first|refine jT rfl rfl rfl ?_|refine jU rfl rfl rfl rfl ?_|refine jV rfl rfl ?_)|(refine jW ?_; first|refine jX rfl rfl ?_|refine jY rfl rfl (by omega) ?_|refine jZ rfl rfl (by omega) ?_|refine ja rfl rfl ?_|refine jb rfl rfl ?_|refine jc rfl rfl ?_|refine jd rfl rfl ?_|refine je rfl rfl ?_|refine jf rfl rfl ?_)|(refine jg ?_; first|refine jh rfl ?_|refine ji rfl ?_|refine jj rfl rfl ?_|refine jk rfl rfl ?_|refine jl rfl ?_)|(refine jm ?_; refine jn rfl ?_)|(refine jo ?_; first|refine jp rfl ?_|refine jq rfl ?_|refine jr rfl ?_|refine js rfl ?_) |(refine jE ?_; first|refine jG rfl rfl rfl (by omega) ?_|refine jG rfl rfl (by assumption) (by omega) ?_|refine jH _ rfl rfl rfl (by omega) ?_)|refine jt rfl rfl rfl (by omega) ?_|refine ju rfl rfl ?_|refine jv ?_|refine jw rfl ?_|refine jz ?_|exact ⟨rfl, rfl⟩|refine jjU ?_)))
      refine jjX (by decide +kernel) hS1'.ext ?_
      have hK1 := hKk.ext hS1'.ext
      have hOn1 := hOn.trans (.ofExt hS1'.ext)
      have g1 : gd q.d k = q.d[k] := gd_lt hkl
      have g2 : gd q.d i = q.d[i] := gd_lt hi
      have hlg := hK1.lg
      have hff := hK1.ff
      repeat' (first |((first|apply jI|apply jJ|apply jK rfl|apply jL rfl); first|exact eI rfl|exact eB rfl|exact eP rfl|exact eS rfl|exact eT rfl|exact eA rfl|exact eU rfl|exact eF rfl|exact eM rfl|exact eN rfl|exact rfl)|(refine jM ?_; first|refine jN rfl rfl rfl ?_|refine jO rfl rfl rfl rfl ?_|refine jP rfl rfl rfl ?_|refine jQ rfl rfl ?_|refine jR (by assumption) rfl rfl ?_)|(refine jS ?_; first|refine jT rfl rfl rfl ?_|refine jU rfl rfl rfl rfl ?_|refine jV rfl rfl ?_)|(refine jW ?_; first|refine jX rfl rfl ?_|refine jY rfl rfl (by omega) ?_|refine jZ rfl rfl (by omega) ?_|refine ja rfl rfl ?_|refine jb rfl rfl ?_|refine jc rfl rfl ?_|refine jd rfl rfl ?_|refine je rfl rfl ?_|refine jf rfl rfl ?_)|(refine jg ?_; first|refine jh rfl ?_|refine ji rfl ?_|refine jj rfl rfl ?_|refine jk rfl rfl ?_|refine jl rfl ?_)|(refine jm ?_; refine jn rfl ?_)|(refine jo ?_; first|refine jp rfl ?_|refine jq rfl ?_|refine jr rfl ?_|refine js rfl ?_) |(refine jE ?_; first|(refine jF rfl rfl rfl (map_get (by omega)) ?_; intro _ _ _)|refine jG rfl rfl rfl (by omega) ?_)|refine jt rfl rfl rfl (by omega) ?_|refine ju rfl rfl ?_|refine jv ?_|refine jw rfl ?_ |(refine jx ?_; refine jy rfl ?_; intro _ _ _ _ _ hblk; have := At.ofBlock hblk; clear hblk) |refine jz ?_|(refine jjA ?_; first|refine jjB ?_|refine jjC ?_|refine jjD ?_|refine jjE ?_|refine jjF ?_|refine jjG ?_|refine jjH ?_|refine jjI ?_|refine jjJ rfl ?_|refine jjK rfl ?_) |(refine jS ?_; first|(refine jjL rfl rfl ?_ ?_ <;> intro _)|(refine jjM rfl rfl ?_ ?_ <;> intro _))|(refine jjA ?_; first|(refine jjN rfl ?_ ?_ <;> intro _)|(refine jjO rfl ?_ ?_ <;> intro _)) |refine jA rfl ⟨⟨_, rfl⟩, ?_⟩|refine jB rfl rfl ⟨inferInstance, ?_⟩|refine jC rfl rfl rfl ⟨inferInstance, ?_⟩|refine jD rfl rfl rfl rfl ⟨inferInstance, ?_⟩|refine jA rfl ⟨inferInstance, ?_⟩)
      · have hh : gd q.d i ≤ gd q.d k := by rw [g1, g2]; assumption
        refine Ops.callR rfl (Enters.h (P := Try.prog) (g := 70)) rfl (ih (m - 1) (by omega) k _ (by omega) hkl hK1) ?_
        rintro _ w2 ⟨v2, rfl, ⟨a2, c2, rfl, hR2⟩, hOn2, hK2⟩
        refine ⟨_, rfl, ?_⟩
        (refine jjP (v := .slice _ _ _) rfl (by exact rfl) (by exact rfl) (by exact rfl) (by exact rfl) ?_; intro b8 w_b8 hb_b8 hs_b8 hS_b8 hk_b8; have hR_b8 := RowV.one (agg := false) (k := 1) rfl hk_b8)
        have z2 := hOn2.size
        have z1 := hOn1.size
        have z8 := hS_b8.size
        have hOn28 := hOn2.trans (.ofExt hS_b8.ext)
        obtain ⟨m1, hm1, _⟩ := hK1.km
        obtain ⟨m2, hm2, _⟩ := hK2.km
        have hOr := hOn2.own (hO.ext hS1'.ext) hkm
        refine Ops.appendL (hOr.ext hS_b8.ext) (by omega) hR_b8 rfl rfl rfl rfl rfl ?_ ?_ ?_
        · simp only [List.length_map, List.length_cons, List.length_nil]; omega
        · simp only [List.length_map, List.length_cons, List.length_nil]; omega
        intro v9 w9 hA9 hO9 _ _
        have hEA : Only q.kmb w w9 := (hOn1.trans hOn28).app hA9 (Nat.le_refl _)
        have hKb : v.ownBlock ≠ some q.kmb := fun e => by have := (hO.block _ e).1; omega
        have hrow : ∀ (x : Rw), OwnL w2 0 3 false 1 (encW x) (x.2.2.map intV) → OwnL w9 0 3 false 1 (encW x) (x.2.2.map intV) := fun x hx => (hx.ext hS_b8.ext).app hA9 ((hx.ext hS_b8.ext).ne (hOr.ext hS_b8.ext) (by decide))
        have hK9 : KV q w9 := hK.only hEA (by
          obtain ⟨m2, hm2, hok2⟩ := hK2.km
          refine ⟨m2, (hm2.ext hS_b8.ext).app hA9 hKb, fun n u hu => ?_⟩
          obtain ⟨k', h1, h2, a', c', h3, h4⟩ := hok2 n u hu
          exact ⟨k', h1, h2, a', c', h3, hrow (a', c', pathK q.d q.C k') h4⟩)
        repeat' (first |(refine jW ?_; first|refine jjZ rfl rfl (by omega) ?_|refine jja rfl rfl (by omega) ?_|refine jjb rfl rfl (by omega) ?_|refine jjc rfl rfl (by omega) ?_|refine jjd rfl rfl (by omega) ?_|refine jje rfl rfl (by omega) ?_|refine jjf rfl rfl (by omega) ?_|refine jjg rfl rfl (by omega) ?_|refine jjh rfl rfl (by omega) ?_|refine jji rfl rfl (by omega) ?_|refine jjj rfl rfl (by omega) ?_|refine jjk rfl rfl (by omega) ?_) |((first|apply jI|apply jJ|apply jK rfl|apply jL rfl); first|exact eI rfl|exact eB rfl|exact eP rfl|exact eS rfl|exact eT rfl|exact eA rfl|exact eU rfl|exact eF rfl|exact eM rfl|exact eN rfl|exact rfl)|(refine jM ?_; first|refine jN rfl rfl rfl ?_|refine jO rfl rfl rfl rfl ?_|refine jP rfl rfl rfl ?_|refine jQ rfl rfl ?_|refine jR (by assumption) rfl rfl ?_)|(refine jS ?_; first|refine jT rfl rfl rfl ?_|refine jU rfl rfl rfl rfl ?_|refine jV rfl rfl ?_)|(refine jW ?_; first|refine jX rfl rfl ?_|refine jY rfl rfl (by omega) ?_|refine jZ rfl rfl (by omega) ?_|refine ja rfl rfl ?_|refine jb rfl rfl ?_|refine jc rfl rfl ?_|refine jd rfl rfl ?_|refine je rfl rfl ?_|refine jf rfl rfl ?_)|(refine jg ?_; first|refine jh rfl ?_|refine ji rfl ?_|refine jj rfl rfl ?_|refine jk rfl rfl ?_|refine jl rfl ?_)|(refine jm ?_; refine jn rfl ?_)|(refine jo ?_; first|refine jp rfl ?_|refine jq rfl ?_|refine jr rfl ?_|refine js rfl ?_) |(refine jE ?_; first|(refine jF rfl rfl rfl (map_get (by omega)) ?_; intro _ _ _)|refine jG rfl rfl rfl (by omega) ?_)|refine jt rfl rfl rfl (by omega) ?_|refine ju rfl rfl ?_|refine jv ?_|refine jw rfl ?_ |(refine jx ?_; refine jy rfl ?_; intro _ _ _ _ _ hblk; have := At.ofBlock hblk; clear hblk) |refine jz ?_|(refine jjA ?_; first|refine jjB ?_|refine jjC ?_|refine jjD ?_|refine jjE ?_|refine jjF ?_|refine jjG ?_|refine jjH ?_|refine jjI ?_|refine jjJ rfl ?_|refine jjK rfl ?_) |refine jA rfl ⟨⟨_, rfl⟩, ?_⟩|refine jB rfl rfl ⟨inferInstance, ?_⟩|refine jC rfl rfl rfl ⟨inferInstance, ?_⟩|refine jD rfl rfl rfl rfl ⟨inferInstance, ?_⟩|refine jA rfl ⟨inferInstance, ?_⟩)
        refine ⟨rfl, by (repeat' (first|assumption|exact Same.ovN|refine Same.upd rfl ?_|refine Same.putS rfl ?_|refine Same.ovN' rfl ?_|exact Same.refl _ _|exact Same.putN ?_)), q.d.length - (k + 1), by omega, k + 1, v9, rs ++ [(a2, c2, pathK q.d q.C k)], congrArg (Value.int .i64) (by omega), rfl, by omega, by omega, rfl, by rw [List.length_append]; simp only [List.length_cons, List.length_nil]; omega, hEA, hK9, by rw [List.map_append]; exact hO9, ?_, ?_⟩
        · intro x hx
          rcases List.mem_append.1 hx with hx | hx
          · exact hrow x (hOn2.own' ((hRs x hx).ext hS1'.ext) (((hRs x hx).ext hS1'.ext).blockM hm1))
          · have : x = (a2, c2, pathK q.d q.C k) := by simpa using hx
            subst this
            exact hrow (a2, c2, pathK q.d q.C k) hR2
        · rw [hS1 k hik hkl, if_pos hh, List.map_append, hrs]; rfl
      · have hh : ¬ gd q.d i ≤ gd q.d k := by rw [g1, g2]; assumption
        refine ⟨rfl, by (repeat' (first|assumption|exact Same.ovN|refine Same.upd rfl ?_|refine Same.putS rfl ?_|refine Same.ovN' rfl ?_|exact Same.refl _ _|exact Same.putN ?_)), q.d.length - (k + 1), by omega, k + 1, v, rs, congrArg (Value.int .i64) (by omega), rfl, by omega, by omega, rfl, by omega, hOn1, hK1, hO.ext hS1'.ext, fun x hx => (hRs x hx).ext hS1'.ext, ?_⟩
        rw [hS1 k hik hkl, if_neg hh, List.append_nil]; exact hrs
    · obtain rfl : k = q.d.length := by omega
      obtain ⟨m', hm', hok'⟩ := hKk.km
      have hil : ∀ x ∈ rs, x.2.2.length ≤ 1000 := by
        intro x hx
        have h1 : x.2.2 ∈ rs.map (·.2.2) := List.mem_map.2 ⟨x, hx, rfl⟩
        rw [hrs, List.mem_cons] at h1
        rcases h1 with h1 | h1
        · rw [h1]; simp
        · obtain ⟨j, hj, h2⟩ := List.mem_map.1 h1
          have hj2 := (upR_mem.1 (List.mem_filter.1 hj).1).2
          have h3 := pathK_len hb j hj2
          have h4 := hb.le j hj2
          rw [← h2]; omega
      have hne : rs ≠ [] := by rintro rfl; simp at hrs
      obtain ⟨av, cv, rfl⟩ := hO.slice
      rw [List.length_map] at hO
      rw [List.length_map]
      repeat' (first |(refine jW ?_; first|refine jjZ rfl rfl (by omega) ?_|refine jja rfl rfl (by omega) ?_|refine jjb rfl rfl (by omega) ?_|refine jjc rfl rfl (by omega) ?_|refine jjd rfl rfl (by omega) ?_|refine jje rfl rfl (by omega) ?_|refine jjf rfl rfl (by omega) ?_|refine jjg rfl rfl (by omega) ?_|refine jjh rfl rfl (by omega) ?_|refine jji rfl rfl (by omega) ?_|refine jjj rfl rfl (by omega) ?_|refine jjk rfl rfl (by omega) ?_) |((first|apply jI|apply jJ|apply jK rfl|apply jL rfl); first|exact eI rfl|exact eB rfl|exact eP rfl|exact eS rfl|exact eT rfl|exact eA rfl|exact eU rfl|exact eF rfl|exact eM rfl|exact eN rfl|exact rfl)|(refine jM ?_; first|refine jN rfl rfl rfl ?_|refine jO rfl rfl rfl rfl ?_|refine jP rfl rfl rfl ?_|refine jQ rfl rfl ?_|refine jR (by assumption) rfl rfl ?_)|(refine jS ?_; first|refine jT rfl rfl rfl ?_|refine jU rfl rfl rfl rfl ?_|refine jV rfl rfl ?_)|(refine jW ?_; first|refine jX rfl rfl ?_|refine jY rfl rfl (by omega) ?_|refine jZ rfl rfl (by omega) ?_|refine ja rfl rfl ?_|refine jb rfl rfl ?_|refine jc rfl rfl ?_|refine jd rfl rfl ?_|refine je rfl rfl ?_|refine jf rfl rfl ?_)|(refine jg ?_; first|refine jh rfl ?_|refine ji rfl ?_|refine jj rfl rfl ?_|refine jk rfl rfl ?_|refine jl rfl ?_)|(refine jm ?_; refine jn rfl ?_)|(refine jo ?_; first|refine jp rfl ?_|refine jq rfl ?_|refine jr rfl ?_|refine js rfl ?_) |(refine jE ?_; first|(refine jF rfl rfl rfl (map_get (by omega)) ?_; intro _ _ _)|refine jG rfl rfl rfl (by omega) ?_)|refine jt rfl rfl rfl (by omega) ?_|refine ju rfl rfl ?_|refine jv ?_|refine jw rfl ?_ |(refine jx ?_; refine jy rfl ?_; intro _ _ _ _ _ hblk; have := At.ofBlock hblk; clear hblk) |refine jz ?_|(refine jjA ?_; first|refine jjB ?_|refine jjC ?_|refine jjD ?_|refine jjE ?_|refine jjF ?_|refine jjG ?_|refine jjH ?_|refine jjI ?_|refine jjJ rfl ?_|refine jjK rfl ?_) |refine jA rfl ⟨⟨_, rfl⟩, ?_⟩|refine jB rfl rfl ⟨inferInstance, ?_⟩|refine jC rfl rfl rfl ⟨inferInstance, ?_⟩|refine jD rfl rfl rfl rfl ⟨inferInstance, ?_⟩|refine jA rfl ⟨inferInstance, ?_⟩)
      refine W.draw (fun wq => Only q.kmb w' wq) ?_
      intro w1 hS1'
      have hO1 : Only q.kmb w' w1 := .ofExt hS1'.ext
      refine jjV [0, 1, 2, 4, 5] (by decide +kernel) hO1 ?_
      ((repeat' (first|(apply jjT; exact rfl)|rintro wq hq; have := hq.atM hm' hKk.kn; have := hq.atM hm' hKk.lg; |((first|apply jI|apply jJ|apply jK rfl|apply jL rfl); first|exact eI rfl|exact eB rfl|exact eP rfl|exact eS rfl|exact eT rfl|exact eA rfl|exact eU rfl|exact eF rfl|exact eM rfl|exact eN rfl|exact rfl)|(refine jM ?_; first|refine jN rfl rfl rfl ?_|refine jO rfl rfl rfl rfl ?_|refine jP rfl rfl rfl ?_|refine jQ rfl rfl ?_|refine jR (by assumption) rfl rfl ?_)|(refine jS ?_; first|refine jT rfl rfl rfl ?_|refine jU rfl rfl rfl rfl ?_|refine jV rfl rfl ?_)|(refine jW ?_; first|refine jX rfl rfl ?_|refine jY rfl rfl (by omega) ?_|refine jZ rfl rfl (by omega) ?_|refine ja rfl rfl ?_|refine jb rfl rfl ?_|refine jc rfl rfl ?_|refine jd rfl rfl ?_|refine je rfl rfl ?_|refine jf rfl rfl ?_)|(refine jg ?_; first|refine jh rfl ?_|refine ji rfl ?_|refine jj rfl rfl ?_|refine jk rfl rfl ?_|refine jl rfl ?_)|(refine jm ?_; refine jn rfl ?_)|(refine jo ?_; first|refine jp rfl ?_|refine jq rfl ?_|refine jr rfl ?_|refine js rfl ?_) |(refine jE ?_; first|refine jG rfl rfl rfl (by omega) ?_|refine jG rfl rfl (by assumption) (by omega) ?_|refine jH _ rfl rfl rfl (by omega) ?_)|refine jt rfl rfl rfl (by omega) ?_|refine ju rfl rfl ?_|refine jv ?_|refine jw rfl ?_|refine jz ?_|exact ⟨rfl, rfl⟩|refine jjU ?_)))
      have z1 := hS1'.size
      refine jjl 3 6 (by decide +kernel) rfl rfl hO1 ?b1 ?b2
      case b1 =>
        (refine jjP (v := .int _ _) rfl (by exact rfl) (by exact rfl) (by exact rfl) (by exact rfl) ?_; intro b8 w_b8 hb_b8 hs_b8 hS_b8 hk_b8; have hR_b8 := RowV.one (agg := false) (k := 1) rfl hk_b8)
        have z8 := hS_b8.size
        refine jz ?_
        have hE18 : Ext w' w_b8 := hS1'.ext.trans hS_b8.ext
        apply jjW 6 (by decide +kernel) rfl (Only.ofExt hE18)
        have i1 : RowI w_b8 (.slice av rs.length cv) false 1 (rs.map encW) := ⟨(hO.ext hE18).row⟩
        have i2 : RowsI w_b8 rs := ⟨fun x hx => ((hRs x hx).ext hE18).row⟩
        refine jjQ (first_rack av cv rs _ (by omega) hne (fun x hx => by have := hil x hx; omega)) rfl rfl ?_
        rintro _ w3 hS3 ⟨x, hx, rfl, hxe⟩
        refine jz ?_
        have hE8 : Ext w' w3 := hE18.trans hS3.ext
        have z3 := hE8.size
        apply jjW 7 (by decide +kernel) rfl (Only.ofExt hE8)
        have hO8 := (OwnL.one (agg := false) (k := 1) (B := w'.heap.size) rfl (by omega) hk_b8).ext hS3.ext
        have hRx := ((hRs x hx).ext hE8).row
        have hLn : ([Value.int .i64 (i : Int)] ++ x.2.2.map intV) = (pathK q.d q.C i).map intV := by rw [pathK_first hb hi, hxe, hrs]; rfl
        have hxl : x.2.2.length ≤ 1000 := hil x hx
        refine Ops.appendL hO8 (by omega) hRx rfl rfl rfl rfl (all_ints' _) ?_ ?_ ?_
        · simp only [List.length_map, List.length_cons, List.length_nil]; omega
        · simp only [List.length_map, List.length_cons, List.length_nil]; omega
        intro v9 w9 hA9 hO9 _ _
        rw [hLn] at hO9
        obtain ⟨a9, c9, e9⟩ := hO9.slice
        rw [List.length_map] at e9
        subst e9
        refine jz ?_
        have hE9 : Ext w' w9 := hA9.ext hE8 (Nat.le_refl _)
        have hm9 := hm'.ext hE9
        apply jjW 8 (by decide +kernel) rfl (Only.ofExt hE9)
        refine Ops.mapUpdate hm9 rfl rfl rfl ?_
        intro w10 o10 hp10 hm10
        refine jz ?_
        have hO10 : Only q.kmb w' w10 := (Only.ofExt hE9).trans (.ofPut hp10)
        refine jjX (by decide +kernel) hO10 ?_
        have hP10 : IsP q w10 i (.slice a9 (pathK q.d q.C i).length c9) := ⟨a9, c9, rfl, (Only.ofPut hp10).own' (hO9.mono (Nat.zero_le _)) (hO9.blockM hm9)⟩
        have hK10 : KV q w10 := hKk.only hO10 (by
          refine ⟨_, hm10, fun n u hu => ?_⟩
          by_cases hn : n = (i : Int)
          · subst hn
            rw [mget_set_same] at hu
            obtain rfl := Option.some.inj hu
            exact ⟨i, rfl, hi, hP10⟩
          · rw [mget_set_other _ _ hn] at hu
            obtain ⟨k', h1, h2, h3⟩ := hok' n u hu
            exact ⟨k', h1, h2, h3.only hm' hO10⟩)
        have hkn10 := hK10.kn
        repeat' (first |((first|apply jI|apply jJ|apply jK rfl|apply jL rfl); first|exact eI rfl|exact eB rfl|exact eP rfl|exact eS rfl|exact eT rfl|exact eA rfl|exact eU rfl|exact eF rfl|exact eM rfl|exact eN rfl|exact rfl)|(refine jM ?_; first|refine jN rfl rfl rfl ?_|refine jO rfl rfl rfl rfl ?_|refine jP rfl rfl rfl ?_|refine jQ rfl rfl ?_|refine jR (by assumption) rfl rfl ?_)|(refine jS ?_; first|refine jT rfl rfl rfl ?_|refine jU rfl rfl rfl rfl ?_|refine jV rfl rfl ?_)|(refine jW ?_; first|refine jX rfl rfl ?_|refine jY rfl rfl (by omega) ?_|refine jZ rfl rfl (by omega) ?_|refine ja rfl rfl ?_|refine jb rfl rfl ?_|refine jc rfl rfl ?_|refine jd rfl rfl ?_|refine je rfl rfl ?_|refine jf rfl rfl ?_)|(refine jg ?_; first|refine jh rfl ?_|refine ji rfl ?_|refine jj rfl rfl ?_|refine jk rfl rfl ?_|refine jl rfl ?_)|(refine jm ?_; refine jn rfl ?_)|(refine jo ?_; first|refine jp rfl ?_|refine jq rfl ?_|refine jr rfl ?_|refine js rfl ?_) |(refine jE ?_; first|(refine jF rfl rfl rfl (map_get (by omega)) ?_; intro _ _ _)|refine jG rfl rfl rfl (by omega) ?_)|refine jt rfl rfl rfl (by omega) ?_|refine ju rfl rfl ?_|refine jv ?_|refine jw rfl ?_ |refine jz ?_|(refine jjA ?_; first|refine jjB ?_|refine jjC ?_|refine jjD ?_|refine jjE ?_|refine jjF ?_|refine jjG ?_|refine jjH ?_|refine jjI ?_|refine jjJ rfl ?_|refine jjK rfl ?_) |refine jA rfl ⟨⟨_, rfl⟩, ?_⟩|refine jB rfl rfl ⟨inferInstance, ?_⟩|refine jC rfl rfl rfl ⟨inferInstance, ?_⟩|refine jD rfl rfl rfl rfl ⟨inferInstance, ?_⟩|refine jA rfl ⟨inferInstance, ?_⟩)
        refine Ops.lookup hm10 rfl rfl ?_
        rw [mget_set_same]
        repeat' (first |((first|apply jI|apply jJ|apply jK rfl|apply jL rfl); first|exact eI rfl|exact eB rfl|exact eP rfl|exact eS rfl|exact eT rfl|exact eA rfl|exact eU rfl|exact eF rfl|exact eM rfl|exact eN rfl|exact rfl)|(refine jM ?_; first|refine jN rfl rfl rfl ?_|refine jO rfl rfl rfl rfl ?_|refine jP rfl rfl rfl ?_|refine jQ rfl rfl ?_|refine jR (by assumption) rfl rfl ?_)|(refine jS ?_; first|refine jT rfl rfl rfl ?_|refine jU rfl rfl rfl rfl ?_|refine jV rfl rfl ?_)|(refine jW ?_; first|refine jX rfl rfl ?_|refine jY rfl rfl (by omega) ?_|refine jZ rfl rfl (by omega) ?_|refine ja rfl rfl ?_|refine jb rfl rfl ?_|refine jc rfl rfl ?_|refine jd rfl rfl ?_|refine je rfl rfl ?_|refine jf rfl rfl ?_)|(refine jg ?_; first|refine jh rfl ?_|refine ji rfl ?_|refine jj rfl rfl ?_|refine jk rfl rfl ?_|refine jl rfl ?_)|(refine jm ?_; refine jn rfl ?_)|(refine jo ?_; first|refine jp rfl ?_|refine jq rfl ?_|refine jr rfl ?_|refine js rfl ?_) |(refine jE ?_; first|(refine jF rfl rfl rfl (map_get (by omega)) ?_; intro _ _ _)|refine jG rfl rfl rfl (by omega) ?_)|refine jt rfl rfl rfl (by omega) ?_|refine ju rfl rfl ?_|refine jv ?_|refine jw rfl ?_ |refine jz ?_|(refine jjA ?_; first|refine jjB ?_|refine jjC ?_|refine jjD ?_|refine jjE ?_|refine jjF ?_|refine jjG ?_|refine jjH ?_|refine jjI ?_|refine jjJ rfl ?_|refine jjK rfl ?_) |refine jA rfl ⟨⟨_, rfl⟩, ?_⟩|refine jB rfl rfl ⟨inferInstance, ?_⟩|refine jC rfl rfl rfl ⟨inferInstance, ?_⟩|refine jD rfl rfl rfl rfl ⟨inferInstance, ?_⟩|refine jA rfl ⟨inferInstance, ?_⟩)
        exact jB rfl rfl ⟨_, rfl, hP10, hOn.trans hO10, hK10⟩
      case b2 =>
        have i1 : RowI w1 (.slice av rs.length cv) false 1 (rs.map encW) := ⟨(hO.ext hS1'.ext).row⟩
        have i2 : RowsI w1 rs := ⟨fun x hx => ((hRs x hx).ext hS1'.ext).row⟩
        refine jjQ (first_rack av cv rs _ (by omega) hne (fun x hx => by have := hil x hx; omega)) rfl rfl ?_
        rintro _ w3 hS3 ⟨x, hx, rfl, hxe⟩
        refine jz ?_
        have hE13 : Ext w' w3 := hS1'.ext.trans hS3.ext
        have z3 := hE13.size
        apply jjW 3 (by decide +kernel) rfl (Only.ofExt hE13)
        (refine jjP (v := .int _ _) rfl (by exact rfl) (by exact rfl) (by exact rfl) (by exact rfl) ?_; intro b8 w_b8 hb_b8 hs_b8 hS_b8 hk_b8; have hR_b8 := RowV.one (agg := false) (k := 1) rfl hk_b8)
        have z8 := hS_b8.size
        refine jz ?_
        have hE8 : Ext w' w_b8 := hE13.trans hS_b8.ext
        apply jjW 7 (by decide +kernel) rfl (Only.ofExt hE8)
        have hO8 := OwnL.one (agg := false) (k := 1) (B := w'.heap.size) rfl (by omega) hk_b8
        have hRx := ((hRs x hx).ext hE8).row
        have hLn : ([Value.int .i64 (i : Int)] ++ x.2.2.map intV) = (pathK q.d q.C i).map intV := by rw [pathK_first hb hi, hxe, hrs]; rfl
        have hxl : x.2.2.length ≤ 1000 := hil x hx
        refine Ops.appendL hO8 (by omega) hRx rfl rfl rfl rfl (all_ints' _) ?_ ?_ ?_
        · simp only [List.length_map, List.length_cons, List.length_nil]; omega
        · simp only [List.length_map, List.length_cons, List.length_nil]; omega
        intro v9 w9 hA9 hO9 _ _
        rw [hLn] at hO9
        obtain ⟨a9, c9, e9⟩ := hO9.slice
        rw [List.length_map] at e9
        subst e9
        refine jz ?_
        have hE9 : Ext w' w9 := hA9.ext hE8 (Nat.le_refl _)
        have hm9 := hm'.ext hE9
        apply jjW 8 (by decide +kernel) rfl (Only.ofExt hE9)
        refine Ops.mapUpdate hm9 rfl rfl rfl ?_
        intro w10 o10 hp10 hm10
        refine jz ?_
        have hO10 : Only q.kmb w' w10 := (Only.ofExt hE9).trans (.ofPut hp10)
        refine jjX (by decide +kernel) hO10 ?_
        have hP10 : IsP q w10 i (.slice a9 (pathK q.d q.C i).length c9) := ⟨a9, c9, rfl, (Only.ofPut hp10).own' (hO9.mono (Nat.zero_le _)) (hO9.blockM hm9)⟩
        have hK10 : KV q w10 := hKk.only hO10 (by
          refine ⟨_, hm10, fun n u hu => ?_⟩
          by_cases hn : n = (i : Int)
          · subst hn
            rw [mget_set_same] at hu
            obtain rfl := Option.some.inj hu
            exact ⟨i, rfl, hi, hP10⟩
          · rw [mget_set_other _ _ hn] at hu
            obtain ⟨k', h1, h2, h3⟩ := hok' n u hu
            exact ⟨k', h1, h2, h3.only hm' hO10⟩)
        have hkn10 := hK10.kn
        repeat' (first |((first|apply jI|apply jJ|apply jK rfl|apply jL rfl); first|exact eI rfl|exact eB rfl|exact eP rfl|exact eS rfl|exact eT rfl|exact eA rfl|exact eU rfl|exact eF rfl|exact eM rfl|exact eN rfl|exact rfl)|(refine jM ?_; first|refine jN rfl rfl rfl ?_|refine jO rfl rfl rfl rfl ?_|refine jP rfl rfl rfl ?_|refine jQ rfl rfl ?_|refine jR (by assumption) rfl rfl ?_)|(refine jS ?_; first|refine jT rfl rfl rfl ?_|refine jU rfl rfl rfl rfl ?_|refine jV rfl rfl ?_)|(refine jW ?_; first|refine jX rfl rfl ?_|refine jY rfl rfl (by omega) ?_|refine jZ rfl rfl (by omega) ?_|refine ja rfl rfl ?_|refine jb rfl rfl ?_|refine jc rfl rfl ?_|refine jd rfl rfl ?_|refine je rfl rfl ?_|refine jf rfl rfl ?_)|(refine jg ?_; first|refine jh rfl ?_|refine ji rfl ?_|refine jj rfl rfl ?_|refine jk rfl rfl ?_|refine jl rfl ?_)|(refine jm ?_; refine jn rfl ?_)|(refine jo ?_; first|refine jp rfl ?_|refine jq rfl ?_|refine jr rfl ?_|refine js rfl ?_) |(refine jE ?_; first|(refine jF rfl rfl rfl (map_get (by omega)) ?_; intro _ _ _)|refine jG rfl rfl rfl (by omega) ?_)|refine jt rfl rfl rfl (by omega) ?_|refine ju rfl rfl ?_|refine jv ?_|refine jw rfl ?_ |refine jz ?_|(refine jjA ?_; first|refine jjB ?_|refine jjC ?_|refine jjD ?_|refine jjE ?_|refine jjF ?_|refine jjG ?_|refine jjH ?_|refine jjI ?_|refine jjJ rfl ?_|refine jjK rfl ?_) |refine jA rfl ⟨⟨_, rfl⟩, ?_⟩|refine jB rfl rfl ⟨inferInstance, ?_⟩|refine jC rfl rfl rfl ⟨inferInstance, ?_⟩|refine jD rfl rfl rfl rfl ⟨inferInstance, ?_⟩|refine jA rfl ⟨inferInstance, ?_⟩)
        refine Ops.lookup hm10 rfl rfl ?_
        rw [mget_set_same]
        repeat' (first |((first|apply jI|apply jJ|apply jK rfl|apply jL rfl); first|exact eI rfl|exact eB rfl|exact eP rfl|exact eS rfl|exact eT rfl|exact eA rfl|exact eU rfl|exact eF rfl|exact eM rfl|exact eN rfl|exact rfl)|(refine jM ?_; first|refine jN rfl rfl rfl ?_|refine jO rfl rfl rfl rfl ?_|refine jP rfl rfl rfl ?_|refine jQ rfl rfl ?_|refine jR (by assumption) rfl rfl ?_)|(refine jS ?_; first|refine jT rfl rfl rfl ?_|refine jU rfl rfl rfl rfl ?_|refine jV rfl rfl ?_)|(refine jW ?_; first|refine jX rfl rfl ?_|refine jY rfl rfl (by omega) ?_|refine jZ rfl rfl (by omega) ?_|refine ja rfl rfl ?_|refine jb rfl rfl ?_|refine jc rfl rfl ?_|refine jd rfl rfl ?_|refine je rfl rfl ?_|refine jf rfl rfl ?_)|(refine jg ?_; first|refine jh rfl ?_|refine ji rfl ?_|refine jj rfl rfl ?_|refine jk rfl rfl ?_|refine jl rfl ?_)|(refine jm ?_; refine jn rfl ?_)|(refine jo ?_; first|refine jp rfl ?_|refine jq rfl ?_|refine jr rfl ?_|refine js rfl ?_) |(refine jE ?_; first|(refine jF rfl rfl rfl (map_get (by omega)) ?_; intro _ _ _)|refine jG rfl rfl rfl (by omega) ?_)|refine jt rfl rfl rfl (by omega) ?_|refine ju rfl rfl ?_|refine jv ?_|refine jw rfl ?_ |refine jz ?_|(refine jjA ?_; first|refine jjB ?_|refine jjC ?_|refine jjD ?_|refine jjE ?_|refine jjF ?_|refine jjG ?_|refine jjH ?_|refine jjI ?_|refine jjJ rfl ?_|refine jjK rfl ?_) |refine jA rfl ⟨⟨_, rfl⟩, ?_⟩|refine jB rfl rfl ⟨inferInstance, ?_⟩|refine jC rfl rfl rfl ⟨inferInstance, ?_⟩|refine jD rfl rfl rfl rfl ⟨inferInstance, ?_⟩|refine jA rfl ⟨inferInstance, ?_⟩)
        exact jB rfl rfl ⟨_, rfl, hP10, hOn.trans hO10, hK10⟩
end Go.Proofs.Ytcelhpbcdpefnaa
