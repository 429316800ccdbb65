/- within and Word of the reference. -/
import Derived.Test.YtcelhpbcdpefnaaTypes
import Derived.Test.YtcelhpbcdpefnaaData
import Derived.Test.YtcelhpbcdpefnaaEng12
import Derived.Test.YtcelhpbcdpefnaaSpec0
namespace Go.Proofs.Ytcelhpbcdpefnaa
open Go.RowKit

theorem within_postilref06 (n lo hi : Int) (w : World) : Ct Try.prog 67 [.int .i64 n, .int .i64 lo, .int .i64 hi] w fun v _ => v = .bool (inB lo hi n) := by
  refine Ct.ofW (by simp) ?_
  repeat' (first |((first|apply jI|apply jJ|apply jK rfl|apply jL rfl); first|exact eI rfl|exact eB rfl|exact eP rfl|exact eS rfl|exact eT rfl|exact eA rfl|exact eU rfl|exact eF rfl|exact eM rfl|exact eN rfl|exact rfl)|(refine jM ?_; first|refine jN rfl rfl rfl ?_|refine jO rfl rfl rfl rfl ?_|refine jP rfl rfl rfl ?_|refine jQ rfl rfl ?_|refine jR (by assumption) rfl rfl ?_)|(refine jS ?_; first|refine jT rfl rfl rfl ?_|refine jU rfl rfl rfl rfl ?_|refine jV rfl rfl ?_)|(refine jW ?_; first|refine jX rfl rfl ?_|refine jY rfl rfl (by omega) ?_|refine jZ rfl rfl (by omega) ?_|refine ja rfl rfl ?_|refine jb rfl rfl ?_|refine jc rfl rfl ?_|refine jd rfl rfl ?_|refine je rfl rfl ?_|refine jf rfl rfl ?_)|(refine jg ?_; first|refine jh rfl ?_|refine ji rfl ?_|refine jj rfl rfl ?_|refine jk rfl rfl ?_|refine jl rfl ?_)|(refine jm ?_; refine jn rfl ?_)|(refine jo ?_; first|refine jp rfl ?_|refine jq rfl ?_|refine jr rfl ?_|refine js rfl ?_) |(refine jE ?_; first|(refine jF rfl rfl rfl (map_get (by omega)) ?_; intro _ _ _)|refine jG rfl rfl rfl (by omega) ?_)|refine jt rfl rfl rfl (by omega) ?_|refine ju rfl rfl ?_|refine jv ?_|refine jw rfl ?_ |(refine jx ?_; refine jy rfl ?_; intro _ _ _ _ _ hblk; have := At.ofBlock hblk; clear hblk) |refine jz ?_|(refine jjA ?_; first|refine jjB ?_|refine jjC ?_|refine jjD ?_|refine jjE ?_|refine jjF ?_|refine jjG ?_|refine jjH ?_|refine jjI ?_|refine jjJ rfl ?_|refine jjK rfl ?_) |(refine jS ?_; first|(refine jjL rfl rfl ?_ ?_ <;> intro _)|(refine jjM rfl rfl ?_ ?_ <;> intro _))|(refine jjA ?_; first|(refine jjN rfl ?_ ?_ <;> intro _)|(refine jjO rfl ?_ ?_ <;> intro _)) |refine jA rfl ⟨⟨_, rfl⟩, ?_⟩|refine jB rfl rfl ⟨inferInstance, ?_⟩|refine jC rfl rfl rfl ⟨inferInstance, ?_⟩|refine jD rfl rfl rfl rfl ⟨inferInstance, ?_⟩|refine jA rfl ⟨inferInstance, ?_⟩)
  · exact congrArg Value.bool (by simp only [inB, decide_eq_decide]; omega)
  · exact congrArg Value.bool (by simp only [inB, Bool.false_eq, decide_eq_false_iff_not]; omega)

end Go.Proofs.Ytcelhpbcdpefnaa
