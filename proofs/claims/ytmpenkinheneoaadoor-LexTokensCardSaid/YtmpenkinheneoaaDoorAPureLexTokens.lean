/- Texts of the claim: PureLexTokens. -/
import Derived.Test.YtmpenkinheneoaaDoorAQx27
import Derived.Test.YtmpenkinheneoaaDoorALxS
namespace Go.Proofs.YtmpenkinheneoaaDoor.Pure
set_option linter.unusedVariables false
open Go Go.RowKit Go.Proofs.YtmpenkinheneoaaDoor.Plain Go.Proofs.YtmpenkinheneoaaDoor.HPure Go.Proofs.YtmpenkinheneoaaDoor.Q Go.Proofs.YtmpenkinheneoaaDoorW.PrintWords Go.Proofs.YtmpenkinheneoaaDoorW.PrintLast
theorem LexTokens : chisellaw14_LexTokens.Pure := by
  intro s hs
  refine ⟨8000, ?_⟩
  unfold chisellaw14_LexTokens.f
  rw [works_f 8000 (by decide), Option.bind_some]
  by_cases hz : (s.size : Int) > 2000
  · rw [if_pos hz]
  · have hlen := ans_len s
    rw [if_neg hz, tokens_f s (by omega), Option.bind_some, rtokens_f s (by omega) 8000 (by omega), Option.bind_some]
    simp only
    rw [if_pos trivial, if_pos trivial, given_f _ _ (by omega) (by omega), Option.bind_some, equal_f _ _ (by simp; omega) (by simp; omega), Option.bind_some, if_pos rfl]
end Go.Proofs.YtmpenkinheneoaaDoor.Pure
