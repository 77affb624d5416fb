/- Texts of the claim: PureNumRounds. -/
import Derived.Test.YtldhiaiaildnlaaDoorRQx33
import Derived.Test.YtldhiaiaildnlaaDoorRNlong
import Derived.Test.YtldhiaiaildnlaaDoorRNy
namespace Go.Proofs.YtldhiaiaildnlaaDoor.Pure
set_option linter.unusedVariables false
open Go Go.RowKit Go.Proofs.YtldhiaiaildnlaaDoor.Nm Go.Proofs.YtldhiaiaildnlaaDoor.Q Go.Proofs.YtldhiaiaildnlaaDoorW.PrintWords Go.Proofs.YtldhiaiaildnlaaDoorW.PrintLast Go.Proofs.YtldhiaiaildnlaaDoorW.PrintMore
theorem NumRounds : chisellaw04_NumRounds.Pure := by
  intro a d p _ _ _
  refine Y.any ?_
  unfold chisellaw04_NumRounds.f
  exact law_y fun ha hb => Y.bind (Round_y (by omega)) fun r hr => Y.bind (rRound_y a p d) fun s hs => Y.pos (hr.same hs).1 (Y.pos (hr.same hs).2 works_b)
end Go.Proofs.YtldhiaiaildnlaaDoor.Pure
