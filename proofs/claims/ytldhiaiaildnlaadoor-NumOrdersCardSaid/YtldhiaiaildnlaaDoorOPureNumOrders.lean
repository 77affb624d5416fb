/- Texts of the claim: PureNumOrders. -/
import Derived.Test.YtldhiaiaildnlaaDoorOQx51
import Derived.Test.YtldhiaiaildnlaaDoorONlong
import Derived.Test.YtldhiaiaildnlaaDoorONy
namespace Go.Proofs.YtldhiaiaildnlaaDoor.Pure
set_option linter.unusedVariables false
open Go Go.RowKit Go.Proofs.YtldhiaiaildnlaaDoor.Nm Go.Proofs.YtldhiaiaildnlaaDoor.Q Go.Proofs.YtldhiaiaildnlaaDoorW.PrintWords Go.Proofs.YtldhiaiaildnlaaDoorW.PrintLast Go.Proofs.YtldhiaiaildnlaaDoorW.PrintMore
theorem NumOrders : chisellaw04_NumOrders.Pure := by
  intro a b _ _
  refine Y.any ?_
  unfold chisellaw04_NumOrders.f
  refine law_y fun ha hb => Y.bind (Cmp_y (by omega) (by omega)) fun r hr => Y.bind (rCmp_y a b) fun s hs => ?_
  rw [hr, hs]
  exact Y.pos rfl (Y.pos rfl works_b)
end Go.Proofs.YtldhiaiaildnlaaDoor.Pure
