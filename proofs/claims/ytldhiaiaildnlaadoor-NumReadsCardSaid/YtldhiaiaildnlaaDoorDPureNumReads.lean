/- Texts of the claim: PureNumReads. -/
import Derived.Test.YtldhiaiaildnlaaDoorDQx36
import Derived.Test.YtldhiaiaildnlaaDoorDNz
import Derived.Test.YtldhiaiaildnlaaDoorDNy
namespace Go.Proofs.YtldhiaiaildnlaaDoor.Pure
set_option linter.unusedVariables false
open Go Go.RowKit Go.Proofs.YtldhiaiaildnlaaDoor.Nm Go.Proofs.YtldhiaiaildnlaaDoor.Q Go.Proofs.YtldhiaiaildnlaaDoorW.PrintWords Go.Proofs.YtldhiaiaildnlaaDoorW.PrintLast Go.Proofs.YtldhiaiaildnlaaDoorW.PrintMore
theorem NumReads : chisellaw04_NumReads.Pure := by
  intro a _
  refine Y.any ?_
  unfold chisellaw04_NumReads.f
  refine Y.ite (fun _ => works_b) (fun h => Y.bind (Parse_y (by omega)) fun r hr => Y.bind (rParse_y a) fun s hs => Y.pos (hr.same hs).1 (Y.pos (hr.same hs).2 (Y.bind (IsInt_y (by omega)) fun t ht => Y.bind (rIsInt_y a) fun u hu => ?_)))
  rw [ht, hu]
  exact Y.pos (beq_self_eq_true _) works_b
end Go.Proofs.YtldhiaiaildnlaaDoor.Pure
