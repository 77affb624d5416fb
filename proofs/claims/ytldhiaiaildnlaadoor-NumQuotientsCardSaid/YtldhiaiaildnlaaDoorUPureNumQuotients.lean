/- Texts of the claim: PureNumQuotients. -/
import Derived.Test.YtldhiaiaildnlaaDoorUNlong
import Derived.Test.YtldhiaiaildnlaaDoorUNy
namespace Go.Proofs.YtldhiaiaildnlaaDoor.Pure
set_option linter.unusedVariables false
open Go Go.RowKit Go.Proofs.YtldhiaiaildnlaaDoor.Nm Go.Proofs.YtldhiaiaildnlaaDoor.Q Go.Proofs.YtldhiaiaildnlaaDoorW.PrintWords Go.Proofs.YtldhiaiaildnlaaDoorW.PrintLast Go.Proofs.YtldhiaiaildnlaaDoorW.PrintMore
theorem NumQuotients : yl.Pure := by
 intro a b _ _
 refine Y.any ?_
 unfold yl.f
 refine law_y fun ha hb => Y.bind (Div_y (by omega) (by omega)) fun r1 h1 => Y.bind (rDiv_y a b) fun s1 g1 => Y.bind (IDiv_y (by omega) (by omega)) fun r2 h2 => Y.bind (rIDiv_y a b) fun s2 g2 => Y.bind (Mod_y (by omega) (by omega)) fun r3 h3 => Y.bind (rMod_y a b) fun s3 g3 => ?_
 exact Y.pos (h1.same g1).1 (Y.pos (h1.same g1).2 (Y.pos (h2.same g2).1 (Y.pos (h2.same g2).2 (Y.pos (h3.same g3).1 (Y.pos (h3.same g3).2 zd7)))))
end Go.Proofs.YtldhiaiaildnlaaDoor.Pure
