/- Texts of the claim: PureNumSums. -/
import Derived.Test.YtldhiaiaildnlaaGreatDoorSNlong
import Derived.Test.YtldhiaiaildnlaaGreatDoorSNsum
namespace Go.Proofs.YtldhiaiaildnlaaGreatDoor.Pure
set_option linter.unusedVariables false
open Go Go.RowKit Go.Proofs.YtldhiaiaildnlaaGreatDoor.Nm Go.Proofs.YtldhiaiaildnlaaGreatDoor.Q Go.Proofs.YtldhiaiaildnlaaGreatDoorW.PrintWords Go.Proofs.YtldhiaiaildnlaaGreatDoorW.PrintLast Go.Proofs.YtldhiaiaildnlaaGreatDoorW.PrintMore
theorem NumSums : yM.Pure := by
 intro a b _ _
 refine Y.any ?_
 unfold yM.f
 refine law_y fun ha hb => Y.bind (Add_y (by omega) (by omega)) fun r1 h1 => Y.bind (rAdd_y a b) fun s1 g1 => Y.bind (Sub_y (by omega) (by omega)) fun r2 h2 => Y.bind (rSub_y a b) fun s2 g2 => Y.bind (Mul_y (by omega) (by omega)) fun r3 h3 => Y.bind (rMul_y a b) fun s3 g3 => Y.bind (Neg_y (by omega)) fun r4 h4 => Y.bind (rNeg_y a) fun s4 g4 => ?_
 exact Y.pos (h1.same g1).1 (Y.pos (h1.same g1).2 (Y.pos (h2.same g2).1 (Y.pos (h2.same g2).2 (Y.pos (h3.same g3).1 (Y.pos (h3.same g3).2 (Y.pos (h4.same g4).1 (Y.pos (h4.same g4).2 zd4)))))))
end Go.Proofs.YtldhiaiaildnlaaGreatDoor.Pure
