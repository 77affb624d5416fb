/- Texts of the claim: PureNumLaws. -/
import Derived.Test.YtldhiaiaildnlaaDoorBQx43
import Derived.Test.YtldhiaiaildnlaaDoorBNlong
namespace Go.Proofs.YtldhiaiaildnlaaDoor.Pure
set_option linter.unusedVariables false
open Go Go.RowKit Go.Proofs.YtldhiaiaildnlaaDoor.Nm Go.Proofs.YtldhiaiaildnlaaDoor.Q Go.Proofs.YtldhiaiaildnlaaDoorW.PrintWords Go.Proofs.YtldhiaiaildnlaaDoorW.PrintLast Go.Proofs.YtldhiaiaildnlaaDoorW.PrintMore
theorem good_add (a b : List UInt8) : Nm.Good (addS a b) := good_two (fun x y => good_res _) a b
theorem laws_j1 {a : ByteArray} (ha : a.size ≤ 300) : Y (fun k => chisellaw04_NumLaws.j1 k a) (fun t => t = true) := by
  refine Y.succ ?_
  simp only [chisellaw04_NumLaws.j1]
  refine Y.bind (Neg_y (by omega)) fun r hr => ?_
  have hs := hr.size (good_sub _ _)
  rcases neg_neg (dl a) with h | ⟨h1, h2⟩
  · rw [h] at hr
    have e : r.2 = 1 := hr.2
    exact Y.neg (by rw [e]; decide) (Y.pos e works_b)
  · refine Y.pos (by rw [hr.2]; exact h1) (Y.bind (Neg_y (by omega)) fun s hs => ?_)
    rw [hr.1, h2] at hs
    exact Y.pos hs.2 (Y.pos (by rw [dl_toList, dl_toList]; exact hs.1) works_b)
theorem NumLaws : chisellaw04_NumLaws.Pure := by
  intro a b _ _
  refine Y.any ?_
  unfold chisellaw04_NumLaws.f
  refine law_y fun ha hb => Y.bind (Add_y (by omega) (by omega)) fun r1 h1 => Y.bind (Add_y (by omega) (by omega)) fun r2 h2 => Y.bind (Mul_y (by omega) (by omega)) fun r3 h3 => Y.bind (Mul_y (by omega) (by omega)) fun r4 h4 => ?_
  rw [add_comm] at h2
  rw [mul_comm] at h4
  refine Y.pos (h1.same h2).1 (Y.pos (h1.same h2).2 (Y.pos (h3.same h4).1 ?_))
  rw [(h3.same h4).2]
  refine Y.succ ?_
  simp only [chisellaw04_NumLaws.j0]
  have hz := h1.size (good_add _ _)
  refine Y.neg (by simp) (Y.ite (fun h0 => Y.bind (Sub_y (by omega) (by omega)) fun s hs => ?_) (fun _ => laws_j1 ha))
  rw [h1.2] at h0
  rw [h1.1, sub_add _ _ h0] at hs
  exact Y.pos hs.2 (Y.pos (by rw [dl_toList, dl_toList]; exact hs.1) (laws_j1 ha))
end Go.Proofs.YtldhiaiaildnlaaDoor.Pure
