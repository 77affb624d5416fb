/- Texts of the claim: PureNumTexts. -/
import Derived.Test.YtldhiaiaildnlaaDoorBQx49
import Derived.Test.YtldhiaiaildnlaaDoorBNlong
namespace Go.Proofs.YtldhiaiaildnlaaDoor.Pure
set_option linter.unusedVariables false
open Go Go.RowKit Go.Proofs.YtldhiaiaildnlaaDoor.Nm Go.Proofs.YtldhiaiaildnlaaDoor.Q Go.Proofs.YtldhiaiaildnlaaDoorW.PrintWords Go.Proofs.YtldhiaiaildnlaaDoorW.PrintLast Go.Proofs.YtldhiaiaildnlaaDoorW.PrintMore
theorem canon_y {r : ByteArray × Int} {x : List UInt8 × Int} (h : Ans r x) (hg : Nm.Good x) : Y (fun k => chisellaw04_canonical.f k r.1 r.2) (fun t => t = true) := by
  unfold chisellaw04_canonical.f
  have hs := h.size hg
  refine Y.ite (fun h0 => Y.bind (Parse_y (by omega)) fun s hs => ?_) (fun h0 => ?_)
  · rw [h.2] at h0
    have hp := parse_good hg h0
    rw [h.1, hp] at hs
    refine Y.pos hs.2 (Y.pure ?_)
    rw [dl_toList, dl_toList, hs.1, h.1]
    exact beq_self_eq_true _
  · rw [h.2] at h0
    rcases hg with ⟨_, hx⟩ | ⟨hx, _⟩
    · refine Y.pure ?_
      rw [dl_toList, h.1, hx]; rfl
    · exact absurd hx h0
theorem NumTexts : chisellaw04_NumTexts.Pure := by
  intro a b d _ _ _
  refine Y.any ?_
  unfold chisellaw04_NumTexts.f
  refine law_y fun ha hb => Y.bind (Parse_y (by omega)) fun r0 h0 => Y.eq (canon_y h0 (good_parse _)) (Y.pos rfl ?_)
  refine Y.bind (Add_y (by omega) (by omega)) fun r1 h1 => Y.bind (Sub_y (by omega) (by omega)) fun r2 h2 => Y.bind (Mul_y (by omega) (by omega)) fun r3 h3 => Y.bind (Div_y (by omega) (by omega)) fun r4 h4 => Y.bind (IDiv_y (by omega) (by omega)) fun r5 h5 => Y.bind (Mod_y (by omega) (by omega)) fun r6 h6 => Y.bind (Round_even_y even_t (by omega)) fun r7 h7 => ?_
  exact Y.eq (canon_y h1 (good_two (fun x y => good_res _) _ _)) (Y.pos rfl (Y.eq (canon_y h2 (good_two (fun x y => good_res _) _ _)) (Y.pos rfl (Y.eq (canon_y h3 (good_two (fun x y => good_res _) _ _)) (Y.pos rfl (Y.eq (canon_y h4 (good_two (fun x y => good_nod (fun x y => good_res _) x y) _ _)) (Y.pos rfl
    (Y.eq (canon_y h5 (good_two (fun x y => good_nod (fun x y => good_res _) x y) _ _)) (Y.pos rfl (Y.eq (canon_y h6 (good_two (fun x y => good_nod (fun x y => good_res _) x y) _ _)) (Y.pos rfl (Y.eq (canon_y h7 (good_round _ _ _)) (Y.pos rfl works_b)))))))))))))
end Go.Proofs.YtldhiaiaildnlaaDoor.Pure
