/- Texts of the claim: PureNumKnown. -/
import Derived.Test.YtldhiaiaildnlaaDoorBQx46
import Derived.Test.YtldhiaiaildnlaaDoorBNz
namespace Go.Proofs.YtldhiaiaildnlaaDoor.Pure
set_option linter.unusedVariables false
open Go Go.RowKit Go.Proofs.YtldhiaiaildnlaaDoor.Nm Go.Proofs.YtldhiaiaildnlaaDoor.Q Go.Proofs.YtldhiaiaildnlaaDoorW.PrintWords Go.Proofs.YtldhiaiaildnlaaDoorW.PrintLast Go.Proofs.YtldhiaiaildnlaaDoorW.PrintMore
theorem up_t : num_ways.f (⟨#[117, 112]⟩ : ByteArray) = none := by
  unfold num_ways.f
  simp only [dl_toList]
  rw [if_neg (by decide), if_neg (by decide), if_neg (by decide), if_neg (by decide), if_neg (by decide)]
theorem known_l0 (X1 X2 : List ByteArray) (X3 : List Int) (l1 : X1.length = 16) (l2 : X2.length = 16) (l3 : X3.length = 16)
    (hp : ∀ i, i < 16 → (X1.getD i ByteArray.empty).size ≤ 1000 ∧ parseS (dl (X1.getD i ByteArray.empty)) = (dl (X2.getD i ByteArray.empty), X3.getD i 0)) :
    ∀ (n i : Nat), 16 = i + n → Y (fun k => chisellaw04_NumKnown.l0 k X1 X2 X3 (i : Int)) (fun t => t = true) := by
  intro n
  induction n with
  | zero =>
    intro i hi
    refine Y.succ ?_
    simp only [chisellaw04_NumKnown.l0]
    refine Y.neg (by omega) ?_
    refine Y.bind (Add_y (by decide) (by decide)) fun r1 h1 => Y.bind (Mul_y (by decide) (by decide)) fun r2 h2 => Y.bind (Div_y (by decide) (by decide)) fun r3 h3 => Y.bind (IDiv_y (by decide) (by decide)) fun r4 h4 => Y.bind (Mod_y (by decide) (by decide)) fun r5 h5 => Y.bind (Round_even_y even_t (by decide)) fun r6 h6 => Y.bind (Round_even_y even_t (by decide)) fun r7 h7 => Y.bind (Round_no_y up_t (by decide)) fun r8 h8 => Y.bind (Add_y (by decide) (by decide)) fun r9 h9 => Y.bind (IDiv_y (by decide) (by decide)) fun r10 h10 => Y.bind (Mod_y (by decide) (by decide)) fun r11 h11 => Y.bind (Round_ceiling_y ceiling_t (by decide)) fun r12 h12 => ?_
    have e1 := h1.is (l := [48, 46, 51]) (e := 0) (by decide +kernel)
    have e2 := h2.is (l := [45, 48, 46, 49, 50, 53]) (e := 0) (by decide +kernel)
    have e3 := h3.is (l := []) (e := 41) (by decide +kernel)
    have e4 := h4.is (l := [45, 51]) (e := 0) (by decide +kernel)
    have e5 := h5.is (l := [45, 49]) (e := 0) (by decide +kernel)
    have e6 := h6.is (l := [49, 50, 48, 48]) (e := 0) (by decide +kernel)
    have e7 := h7.is (l := []) (e := 6) (by decide +kernel)
    have e8 := h8.is (l := []) (e := 1) (by decide +kernel)
    have e9 := h9.is (l := []) (e := 1) (by decide +kernel)
    have e10 := h10.is (l := []) (e := 40) (by decide +kernel)
    have e11 := h11.is (l := [48, 46, 48, 48, 48, 48, 48, 48, 48, 48, 48, 48, 48, 48, 48, 48, 48, 48, 48, 48, 48, 49]) (e := 0) (by decide +kernel)
    have e12 := h12.is (l := []) (e := 40) (by decide +kernel)
    exact Y.pos e1.1 (Y.pos e2.1 (Y.pos e3.2 (Y.pos e4.1 (Y.pos e5.1 (Y.pos e6.1 (Y.pos e7.2 (Y.pos e8.2 (Y.pos e9.2 (Y.pos e10.2 (Y.pos e11.1 (Y.pos e11.2 (Y.pos e12.2 works_b))))))))))))
  | succ n ih =>
    intro i hi
    refine Y.succ ?_
    simp only [chisellaw04_NumKnown.l0]
    rw [w64 (x := (i : Int) + 1) (by omega) (by omega), show (i : Int) + 1 = ((i + 1 : Nat) : Int) from rfl]
    unfold rdOf rd
    rw [Int.toNat_natCast]
    obtain ⟨hs, hv⟩ := hp i (by omega)
    refine Y.pos (by omega) (Y.grd (by omega) (Y.bind (Parse_y (by omega)) fun r hr => ?_))
    have e := hr.is hv
    exact Y.grd (by omega) (Y.pos (by rw [e.1, dl_toList]) (Y.grd (by omega) (Y.pos e.2 (ih (i + 1) (by omega)))))
theorem NumKnown : chisellaw04_NumKnown.Pure := by
  refine Y.any ?_
  unfold chisellaw04_NumKnown.f
  exact known_l0 _ _ _ rfl rfl rfl (by decide +kernel) 16 0 rfl
end Go.Proofs.YtldhiaiaildnlaaDoor.Pure
