/- Texts of the claim: Ns. -/
import Derived.Test.YtldhiaiaildnlaaDoorONr
import Derived.Test.YtldhiaiaildnlaaDoorONl
import Derived.Test.YtldhiaiaildnlaaDoorOQx0
import Derived.Test.YtldhiaiaildnlaaDoorOQx30
import Derived.Test.YtldhiaiaildnlaaDoorOQx32
import Derived.Test.YtldhiaiaildnlaaDoorOQx29
import Derived.Test.YtldhiaiaildnlaaDoorOQx35
import Derived.Test.YtldhiaiaildnlaaDoorOQx27
import Derived.Test.YtldhiaiaildnlaaDoorOQx11
import Derived.Test.YtldhiaiaildnlaaDoorOQx21
import Derived.Test.YtldhiaiaildnlaaDoorOQx31
import Derived.Test.YtldhiaiaildnlaaDoorOQx51
namespace Go.Proofs.YtldhiaiaildnlaaDoor.Nm
set_option linter.unusedVariables false
open Go Go.RowKit Go.Proofs.YtldhiaiaildnlaaDoor.Q Go.Proofs.YtldhiaiaildnlaaDoorW.PrintWords Go.Proofs.YtldhiaiaildnlaaDoorW.PrintLast Go.Proofs.YtldhiaiaildnlaaDoorW.PrintMore
theorem two_f {k : Nat} {a b : ByteArray} {r : Bool × List Int × Bool × List Int × Bool} (h : chiselref04_two.f k a b = some r) :
    (r.2.2.2.2 = false ∧ ∀ {α : Type} (z : α) (f : Bool × Nat → Bool × Nat → α), two z f (dl a) (dl b) = z) ∨
    (∃ x y, r = (x.1, dg x.2, y.1, dg y.2, true) ∧ Fine x ∧ Fine y ∧ can (dl a) = some x ∧ can (dl b) = some y ∧ ∀ {α : Type} (z : α) (f : Bool × Nat → Bool × Nat → α), two z f (dl a) (dl b) = f x y) := by
  unfold chiselref04_two.f at h
  obtain ⟨t, h1, h⟩ := bindE h
  obtain ⟨u, h2, h⟩ := bindE h
  have ht := rcanonical_f h1
  have hu := rcanonical_f h2
  unfold rcanP at ht hu
  cases hca : can (dl a) with
  | none =>
    rw [hca] at ht
    rw [ht, if_neg (by decide)] at h
    refine .inl ⟨by rw [← someE h], fun z f => two_none z f (.inl hca)⟩
  | some x =>
    rw [hca] at ht
    rw [ht, if_pos rfl] at h
    cases hcb : can (dl b) with
    | none =>
      rw [hcb] at hu
      rw [hu] at h
      refine .inl ⟨by rw [← someE h], fun z f => two_none z f (.inr hcb)⟩
    | some y =>
      rw [hcb] at hu
      rw [hu] at h
      exact .inr ⟨x, y, (someE h).symm, (can_is hca).2, (can_is hcb).2, rfl, rfl, fun z f => two_some z f hca hcb⟩
theorem dlen {n m : Nat} (h : n < 10 ^ m) (hm : m ≤ 250) : (dg n).length ≤ 250 := Nat.le_trans (dg_len.mp h) hm
end Go.Proofs.YtldhiaiaildnlaaDoor.Nm
