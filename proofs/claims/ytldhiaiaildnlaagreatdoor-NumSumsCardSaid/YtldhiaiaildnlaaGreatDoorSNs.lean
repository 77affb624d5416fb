/- Texts of the claim: Ns. -/
import Derived.Test.YtldhiaiaildnlaaGreatDoorSNr
namespace Go.Proofs.YtldhiaiaildnlaaGreatDoor.Nm
set_option linter.unusedVariables false
open Go Go.RowKit Go.Proofs.YtldhiaiaildnlaaGreatDoor.Q Go.Proofs.YtldhiaiaildnlaaGreatDoorW.PrintWords Go.Proofs.YtldhiaiaildnlaaGreatDoorW.PrintLast Go.Proofs.YtldhiaiaildnlaaGreatDoorW.PrintMore
theorem two_f {k : Nat} {a b : ByteArray} {r : Bool × List Int × Bool × List Int × Bool} (h : zR.f k a b = some r) :
  (r.2.2.2.2 = false ∧ ∀ {α : Type} (z : α) (f : Bool × Nat → Bool × Nat → α), two z f (dl a) (dl b) = z) ∨
  (∃ x y, r = (x.1, dg x.2, y.1, dg y.2, true) ∧ Fine x ∧ Fine y ∧ can (dl a) = some x ∧ can (dl b) = some y ∧ ∀ {α : Type} (z : α) (f : Bool × Nat → Bool × Nat → α), two z f (dl a) (dl b) = f x y) := by
 unfold zR.f at h
 obtain ⟨t, h1, h⟩ := bindE h
 obtain ⟨u, h2, h⟩ := bindE h
 have ht := zbw h1
 have hu := zbw h2
 unfold rcanP at ht hu
 cases hca : can (dl a) with
 | none =>
  rw [hca] at ht
  rw [ht, if_neg (by decide)] at h
  refine .inl ⟨by rw [← someE h], fun z f => zaG z f (.inl hca)⟩
 | some x =>
  rw [hca] at ht
  rw [ht, if_pos rfl] at h
  cases hcb : can (dl b) with
  | none =>
   rw [hcb] at hu
   rw [hu] at h
   refine .inl ⟨by rw [← someE h], fun z f => zaG z f (.inr hcb)⟩
  | some y =>
   rw [hcb] at hu
   rw [hu] at h
   exact .inr ⟨x, y, (someE h).symm, (zaP hca).2, (zaP hcb).2, rfl, rfl, fun z f => zbk z f hca hcb⟩
end Go.Proofs.YtldhiaiaildnlaaGreatDoor.Nm
