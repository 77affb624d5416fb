/- Texts of the claim: Nlong. -/
import Derived.Test.YtldhiaiaildnlaaDoorUNz
namespace Go.Proofs.YtldhiaiaildnlaaDoor.Nm
set_option linter.unusedVariables false
open Go Go.RowKit Go.Proofs.YtldhiaiaildnlaaDoor.Q Go.Proofs.YtldhiaiaildnlaaDoorW.PrintWords Go.Proofs.YtldhiaiaildnlaaDoorW.PrintLast Go.Proofs.YtldhiaiaildnlaaDoorW.PrintMore
theorem long_t (a b : ByteArray) : ∃ t, xe.f a b = some t ∧ (t = true ∨ (t = false ∧ a.size ≤ 300 ∧ b.size ≤ 300)) := by
 unfold xe.f
 by_cases h1 : (a.size : Int) > 300
 ·rw [if_pos h1]; exact ⟨_, rfl, .inl rfl⟩
 ·rw [if_neg h1]
  by_cases h2 : (b.size : Int) > 300
  ·exact ⟨_, rfl, .inl (decide_eq_true h2)⟩
  ·exact ⟨_, rfl, .inr ⟨decide_eq_false h2, by omega, by omega⟩⟩
theorem law_y {a b : ByteArray} {G : Nat → Option Bool} (h : a.size ≤ 300 → b.size ≤ 300 → Y G (fun r => r = true)) :
  Y (fun k => (xe.f a b).bind fun t => if t = true then ((z2.f k).bind fun t => some t) else G k) (fun r => r = true) := by
 obtain ⟨t, ht, h2⟩ := long_t a b
 refine Y.sb ht ?_
 rcases h2 with rfl | ⟨rfl, ha, hb⟩
 ·exact Y.pos rfl zd7
 ·exact Y.neg (by decide) (h ha hb)
end Go.Proofs.YtldhiaiaildnlaaDoor.Nm
