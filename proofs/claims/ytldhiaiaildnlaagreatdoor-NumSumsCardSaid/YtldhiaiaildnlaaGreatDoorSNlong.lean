/- Texts of the claim: Nlong. -/
import Derived.Test.YtldhiaiaildnlaaGreatDoorSNz
namespace Go.Proofs.YtldhiaiaildnlaaGreatDoor.Nm
set_option linter.unusedVariables false
open Go Go.RowKit Go.Proofs.YtldhiaiaildnlaaGreatDoor.Q Go.Proofs.YtldhiaiaildnlaaGreatDoorW.PrintWords Go.Proofs.YtldhiaiaildnlaaGreatDoorW.PrintLast Go.Proofs.YtldhiaiaildnlaaGreatDoorW.PrintMore
theorem long_t (a b : ByteArray) : ∃ t, xi.f a b = some t ∧ (t = true ∨ (t = false ∧ a.size ≤ 300 ∧ b.size ≤ 300)) := by
 unfold xi.f
 by_cases h1 : (a.size : Int) > 300
 ·rw [if_pos h1]; exact ⟨_, rfl, .inl rfl⟩
 ·rw [if_neg h1]
  by_cases h2 : (b.size : Int) > 300
  ·exact ⟨_, rfl, .inl (decide_eq_true h2)⟩
  ·exact ⟨_, rfl, .inr ⟨decide_eq_false h2, by omega, by omega⟩⟩
theorem law_y {a b : ByteArray} {G : Nat → Option Bool} (h : a.size ≤ 300 → b.size ≤ 300 → Y G (fun r => r = true)) :
  Y (fun k => (xi.f a b).bind fun t => if t = true then ((zV.f k).bind fun t => some t) else G k) (fun r => r = true) := by
 obtain ⟨t, ht, h2⟩ := long_t a b
 refine Y.sb ht ?_
 rcases h2 with rfl | ⟨rfl, ha, hb⟩
 ·exact Y.pos rfl zd4
 ·exact Y.neg (by decide) (h ha hb)
end Go.Proofs.YtldhiaiaildnlaaGreatDoor.Nm
