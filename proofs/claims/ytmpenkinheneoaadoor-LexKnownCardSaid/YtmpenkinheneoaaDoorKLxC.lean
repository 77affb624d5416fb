/- Texts of the claim: LxC. -/
import Derived.Test.YtmpenkinheneoaaDoorKLxB
namespace Go.Proofs.YtmpenkinheneoaaDoor.Lx
set_option linter.unusedVariables false
def Sep (w : List Int) : Prop := w = [] ∨ ∃ c t, w = c :: t ∧ sepc c = true
theorem Sep.like {w : List Int} (h : Sep w) (r : List Int) : Like r (r ++ w) := by
  rcases h with rfl | ⟨c, t, rfl, hc⟩
  · exact ⟨r, [], by simp, .inl (by simp)⟩
  · exact ⟨r, [], by simp, .inr ⟨c, t, rfl, hc⟩⟩
def wr (k : Int) (x : List Int) : List Int := if k = 2 then 34 :: (esc 34 x ++ [34]) else x
end Go.Proofs.YtmpenkinheneoaaDoor.Lx
