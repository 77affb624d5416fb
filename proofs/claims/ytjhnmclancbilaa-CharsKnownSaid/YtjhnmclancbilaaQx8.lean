/- Walks of functions, each against a plain Lean function: written by this session's program wip/hand.py, which runs the kit's print with this session's own contracts put in. -/
import Derived.Test.YtjhnmclancbilaaQx0
namespace Go.Proofs.Ytjhnmclancbilaa.Q
open Go.RowKit Go.Proofs.YtjhnmclancbilaaW.PrintWords Go.Proofs.YtjhnmclancbilaaW.PrintLast Go.Proofs.YtjhnmclancbilaaW.PrintMore
attribute [local go_sem] max2_int min2_int max_two min_two max_three min_three max_four min_four   -- for this text's walks alone
set_option linter.unusedVariables false
set_option linter.unusedSimpArgs false

-- HAND: function 45, by this session's own text
def utf8_RuneCountInString.f (a0 : ByteArray) : Option (Int) := if a0.size ≤ 140737488355328 then some (Lib.runeCount a0 : Int) else none
theorem utf8_RuneCountInString.calls (a0 : ByteArray) (r : Int) (w : World) (h : utf8_RuneCountInString.f a0 = some r) :
    Calls Try.prog 45 #[.string a0] w fun e w' => e = .returned (.int .i64 r) ∧ Below w.heap.size w w' := by
  unfold utf8_RuneCountInString.f at h
  split at h
  · rename_i hs
    obtain rfl := Option.some.inj h
    refine (Try.utf8_RuneCountInString a0 w (by omega)).mono ?_
    rintro e w' ⟨he, pos, rfl⟩
    exact ⟨he, (Below.refl _ w).alloc (Nat.le_refl _) _⟩
  · cases h


end Go.Proofs.Ytjhnmclancbilaa.Q
