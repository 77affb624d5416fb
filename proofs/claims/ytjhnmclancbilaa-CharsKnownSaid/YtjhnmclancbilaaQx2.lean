/- Walks of functions, each against a plain Lean function: written by this session's program wip/hand.py, which runs the kit's print with this session's own contracts put in. -/
import Derived.Test.YtjhnmclancbilaaQx0
import Derived.Test.YtjhnmclancbilaaQx1
namespace Go.Proofs.Ytjhnmclancbilaa.Q
open Go.RowKit Go.Proofs.YtjhnmclancbilaaW.PrintWords Go.Proofs.YtjhnmclancbilaaW.PrintLast Go.Proofs.YtjhnmclancbilaaW.PrintMore
attribute [local go_sem] max2_int min2_int max_two min_two max_three min_three max_four min_four   -- for this text's walks alone
set_option linter.unusedVariables false
set_option linter.unusedSimpArgs false

-- HAND: function 30, by this session's own text
theorem chars_isSpace_ok (c : Nat) : chars_isSpace.f (c : Int) = some (HPure.sp c) := by
  unfold chars_isSpace.f HPure.sp
  by_cases h32 : c = 32
  · subst h32; rfl
  by_cases h9 : c = 9
  · subst h9; rfl
  by_cases h10 : c = 10
  · subst h10; rfl
  rw [if_neg (by omega), if_neg (by omega), if_neg (by omega), beq_eq_false_iff_ne.2 h32, beq_eq_false_iff_ne.2 h9, beq_eq_false_iff_ne.2 h10]
  have : ((c : Int) == 13) = (c == 13) := by rw [Bool.eq_iff_iff, beq_iff_eq, beq_iff_eq]; omega
  rw [this]; rfl
set_option maxHeartbeats 400000 in
theorem notSpace_pays (w : World) : PredAtRunes Try.prog 52 #[] (fun c => !HPure.sp c) w := by
  intro W x hx hb
  unfold FnGives
  have H := Aside0.mk (chars_isSpace_ok x)
  go_enter Try.func52, Try.ntmps52
  go_wp2_with (first | (go_at_call 38; refine (chars_isSpace.calls _ _ _ H.out).mono ?_; rintro e w' ⟨rfl, ⟨nd, rfl⟩⟩))
  go_ret
  exact ⟨by simp, _, rfl⟩
theorem space_pays (w : World) : PredAtRunes Try.prog 38 #[] HPure.sp w := by
  intro W x hx hb
  unfold FnGives
  refine (chars_isSpace.calls _ _ _ (chars_isSpace_ok x)).mono ?_
  rintro e w' ⟨rfl, ⟨nd, rfl⟩⟩
  exact ⟨rfl, _, rfl⟩
def chars_IsSpace.f (a0 : ByteArray) : Option (Bool) := some (HPure.isSpace a0)
set_option maxHeartbeats 400000 in
theorem chars_IsSpace.calls (a0 : ByteArray) (r : Bool) (w : World) (h : chars_IsSpace.f a0 = some r) :
    Calls Try.prog 30 #[.string a0] w fun e w' => e = .returned (.bool r) ∧ Below w.heap.size w w' := by
  obtain rfl := Option.some.inj h
  have hC := Try.strings_IndexFunc_runes 52 #[] (enters_of Try.func52 (by kernel_rfl) rfl) _ a0 w (notSpace_pays w)
  clear h
  unfold HPure.isSpace
  generalize Lib.idxFunc (fun c => !HPure.sp c) true a0 = z at hC
  go_enter Try.func30, Try.ntmps30
  go_wp2_with (go_at_call 51; refine hC.mono ?_; rintro e w' ⟨rfl, hb⟩)
  go_ret
  exact ⟨by simp, hb⟩


end Go.Proofs.Ytjhnmclancbilaa.Q
