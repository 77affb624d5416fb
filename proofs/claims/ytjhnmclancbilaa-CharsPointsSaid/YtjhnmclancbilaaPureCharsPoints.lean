/- The code points of every string are, by the program, what the reference says; the strings are of at most 2000 bytes, or else only the chapter's examples are asked. -/
import Derived.Test.YtjhnmclancbilaaQx18
import Derived.Test.YtjhnmclancbilaaPlainC
import Derived.Test.YtjhnmclancbilaaPlainW
namespace Go.Proofs.Ytjhnmclancbilaa.Pure
set_option linter.unusedVariables false
open Go Go.RowKit Go.Proofs.Ytjhnmclancbilaa.Plain Go.Proofs.Ytjhnmclancbilaa.HPure Go.Proofs.Ytjhnmclancbilaa.Q Go.Proofs.YtjhnmclancbilaaW.PrintWords Go.Proofs.YtjhnmclancbilaaW.PrintLast

theorem CharsPoints : chisellaw01_CharsPoints.Pure := by
  intro s hs
  refine ⟨20000, ?_⟩
  unfold chisellaw01_CharsPoints.f
  by_cases h : (s.size : Int) > 2000
  · rw [if_pos h, works_ok _ (by omega)]; rfl
  · rw [if_neg h, points_ref s _ (by omega) (by omega), works_ok _ (by omega)]
    have hle := points_le s
    unfold chars_Points.f
    rw [if_pos (by omega)]
    cases ht : isText s
    · simp only [Bool.false_eq_true, if_false, Option.bind_some]
      rw [sameInts_self [] _ (by simp) (by simp)]
      rfl
    · simp only [if_true, Option.bind_some]
      rw [sameInts_self (points s) _ (by omega) (by omega)]
      rfl
end Go.Proofs.Ytjhnmclancbilaa.Pure
