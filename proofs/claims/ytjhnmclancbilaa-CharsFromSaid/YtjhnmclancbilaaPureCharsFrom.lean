/- The text of every list of numbers is, by the program, what the reference says, and the list stays as it is; at most 2000 numbers, or else only the chapter's examples are asked. -/
import Derived.Test.YtjhnmclancbilaaQx20
import Derived.Test.YtjhnmclancbilaaPlainC
import Derived.Test.YtjhnmclancbilaaPlainW
namespace Go.Proofs.Ytjhnmclancbilaa.Pure
set_option linter.unusedVariables false
open Go Go.RowKit Go.Proofs.Ytjhnmclancbilaa.Plain Go.Proofs.Ytjhnmclancbilaa.HPure Go.Proofs.Ytjhnmclancbilaa.Q Go.Proofs.YtjhnmclancbilaaW.PrintWords Go.Proofs.YtjhnmclancbilaaW.PrintLast

theorem CharsFrom : chisellaw01_CharsFrom.Pure := by
  intro l h1 h2 h3
  refine ⟨20000, ?_⟩
  unfold chisellaw01_CharsFrom.f
  by_cases h : (l.length : Int) > 2000
  · rw [if_pos h, works_ok _ (by omega)]; rfl
  · rw [if_neg h, from_ref l _ (by omega) (by omega), works_ok _ (by omega)]
    simp only [Option.bind_some, List.length_nil, List.nil_append]
    rw [if_pos (by omega)]
    unfold chars_From.f
    rw [if_pos (by omega), sameInts_self l _ (by omega) (by omega)]
    cases l.all isChar
    · simp only [Bool.false_eq_true, if_false, Option.bind_some, if_true]
    · simp only [if_true, Option.bind_some]
end Go.Proofs.Ytjhnmclancbilaa.Pure
