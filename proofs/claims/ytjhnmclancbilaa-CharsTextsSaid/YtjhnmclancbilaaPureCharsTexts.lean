/- Which strings are texts, names and white space is, by the program, what the reference says; the strings are of at most 2000 bytes, or else only the chapter's examples are asked. -/
import Derived.Test.YtjhnmclancbilaaQx28
import Derived.Test.YtjhnmclancbilaaPlainE
import Derived.Test.YtjhnmclancbilaaPlainF
import Derived.Test.YtjhnmclancbilaaPlainW
namespace Go.Proofs.Ytjhnmclancbilaa.Pure
set_option linter.unusedVariables false
open Go Go.RowKit Go.Proofs.Ytjhnmclancbilaa.Plain Go.Proofs.Ytjhnmclancbilaa.HPure Go.Proofs.Ytjhnmclancbilaa.Q Go.Proofs.YtjhnmclancbilaaW.PrintWords Go.Proofs.YtjhnmclancbilaaW.PrintLast

theorem CharsTexts : chisellaw01_CharsTexts.Pure := by
  intro s hs
  refine ⟨20000, ?_⟩
  unfold chisellaw01_CharsTexts.f
  by_cases h : (s.size : Int) > 2000
  · rw [if_pos h, works_ok _ (by omega)]; rfl
  · rw [if_neg h, isText_f s (by omega), isText_ref s _ (by omega) (by omega), isName_f s _ (by omega) (by omega), isName_ref s _ (by omega) (by omega), isSpace_ref s _ (by omega) (by omega), works_ok _ (by omega)]
    unfold chars_IsSpace.f
    simp only [Option.bind_some, beq_self_eq_true, if_true]
end Go.Proofs.Ytjhnmclancbilaa.Pure
