/- Every string with its white space normalised is, by the program, what the reference says; the strings are of at most 2000 bytes, or else only the chapter's examples are asked. -/
import Derived.Test.YtjhnmclancbilaaQx15
import Derived.Test.YtjhnmclancbilaaPlainE
import Derived.Test.YtjhnmclancbilaaPlainW
namespace Go.Proofs.Ytjhnmclancbilaa.Pure
set_option linter.unusedVariables false
open Go Go.RowKit Go.Proofs.Ytjhnmclancbilaa.Plain Go.Proofs.Ytjhnmclancbilaa.HPure Go.Proofs.Ytjhnmclancbilaa.Q Go.Proofs.YtjhnmclancbilaaW.PrintWords Go.Proofs.YtjhnmclancbilaaW.PrintLast

theorem CharsNorms : chisellaw01_CharsNorms.Pure := by
  intro s hs
  refine ⟨20000, ?_⟩
  unfold chisellaw01_CharsNorms.f
  by_cases h : (s.size : Int) > 2000
  · rw [if_pos h, works_ok _ (by omega)]; rfl
  · rw [if_neg h, norm_f s (by omega), norm_ref s _ (by omega) (by omega), works_ok _ (by omega)]
    simp only [Option.bind_some, if_true]
end Go.Proofs.Ytjhnmclancbilaa.Pure
