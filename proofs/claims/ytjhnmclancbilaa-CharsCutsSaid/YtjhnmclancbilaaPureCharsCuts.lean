/- Lengths and parts of every string are, by the program, what the reference says, at any places; the strings are of at most 2000 bytes, or else only the chapter's examples are asked. -/
import Derived.Test.YtjhnmclancbilaaQx22
import Derived.Test.YtjhnmclancbilaaPlainD
import Derived.Test.YtjhnmclancbilaaPlainW
namespace Go.Proofs.Ytjhnmclancbilaa.Pure
set_option linter.unusedVariables false
open Go Go.RowKit Go.Proofs.Ytjhnmclancbilaa.Plain Go.Proofs.Ytjhnmclancbilaa.HPure Go.Proofs.Ytjhnmclancbilaa.Q Go.Proofs.YtjhnmclancbilaaW.PrintWords Go.Proofs.YtjhnmclancbilaaW.PrintLast

theorem CharsCuts : chisellaw01_CharsCuts.Pure := by
  intro s a b hs h1 h2
  refine ⟨20000, ?_⟩
  unfold chisellaw01_CharsCuts.f
  by_cases h : (s.size : Int) > 2000
  · rw [if_pos h, works_ok _ (by omega)]; rfl
  · rw [if_neg h, len_f s (by omega), len_ref s _ (by omega) (by omega), cut_ref s a b _ (by omega) (by omega), cut_f s a b (by omega), works_ok _ (by omega)]
    simp only [Option.bind_some, if_true]
end Go.Proofs.Ytjhnmclancbilaa.Pure
