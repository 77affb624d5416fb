/- A code point alone is a character, and a name, by the program as by the reference, for every number. -/
import Derived.Test.YtjhnmclancbilaaQx24
import Derived.Test.YtjhnmclancbilaaPlainF
import Derived.Test.YtjhnmclancbilaaPlainW
namespace Go.Proofs.Ytjhnmclancbilaa.Pure
set_option linter.unusedVariables false
open Go Go.RowKit Go.Proofs.Ytjhnmclancbilaa.Plain Go.Proofs.Ytjhnmclancbilaa.HPure Go.Proofs.Ytjhnmclancbilaa.Q Go.Proofs.YtjhnmclancbilaaW.PrintWords Go.Proofs.YtjhnmclancbilaaW.PrintLast

theorem CharsOne : chisellaw01_CharsOne.Pure := by
  intro c hc
  refine ⟨20000, ?_⟩
  unfold chisellaw01_CharsOne.f
  rw [from_f [c] (by simp), Option.bind_some, isChar_ref, Option.bind_some, works_ok _ (by omega), List.all_cons, List.all_nil, Bool.and_true]
  cases h : isChar c
  · simp only [Bool.false_eq_true, if_false]
    rw [Lib.toList_data, if_pos rfl, if_pos trivial]
    rfl
  · simp only [if_true]
    have ht := text_of_chars [c] (by rw [List.all_cons, h]; rfl)
    have hz : (encode [c]).size ≤ 4 := by rw [encode_flat, mk_size]; have := flat_len [c]; simp at this; omega
    have hz2 : ((⟨#[97]⟩ : ByteArray) ++ encode [c]).size = 1 + (encode [c]).size := ByteArray.size_append
    rw [points_f _ (by omega), Option.bind_some, ht.1, if_pos rfl, ht.2, isName_f _ _ (by omega) (by omega), isName_ref _ _ (by omega) (by omega), isName_f _ _ (by omega) (by omega), isName_ref _ _ (by omega) (by omega), len_f _ (by omega), ht.1, if_pos rfl, ht.2]
    simp only [Option.bind_some, beq_self_eq_true, if_true, List.length_cons, List.length_nil]
    rw [if_pos (by simp), if_pos (by simp), if_pos (by simp [rd]), if_pos (by omega), if_pos (by simp)]
end Go.Proofs.Ytjhnmclancbilaa.Pure
