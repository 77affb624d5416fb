/- Texts and lists of characters are each other's: a text is made again of its code points, code points are read again from their text, and what is no text has none; strings of at most 2000 bytes and lists of at most 2000 numbers, or else only the chapter's examples are asked. -/
import Derived.Test.YtjhnmclancbilaaQx25
import Derived.Test.YtjhnmclancbilaaPlainD
import Derived.Test.YtjhnmclancbilaaPlainW
namespace Go.Proofs.Ytjhnmclancbilaa.Pure
set_option linter.unusedVariables false
open Go Go.RowKit Go.Proofs.Ytjhnmclancbilaa.Plain Go.Proofs.Ytjhnmclancbilaa.HPure Go.Proofs.Ytjhnmclancbilaa.Q Go.Proofs.YtjhnmclancbilaaW.PrintWords Go.Proofs.YtjhnmclancbilaaW.PrintLast

theorem back_l0 (l : List Int) (hl : l.length ≤ 1099511627776) : ∀ (d i k : Nat), i + d = l.length → d + 2 ≤ k → chisellaw01_CharsBack.l0 k l l (l.length : Int) (i : Int) = some true := by
  intro d
  induction d with
  | zero =>
    intro i k h1 h2
    obtain ⟨m, rfl⟩ : ∃ m, k = m + 1 := ⟨k - 1, by omega⟩
    simp only [chisellaw01_CharsBack.l0]
    rw [if_neg (by omega), works_ok _ (by omega)]
    rfl
  | succ d ih =>
    intro i k h1 h2
    obtain ⟨m, rfl⟩ : ∃ m, k = m + 1 := ⟨k - 1, by omega⟩
    simp only [chisellaw01_CharsBack.l0]
    rw [if_pos (by omega), if_pos (by omega), if_pos (by omega), if_pos (by omega), if_pos trivial, w64 (by omega) (by omega)]
    have := ih (i + 1) m (by omega) (by omega)
    rw [← this]
    rfl
theorem back_j1 (l : List Int) (hl : l.length ≤ 2000) (k : Nat) (hk : l.length + 10 ≤ k) : chisellaw01_CharsBack.j1 k l = some true := by
  obtain ⟨m, rfl⟩ : ∃ m, k = m + 2 := ⟨k - 2, by omega⟩
  simp only [chisellaw01_CharsBack.j1]
  rw [from_f l (by omega), Option.bind_some]
  cases h : l.all isChar
  · simp only [Bool.false_eq_true, if_false]
    rw [if_neg (by omega), if_pos trivial, Lib.toList_data, if_pos rfl, works_ok _ (by omega)]
    rfl
  · simp only [if_true]
    have ht := text_of_chars l h
    have hz : (encode l).size ≤ 8796093022208 := by rw [encode_flat, mk_size]; have := flat_len l; omega
    rw [points_f _ hz, Option.bind_some, ht.1, ht.2]
    simp only [if_true]
    simp only [chisellaw01_CharsBack.j2]
    rw [bne_self_eq_false, if_neg (by simp)]
    exact back_l0 l (by omega) l.length 0 m (by omega) (by omega)
theorem CharsBack : chisellaw01_CharsBack.Pure := by
  intro s l hs h1 h2 h3
  refine ⟨20000, ?_⟩
  unfold chisellaw01_CharsBack.f
  have yes : chisellaw01_CharsBack.j0 20000 s l true = some true := by
    show chisellaw01_CharsBack.j0 (19999 + 1) s l true = some true
    simp only [chisellaw01_CharsBack.j0]
    rw [if_pos trivial, works_ok _ (by omega)]
    rfl
  by_cases h : (s.size : Int) > 2000
  · rw [if_pos h]; exact yes
  · rw [if_neg h]
    by_cases hl : (l.length : Int) > 2000
    · rw [decide_eq_true hl]; exact yes
    · rw [decide_eq_false hl]
      show chisellaw01_CharsBack.j0 (19999 + 1) s l false = some true
      simp only [chisellaw01_CharsBack.j0]
      rw [if_neg (by simp), points_f s (by omega), Option.bind_some, len_f s (by omega), isText_f s (by omega)]
      cases ht : isText s
      · simp only [Bool.false_eq_true, if_false]
        rw [if_neg (by omega)]
        simp only [Option.bind_some, Bool.false_eq_true, if_false, List.length_nil]
        rw [if_pos (by simp), if_pos trivial]
        exact back_j1 l (by omega) _ (by omega)
      · have hc := chars_of_text s ht
        have hle := points_le s
        simp only [if_true]
        rw [from_f _ (by omega), Option.bind_some, hc.1]
        simp only [if_true]
        rw [hc.2, if_pos rfl]
        simp only [Option.bind_some, if_true]
        exact back_j1 l (by omega) _ (by omega)
end Go.Proofs.Ytjhnmclancbilaa.Pure
