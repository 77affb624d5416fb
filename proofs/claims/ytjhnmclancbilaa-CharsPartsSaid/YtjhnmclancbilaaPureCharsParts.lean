/- A text is what is before a place and what is behind it; two texts are a text with the sum of their lengths, at any place; strings of at most 2000 bytes each, or else only the chapter's examples are asked. -/
import Derived.Test.YtjhnmclancbilaaQx26
import Derived.Test.YtjhnmclancbilaaPlainD
import Derived.Test.YtjhnmclancbilaaPlainW
namespace Go.Proofs.Ytjhnmclancbilaa.Pure
set_option linter.unusedVariables false
open Go Go.RowKit Go.Proofs.Ytjhnmclancbilaa.Plain Go.Proofs.Ytjhnmclancbilaa.HPure Go.Proofs.Ytjhnmclancbilaa.Q Go.Proofs.YtjhnmclancbilaaW.PrintWords Go.Proofs.YtjhnmclancbilaaW.PrintLast Go.Proofs.YtjhnmclancbilaaW.PrintMore

theorem encode_append (a b : List Int) : encode a ++ encode b = encode (a ++ b) := by
  rw [encode_flat, encode_flat, encode_flat, flat_append]
  apply ByteArray.ext
  simp [mk, ByteArray.data_append]
theorem size_append (a b : ByteArray) : (a ++ b).size = a.size + b.size := ByteArray.size_append
theorem toList_inj (a b : ByteArray) : a.toList = b.toList ↔ a = b := by
  rw [Lib.toList_data, Lib.toList_data]
  constructor
  · intro h
    rw [← mk_data a, ← mk_data b, h]
  · intro h; rw [h]
theorem parts_j2 (s : ByteArray) (a : Int) (k : Nat) (hk : 2 ≤ k) (hs : s.size ≤ 2000) (ht : isText s = true) : chisellaw01_CharsParts.j2 k s a false = some true := by
  obtain ⟨m, rfl⟩ : ∃ m, k = m + 1 := ⟨k - 1, by omega⟩
  have hc := chars_of_text s ht
  have hle := points_le s
  simp only [chisellaw01_CharsParts.j2]
  rw [if_neg (by simp), cut_f s _ _ (by omega), Option.bind_some, len_f s (by omega), Option.bind_some, ht, if_pos rfl, cut_f s _ _ (by omega), Option.bind_some]
  rw [cut_spec s 0 a, cut_spec s a, ht, if_pos rfl, if_pos rfl]
  have a1 := sub_all (points s) 0 a hc.1
  have a2 := sub_all (points s) a ((points s).length : Int) hc.1
  have t1 := text_of_chars _ a1
  have t2 := text_of_chars _ a2
  have hsum : sub (points s) 0 a ++ sub (points s) a ((points s).length : Int) = points s := by
    unfold sub
    rw [show (max (0 : Int) 0).toNat = 0 from rfl, List.drop_zero, Int.min_self, Int.toNat_natCast, List.take_length]
    by_cases h : a ≤ (points s).length
    · by_cases h0 : 0 ≤ a
      · rw [show (min a ((points s).length : Int)).toNat = (max a 0).toNat from by omega, List.take_append_drop]
      · rw [show (min a ((points s).length : Int)).toNat = 0 from by omega, show (max a 0).toNat = 0 from by omega]
        simp
    · rw [show (min a ((points s).length : Int)).toNat = (points s).length from by omega, List.take_length, List.drop_of_length_le (by omega), List.append_nil]
  have hcat : encode (sub (points s) 0 a) ++ encode (sub (points s) a ((points s).length : Int)) = s := by rw [encode_append, hsum, hc.2]
  have hz : (encode (sub (points s) 0 a)).size + (encode (sub (points s) a ((points s).length : Int))).size = s.size := by rw [← size_append, hcat]
  rw [if_pos (by omega), hcat, if_pos rfl, isText_f _ (by omega), Option.bind_some, t1.1, if_pos rfl, isText_f _ (by omega), Option.bind_some, t2.1, if_pos rfl, len_f _ (by omega), Option.bind_some, Option.bind_some, t1.1, if_pos rfl, t1.2, mx_eq, mn_eq]
  have hlen : ((sub (points s) 0 a).length : Int) = max 0 (min a ((points s).length : Int)) := by
    unfold sub
    rw [show (max (0 : Int) 0).toNat = 0 from rfl, List.drop_zero, List.length_take]
    omega
  rw [if_pos hlen, works_ok _ (by omega)]
  rfl
theorem parts_j1_no (s t : ByteArray) (a : Int) (k : Nat) (hk : 2 ≤ k) (hs : s.size ≤ 2000) : chisellaw01_CharsParts.j1 k s t a true = some true := by
  obtain ⟨m, rfl⟩ : ∃ m, k = m + 1 := ⟨k - 1, by omega⟩
  simp only [chisellaw01_CharsParts.j1]
  rw [if_pos trivial, cut_f s _ _ (by omega), Option.bind_some, isText_f _ (by omega), Option.bind_some, cut_spec, works_ok _ (by omega)]
  cases ht : isText s
  · simp only [Bool.false_eq_true, if_false, Option.bind_some]
    rw [Lib.toList_data]
    rfl
  · have hc := chars_of_text s ht
    have hle := points_le s
    have hsub : sub (points s) 0 1099511627776 = points s := by
      unfold sub
      rw [show (max (0 : Int) 0).toNat = 0 from rfl, List.drop_zero, List.take_of_length_le (by omega)]
    simp only [if_true]
    rw [hsub, hc.2, beq_self_eq_true, if_pos rfl]
    rfl
theorem parts_j1 (s t : ByteArray) (a : Int) (k : Nat) (hk : 3 ≤ k) (hs : s.size ≤ 2000) (ht : t.size ≤ 2000) (h1 : isText s = true) (h2 : isText t = true) : chisellaw01_CharsParts.j1 k s t a false = some true := by
  obtain ⟨m, rfl⟩ : ∃ m, k = m + 1 := ⟨k - 1, by omega⟩
  have c1 := chars_of_text s h1
  have c2 := chars_of_text t h2
  have hcat : s ++ t = encode (points s ++ points t) := by rw [← encode_append, c1.2, c2.2]
  have hall : (points s ++ points t).all isChar = true := by rw [List.all_append, c1.1, c2.1]; rfl
  have hx := text_of_chars _ hall
  have hz := size_append s t
  have l1 := points_le s
  have l2 := points_le t
  simp only [chisellaw01_CharsParts.j1]
  rw [if_neg (by simp), if_pos (by omega), isText_f _ (by omega), Option.bind_some, hcat, hx.1, if_pos rfl, ← hcat, len_f _ (by omega), Option.bind_some, len_f s (by omega), Option.bind_some, len_f t (by omega), Option.bind_some, Option.bind_some, hcat, hx.1, hx.2, h1, h2, if_pos rfl, if_pos rfl, if_pos rfl, w64 (by omega) (by omega), if_pos (by rw [List.length_append]; omega), ← hcat, cut_f _ _ _ (by omega), Option.bind_some, cut_spec, hcat, hx.1, if_pos rfl, hx.2]
  have hsub : sub (points s ++ points t) ((points s).length : Int) 1099511627776 = points t := by
    unfold sub
    rw [List.take_of_length_le (by rw [List.length_append]; omega), show (max ((points s).length : Int) 0).toNat = (points s).length from by omega, List.drop_left]
  rw [hsub, c2.2, bne_self_eq_false]
  exact parts_j2 s a m (by omega) hs h1
theorem CharsParts : chisellaw01_CharsParts.Pure := by
  intro s t a hs ht ha
  refine ⟨20000, ?_⟩
  unfold chisellaw01_CharsParts.f
  have yes : chisellaw01_CharsParts.j0 20000 s t a true = some true := by
    show chisellaw01_CharsParts.j0 (19999 + 1) s t a true = some true
    simp only [chisellaw01_CharsParts.j0]
    rw [if_pos trivial, works_ok _ (by omega)]
    rfl
  by_cases h : (s.size : Int) > 2000
  · rw [if_pos h]; exact yes
  · rw [if_neg h]
    by_cases hl : (t.size : Int) > 2000
    · rw [decide_eq_true hl]; exact yes
    · rw [decide_eq_false hl]
      show chisellaw01_CharsParts.j0 (19999 + 1) s t a false = some true
      simp only [chisellaw01_CharsParts.j0]
      rw [if_neg (by simp), isText_f s (by omega), Option.bind_some, isText_f t (by omega), Option.bind_some]
      cases h1 : isText s
      · rw [if_neg (by simp)]
        exact parts_j1_no s t a _ (by omega) (by omega)
      · rw [if_pos rfl]
        cases h2 : isText t
        · exact parts_j1_no s t a _ (by omega) (by omega)
        · exact parts_j1 s t a _ (by omega) (by omega) (by omega) h1 h2
end Go.Proofs.Ytjhnmclancbilaa.Pure
