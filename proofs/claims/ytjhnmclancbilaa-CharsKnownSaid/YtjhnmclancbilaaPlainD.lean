/- Parts of texts, plainly: the characters from one place to another one. -/
import Derived.Test.YtjhnmclancbilaaPlainC
import Derived.Test.YtjhnmclancbilaaQx10
import Derived.Test.YtjhnmclancbilaaQx9
import Derived.Test.YtjhnmclancbilaaQx6
import Derived.Test.YtjhnmclancbilaaQx7
import Derived.Test.YtjhnmclancbilaaQx21
import Derived.Test.YtjhnmclancbilaaQx21
namespace Go.Proofs.Ytjhnmclancbilaa.Plain
set_option linter.unusedVariables false
open Go Go.RowKit Go.Proofs.Ytjhnmclancbilaa.HPure Go.Proofs.Ytjhnmclancbilaa.Q Go.Proofs.YtjhnmclancbilaaW.PrintWords Go.Proofs.YtjhnmclancbilaaW.PrintLast Go.Proofs.YtjhnmclancbilaaW.PrintMore

theorem cutFrom_enc (a b : Int) : ∀ (l : List Int) (pre : List UInt8) (f : Nat) (place : Int) (x y : Nat), l.all isChar = true → l.length ≤ f →
    cutFrom (mk (pre ++ flat l)) a b f pre.length place x y =
      (if place ≤ max a 0 ∧ max a 0 < place + l.length then pre.length + (flat (l.take (max a 0 - place).toNat)).length else x,
       if place ≤ b ∧ b < place + l.length then pre.length + (flat (l.take (b - place).toNat)).length else y) := by
  intro l
  induction l with
  | nil =>
    intro pre f place x y _ _
    have : ¬ pre.length < (mk (pre ++ flat [])).size := by rw [mk_size]; simp [flat]
    rw [cutFrom_end _ _ _ _ _ _ _ _ this, if_neg (by simp only [List.length_nil]; omega), if_neg (by simp only [List.length_nil]; omega)]
  | cons c t ih =>
    intro pre f place x y hc hf
    obtain ⟨g, rfl⟩ : ∃ g, f = g + 1 := ⟨f - 1, by simp at hf; omega⟩
    rw [List.all_cons, Bool.and_eq_true] at hc
    have hd := dec_at pre (flat t) c hc.1
    have hlt : pre.length < (mk (pre ++ flat (c :: t))).size := by rw [mk_size, flat_cons]; have := enc_pos c; simp; omega
    unfold cutFrom
    rw [if_pos hlt]
    rw [flat_cons, hd.1]
    simp only
    have hi := ih (pre ++ enc c) g (place + 1) (if place = max a 0 then pre.length else x) (if place = b then pre.length else y) hc.2 (by simp at hf; omega)
    rw [List.length_append, List.append_assoc] at hi
    rw [hi]
    have tk : ∀ z : Int, place < z → (flat ((c :: t).take (z - place).toNat)).length = (enc c).length + (flat (t.take (z - (place + 1)).toNat)).length := by
      intro z hz
      rw [show (z - place).toNat = (z - (place + 1)).toNat + 1 from by omega, List.take_succ_cons, flat_cons, List.length_append]
    congr 1
    · by_cases h1 : place = max a 0
      · rw [if_neg (by omega), if_pos h1, if_pos (by simp; omega)]
        rw [show (max a 0 - place).toNat = 0 from by omega]
        simp [flat]
      · rw [if_neg h1]
        by_cases h2 : place ≤ max a 0 ∧ max a 0 < place + (c :: t).length
        · rw [if_pos h2, if_pos (by simp at h2; omega), tk _ (by omega)]
          omega
        · rw [if_neg h2, if_neg (by simp at h2; omega)]
    · by_cases h1 : place = b
      · rw [if_neg (by omega), if_pos h1, if_pos (by simp; omega)]
        rw [show (b - place).toNat = 0 from by omega]
        simp [flat]
      · rw [if_neg h1]
        by_cases h2 : place ≤ b ∧ b < place + (c :: t).length
        · rw [if_pos h2, if_pos (by simp at h2; omega), tk _ (by omega)]
          omega
        · rw [if_neg h2, if_neg (by simp at h2; omega)]

theorem flat_take_drop (l : List Int) (n : Nat) : flat l = flat (l.take n) ++ flat (l.drop n) := by rw [← flat_append, List.take_append_drop]
theorem extract_mk' (L : List UInt8) (i j : Nat) : (mk L).extract i j = mk ((L.drop i).take (j - i)) := by
  rw [← mk_data ((mk L).extract i j), Lib.extract_data, data_mk]
/-- The characters of a list from one place to another one. -/
def sub (p : List Int) (a b : Int) : List Int := (p.take (min b p.length).toNat).drop (max a 0).toNat
theorem sub_all (p : List Int) (a b : Int) (h : p.all isChar = true) : (sub p a b).all isChar = true := by
  rw [List.all_eq_true] at h ⊢
  intro x hx
  exact h x (List.mem_of_mem_take (List.mem_of_mem_drop hx))
theorem take_flat (l : List Int) (n : Nat) : (flat l).take (flat (l.take n)).length = flat (l.take n) := by
  conv => lhs; rw [flat_take_drop l n]
  rw [List.take_left]
theorem drop_flat (l : List Int) (n : Nat) : (flat l).drop (flat (l.take n)).length = flat (l.drop n) := by
  conv => lhs; rw [flat_take_drop l n]
  rw [List.drop_left]
theorem cut_enc (p : List Int) (a b : Int) (h : p.all isChar = true) : HPure.cut (encode p) a b = encode (sub p a b) := by
  have ht := text_of_chars p h
  have hlen := flat_len p
  unfold HPure.cut
  by_cases hab : b ≤ a
  · rw [if_pos (.inl hab)]
    have : sub p a b = [] := by unfold sub; apply List.drop_eq_nil_of_le; rw [List.length_take]; omega
    rw [this]; rfl
  · rw [if_neg (by rw [ht.1]; simp; omega)]
    have hca : cutAt (encode p) a b = (if (0 : Int) ≤ max a 0 ∧ max a 0 < 0 + p.length then (flat (p.take (max a 0).toNat)).length else (flat p).length, if (0 : Int) ≤ b ∧ b < 0 + p.length then (flat (p.take b.toNat)).length else (flat p).length) := by
      have := cutFrom_enc a b p [] (encode p).size 0 (encode p).size (encode p).size h (by rw [encode_flat, mk_size]; exact hlen.1)
      simp only [List.length_nil, List.nil_append, Nat.zero_add, Int.sub_zero] at this
      unfold cutAt
      rw [encode_flat] at this ⊢
      rw [this, mk_size]
    by_cases hb0 : b ≤ 0
    · rw [if_pos (.inr hb0)]
      have : sub p a b = [] := by unfold sub; apply List.drop_eq_nil_of_le; rw [List.length_take]; omega
      rw [this]; rfl
    · obtain ⟨X, Y, hXY⟩ : ∃ X Y, cutAt (encode p) a b = (X, Y) := ⟨_, _, rfl⟩
      rw [hXY] at hca ⊢
      obtain ⟨hX, hY⟩ := Prod.mk.inj hca
      simp only
      by_cases hm : max a 0 < (p.length : Int)
      · rw [if_pos (by omega)] at hX
        have e1 := take_flat p (max a 0).toNat
        by_cases hb : b < (p.length : Int)
        · have hs : sub p a b = (p.take b.toNat).drop (max a 0).toNat := by unfold sub; rw [show min b (p.length : Int) = b from by omega]
          rw [if_pos (by omega)] at hY
          have e2 : (p.take b.toNat).take (max a 0).toNat = p.take (max a 0).toNat := by rw [List.take_take]; congr 1; omega
          have e3 := flat_take_drop (p.take b.toNat) (max a 0).toNat
          rw [e2] at e3
          have e4 := congrArg List.length e3
          rw [List.length_append] at e4
          rw [hs, if_neg (by omega), encode_flat, extract_mk', encode_flat, hX, drop_flat]
          congr 1
          rw [show Y - (flat (p.take (max a 0).toNat)).length = (flat ((p.take b.toNat).drop (max a 0).toNat)).length from by omega]
          have e5 : p.drop (max a 0).toNat = (p.take b.toNat).drop (max a 0).toNat ++ p.drop b.toNat := by
            conv => lhs; rw [← List.take_append_drop b.toNat p]
            rw [List.drop_append_of_le_length (by rw [List.length_take]; omega)]
          rw [e5, flat_append, List.take_left]
        · have hs : sub p a b = p.drop (max a 0).toNat := by unfold sub; rw [show (min b (p.length : Int)).toNat = p.length from by omega, List.take_length]
          have e3 := flat_take_drop p (max a 0).toNat
          have e4 := congrArg List.length e3
          rw [List.length_append] at e4
          rw [if_neg (by omega)] at hY
          rw [hs, if_neg (by omega), encode_flat, extract_mk', encode_flat, hX, drop_flat]
          congr 1
          rw [List.take_of_length_le (by omega)]
      · have hs : sub p a b = [] := by unfold sub; apply List.drop_eq_nil_of_le; rw [List.length_take]; omega
        rw [if_neg (by omega)] at hX hY
        rw [if_neg (by omega), hs, encode_flat, extract_mk', encode_flat]
        congr 1
        rw [show Y - X = 0 from by omega]
        rfl
/-- A part of a string: of a text, its characters from one place to another one; else nothing. -/
theorem cut_spec (s : ByteArray) (a b : Int) : HPure.cut s a b = if isText s = true then encode (sub (points s) a b) else ⟨#[]⟩ := by
  cases ht : isText s
  · unfold HPure.cut
    rw [if_pos (.inr ht)]
    rfl
  · have := chars_of_text s ht
    rw [if_pos rfl, ← cut_enc _ _ _ this.1, this.2]
theorem isText_f (s : ByteArray) (h : s.size ≤ 140737488355328) : chars_IsText.f s = some (isText s) := by unfold chars_IsText.f; rw [if_pos h]
theorem cut_f (s : ByteArray) (a b : Int) (h : s.size ≤ 140737488355328) : chars_Cut.f s a b = some (HPure.cut s a b) := by unfold chars_Cut.f; rw [if_pos h]
theorem points_f (s : ByteArray) (h : s.size ≤ 8796093022208) : chars_Points.f s = some (if isText s = true then (points s, 0) else ([], 10)) := by
  unfold chars_Points.f
  rw [if_pos h]
  cases isText s <;> rfl
theorem from_f (l : List Int) (h : l.length ≤ 8796093022208) : chars_From.f l = some (if l.all isChar = true then (encode l, 0) else (⟨#[]⟩, 10)) := by
  unfold chars_From.f
  rw [if_pos h]
  cases l.all isChar <;> rfl
theorem len_f (s : ByteArray) (h : s.size ≤ 140737488355328) : chars_Len.f s = some (if isText s = true then ((points s).length : Int) else 0) := by
  unfold chars_Len.f chars_IsText.f utf8_RuneCountInString.f
  rw [if_pos h, if_pos h, Option.bind_some, count_points]
  cases isText s <;> rfl
theorem mn_eq (a b : Int) : mn a b = min a b := by unfold mn; split <;> omega
theorem mx_eq (a b : Int) : mx a b = max a b := by unfold mx; split <;> omega
theorem len_ref (s : ByteArray) (k : Nat) (hs : s.size ≤ 1099511627776) (hk : s.size + 11 ≤ k) : chiselref01_Len.f k s = some (if isText s = true then ((points s).length : Int) else 0) := by
  unfold chiselref01_Len.f
  rw [points_ref s k hs hk, Option.bind_some]
  cases isText s <;> rfl
theorem cut_ref (s : ByteArray) (a b : Int) (k : Nat) (hs : s.size ≤ 1099511627776) (hk : s.size + 11 ≤ k) : chiselref01_Cut.f k s a b = some (HPure.cut s a b) := by
  unfold chiselref01_Cut.f
  rw [points_ref s k hs hk, Option.bind_some, cut_spec]
  have hle := points_le s
  cases ht : isText s
  · simp only [Bool.false_eq_true, if_false]
    rw [mx_eq, mn_eq, if_pos (by simp; omega)]
  · simp only [if_true]
    rw [mx_eq, mn_eq]
    have hall := (chars_of_text s ht).1
    by_cases h : max a 0 ≥ min b ((points s).length : Int)
    · rw [if_pos h]
      have : sub (points s) a b = [] := by unfold sub; apply List.drop_eq_nil_of_le; rw [List.length_take]; omega
      rw [this]; rfl
    · rw [if_neg h, if_pos (by omega), if_pos (by omega), if_pos (by omega)]
      have hl : (sub (points s) a b).length ≤ (points s).length := by unfold sub; rw [List.length_drop, List.length_take]; omega
      have := from_ref (sub (points s) a b) k (by omega) (by omega)
      unfold sub at this ⊢
      rw [this, Option.bind_some]
      have h2 := sub_all (points s) a b hall
      unfold sub at h2
      rw [if_pos h2]
end Go.Proofs.Ytjhnmclancbilaa.Plain
