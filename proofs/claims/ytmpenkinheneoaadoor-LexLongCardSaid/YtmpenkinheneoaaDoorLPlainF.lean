/- Texts of the claim: PlainF. -/
import Derived.Test.YtmpenkinheneoaaDoorLPlainD
import Derived.Test.YtmpenkinheneoaaDoorLQx10
import Derived.Test.YtmpenkinheneoaaDoorLQx24
import Derived.Test.YtmpenkinheneoaaDoorLQx21
namespace Go.Proofs.YtmpenkinheneoaaDoor.Plain
set_option linter.unusedVariables false
open Go Go.RowKit Go.Proofs.YtmpenkinheneoaaDoor.HPure Go.Proofs.YtmpenkinheneoaaDoor.Q Go.Proofs.YtmpenkinheneoaaDoorW.PrintWords Go.Proofs.YtmpenkinheneoaaDoorW.PrintLast Go.Proofs.YtmpenkinheneoaaDoorW.PrintMore
def noColon (c : Int) : Bool := c != 58
def partL : List Int → Bool
  | [] => false
  | c :: t => inPart true c && t.all (inPart false)
def nameL (p : List Int) : Bool :=
  match p.dropWhile noColon with
  | [] => partL p
  | _ :: b => partL (p.takeWhile noColon) && partL b
theorem part_from : ∀ (l : List Int) (pre : List UInt8) (f : Nat), l.all isChar = true → l.length ≤ f → 0 < pre.length → isNamePartFrom (mk (pre ++ flat l)) f pre.length = l.all (inPart false) := by
  intro l
  induction l with
  | nil =>
    intro pre f _ _ _
    have : ¬ pre.length < (mk (pre ++ flat [])).size := by rw [mk_size]; simp [flat]
    rw [isNamePartFrom_end _ _ _ this]
    rfl
  | cons c t ih =>
    intro pre f hc hf hp
    obtain ⟨g, rfl⟩ : ∃ g, f = g + 1 := ⟨f - 1, by simp at hf; omega⟩
    rw [List.all_cons, Bool.and_eq_true] at hc
    have hd := dec_at pre (flat t) c hc.1
    have hlt : pre.length < (mk (pre ++ flat (c :: t))).size := by rw [mk_size, flat_cons]; have := enc_pos c; simp; omega
    have hi := ih (pre ++ enc c) g hc.2 (by simp at hf; omega) (by simp; omega)
    rw [List.length_append, List.append_assoc] at hi
    have hcn := (isChar_iff c).1 hc.1
    unfold isNamePartFrom
    rw [if_pos hlt, flat_cons, hd.1]
    simp only
    rw [hi, beq_eq_false_iff_ne.2 (by omega : pre.length ≠ 0), show ((c.toNat : Nat) : Int) = c from by omega, List.all_cons]
    cases inPart false c <;> simp
theorem part_enc (l : List Int) (h : l.all isChar = true) : isNamePart (encode l) = partL l := by
  unfold isNamePart
  have hlen := flat_len l
  cases l with
  | nil => rfl
  | cons c t =>
    rw [List.all_cons, Bool.and_eq_true] at h
    have hd := dec_at [] (flat t) c h.1
    have hcp := enc_pos c
    have hsz : (encode (c :: t)).size = (enc c).length + (flat t).length := by rw [encode_flat, mk_size, flat_cons, List.length_append]
    obtain ⟨g, hg⟩ : ∃ g, (encode (c :: t)).size = g + 1 := ⟨(encode (c :: t)).size - 1, by omega⟩
    have hlt := flat_len t
    have hi := part_from t (enc c) g h.2 (by omega) (by omega)
    have hcn := (isChar_iff c).1 h.1
    rw [hg]
    unfold isNamePartFrom
    rw [if_pos (by omega)]
    rw [encode_flat, flat_cons]
    simp only [List.nil_append, List.length_nil] at hd
    rw [hd.1]
    simp only [Nat.zero_add]
    rw [hi, show ((c.toNat : Nat) : Int) = c from by omega]
    unfold partL
    rw [show decide (g + 1 ≠ 0) = true from by simp]
    cases inPart true c <;> simp
theorem enc_colon (c : Int) (h : isChar c = true) : (c = 58 ∧ enc c = [58]) ∨ (c ≠ 58 ∧ ∀ b ∈ enc c, b ≠ 58) := by
  have hc := (isChar_iff c).1 h
  by_cases he : c = 58
  · subst he; exact .inl ⟨rfl, rfl⟩
  · refine .inr ⟨he, ?_⟩
    intro b hb e
    subst e
    unfold enc Lib.encodeRune at hb
    obtain ⟨x, hx, hxb⟩ := List.mem_map.1 hb
    have h58 : x.toNat.toUInt8.toNat = 58 := by rw [hxb]; rfl
    obtain ⟨h0, h1⟩ := Lib.encodeRuneZ_byte c x hx
    have h2 : x = 58 := by
      have := enc_byte x ⟨h0, h1⟩
      omega
    subst h2
    by_cases h3 : c ≤ 127
    · rw [Lib.encodeRuneZ_one (by omega) h3] at hx
      simp at hx
      omega
    · by_cases h4 : c ≤ 2047
      · rw [Lib.encodeRuneZ_two (by omega) h4] at hx
        simp at hx
        omega
      · by_cases h5 : c ≤ 65535
        · rw [Lib.encodeRuneZ_three (by omega)] at hx
          simp at hx
          omega
        · rw [Lib.encodeRuneZ_four (by omega) (by omega)] at hx
          simp at hx
          omega
theorem index_skip : ∀ (bs t : List UInt8), (∀ b ∈ bs, b ≠ 58) → Lib.indexByte (bs ++ t) 58 = if Lib.indexByte t 58 < 0 then -1 else (bs.length : Int) + Lib.indexByte t 58 := by
  intro bs
  induction bs with
  | nil =>
    intro t _
    have := Lib.indexByte_ge t 58
    rw [List.nil_append]
    split
    · omega
    · simp
  | cons b r ih =>
    intro t h
    have hb := h b (by simp)
    have hi := ih t (fun x hx => h x (by simp [hx]))
    have := Lib.indexByte_ge t 58
    have hu : Lib.indexByte (b :: (r ++ t)) 58 = if b == 58 then 0 else if Lib.indexByte (r ++ t) 58 == -1 then -1 else Lib.indexByte (r ++ t) 58 + 1 := rfl
    rw [List.cons_append, hu, if_neg (by simpa using hb), hi]
    by_cases h1 : Lib.indexByte t 58 < 0
    · rw [if_pos h1, if_pos h1]; rfl
    · rw [if_neg h1, if_neg h1]
      rw [if_neg (by simp; omega)]
      simp only [List.length_cons]
      omega
theorem index_colon : ∀ (p : List Int), p.all isChar = true → Lib.indexByte (flat p) 58 = match p.dropWhile noColon with | [] => -1 | _ :: _ => ((flat (p.takeWhile noColon)).length : Int) := by
  intro p
  induction p with
  | nil => intro _; rfl
  | cons c t ih =>
    intro h
    rw [List.all_cons, Bool.and_eq_true] at h
    have hi := ih h.2
    rcases enc_colon c h.1 with ⟨rfl, he⟩ | ⟨hc, hb⟩
    · rw [flat_cons, he]
      rfl
    · have hq : noColon c = true := by unfold noColon; rw [bne_iff_ne]; exact hc
      rw [flat_cons, index_skip _ _ hb, hi, List.dropWhile_cons, List.takeWhile_cons, hq, if_pos rfl, if_pos rfl]
      split
      · rfl
      · rw [if_neg (Int.not_lt.2 (Int.natCast_nonneg _)), flat_cons, List.length_append]
        exact (Int.natCast_add _ _).symm
theorem isName_f (s : ByteArray) (k : Nat) (hk : 1 ≤ k) (h : s.size ≤ 1000000000) : chars_IsName.f k s = some (isText s && (decide ((points s).length ≤ 100) && nameL (points s))) := by
  obtain ⟨m, rfl⟩ : ∃ m, k = m + 1 := ⟨k - 1, by omega⟩
  unfold chars_IsName.f
  rw [isText_f s (by omega), Option.bind_some]
  cases ht : isText s
  · simp only [Bool.false_eq_true, if_false, chars_IsName.j0, if_true, Bool.false_and]
  · have hc := chars_of_text s ht
    unfold utf8_RuneCountInString.f
    rw [if_pos rfl, if_pos (by omega), Option.bind_some, count_points]
    simp only [chars_IsName.j0]
    by_cases hl : ((points s).length : Int) > 100
    · rw [decide_eq_true hl, if_pos rfl, decide_eq_false (by omega)]; rfl
    · rw [decide_eq_false hl, if_neg (by simp), decide_eq_true (by omega)]
      unfold strings_Cut.f stringslite_Cut.f stringslite_Index.f
      have hg : (⟨#[58]⟩ : ByteArray).get! 0 = 58 := rfl
      have hs1 : (⟨#[58]⟩ : ByteArray).size = 1 := rfl
      have hidx := index_colon (points s) hc.1
      have hflat : s.data.toList = flat (points s) := by
        have := congrArg (fun x => x.data.toList) hc.2
        simp only [encode_flat, data_mk] at this
        exact this.symm
      rw [← hflat] at hidx
      rw [if_pos hs1, Option.bind_some, hg, hidx, hs1]
      generalize hp : points s = p at *
      have hsp : s = encode p := hc.2.symm
      unfold nameL
      have htd := List.takeWhile_append_dropWhile (p := noColon) (l := p)
      have ha : (p.takeWhile noColon).all isChar = true := by
        rw [List.all_eq_true]; intro x hx; exact List.all_eq_true.1 hc.1 x ((List.takeWhile_sublist noColon).mem hx)
      have hb : (p.dropWhile noColon).all isChar = true := by
        rw [List.all_eq_true]; intro x hx; exact List.all_eq_true.1 hc.1 x ((List.dropWhile_sublist noColon).mem hx)
      cases hd : p.dropWhile noColon with
      | nil =>
        simp only
        rw [if_neg (by omega), Option.bind_some, Option.bind_some]
        unfold chars_isNamePart.f
        rw [if_pos (by simp only; omega), Option.bind_some, hsp, part_enc p hc.1]
        cases partL p <;> rfl
      | cons c b =>
        simp only
        rw [hd] at htd hb
        rw [List.all_cons, Bool.and_eq_true] at hb
        have hc58 : c = 58 := by
          have := List.head_dropWhile_not noColon (l := p) (by rw [hd]; simp)
          simp only [hd, List.head_cons] at this
          unfold noColon at this
          simpa using this
        subst hc58
        have hcut : flat p = flat (p.takeWhile noColon) ++ (58 :: flat b) := by
          conv => lhs; rw [← htd]
          rw [flat_append]
          rfl
        have hlen : s.size = (flat (p.takeWhile noColon)).length + 1 + (flat b).length := by
          rw [hsp, encode_flat, mk_size, hcut]; simp; omega
        have e1 : s.extract 0 (flat (p.takeWhile noColon)).length = encode (p.takeWhile noColon) := by
          rw [hsp, encode_flat, extract_mk', encode_flat, hcut, List.drop_zero, Nat.sub_zero, List.take_left]
        have e2 : s.extract ((flat (p.takeWhile noColon)).length + 1) s.size = encode b := by
          conv => lhs; rw [hlen]
          rw [hsp, encode_flat, extract_mk', encode_flat, hcut]
          congr 1
          rw [← List.drop_drop, List.drop_left]
          simp
        rw [if_pos (by omega), if_pos (by omega), if_pos (by omega), show ((1 : Nat) : Int) = 1 from rfl, w64 (by omega) (by omega), if_pos (by omega), if_pos (by omega), Option.bind_some, Option.bind_some, Int.toNat_natCast, show (((flat (p.takeWhile noColon)).length : Int) + 1).toNat = (flat (p.takeWhile noColon)).length + 1 from by omega, e1, e2]
        unfold chars_isNamePart.f
        have z1 : (encode (p.takeWhile noColon)).size ≤ 140737488355328 := by rw [encode_flat, mk_size]; omega
        have z2 : (encode b).size ≤ 140737488355328 := by rw [encode_flat, mk_size]; omega
        simp only
        rw [if_pos z1, if_pos z2, Option.bind_some, part_enc _ ha, part_enc _ hb.2]
        cases partL (p.takeWhile noColon) <;> simp
theorem letter_ref (c : Int) : chiselref01_letter.f c = some (inPart true c) := by
  unfold chiselref01_letter.f inPart isLetter
  repeat' split
  all_goals congr 1
  all_goals rw [Bool.eq_iff_iff]
  all_goals simp only [Bool.or_eq_true, Bool.and_eq_true, decide_eq_true_eq, true_iff, Bool.false_eq_true, false_iff, beq_iff_eq, bne_iff_ne, Bool.not_true, ne_eq, false_and, or_false]
  all_goals omega
theorem inName_ref (c : Int) : chiselref01_inName.f c = some (inPart false c) := by
  unfold chiselref01_inName.f
  rw [letter_ref, Option.bind_some]
  cases h : inPart true c
  · have h' : isLetter c = false := by unfold inPart at h; simpa using h
    rw [if_neg (by simp)]
    unfold inPart
    rw [h']
    repeat' split
    all_goals congr 1
    all_goals rw [Bool.eq_iff_iff]
    all_goals simp only [Bool.or_eq_true, Bool.and_eq_true, decide_eq_true_eq, true_iff, Bool.false_eq_true, beq_iff_eq, Bool.not_false, true_and, false_or]
    all_goals omega
  · have h' : isLetter c = true := by unfold inPart at h; simpa using h
    rw [if_pos rfl]
    unfold inPart
    rw [h']
    rfl
def refName : Bool → Nat → List Int → Bool
  | first, n, [] => !first && decide (n ≤ 1)
  | first, n, c :: t => if (c == 58 && !first) = true then refName true (n + 1) t else if first = true then inPart true c && refName false n t else inPart false c && refName false n t
theorem refName_many : ∀ (p : List Int) (first : Bool) (n : Nat), 2 ≤ n → refName first n p = false := by
  intro p
  induction p with
  | nil => intro first n h; simp [refName]; omega
  | cons c t ih =>
    intro first n h
    simp only [refName]
    rw [ih true (n + 1) (by omega), ih false n h]
    cases first <;> simp
theorem inPart_colon : inPart false 58 = false := by decide
theorem refName_one : ∀ (p : List Int), refName false 1 p = p.all (inPart false) := by
  intro p
  induction p with
  | nil => rfl
  | cons c t ih =>
    simp only [refName]
    by_cases h : c = 58
    · subst h
      rw [refName_many t true 2 (by omega), List.all_cons, inPart_colon]
      rfl
    · rw [if_neg (by simp [h]), if_neg (by simp), ih, List.all_cons]
theorem refName_part (p : List Int) : refName true 1 p = partL p := by
  cases p with
  | nil => rfl
  | cons c t =>
    simp only [refName]
    rw [if_neg (by simp), if_pos trivial, refName_one]
    rfl
theorem refName_zero : ∀ (p : List Int), refName false 0 p = match p.dropWhile noColon with | [] => p.all (inPart false) | _ :: b => (p.takeWhile noColon).all (inPart false) && partL b := by
  intro p
  induction p with
  | nil => rfl
  | cons c t ih =>
    simp only [refName]
    by_cases h : c = 58
    · subst h
      rw [if_pos (by simp), List.dropWhile_cons, List.takeWhile_cons, show noColon 58 = false from rfl]
      simp only [Bool.false_eq_true, if_false, List.all_nil, Bool.true_and]
      exact refName_part t
    · have hq : noColon c = true := by unfold noColon; rw [bne_iff_ne]; exact h
      rw [if_neg (by simp [h]), if_neg (by simp), ih, List.dropWhile_cons, List.takeWhile_cons, hq, if_pos rfl, if_pos rfl]
      cases t.dropWhile noColon with
      | nil => simp only [List.all_cons]
      | cons _ b => simp only [List.all_cons, Bool.and_assoc]
theorem refName_name (p : List Int) : refName true 0 p = nameL p := by
  cases p with
  | nil => rfl
  | cons c t =>
    simp only [refName]
    rw [if_neg (by simp), if_pos trivial, refName_zero]
    unfold nameL
    by_cases h : c = 58
    · subst h
      rw [List.dropWhile_cons, List.takeWhile_cons, show noColon 58 = false from rfl]
      simp only [Bool.false_eq_true, if_false]
      have : inPart true 58 = false := by decide
      rw [this]
      rfl
    · have hq : noColon c = true := by unfold noColon; rw [bne_iff_ne]; exact h
      rw [List.dropWhile_cons, List.takeWhile_cons, hq, if_pos rfl, if_pos rfl]
      cases t.dropWhile noColon with
      | nil => rfl
      | cons _ b => simp only [partL, Bool.and_assoc]
theorem isName_l0 (p : List Int) (hp : p.length ≤ 1000) : ∀ (d i k n : Nat) (first : Bool), i + d = p.length → 2 * d + 1 ≤ k → n ≤ i → chiselref01_IsName.l0 k p (n : Int) first (i : Int) = some (refName first n (p.drop i)) := by
  intro d
  induction d with
  | zero =>
    intro i k n first h1 h2 h3
    obtain ⟨m, rfl⟩ : ∃ m, k = m + 1 := ⟨k - 1, by omega⟩
    simp only [chiselref01_IsName.l0]
    rw [if_neg (by omega), List.drop_of_length_le (by omega)]
    cases first
    · simp only [Bool.false_eq_true, if_false, refName, Bool.not_false, Bool.true_and]
      congr 1
      apply decide_eq_decide.2
      omega
    · rfl
  | succ d ih =>
    intro i k n first h1 h2 h3
    obtain ⟨m, rfl⟩ : ∃ m, k = m + 2 := ⟨k - 2, by omega⟩
    have hd : p.drop i = rd p (i : Int) :: p.drop (i + 1) := by
      rw [List.drop_eq_getElem_cons (by omega)]
      simp [rd, List.getD_eq_getElem?_getD, show i < p.length by omega]
    simp only [chiselref01_IsName.l0]
    rw [if_pos (by omega), if_pos (by omega), hd]
    have ec : ((i : Int) + 1) = ((i + 1 : Nat) : Int) := by omega
    have en : ((n : Int) + 1) = ((n + 1 : Nat) : Int) := by omega
    generalize hx : rd p (i : Int) = c
    simp only [refName]
    by_cases h58 : c = 58
    · subst h58
      rw [if_pos rfl]
      simp only [chiselref01_IsName.j2]
      rw [w64 (x := (i : Int) + 1) (by omega) (by omega), w64 (x := (n : Int) + 1) (by omega) (by omega), ec, en]
      cases first
      · simp only [Bool.not_false, if_true]
        rw [ih (i + 1) m (n + 1) true (by omega) (by omega) (by omega)]
        simp
      · simp only [Bool.not_true, Bool.false_eq_true, if_false, if_true]
        rw [if_pos (by omega), if_pos (by omega), hx, letter_ref, Option.bind_some]
        have : inPart true 58 = false := by decide
        rw [this]
        simp
    · rw [if_neg h58]
      simp only [chiselref01_IsName.j2]
      rw [w64 (x := (i : Int) + 1) (by omega) (by omega), ec]
      have e58 : (c == 58 && !first) = false := by simp [h58]
      rw [e58]
      simp only [Bool.false_eq_true, if_false]
      cases first
      · simp only [Bool.false_eq_true, if_false]
        rw [if_pos (by omega), if_pos (by omega), hx, inName_ref, Option.bind_some, ih (i + 1) m n false (by omega) (by omega) (by omega)]
        cases inPart false c <;> simp
      · simp only [if_true]
        rw [if_pos (by omega), if_pos (by omega), hx, letter_ref, Option.bind_some, ih (i + 1) m n false (by omega) (by omega) (by omega)]
        cases inPart true c <;> simp
theorem isName_ref (s : ByteArray) (k : Nat) (hs : s.size ≤ 1099511627776) (hk : s.size + 300 ≤ k) : chiselref01_IsName.f k s = some (isText s && (decide ((points s).length ≤ 100) && nameL (points s))) := by
  unfold chiselref01_IsName.f
  rw [points_ref s k hs (by omega), Option.bind_some]
  obtain ⟨m, rfl⟩ : ∃ m, k = m + 1 := ⟨k - 1, by omega⟩
  have j : ∀ p b, chiselref01_IsName.j0 (m + 1) p b = if b = true then some false else chiselref01_IsName.l0 m p 0 true 0 := fun p b => by simp only [chiselref01_IsName.j0]
  cases ht : isText s
  · simp only [Bool.false_eq_true, if_false, Bool.false_and]
    rw [if_neg (by omega), j, if_pos rfl]
  · simp only [if_true, Bool.true_and]
    generalize points s = p
    by_cases h1 : (p.length : Int) < 1
    · rw [if_pos h1, j, if_pos rfl]
      have : p = [] := List.eq_nil_of_length_eq_zero (by omega)
      subst this
      rfl
    · rw [if_neg h1, j]
      by_cases h2 : (p.length : Int) > 100
      · rw [decide_eq_true h2, if_pos rfl, decide_eq_false (by omega)]; rfl
      · rw [decide_eq_false h2, if_neg (by simp), decide_eq_true (by omega)]
        have := isName_l0 p (by omega) p.length 0 m 0 true (by omega) (by omega) (by omega)
        rw [List.drop_zero, refName_name] at this
        rw [Bool.true_and]
        exact this
theorem isText_ref (s : ByteArray) (k : Nat) (hs : s.size ≤ 1099511627776) (hk : s.size + 11 ≤ k) : chiselref01_IsText.f k s = some (isText s) := by
  unfold chiselref01_IsText.f
  rw [points_ref s k hs hk, Option.bind_some]
  cases isText s <;> rfl
end Go.Proofs.YtmpenkinheneoaaDoor.Plain
