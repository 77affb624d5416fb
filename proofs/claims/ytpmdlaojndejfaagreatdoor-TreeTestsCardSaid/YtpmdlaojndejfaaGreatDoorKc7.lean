/- Texts and lists of characters, of no program: a text is the form of its code points. -/
import Derived.Test.YtpmdlaojndejfaaGreatDoorKc6
import Derived.Lib.Bytealg
namespace Go.Proofs.YtpmdlaojndejfaaGreatDoor.Plain
set_option linter.unusedVariables false
open Go Go.Lib Go.Proofs.YtpmdlaojndejfaaGreatDoor.HPure

def mk (l : List UInt8) : ByteArray := ⟨l.toArray⟩
def enc (c : Int) : List UInt8 := Lib.encodeRune c
def flat (l : List Int) : List UInt8 := l.flatMap Lib.encodeRune
theorem mk_size (l : List UInt8) : (mk l).size = l.length := List.size_toArray
theorem mk_data (s : ByteArray) : mk s.data.toList = s := by unfold mk; rw [Array.toArray_toList]
theorem data_mk (l : List UInt8) : (mk l).data.toList = l := by simp [mk]
theorem size_data (s : ByteArray) : s.data.toList.length = s.size := Array.length_toList
theorem mk_get (l : List UInt8) (i : Nat) : (mk l).get! i = l[i]?.getD 0 := by
  simp only [mk, ByteArray.get!]
  simp [Array.getElem!_eq_getD, Array.getD_eq_getD_getElem?]
  rfl
theorem get_lt (s : ByteArray) (i : Nat) : (s.get! i).toNat < 256 := UInt8.toNat_lt _
theorem flat_nil : flat [] = [] := rfl
theorem flat_cons (c : Int) (l : List Int) : flat (c :: l) = enc c ++ flat l := rfl
theorem flat_append (a b : List Int) : flat (a ++ b) = flat a ++ flat b := by simp [flat]
theorem encode_flat (l : List Int) : encode l = mk (flat l) := rfl
theorem enc_pos (c : Int) : 1 ≤ (enc c).length ∧ (enc c).length ≤ 4 := by
  have := encodeRuneZ_length c
  simpa [enc, encodeRune] using this
theorem enc_byte (x : Int) (h : 0 ≤ x ∧ x < 256) : ((x.toNat.toUInt8).toNat : Int) = x := by
  simp
  omega
theorem flat_len (l : List Int) : l.length ≤ (flat l).length ∧ (flat l).length ≤ 4 * l.length := by
  induction l with
  | nil => simp [flat]
  | cons c t ih => have := enc_pos c; rw [flat_cons]; simp; omega

/-- Is the code point at a place a character, and written as it stands? -/
def goodAt (s : ByteArray) (pos : Nat) : Bool := good (s.size - pos) (s.get! pos).toNat (s.get! (pos + 1)).toNat (s.get! (pos + 2)).toNat (Utf8.decode s pos).1
theorem byte_is (b : UInt8) (k : Nat) (hk : k < 256) : (b == k.toUInt8) = (b.toNat == k) := by
  rw [Bool.eq_iff_iff, beq_iff_eq, beq_iff_eq]
  constructor
  · intro h; subst h; simp; omega
  · intro h
    apply UInt8.toNat_inj.1
    rw [h]; simp; omega
theorem good_step (s : ByteArray) (pos : Nat) (h : pos < s.size) : (!isChar ((Utf8.decode s pos).1 : Int) || ((Utf8.decode s pos).1 == 65533 && !isBad s pos)) = !goodAt s pos := by
  unfold goodAt good isBad
  have e1 := byte_is (s.get! pos) 239 (by omega)
  have e2 := byte_is (s.get! (pos + 1)) 191 (by omega)
  have e3 := byte_is (s.get! (pos + 2)) 189 (by omega)
  have e0 : decide (pos + 3 ≤ s.size) = decide (3 ≤ s.size - pos) := by
    apply decide_eq_decide.2; omega
  rw [show (239 : UInt8) = (239 : Nat).toUInt8 from rfl, show (191 : UInt8) = (191 : Nat).toUInt8 from rfl, show (189 : UInt8) = (189 : Nat).toUInt8 from rfl, e1, e2, e3, e0]
  simp
theorem isTextFrom_step (s : ByteArray) (f pos : Nat) (h : pos < s.size) : isTextFrom s (f + 1) pos = (goodAt s pos && isTextFrom s f (pos + (Utf8.decode s pos).2)) := by
  simp only [isTextFrom, if_pos h, good_step s pos h]
  cases goodAt s pos <;> simp

/-- The form of a character, read at its place. -/
theorem dec_at (pre rest : List UInt8) (c : Int) (hc : isChar c = true) : Utf8.decode (mk (pre ++ (enc c ++ rest))) pre.length = (c.toNat, (enc c).length) ∧ goodAt (mk (pre ++ (enc c ++ rest))) pre.length = true := by
  have hc' := (isChar_iff c).1 hc
  obtain ⟨m, rfl⟩ : ∃ m : Nat, c = (m : Int) := ⟨c.toNat, by omega⟩
  have g : ∀ j, (mk (pre ++ (enc (m : Int) ++ rest))).get! (pre.length + j) = ((enc (m : Int) ++ rest)[j]?).getD 0 := by
    intro j
    rw [mk_get, List.getElem?_append_right (by omega)]
    congr 2
    omega
  have hz : (mk (pre ++ (enc (m : Int) ++ rest))).size - pre.length = (enc (m : Int)).length + rest.length := by
    rw [mk_size]; simp
  have key : decodeN ((enc (m : Int)).length + rest.length) ((((enc (m : Int) ++ rest)[0]?).getD 0).toNat) ((((enc (m : Int) ++ rest)[1]?).getD 0).toNat) ((((enc (m : Int) ++ rest)[2]?).getD 0).toNat) ((((enc (m : Int) ++ rest)[3]?).getD 0).toNat) = (m, (enc (m : Int)).length) ∧
      good ((enc (m : Int)).length + rest.length) ((((enc (m : Int) ++ rest)[0]?).getD 0).toNat) ((((enc (m : Int) ++ rest)[1]?).getD 0).toNat) ((((enc (m : Int) ++ rest)[2]?).getD 0).toNat) m = true := by
    rw [good_iff]
    unfold enc encodeRune
    by_cases h1 : m < 128
    · rw [encodeRuneZ_one (by omega) (by omega)]
      refine ⟨?_, hc, by omega⟩
      simp only [List.map_cons, List.map_nil, List.cons_append, List.nil_append, List.length_cons, List.length_nil, List.getElem?_cons_zero, Option.getD_some]
      have : ((m : Int).toNat.toUInt8).toNat = m := by simp; omega
      rw [this]
      exact decodeN_one _ _ _ _ _ h1
    · by_cases h2 : m ≤ 2047
      · rw [encodeRuneZ_two (by omega) (by omega)]
        refine ⟨?_, hc, by omega⟩
        simp only [List.map_cons, List.map_nil, List.cons_append, List.nil_append, List.length_cons, List.length_nil, List.getElem?_cons_zero, List.getElem?_cons_succ, Option.getD_some]
        have e0 : ((192 + (m : Int) / 64).toNat.toUInt8).toNat = 192 + m / 64 := by simp; omega
        have e1 : ((128 + (m : Int) % 64).toNat.toUInt8).toNat = 128 + m % 64 := by simp; omega
        rw [e0, e1]
        exact decodeN_two _ _ _ _ (by omega) (by omega) h2
      · by_cases h3 : m ≤ 65535
        · rw [encodeRuneZ_three (by omega)]
          simp only [List.map_cons, List.map_nil, List.cons_append, List.nil_append, List.length_cons, List.length_nil, List.getElem?_cons_zero, List.getElem?_cons_succ, Option.getD_some]
          have e0 : ((224 + (m : Int) / 4096).toNat.toUInt8).toNat = 224 + m / 4096 := by simp; omega
          have e1 : ((128 + (m : Int) / 64 % 64).toNat.toUInt8).toNat = 128 + m / 64 % 64 := by simp; omega
          have e2 : ((128 + (m : Int) % 64).toNat.toUInt8).toNat = 128 + m % 64 := by simp; omega
          rw [e0, e1, e2]
          exact ⟨decodeN_three _ _ _ (by omega) (by omega) (by omega), hc, by omega⟩
        · rw [encodeRuneZ_four (by omega) (by omega)]
          refine ⟨?_, hc, by omega⟩
          simp only [List.map_cons, List.map_nil, List.cons_append, List.nil_append, List.length_cons, List.length_nil, List.getElem?_cons_zero, List.getElem?_cons_succ, Option.getD_some]
          have e0 : ((240 + (m : Int) / 262144).toNat.toUInt8).toNat = 240 + m / 262144 := by simp; omega
          have e1 : ((128 + (m : Int) / 4096 % 64).toNat.toUInt8).toNat = 128 + m / 4096 % 64 := by simp; omega
          have e2 : ((128 + (m : Int) / 64 % 64).toNat.toUInt8).toNat = 128 + m / 64 % 64 := by simp; omega
          have e3 : ((128 + (m : Int) % 64).toNat.toUInt8).toNat = 128 + m % 64 := by simp; omega
          rw [e0, e1, e2, e3]
          exact decodeN_four _ _ (by omega) (by omega) (by omega)
  have hd : Utf8.decode (mk (pre ++ (enc (m : Int) ++ rest))) pre.length = (m, (enc (m : Int)).length) := by
    rw [decode_at, hz]
    have g0 := g 0
    rw [Nat.add_zero] at g0
    rw [g0, g 1, g 2, g 3]
    exact key.1
  refine ⟨by rw [hd]; simp, ?_⟩
  unfold goodAt
  have g0 := g 0
  rw [Nat.add_zero] at g0
  rw [hd, hz, g0, g 1, g 2]
  exact key.2

theorem take_of_get (L : List UInt8) (pos w : Nat) (h : pos + w ≤ L.length) (hw : w ≤ 4) : L.drop pos = (([L[pos]?.getD 0, L[pos + 1]?.getD 0, L[pos + 2]?.getD 0, L[pos + 3]?.getD 0] : List UInt8).take w) ++ L.drop (pos + w) := by
  have d : ∀ i, i < L.length → L.drop i = L[i]?.getD 0 :: L.drop (i + 1) := by
    intro i hi
    rw [List.drop_eq_getElem_cons hi]
    simp [hi]
  match w, hw with
  | 0, _ => simp
  | 1, _ => rw [d pos (by omega)]; rfl
  | 2, _ => rw [d pos (by omega), d (pos + 1) (by omega)]; rfl
  | 3, _ => rw [d pos (by omega), d (pos + 1) (by omega), d (pos + 2) (by omega)]; rfl
  | 4, _ => rw [d pos (by omega), d (pos + 1) (by omega), d (pos + 2) (by omega), d (pos + 3) (by omega)]; rfl
/-- What is read as a character at a place is its form. -/
theorem good_form (s : ByteArray) (pos : Nat) (h : pos < s.size) (hg : goodAt s pos = true) :
    isChar ((Utf8.decode s pos).1 : Int) = true ∧ (Utf8.decode s pos).2 = (enc ((Utf8.decode s pos).1 : Int)).length ∧ pos + (Utf8.decode s pos).2 ≤ s.size ∧ s.data.toList.drop pos = enc ((Utf8.decode s pos).1 : Int) ++ s.data.toList.drop (pos + (Utf8.decode s pos).2) := by
  unfold goodAt at hg
  have hd := decode_at s pos
  obtain ⟨r, w, hr⟩ : ∃ r w, Utf8.decode s pos = (r, w) := ⟨_, _, rfl⟩
  rw [hr] at hg hd ⊢
  have hN := hd.symm
  have hgd := decodeN_good _ _ _ _ _ r w (by omega) (get_lt _ _) (get_lt _ _) (get_lt _ _) (get_lt _ _) hN hg
  obtain ⟨hw, he⟩ := hgd
  have hlen := encodeRuneZ_length (r : Int)
  have hw4 : w ≤ 4 ∧ (encodeRuneZ (r : Int)).length = w := by
    rw [he] at hlen ⊢
    simp only [List.length_map, List.length_take, List.length_cons, List.length_nil] at hlen ⊢
    have : w ≤ 4 := by
      unfold decodeN at hN
      repeat' split at hN
      all_goals (obtain ⟨_, rfl⟩ := Prod.mk.inj hN; omega)
    omega
  have hen : enc (r : Int) = ([s.get! pos, s.get! (pos + 1), s.get! (pos + 2), s.get! (pos + 3)] : List UInt8).take w := by
    unfold enc encodeRune
    rw [he]
    simp only [List.map_map]
    have hid : ∀ (l : List UInt8), (l.map fun b => b.toNat).map ((fun (x : Int) => x.toNat.toUInt8) ∘ fun (x : Nat) => (x : Int)) = l := by
      intro l
      rw [List.map_map]
      conv => rhs; rw [← List.map_id l]
      apply List.map_congr_left
      intro b _
      simp
    have := hid (([s.get! pos, s.get! (pos + 1), s.get! (pos + 2), s.get! (pos + 3)] : List UInt8).take w)
    rw [List.map_take] at this
    exact this
  refine ⟨?_, ?_, by omega, ?_⟩
  · exact ((good_iff _ _ _ _ _).1 hg).1
  · show w = (enc (r : Int)).length
    simp only [enc, encodeRune, List.length_map]
    exact hw4.2.symm
  · show s.data.toList.drop pos = enc (r : Int) ++ s.data.toList.drop (pos + w)
    have gg : ∀ i, s.get! i = s.data.toList[i]?.getD 0 := by
      intro i
      rw [← mk_get, mk_data]
    rw [hen, gg pos, gg (pos + 1), gg (pos + 2), gg (pos + 3)]
    exact take_of_get _ _ _ (by rw [size_data]; omega) hw4.1

theorem points_enc : ∀ (l : List Int) (pre : List UInt8) (f : Nat), l.all isChar = true → l.length ≤ f → isTextFrom (mk (pre ++ flat l)) f pre.length = true ∧ pointsFrom (mk (pre ++ flat l)) f pre.length = l := by
  intro l
  induction l with
  | nil =>
    intro pre f _ _
    have : ¬ pre.length < (mk (pre ++ flat [])).size := by rw [mk_size]; simp [flat]
    exact ⟨isTextFrom_end _ _ _ this, pointsFrom_end _ _ _ this⟩
  | cons c t ih =>
    intro pre f hc hf
    obtain ⟨g, rfl⟩ : ∃ g, f = g + 1 := ⟨f - 1, by simp at hf; omega⟩
    rw [List.all_cons, Bool.and_eq_true] at hc
    have hd := dec_at pre (flat t) c hc.1
    have hlt : pre.length < (mk (pre ++ flat (c :: t))).size := by rw [mk_size, flat_cons]; have := enc_pos c; simp; omega
    have hi := ih (pre ++ enc c) g hc.2 (by simp at hf; omega)
    rw [List.length_append, List.append_assoc] at hi
    have hcn := (isChar_iff c).1 hc.1
    rw [isTextFrom_step _ _ _ hlt]
    unfold pointsFrom
    rw [if_pos hlt]
    rw [flat_cons, hd.1, hd.2]
    refine ⟨by rw [hi.1]; rfl, ?_⟩
    show ((c.toNat : Int) :: _) = _
    rw [hi.2]
    congr 1
    omega
theorem points_form (s : ByteArray) : ∀ (f pos : Nat), pos ≤ s.size → s.size ≤ pos + f → isTextFrom s f pos = true → (pointsFrom s f pos).all isChar = true ∧ s.data.toList.drop pos = flat (pointsFrom s f pos) := by
  intro f
  induction f with
  | zero =>
    intro pos h1 h2 _
    refine ⟨rfl, ?_⟩
    rw [List.drop_of_length_le (by rw [size_data]; omega)]
    rfl
  | succ f ih =>
    intro pos h1 h2 h3
    by_cases hp : pos < s.size
    · rw [isTextFrom_step s f pos hp, Bool.and_eq_true] at h3
      obtain ⟨hc, hw, hle, hdrop⟩ := good_form s pos hp h3.1
      have hpos := enc_pos ((Utf8.decode s pos).1 : Int)
      have hi := ih (pos + (Utf8.decode s pos).2) hle (by omega) h3.2
      unfold pointsFrom
      rw [if_pos hp]
      refine ⟨by rw [List.all_cons, hc, hi.1]; rfl, ?_⟩
      rw [flat_cons, ← hi.2]
      exact hdrop
    · rw [pointsFrom_end s _ pos hp]
      refine ⟨rfl, ?_⟩
      rw [List.drop_of_length_le (by rw [size_data]; omega)]
      rfl
/-- A list of characters is read again from its text. -/
theorem text_of_chars (l : List Int) (h : l.all isChar = true) : isText (encode l) = true ∧ points (encode l) = l := by
  have := points_enc l [] (encode l).size h (by rw [encode_flat, mk_size]; exact (flat_len l).1)
  simpa [isText, points, encode_flat] using this
/-- A text is made again of its code points. -/
theorem chars_of_text (s : ByteArray) (h : isText s = true) : (points s).all isChar = true ∧ encode (points s) = s := by
  have := points_form s s.size 0 (Nat.zero_le _) (by omega) h
  refine ⟨this.1, ?_⟩
  rw [encode_flat]
  unfold points
  rw [← this.2, List.drop_zero, mk_data]
theorem count_points (s : ByteArray) : Lib.runeCount s = (points s).length := by
  unfold Lib.runeCount points
  have : ∀ f pos, Lib.runeCountFrom s f pos = (pointsFrom s f pos).length := by
    intro f
    induction f with
    | zero => intro pos; rfl
    | succ f ih =>
      intro pos
      unfold Lib.runeCountFrom pointsFrom
      split
      · rw [ih]; simp; omega
      · rfl
  exact this _ _
theorem points_le (s : ByteArray) : (points s).length ≤ s.size := by rw [← count_points]; exact Lib.runeCount_le s
end Go.Proofs.YtpmdlaojndejfaaGreatDoor.Plain

/- Names, plainly. -/
namespace Go.Proofs.YtpmdlaojndejfaaGreatDoor.Plain
set_option linter.unusedVariables false
open Go Go.RowKit Go.Lib Go.Proofs.YtpmdlaojndejfaaGreatDoor.HPure
def noColon (c : Int) : Bool := c != 58
def partL : List Int → Bool
  | [] => false
  | c :: t => inPart true c && t.all (inPart false)
def nameL (p : List Int) : Bool :=
  match p.dropWhile noColon with
  | [] => partL p
  | _ :: b => partL (p.takeWhile noColon) && partL b

theorem part_from : ∀ (l : List Int) (pre : List UInt8) (f : Nat), l.all isChar = true → l.length ≤ f → 0 < pre.length → isNamePartFrom (mk (pre ++ flat l)) f pre.length = l.all (inPart false) := by
  intro l
  induction l with
  | nil =>
    intro pre f _ _ _
    have : ¬ pre.length < (mk (pre ++ flat [])).size := by rw [mk_size]; simp [flat]
    rw [isNamePartFrom_end _ _ _ this]
    rfl
  | cons c t ih =>
    intro pre f hc hf hp
    obtain ⟨g, rfl⟩ : ∃ g, f = g + 1 := ⟨f - 1, by simp at hf; omega⟩
    rw [List.all_cons, Bool.and_eq_true] at hc
    have hd := dec_at pre (flat t) c hc.1
    have hlt : pre.length < (mk (pre ++ flat (c :: t))).size := by rw [mk_size, flat_cons]; have := enc_pos c; simp; omega
    have hi := ih (pre ++ enc c) g hc.2 (by simp at hf; omega) (by simp; omega)
    rw [List.length_append, List.append_assoc] at hi
    have hcn := (isChar_iff c).1 hc.1
    unfold isNamePartFrom
    rw [if_pos hlt, flat_cons, hd.1]
    simp only
    rw [hi, beq_eq_false_iff_ne.2 (by omega : pre.length ≠ 0), show ((c.toNat : Nat) : Int) = c from by omega, List.all_cons]
    cases inPart false c <;> simp
theorem part_enc (l : List Int) (h : l.all isChar = true) : isNamePart (encode l) = partL l := by
  unfold isNamePart
  have hlen := flat_len l
  cases l with
  | nil => rfl
  | cons c t =>
    rw [List.all_cons, Bool.and_eq_true] at h
    have hd := dec_at [] (flat t) c h.1
    have hcp := enc_pos c
    have hsz : (encode (c :: t)).size = (enc c).length + (flat t).length := by rw [encode_flat, mk_size, flat_cons, List.length_append]
    obtain ⟨g, hg⟩ : ∃ g, (encode (c :: t)).size = g + 1 := ⟨(encode (c :: t)).size - 1, by omega⟩
    have hlt := flat_len t
    have hi := part_from t (enc c) g h.2 (by omega) (by omega)
    have hcn := (isChar_iff c).1 h.1
    rw [hg]
    unfold isNamePartFrom
    rw [if_pos (by omega)]
    rw [encode_flat, flat_cons]
    simp only [List.nil_append, List.length_nil] at hd
    rw [hd.1]
    simp only [Nat.zero_add]
    rw [hi, show ((c.toNat : Nat) : Int) = c from by omega]
    unfold partL
    rw [show decide (g + 1 ≠ 0) = true from by simp]
    cases inPart true c <;> simp
/-- The byte of a colon stands in a character's form only if it is the colon. -/
theorem enc_colon (c : Int) (h : isChar c = true) : (c = 58 ∧ enc c = [58]) ∨ (c ≠ 58 ∧ ∀ b ∈ enc c, b ≠ 58) := by
  have hc := (isChar_iff c).1 h
  by_cases he : c = 58
  · subst he; exact .inl ⟨rfl, rfl⟩
  · refine .inr ⟨he, ?_⟩
    intro b hb e
    subst e
    unfold enc Lib.encodeRune at hb
    obtain ⟨x, hx, hxb⟩ := List.mem_map.1 hb
    have h58 : x.toNat.toUInt8.toNat = 58 := by rw [hxb]; rfl
    obtain ⟨h0, h1⟩ := Lib.encodeRuneZ_byte c x hx
    have h2 : x = 58 := by
      have := enc_byte x ⟨h0, h1⟩
      omega
    subst h2
    by_cases h3 : c ≤ 127
    · rw [Lib.encodeRuneZ_one (by omega) h3] at hx
      simp at hx
      omega
    · by_cases h4 : c ≤ 2047
      · rw [Lib.encodeRuneZ_two (by omega) h4] at hx
        simp at hx
        omega
      · by_cases h5 : c ≤ 65535
        · rw [Lib.encodeRuneZ_three (by omega)] at hx
          simp at hx
          omega
        · rw [Lib.encodeRuneZ_four (by omega) (by omega)] at hx
          simp at hx
          omega
theorem index_skip : ∀ (bs t : List UInt8), (∀ b ∈ bs, b ≠ 58) → Lib.indexByte (bs ++ t) 58 = if Lib.indexByte t 58 < 0 then -1 else (bs.length : Int) + Lib.indexByte t 58 := by
  intro bs
  induction bs with
  | nil =>
    intro t _
    have := Lib.indexByte_ge t 58
    rw [List.nil_append]
    split
    · omega
    · simp
  | cons b r ih =>
    intro t h
    have hb := h b (by simp)
    have hi := ih t (fun x hx => h x (by simp [hx]))
    have := Lib.indexByte_ge t 58
    have hu : Lib.indexByte (b :: (r ++ t)) 58 = if b == 58 then 0 else if Lib.indexByte (r ++ t) 58 == -1 then -1 else Lib.indexByte (r ++ t) 58 + 1 := rfl
    rw [List.cons_append, hu, if_neg (by simpa using hb), hi]
    by_cases h1 : Lib.indexByte t 58 < 0
    · rw [if_pos h1, if_pos h1]; rfl
    · rw [if_neg h1, if_neg h1]
      rw [if_neg (by simp; omega)]
      simp only [List.length_cons]
      omega
theorem index_colon : ∀ (p : List Int), p.all isChar = true → Lib.indexByte (flat p) 58 = match p.dropWhile noColon with | [] => -1 | _ :: _ => ((flat (p.takeWhile noColon)).length : Int) := by
  intro p
  induction p with
  | nil => intro _; rfl
  | cons c t ih =>
    intro h
    rw [List.all_cons, Bool.and_eq_true] at h
    have hi := ih h.2
    rcases enc_colon c h.1 with ⟨rfl, he⟩ | ⟨hc, hb⟩
    · rw [flat_cons, he]
      rfl
    · have hq : noColon c = true := by unfold noColon; rw [bne_iff_ne]; exact hc
      rw [flat_cons, index_skip _ _ hb, hi, List.dropWhile_cons, List.takeWhile_cons, hq, if_pos rfl, if_pos rfl]
      split
      · rfl
      · rw [if_neg (Int.not_lt.2 (Int.natCast_nonneg _)), flat_cons, List.length_append]
        exact (Int.natCast_add _ _).symm
/-- Names, by the program. -/
def refName : Bool → Nat → List Int → Bool
  | first, n, [] => !first && decide (n ≤ 1)
  | first, n, c :: t => if (c == 58 && !first) = true then refName true (n + 1) t else if first = true then inPart true c && refName false n t else inPart false c && refName false n t
theorem refName_many : ∀ (p : List Int) (first : Bool) (n : Nat), 2 ≤ n → refName first n p = false := by
  intro p
  induction p with
  | nil => intro first n h; simp [refName]; omega
  | cons c t ih =>
    intro first n h
    simp only [refName]
    rw [ih true (n + 1) (by omega), ih false n h]
    cases first <;> simp
theorem inPart_colon : inPart false 58 = false := by decide
theorem refName_one : ∀ (p : List Int), refName false 1 p = p.all (inPart false) := by
  intro p
  induction p with
  | nil => rfl
  | cons c t ih =>
    simp only [refName]
    by_cases h : c = 58
    · subst h
      rw [refName_many t true 2 (by omega), List.all_cons, inPart_colon]
      rfl
    · rw [if_neg (by simp [h]), if_neg (by simp), ih, List.all_cons]
theorem refName_part (p : List Int) : refName true 1 p = partL p := by
  cases p with
  | nil => rfl
  | cons c t =>
    simp only [refName]
    rw [if_neg (by simp), if_pos trivial, refName_one]
    rfl
theorem refName_zero : ∀ (p : List Int), refName false 0 p = match p.dropWhile noColon with | [] => p.all (inPart false) | _ :: b => (p.takeWhile noColon).all (inPart false) && partL b := by
  intro p
  induction p with
  | nil => rfl
  | cons c t ih =>
    simp only [refName]
    by_cases h : c = 58
    · subst h
      rw [if_pos (by simp), List.dropWhile_cons, List.takeWhile_cons, show noColon 58 = false from rfl]
      simp only [Bool.false_eq_true, if_false, List.all_nil, Bool.true_and]
      exact refName_part t
    · have hq : noColon c = true := by unfold noColon; rw [bne_iff_ne]; exact h
      rw [if_neg (by simp [h]), if_neg (by simp), ih, List.dropWhile_cons, List.takeWhile_cons, hq, if_pos rfl, if_pos rfl]
      cases t.dropWhile noColon with
      | nil => simp only [List.all_cons]
      | cons _ b => simp only [List.all_cons, Bool.and_assoc]
theorem refName_name (p : List Int) : refName true 0 p = nameL p := by
  cases p with
  | nil => rfl
  | cons c t =>
    simp only [refName]
    rw [if_neg (by simp), if_pos trivial, refName_zero]
    unfold nameL
    by_cases h : c = 58
    · subst h
      rw [List.dropWhile_cons, List.takeWhile_cons, show noColon 58 = false from rfl]
      simp only [Bool.false_eq_true, if_false]
      have : inPart true 58 = false := by decide
      rw [this]
      rfl
    · have hq : noColon c = true := by unfold noColon; rw [bne_iff_ne]; exact h
      rw [List.dropWhile_cons, List.takeWhile_cons, hq, if_pos rfl, if_pos rfl]
      cases t.dropWhile noColon with
      | nil => rfl
      | cons _ b => simp only [partL, Bool.and_assoc]
end Go.Proofs.YtpmdlaojndejfaaGreatDoor.Plain

/- Loops and other pieces of code by what is known of them, over known blocks alone. -/
set_option linter.unusedVariables false
set_option linter.unusedSimpArgs false
namespace Go.Proofs.YtpmdlaojndejfaaGreatDoor.E
open Go

/-- What is known of a piece of code; of the pieces of a function, by their places. -/
abbrev LSp := St → (X → St → Prop) → Prop
abbrev LCon := List Nat → Option LSp
def codeF (E : Env) (con : Con) (lc : LCon) (u : Nat) : Code → List Nat → St → (X → St → Prop) → Prop
  | .seq a b, p, s, q => match lc p with
    | some sp => sp s q
    | none => codeF E con lc u a (p ++ [0]) s fun
      | .normal, s' => codeF E con lc u b (p ++ [1]) s' q
      | x, s' => q x s'
  | .cond c a b, p, s, q => match lc p with
    | some sp => sp s q
    | none => match evalO s.tmps c with
      | .lit (.bool t) => if t = true then codeF E con lc u a (p ++ [0]) s q else codeF E con lc u b (p ++ [1]) s q
      | _ => False
  | .block id b, p, s, q => match lc p with
    | some sp => sp s q
    | none => codeF E con lc u b (p ++ [0]) s fun
      | .exit i, s' => if i = id then q .normal s' else q (.exit i) s'
      | x, s' => q x s'
  | .loop b, p, s, q => match lc p with
    | some sp => sp s q
    | none => loopW (fun s q => codeF E con lc u b (p ++ [0]) s q) u s q
  | .region id ops draw, p, s, q => match lc p with
    | some sp => sp s q
    | none => if draw = true then regionDQ E con ops s (q .normal) else regionR1 E con ops (q .normal) ops.toList s
  | .skip, _, s, q => q .normal s
  | .exit id, _, s, q => q (.exit id) s
  | .ret, _, s, q => q .ret s
  | _, p, s, q => match lc p with
    | some sp => sp s q
    | none => False

/-- Fewer numbers. -/
def Sb (r r' : Nat → Nat) : Prop := ∀ i, ∃ j, r j = r' i
theorem Sb.rfl {r : Nat → Nat} : Sb r r := fun i => ⟨i, Eq.refl _⟩
theorem Sb.trans {r r1 r2 : Nat → Nat} (a : Sb r r1) (b : Sb r1 r2) : Sb r r2 := fun i => by
  obtain ⟨j, hj⟩ := b i
  obtain ⟨k, hk⟩ := a j
  exact ⟨k, hk.trans hj⟩
theorem Fm.sb {r r' : Nat → Nat} {H H' : Heap} (h : Fm r' H H') (hs : Sb r r') : Fm r H H' := fun id hid => h id fun i e => by
  obtain ⟨j, hj⟩ := hs i
  exact hid j (hj.trans e)
theorem Sb.cut {r : Nat → Nat} {K H : Heap} (h : Rn r K H) {k : Nat} (hk : k ≤ K.length) : Sb r (cutR r k H.length) := fun i => h.reach hk i

/-- Fewer numbers, if so many are allowed to be forgotten. -/
def Sq (fg : Bool) (r r' : Nat → Nat) : Prop := Sb r r' ∧ (fg = false → r' = r)
theorem Sq.rfl {fg : Bool} {r : Nat → Nat} : Sq fg r r := ⟨.rfl, fun _ => Eq.refl _⟩
theorem Sq.trans {fg : Bool} {r r1 r2 : Nat → Nat} (a : Sq fg r r1) (b : Sq fg r1 r2) : Sq fg r r2 := ⟨a.1.trans b.1, fun h => (b.2 h).trans (a.2 h)⟩
theorem Fm.sq {fg : Bool} {r r' : Nat → Nat} {H H' : Heap} (h : Fm r' H H') (hs : Sq fg r r') : Fm r H H' := h.sb hs.1
/-- A piece does as is known of it. -/
def SpOK (E : Env) (self : Self) (ro : Option Nat) (c : Code) (sp : LSp) (fg : Bool) : Prop :=
  ∀ r s t q, Rs r s t → sp s q → ∃ x s' t' r', codeE E self ro c t = some (x, t') ∧ Rs r' s' t' ∧ Sq fg r r' ∧ Fm r t.H t'.H ∧ Kp s t s' t' ∧ q x s'
def LOK (E : Env) (self : Self) (ro : Option Nat) (root : Code) (lc : LCon) (fg : Bool) : Prop := ∀ p sp, lc p = some sp → SpOK E self ro (atC p root) sp fg
theorem SpOK.up {E : Env} {self : Self} {ro : Option Nat} {c : Code} {sp : LSp} {fg : Bool} (h : SpOK E self ro c sp false) : SpOK E self ro c sp fg := fun r s t q hs hq => by
  obtain ⟨x, s', t', r', h1, h2, h3, h4⟩ := h r s t q hs hq
  exact ⟨x, s', t', r', h1, h2, ⟨h3.1, fun _ => h3.2 rfl⟩, h4⟩

theorem atC_skip (i : Nat) : ∀ p : List Nat, atC (i :: p) .skip = .skip := fun p => by
  rcases i with _ | _ | i <;> rfl
theorem atC_snoc (i : Nat) : ∀ (p : List Nat) (c : Code), atC (p ++ [i]) c = atC [i] (atC p c)
  | [], c => rfl
  | j :: p, c => by
    have ih := atC_snoc i p
    have hs : ∀ (d : Code), (∀ q, atC (j :: q) d = .skip) → atC (j :: (p ++ [i])) d = atC [i] (atC (j :: p) d) := fun d h => by
      rw [h, h]; exact (atC_skip i []).symm
    rw [List.cons_append]
    cases c <;> rcases j with _ | _ | j <;> first | exact ih _ | exact hs _ fun q => rfl

section
variable {E : Env} {self : Self} {con : Con} {fg : Bool}
theorem loopF_ok {ro : Option Nat} {b : Code} {cw : St → (X → St → Prop) → Prop} (hup : CodeUp E self)
    (hcw : ∀ r s t q, Rs r s t → cw s q → ∃ x s' t' r', codeE E self ro b t = some (x, t') ∧ Rs r' s' t' ∧ Sq fg r r' ∧ Fm r t.H t'.H ∧ Kp s t s' t' ∧ q x s') : ∀ (n : Nat) (r : Nat → Nat) (s t : St) (q : X → St → Prop), Rs r s t → loopW cw n s q →
    ∃ x s' t' r', codeE E self ro (.loop b) t = some (x, t') ∧ Rs r' s' t' ∧ Sq fg r r' ∧ Fm r t.H t'.H ∧ Kp s t s' t' ∧ q x s'
  | 0, r, s, t, q, hs, h => h.elim
  | n + 1, r, s, t, q, hs, h => by
    unfold loopW at h
    obtain ⟨x, s1, t1, r1, h1, h2, hb, h3, h4, h5⟩ := hcw _ _ _ _ hs h
    cases x with
    | normal =>
      obtain ⟨x, s', t', r', g1, g2, gb, g3, g4, g5⟩ := loopF_ok hup hcw n r1 s1 t1 q h2 h5
      refine ⟨x, s', t', r', ?_, g2, hb.trans gb, h3.trans (g3.sq hb), h4.trans g4, g5⟩
      have := hup _ _ _ _ g1
      simp only [codeE, h1, Option.bind_some]
      exact this
    | _ => exact ⟨_, s1, t1, r1, by simp only [codeE, h1, Option.bind_some], h2, hb, h3, h4, h5⟩

theorem codeF_ok (hc : ConR E self con) (hup : CodeUp E self) {ro : Option Nat} {root : Code} {lc : LCon} (hl : LOK E self ro root lc fg) {u : Nat} : ∀ (c : Code) (p : List Nat) (r : Nat → Nat) (s t : St) (q : X → St → Prop), c = atC p root → Rs r s t → codeF E con lc u c p s q →
    ∃ x s' t' r', codeE E self ro c t = some (x, t') ∧ Rs r' s' t' ∧ Sq fg r r' ∧ Fm r t.H t'.H ∧ Kp s t s' t' ∧ q x s' := by
  intro c
  induction c with
  | skip => exact fun p r s t q hp hs h => ⟨_, _, _, r, rfl, hs, .rfl, .rfl, .rfl, by simpa only [codeF] using h⟩
  | exit id => exact fun p r s t q hp hs h => ⟨_, _, _, r, rfl, hs, .rfl, .rfl, .rfl, by simpa only [codeF] using h⟩
  | ret => exact fun p r s t q hp hs h => ⟨_, _, _, r, rfl, hs, .rfl, .rfl, .rfl, by simpa only [codeF] using h⟩
  | region id ops draw =>
    intro p r s t q hp hs h
    simp only [codeF] at h
    split at h
    · rename_i sp e; rw [hp]; exact hl p sp e r s t q hs h
    split at h
    · rename_i hd
      obtain ⟨s', t', h1, h2, h3, h4, h5⟩ := regionDQ_ok hc hs h
      exact ⟨.normal, s', t', r, by simp only [codeE, if_pos hd, h1]; rfl, h2, .rfl, h3, h4, h5⟩
    rename_i hd
    obtain ⟨s', t', h1, h2, h3, h4, h5⟩ := regionR1_ok hc (ro := ro) _ _ _ hs h
    exact ⟨.normal, s', t', r, by simp only [codeE, if_neg hd]; exact h1, h2, .rfl, h3, h4, h5⟩
  | seq a b iha ihb =>
    intro p r s t q hp hs h
    simp only [codeF] at h
    split at h
    · rename_i sp e; rw [hp]; exact hl p sp e r s t q hs h
    have ha : a = atC (p ++ [0]) root := by rw [atC_snoc, ← hp]; rfl
    have hb : b = atC (p ++ [1]) root := by rw [atC_snoc, ← hp]; rfl
    obtain ⟨x, s1, t1, r1, h1, h2, k1, h3, h4, h5⟩ := iha _ _ _ _ _ ha hs h
    cases x with
    | normal =>
      obtain ⟨x, s', t', r2, g1, g2, k2, g3, g4, g5⟩ := ihb _ _ _ _ _ hb h2 h5
      exact ⟨x, s', t', r2, by simp only [codeE, h1, Option.bind_some]; exact g1, g2, k1.trans k2, h3.trans (g3.sq k1), h4.trans g4, g5⟩
    | _ => exact ⟨_, s1, t1, r1, by simp only [codeE, h1, Option.bind_some], h2, k1, h3, h4, h5⟩
  | cond cc a b iha ihb =>
    intro p r s t q hp hs h
    simp only [codeF] at h
    split at h
    · rename_i sp e; rw [hp]; exact hl p sp e r s t q hs h
    have ha : a = atC (p ++ [0]) root := by rw [atC_snoc, ← hp]; rfl
    have hb : b = atC (p ++ [1]) root := by rw [atC_snoc, ← hp]; rfl
    split at h
    case h_2 => exact h.elim
    rename_i tt ht
    have ht' : evalO t.tmps cc = .lit (.bool tt) := by
      rw [evalO_live (r := r) hs.tm (by rw [ht]; rfl), evalO_map, ht]; rfl
    simp only [codeE, ht']
    cases tt
    · exact ihb _ _ _ _ _ hb hs (by simpa using h)
    · exact iha _ _ _ _ _ ha hs (by simpa using h)
  | block id b ihb =>
    intro p r s t q hp hs h
    simp only [codeF] at h
    split at h
    · rename_i sp e; rw [hp]; exact hl p sp e r s t q hs h
    have hb : b = atC (p ++ [0]) root := by rw [atC_snoc, ← hp]; rfl
    obtain ⟨x, s1, t1, r1, h1, h2, k1, h3, h4, h5⟩ := ihb _ _ _ _ _ hb hs h
    cases x with
    | exit i =>
      simp only at h5
      split at h5
      · rename_i hi
        exact ⟨.normal, s1, t1, r1, by simp only [codeE, h1, Option.bind_some, if_pos hi], h2, k1, h3, h4, h5⟩
      · rename_i hi
        exact ⟨.exit i, s1, t1, r1, by simp only [codeE, h1, Option.bind_some, if_neg hi], h2, k1, h3, h4, h5⟩
    | _ => exact ⟨_, s1, t1, r1, by simp only [codeE, h1, Option.bind_some], h2, k1, h3, h4, h5⟩
  | loop b ihb =>
    intro p r s t q hp hs h
    simp only [codeF] at h
    split at h
    · rename_i sp e; rw [hp]; exact hl p sp e r s t q hs h
    have hb : b = atC (p ++ [0]) root := by rw [atC_snoc, ← hp]; rfl
    exact loopF_ok hup (fun r s t q hs h => ihb _ r s t q hb hs h) u r s t q hs h
  | _ =>
    intro p r s t q hp hs h
    simp only [codeF] at h
    split at h
    · rename_i sp e; rw [hp]; exact hl p sp e r s t q hs h
    · exact h.elim
end
end Go.Proofs.YtpmdlaojndejfaaGreatDoor.E

/- Loops by what stays true in them; functions by their pieces. -/
set_option linter.unusedVariables false
set_option linter.unusedSimpArgs false
namespace Go.Proofs.YtpmdlaojndejfaaGreatDoor.E
open Go

/-- An ending of a piece: how it ends; what is live then, read and written; what is known. -/
structure Ot (σ : Type) where
  ρ : Type
  x : X
  live : List Nat
  dec : List V → Heap → Option ρ
  encL : ρ → List V
  encH : ρ → Heap
  Q : σ → ρ → Prop
def stL (n : Nat) (live : List Nat) (vs : List V) (K : Heap) : St := ⟨frameT n (live.zip vs), K, []⟩
def Ot.st {σ : Type} (n : Nat) (o : Ot σ) (c : o.ρ) : St := stL n o.live (o.encL c) (o.encH c)
def xEq : X → X → Bool
  | .normal, .normal => true
  | .ret, .ret => true
  | .exit i, .exit j => decide (i = j)
  | _, _ => false
/-- A piece: what is live where it begins, what is known there; its endings. -/
structure LD (σ : Type) where
  n : Nat
  live : List Nat
  dec : List V → Heap → Option σ
  encL : σ → List V
  encH : σ → Heap
  P : σ → Prop
  outs : List (Ot σ)
section
variable {σ : Type}
def LD.st (L : LD σ) (a : σ) : St := stL L.n L.live (L.encL a) (L.encH a)
def decS {α : Type} (n : Nat) (live : List Nat) (dec : List V → Heap → Option α) (s : St) : Option α :=
  if s.tmps.length = n then dec (live.map fun i => s.tmps.getD i un) s.H else none
def allO (n : Nat) : List (Ot σ) → σ → (X → St → Prop) → Prop
  | [], _, _ => True
  | [o], a, q => ∀ c : o.ρ, o.Q a c → q o.x (o.st n c)
  | o :: os, a, q => (∀ c : o.ρ, o.Q a c → q o.x (o.st n c)) ∧ allO n os a q
def LD.sp (L : LD σ) : LSp := fun s q => match decS L.n L.live L.dec s with
  | some a => L.P a ∧ allO L.n L.outs a q
  | none => False
def arrO (n : Nat) : List (Ot σ) → σ → X → St → Prop
  | [], _, _, _ => False
  | o :: os, a, x, s => match xEq o.x x with
    | true => match decS n o.live o.dec s with
      | some c => o.Q a c
      | none => arrO n os a x s
    | false => arrO n os a x s
def transO : List (Ot σ) → σ → σ → Prop
  | [], _, _ => True
  | [o], a', a => ∀ c : o.ρ, o.Q a' c → o.Q a c
  | o :: os, a', a => (∀ c : o.ρ, o.Q a' c → o.Q a c) ∧ transO os a' a
def LD.leaf (L : LD σ) (N : σ → σ → Prop) (a : σ) : X → St → Prop := fun x s => match x with
  | .normal => match decS L.n L.live L.dec s with
    | some a' => N a a'
    | none => False
  | x => arrO L.n L.outs a x s
/-- What is read is what is written; what is behind it names nothing in front. -/
def DecOK {α : Type} (fg : Bool) (dec : List V → Heap → Option α) (encL : α → List V) (encH : α → Heap) (P : α → Prop) : Prop :=
  ∀ vs H a, dec vs H = some a → P a → vs = encL a ∧ (H = encH a ∨ fg = true ∧ ∃ G, H = encH a ++ G ∧ (∀ b ∈ encH a, LowB (encH a).length b) ∧ ∀ v ∈ encL a, LowV (encH a).length v)

theorem zip_map_mem {f : Nat → V} {i : Nat} {v : V} : ∀ (live : List Nat), (i, v) ∈ live.zip (live.map f) → v = f i ∧ i ∈ live
  | [], h => by simp at h
  | j :: l, h => by
    simp only [List.map_cons, List.zip_cons_cons, List.mem_cons, Prod.mk.injEq] at h
    rcases h with ⟨rfl, rfl⟩ | h
    · exact ⟨rfl, by simp⟩
    · have := zip_map_mem l h
      exact ⟨this.1, by simp [this.2]⟩
theorem zip_mem_r {v : V} {i : Nat} : ∀ (live : List Nat) (vs : List V), (i, v) ∈ live.zip vs → v ∈ vs
  | [], vs, h => by simp at h
  | j :: l, [], h => by simp at h
  | j :: l, w :: vs, h => by
    simp only [List.zip_cons_cons, List.mem_cons, Prod.mk.injEq] at h
    rcases h with ⟨rfl, rfl⟩ | h
    · simp
    · simp [zip_mem_r l vs h]
/-- Less is known. -/
theorem weak_ok {α : Type} {dec : List V → Heap → Option α} {encL : α → List V} {encH : α → Heap} {P : α → Prop} {fg : Bool} (hd : DecOK fg dec encL encH P) {r : Nat → Nat} {s t : St} (hs : Rs r s t) {n : Nat} {live : List Nat} {a : α}
    (h : decS n live dec s = some a) (hp : P a) : ∃ r', Rs r' (stL n live (encL a) (encH a)) t ∧ Sq fg r r' ∧ s.tmps.length = n := by
  unfold decS at h
  split at h
  case isFalse => cases h
  rename_i hn
  obtain ⟨hv, hH⟩ := hd _ _ _ h hp
  have hlen : t.tmps.length = (frameT n (live.zip (encL a))).length := by rw [hs.len, hn]; simp [frameT]
  have key : ∀ i, isDead ((frameT n (live.zip (encL a))).getD i un) = false → (i < n ∧ (frameT n (live.zip (encL a))).getD i un = s.tmps.getD i un ∧ s.tmps.getD i un ∈ encL a) ∨ (n ≤ i ∧ (frameT n (live.zip (encL a))).getD i un = un) := by
    intro i hi
    by_cases hlt : i < n
    · have e : (frameT n (live.zip (encL a))).getD i un = lookT (live.zip (encL a)) i := by simp [frameT, List.getD, hlt]
      rw [e] at hi ⊢
      have hm := lookT_mem _ i hi
      have hm2 := zip_mem_r _ _ hm
      rw [← hv] at hm hm2
      obtain ⟨h1, _⟩ := zip_map_mem live hm
      refine .inl ⟨hlt, ?_, ?_⟩
      · rw [← hv]; exact h1
      · rw [← hv, ← h1]; exact hm2
    · exact .inr ⟨by omega, by simp [frameT, List.getD, hlt]⟩
  rcases hH with hH | ⟨hfg, G, hH, hB, hV⟩
  · refine ⟨r, ⟨hlen, fun i hi => ?_, ?_⟩, .rfl, hn⟩
    · rcases key i hi with ⟨hlt, e, _⟩ | ⟨hge, e⟩
      · have e' : (stL n live (encL a) (encH a)).tmps.getD i un = s.tmps.getD i un := e
        rw [e']
        refine hs.tm i ?_
        rw [← e']; exact hi
      · have e' : (stL n live (encL a) (encH a)).tmps.getD i un = un := e
        rw [e', List.getD, List.getElem?_eq_none (by rw [hs.len, hn]; exact hge)]; rfl
    · show Rn r (encH a) t.H
      rw [← hH]; exact hs.H
  · have hk : (encH a).length ≤ s.H.length := by rw [hH]; simp
    have ht : s.H.take (encH a).length = encH a := by rw [hH]; simp
    refine ⟨cutR r (encH a).length t.H.length, ⟨hlen, fun i hi => ?_, ?_⟩, ⟨Sb.cut hs.H hk, fun h => by rw [hfg] at h; cases h⟩, hn⟩
    · rcases key i hi with ⟨hlt, e, hm⟩ | ⟨hge, e⟩
      · have e' : (stL n live (encL a) (encH a)).tmps.getD i un = s.tmps.getD i un := e
        rw [e', hs.tm i (by rw [← e']; exact hi)]
        exact hV _ hm _ _ fun j hj => by unfold cutR; rw [if_pos hj]
      · have e' : (stL n live (encL a) (encH a)).tmps.getD i un = un := e
        rw [e', List.getD, List.getElem?_eq_none (by rw [hs.len, hn]; exact hge)]; rfl
    · show Rn _ (encH a) t.H
      have := hs.H.cut hk (by rw [ht]; exact hB)
      rw [ht] at this; exact this

def PostO (n : Nat) (outs : List (Ot σ)) (a : σ) (x : X) (s : St) : Prop := ∃ o ∈ outs, ∃ c, o.Q a c ∧ x = o.x ∧ s = o.st n c
theorem PostO.q {n : Nat} : ∀ {outs : List (Ot σ)} {a : σ} {x : X} {s : St} {q : X → St → Prop}, PostO n outs a x s → allO n outs a q → q x s
  | [], a, x, s, q, h, hq => by obtain ⟨o, ho, _⟩ := h; simp at ho
  | [o], a, x, s, q, h, hq => by
    obtain ⟨o', ho, c, h1, rfl, rfl⟩ := h
    simp only [List.mem_singleton] at ho; subst ho
    exact hq c h1
  | o :: o2 :: os, a, x, s, q, h, hq => by
    obtain ⟨o', ho, c, h1, h2, h3⟩ := h
    rcases List.mem_cons.1 ho with rfl | ho
    · subst h2; subst h3; exact hq.1 c h1
    · exact PostO.q (outs := o2 :: os) ⟨o', ho, c, h1, h2, h3⟩ hq.2
theorem PostO.tr {n : Nat} {a a' : σ} {x : X} {s : St} : ∀ {outs : List (Ot σ)}, transO outs a' a → PostO n outs a' x s → PostO n outs a x s
  | [], ht, h => by obtain ⟨o, ho, _⟩ := h; simp at ho
  | [o], ht, h => by
    obtain ⟨o', ho, c, h1, h2, h3⟩ := h
    simp only [List.mem_singleton] at ho; subst ho
    exact ⟨o', by simp, c, ht c h1, h2, h3⟩
  | o :: o2 :: os, ht, h => by
    obtain ⟨o', ho, c, h1, h2, h3⟩ := h
    rcases List.mem_cons.1 ho with rfl | ho
    · exact ⟨o', by simp, c, ht.1 c h1, h2, h3⟩
    · obtain ⟨o4, ho4, h4⟩ := PostO.tr (outs := o2 :: os) ht.2 ⟨o', ho, c, h1, h2, h3⟩
      exact ⟨o4, by simp only [List.mem_cons] at ho4 ⊢; exact .inr ho4, h4⟩
theorem xEq_eq {x y : X} (h : xEq x y = true) : y = x := by
  unfold xEq at h
  split at h <;> simp_all
def OutsOK (fg : Bool) (outs : List (Ot σ)) : Prop := ∀ o ∈ outs, ∀ a, DecOK fg o.dec o.encL o.encH (o.Q a)
theorem arr_ok {fg : Bool} {n : Nat} {r : Nat → Nat} {s t : St} (hs : Rs r s t) {a : σ} {x : X} : ∀ {outs : List (Ot σ)}, OutsOK fg outs → arrO n outs a x s →
    ∃ s' r', PostO n outs a x s' ∧ Rs r' s' t ∧ Sq fg r r' ∧ s.tmps.length = n ∧ s'.tmps.length = n
  | [], ho, h => h.elim
  | o :: os, ho, h => by
    have rest : arrO n os a x s → ∃ s' r', PostO n (o :: os) a x s' ∧ Rs r' s' t ∧ Sq fg r r' ∧ s.tmps.length = n ∧ s'.tmps.length = n := fun h => by
      obtain ⟨s', r', ⟨o', h1, h2⟩, h3⟩ := arr_ok hs (outs := os) (fun o hm => ho o (by simp [hm])) h
      exact ⟨s', r', ⟨o', by simp [h1], h2⟩, h3⟩
    unfold arrO at h
    split at h
    · rename_i hx
      split at h
      · rename_i c hc
        obtain ⟨r', h1, h2, h3⟩ := weak_ok (ho o (by simp) a) hs hc h
        exact ⟨_, r', ⟨o, by simp, c, h, xEq_eq hx, rfl⟩, h1, h2, h3, by simp [Ot.st, stL, frameT]⟩
      · exact rest h
    · exact rest h

variable {E : Env} {self : Self} {con : Con} {lc : LCon} {u : Nat} {ro : Option Nat} {root : Code}
/-- What is asked of a round of a loop. -/
def LD.next (L : LD σ) (μ : σ → Nat) (a a' : σ) : Prop := L.P a' ∧ μ a' < μ a ∧ transO L.outs a' a
def LD.dok (L : LD σ) (fg : Bool) : Prop := DecOK fg L.dec L.encL L.encH L.P ∧ OutsOK fg L.outs
theorem LD.loop_ok {L : LD σ} {fg : Bool} (hd : L.dok fg) (hc : ConR E self con) (hup : CodeUp E self) (hl : LOK E self ro root lc fg) (μ : σ → Nat) {b : Code} {p : List Nat} (hb : b = atC p root)
    (hbody : ∀ a, L.P a → codeF E con lc u b p (L.st a) (L.leaf (L.next μ) a)) : SpOK E self ro (.loop b) L.sp fg := by
  have key : ∀ k a, μ a < k → L.P a → ∀ r t, Rs r (L.st a) t → ∃ x s' t' r', codeE E self ro (.loop b) t = some (x, t') ∧ Rs r' s' t' ∧ Sq fg r r' ∧ Fm r t.H t'.H ∧ t'.ds = t.ds ∧ s'.tmps.length = L.n ∧ PostO L.n L.outs a x s' := by
    intro k
    induction k with
    | zero => intro a hk; omega
    | succ k ih =>
      intro a hk hp r t hs
      obtain ⟨x, s1, t1, r1, h1, h2, h3, h4, h5, h6⟩ := codeF_ok hc hup hl b p r _ t _ hb hs (hbody a hp)
      cases x with
      | normal =>
        simp only [LD.leaf] at h6
        split at h6
        case h_2 => exact h6.elim
        rename_i a' ha
        obtain ⟨n1, n2, n3⟩ := h6
        obtain ⟨r2, k1, k2, k3⟩ := weak_ok hd.1 h2 ha n1
        obtain ⟨x, s', t', r', g1, g2, g3, g4, g5, g6, g7⟩ := ih a' (by omega) n1 r2 t1 k1
        refine ⟨x, s', t', r', ?_, g2, (h3.trans k2).trans g3, h4.trans (g4.sq (h3.trans k2)), g5.trans h5.1, g6, g7.tr n3⟩
        have := hup _ _ _ _ g1
        simp only [codeE, h1, Option.bind_some]
        exact this
      | _ =>
        obtain ⟨s', r2, k1, k2, k3, k4, k5⟩ := arr_ok h2 hd.2 h6
        exact ⟨_, s', t1, r2, by simp only [codeE, h1, Option.bind_some], k2, h3.trans k3, h4, h5.1, k5, k1⟩
  intro r s t q hs hq
  unfold LD.sp at hq
  split at hq
  case h_2 => exact hq.elim
  rename_i a ha
  obtain ⟨r1, k1, k2, k3⟩ := weak_ok hd.1 hs ha hq.1
  obtain ⟨x, s', t', r', g1, g2, g3, g4, g5, g6, g7⟩ := key _ a (Nat.lt_succ_self _) hq.1 r1 t k1
  exact ⟨x, s', t', r', g1, g2, k2.trans g3, g4.sq k2, ⟨g5, by rw [g6, k3]⟩, g7.q hq.2⟩
/-- A piece that is no loop. -/
theorem LD.piece_ok {L : LD σ} {fg : Bool} (hd : L.dok fg) (hc : ConR E self con) (hup : CodeUp E self) (hl : LOK E self ro root lc fg) {b : Code} {p : List Nat} (hb : b = atC p root)
    (hbody : ∀ a, L.P a → codeF E con lc u b p (L.st a) (arrO L.n L.outs a)) : SpOK E self ro b L.sp fg := by
  intro r s t q hs hq
  unfold LD.sp at hq
  split at hq
  case h_2 => exact hq.elim
  rename_i a ha
  obtain ⟨r1, k1, k2, k3⟩ := weak_ok hd.1 hs ha hq.1
  obtain ⟨x, s1, t1, r2, h1, h2, h3, h4, h5, h6⟩ := codeF_ok hc hup hl b p r1 _ t _ hb k1 (hbody a hq.1)
  obtain ⟨s', r3, m1, m2, m3, m4, m5⟩ := arr_ok h2 hd.2 h6
  exact ⟨x, s', t1, r3, h1, m2, (k2.trans h3).trans m3, h4.sq k2, ⟨h5.1, by rw [m5, k3]⟩, m1.q hq.2⟩

/-- A piece that is never reached. -/
theorem sp_false {L : LD σ} {fg : Bool} {c : Code} (h : ∀ a, L.P a → False) : SpOK E self ro c L.sp fg := fun r s t q hs hq => by
  unfold LD.sp at hq
  split at hq
  · exact (h _ hq.1).elim
  · exact hq.elim
theorem lok_none {fg : Bool} : LOK E self ro root (fun _ => none) fg := fun p sp h => by cases h
/-- One more piece. -/
def lcAdd (p0 : List Nat) (sp : LSp) (lc : LCon) : LCon := fun p => if p = p0 then some sp else lc p
theorem lok_add {fg : Bool} {p0 : List Nat} {sp : LSp} (h : SpOK E self ro (atC p0 root) sp fg) (hl : LOK E self ro root lc fg) : LOK E self ro root (lcAdd p0 sp lc) fg := by
  intro p sp' hp
  unfold lcAdd at hp
  split at hp
  · rename_i e; simp only [Option.some.injEq] at hp; subst hp; subst e; exact h
  · exact hl p sp' hp
end

mutual
/-- No block from the k-th on is named: told by looking. -/
def lowVb (k : Nat) : V → Bool
  | .lit _ | .arr _ | .row _ => true
  | .agg cs | .tup cs | .fn _ cs => lowVbs k cs
  | .own id _ _ _ | .ptr id _ _ _ | .yld id | .mp id | .it id => decide (id < k)
def lowVbs (k : Nat) : List V → Bool
  | [] => true
  | v :: vs => lowVb k v && lowVbs k vs
end
mutual
theorem lowVb_ok {k : Nat} : ∀ {v : V}, lowVb k v = true → LowV k v
  | .lit _, _ => fun _ _ _ => rfl
  | .arr _, _ => fun _ _ _ => rfl
  | .row _, _ => fun _ _ _ => rfl
  | .agg cs, h => fun r r' e => by simp only [lowVb] at h; simp only [mapV, lowVbs_ok h r r' e]
  | .tup cs, h => fun r r' e => by simp only [lowVb] at h; simp only [mapV, lowVbs_ok h r r' e]
  | .fn _ cs, h => fun r r' e => by simp only [lowVb] at h; simp only [mapV, lowVbs_ok h r r' e]
  | .own id _ _ _, h => fun r r' e => by simp only [lowVb, decide_eq_true_eq] at h; simp only [mapV, e id h]
  | .ptr id _ _ _, h => fun r r' e => by simp only [lowVb, decide_eq_true_eq] at h; simp only [mapV, e id h]
  | .yld id, h => fun r r' e => by simp only [lowVb, decide_eq_true_eq] at h; simp only [mapV, e id h]
  | .mp id, h => fun r r' e => by simp only [lowVb, decide_eq_true_eq] at h; simp only [mapV, e id h]
  | .it id, h => fun r r' e => by simp only [lowVb, decide_eq_true_eq] at h; simp only [mapV, e id h]
theorem lowVbs_ok {k : Nat} : ∀ {l : List V}, lowVbs k l = true → ∀ r r' : Nat → Nat, (∀ i, i < k → r i = r' i) → mapVs r l = mapVs r' l
  | [], _ => fun _ _ _ => rfl
  | v :: vs, h => fun r r' e => by
    simp only [lowVbs, Bool.and_eq_true] at h
    simp only [mapVs, lowVb_ok h.1 r r' e, lowVbs_ok h.2 r r' e]
end
def lowBb (k : Nat) : Blk → Bool
  | .rows _ _ rs => rs.all fun l => lowVbs k l
  | .free | .gone | .iter .. | .dfr => true
  | .map es _ => es.all fun e => lowVb k e.1 && lowVb k e.2
  | _ => false
theorem lowBb_ok {k : Nat} {b : Blk} (h : lowBb k b = true) : LowB k b := fun r r' e => by
  cases b with
  | rows sz ver rs =>
    simp only [lowBb, List.all_eq_true] at h
    simp only [mapB, mapR]
    congr 1
    exact List.map_congr_left fun l hl => by rw [← mapVs_eq, ← mapVs_eq]; exact lowVbs_ok (h l hl) r r' e
  | map es c =>
    simp only [lowBb, List.all_eq_true, Bool.and_eq_true] at h
    simp only [mapB]
    congr 1
    exact List.map_congr_left fun x hx => by rw [lowVb_ok (h x hx).1 r r' e, lowVb_ok (h x hx).2 r r' e]
  | loop => simp [lowBb] at h
  | _ => rfl
/-- Rows of values that lie in no memory. -/
def litRows (rs : List (List V)) : Prop := ∀ l ∈ rs, ∀ v ∈ l, V.isLit v = true
theorem litRows.low {k sz ver : Nat} {rs : List (List V)} (h : litRows rs) : LowB k (.rows sz ver rs) := fun r r' e => by
  simp only [mapB, mapR]
  congr 1
  refine List.map_congr_left fun l hl => List.map_congr_left fun v hv => ?_
  have := h l hl v hv
  cases v <;> simp [V.isLit] at this
  rfl

/-! A function. -/
def resR (E : Env) (tmps : List V) (H : Heap) : List ResultVar → Option (List V)
  | [] => some []
  | .tmp t :: l => if isDead (tmps.getD t un) = true then none else (resR E tmps H l).map (tmps.getD t un :: ·)
  | .cell a t :: l => match tmps.getD a un with
    | .ptr id ver row off => (loadT E H t (.ptr id ver row off)).bind fun v => (resR E tmps H l).map (v :: ·)
    | _ => none
def finR (E : Env) (rs : List ResultVar) (q : V → Heap → Prop) (x : X) (s : St) : Prop :=
  match x with
  | .ret | .normal => match resR E s.tmps s.H rs with
    | some vs => q (tupV vs) s.H
    | none => False
  | _ => False
section
variable {E : Env} {tab : Tab} {con : Con} {lc : LCon} {u : Nat}
theorem resR_ok {r : Nat → Nat} {s t : St} (hs : Rs r s t) : ∀ (rs : List ResultVar) (vs : List V), resR E s.tmps s.H rs = some vs → resE E t.tmps t.H rs = some (vs.map (mapV r))
  | [], vs, h => by simp only [resR, Option.some.injEq] at h; subst h; rfl
  | .tmp i :: l, vs, h => by
    simp only [resR] at h
    split at h
    · cases h
    rename_i hd
    simp only [Option.map_eq_some_iff] at h
    obtain ⟨ws, hw, rfl⟩ := h
    simp only [resE, resR_ok hs l ws hw, Option.map_some, List.map_cons, hs.tm i (by simpa using hd)]
  | .cell a ty :: l, vs, h => by
    simp only [resR] at h
    split at h
    case h_2 => cases h
    rename_i id ver row off e
    simp only [Option.bind_eq_some_iff, Option.map_eq_some_iff] at h
    obtain ⟨v, hv, ws, hw, rfl⟩ := h
    have h1 := hs.tm a (by rw [e]; rfl)
    rw [e] at h1
    simp only [resE, h1, loadT_ren hs.H rfl hv, Option.bind_some, resR_ok hs l ws hw, Option.map_some, List.map_cons]
theorem mapV_tup (r : Nat → Nat) (vs : List V) : mapV r (tupV vs) = tupV (vs.map (mapV r)) := by
  rcases vs with _ | ⟨v, _ | ⟨w, vs⟩⟩ <;> simp [tupV, mapV, mapVs_eq]
theorem entry_rs {r : Nat → Nat} {K H : Heap} (hR : Rn r K H) (args : List V) (n : Nat) : Rs r ⟨args ++ List.replicate n un, K, []⟩ ⟨args.map (mapV r) ++ List.replicate n un, H, []⟩ := by
  refine ⟨by simp, fun i hi => ?_, hR⟩
  have e : args.map (mapV r) ++ List.replicate n un = (args ++ List.replicate n un).map (mapV r) := by simp [mapV, un]
  simp only [e, List.getD, List.getElem?_map]
  cases (args ++ List.replicate n un)[i]? <;> rfl
/-- A call by the function's body. -/
theorem F_call (hc : ConR E (L tab E) con) {f : FuncId} {fg : Bool} (hl : LOK E (L tab E) none (bodyOf E.P f) lc fg) {args : List V} {r : Nat → Nat} {K H : Heap} {q : V → Heap → Prop} (hR : Rn r K H) (hb : hasBody E.P f = true) (ht : H = [] → tab f (args.map (mapV r)) = none)
    (h : codeF E con lc u (bodyOf E.P f) [] ⟨args ++ List.replicate (ntmpsOf E.P f - args.length) un, K, []⟩ (finR E (resOf E.P f) q)) :
    ∃ v K' r' H', (L tab E).callX f (args.map (mapV r)) H = some (.ret (mapV r' v), H') ∧ Rn r' K' H' ∧ Sq fg r r' ∧ Fm r H H' ∧ q v K' := by
  obtain ⟨x, s', t', r', h1, h2, h3, h4, h5, h6⟩ := codeF_ok hc L_up hl _ [] r _ _ _ rfl (entry_rs hR args _) h
  have hlen : ntmpsOf E.P f - args.length = ntmpsOf E.P f - (args.map (mapV r)).length := by simp
  rw [hlen] at h1
  unfold finR at h6
  split at h6
  · split at h6
    · rename_i vs hr
      exact ⟨_, _, r', t'.H, by rw [mapV_tup]; exact L_of hb ht h1 (.inl rfl) h5.1 (resR_ok h2 _ _ hr), h2.H, h3, h4, h6⟩
    · exact h6.elim
  · split at h6
    · rename_i vs hr
      exact ⟨_, _, r', t'.H, by rw [mapV_tup]; exact L_of hb ht h1 (.inr rfl) h5.1 (resR_ok h2 _ _ hr), h2.H, h3, h4, h6⟩
    · exact h6.elim
  · exact h6.elim
theorem Rn.nil : Rn id [] [] := ⟨fun i j h => h, fun j => rfl, fun i b h => by simp at h⟩
mutual
theorem mapV_id : ∀ v : V, mapV id v = v
  | .lit _ => rfl
  | .arr _ => rfl
  | .row _ => rfl
  | .agg cs => by simp only [mapV, mapVs_id cs]
  | .tup cs => by simp only [mapV, mapVs_id cs]
  | .own .. => rfl
  | .ptr .. => rfl
  | .fn _ cs => by simp only [mapV, mapVs_id cs]
  | .yld _ => rfl
  | .mp _ => rfl
  | .it _ => rfl
theorem mapVs_id : ∀ l : List V, mapVs id l = l
  | [] => rfl
  | v :: vs => by simp only [mapVs, mapV_id v, mapVs_id vs]
end
theorem map_id (l : List V) : l.map (mapV id) = l := by rw [← mapVs_eq]; exact mapVs_id l
/-- A call on memory of its own. -/
theorem F_own (hc : ConR E (L tab E) con) {f : FuncId} {fg : Bool} (hl : LOK E (L tab E) none (bodyOf E.P f) lc fg) {args : List V} {q : V → Heap → Prop} (hb : hasBody E.P f = true) (ht : tab f args = none)
    (h : codeF E con lc u (bodyOf E.P f) [] ⟨args ++ List.replicate (ntmpsOf E.P f - args.length) un, [], []⟩ (finR E (resOf E.P f) q)) :
    ∃ v K' r H', (L tab E).callX f args [] = some (.ret (mapV r v), H') ∧ Rn r K' H' ∧ q v K' := by
  obtain ⟨v, K', r', H', h1, h2, h3, h4, h5⟩ := F_call hc hl (r := id) Rn.nil hb (fun _ => by rw [map_id]; exact ht) h
  rw [map_id] at h1
  exact ⟨v, K', r', H', h1, h2, h5⟩
/-- ..that answers with a value that lies in none. -/
theorem F_lit (hc : ConR E (L tab E) con) {f : FuncId} {fg : Bool} (hl : LOK E (L tab E) none (bodyOf E.P f) lc fg) {args : List V} {w : V} (hb : hasBody E.P f = true) (ht : tab f args = none) (hw : closedV w = true)
    (h : codeF E con lc u (bodyOf E.P f) [] ⟨args ++ List.replicate (ntmpsOf E.P f - args.length) un, [], []⟩ (finR E (resOf E.P f) fun v _ => v = w)) :
    ∃ H', (L tab E).callX f args [] = some (.ret w, H') := by
  obtain ⟨v, K', r, H', h1, h2, rfl⟩ := F_own hc hl hb ht h
  rw [closed_eq hw] at h1
  exact ⟨H', h1⟩
/-- A function on the caller's memory, by its body. -/
def addI (E : Env) (f0 : FuncId) (n : Nat) (con' : Con) (lc : LCon) (u : Nat) (con : Con) : Con := fun f args nid K q =>
  if f = f0 then codeF E con' lc u (bodyOf E.P f0) [] ⟨args ++ List.replicate (n - args.length) un, K, []⟩ (finR E (resOf E.P f0) q)
  else con f args nid K q
def isHeap (E : Env) (f : FuncId) : Bool := goodFn E.P f && !bodyless E.P f && (E.prim f).isNone && E.heapFn f && hasBody E.P f
theorem addI_r {f0 : FuncId} {n : Nat} {con' : Con} (hc : ConR E (L tab E) con) (hc' : ConR E (L tab E) con') (hl : LOK E (L tab E) none (bodyOf E.P f0) lc false) (hn : ntmpsOf E.P f0 = n) (hp : isHeap E f0 = true) (ht : ∀ args, tab f0 args = none) :
    ConR E (L tab E) (addI E f0 n con' lc u con) := by
  intro f args nid K q hq r H hR
  unfold addI at hq
  split at hq
  · rename_i hf
    subst hf
    simp only [isHeap, Bool.and_eq_true, Bool.not_eq_true'] at hp
    subst hn
    obtain ⟨v, K', r', H', h1, h2, h3, h4, h5⟩ := F_call hc' hl hR hp.2 (fun _ => ht _) hq
    have := h3.2 rfl; subst this
    refine ⟨v, K', H', ?_, h2, h4, h5⟩
    have hg := hp.1.1.1.1
    have hb := hp.1.1.1.2
    have hpr : E.prim f = none := by simpa using hp.1.1.2
    unfold callE
    simp only [hg, hpr, hb, hp.1.2, Bool.true_eq_false, Bool.false_eq_true, if_false, if_true]
    unfold Self.call
    rw [h1]; rfl
  · exact hc f args nid K q hq r H hR
end
end Go.Proofs.YtpmdlaojndejfaaGreatDoor.E
