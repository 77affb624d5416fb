/- Texts of the claim: PlainB. -/
import Derived.Test.YtmpenkinheneoaaDoorLPlainA
namespace Go.Proofs.YtmpenkinheneoaaDoor.Plain
set_option linter.unusedVariables false
open Go Go.Lib Go.Proofs.YtmpenkinheneoaaDoor.HPure
def mk (l : List UInt8) : ByteArray := ⟨l.toArray⟩
def enc (c : Int) : List UInt8 := Lib.encodeRune c
def flat (l : List Int) : List UInt8 := l.flatMap Lib.encodeRune
theorem mk_size (l : List UInt8) : (mk l).size = l.length := List.size_toArray
theorem mk_data (s : ByteArray) : mk s.data.toList = s := by unfold mk; rw [Array.toArray_toList]
theorem data_mk (l : List UInt8) : (mk l).data.toList = l := by simp [mk]
theorem size_data (s : ByteArray) : s.data.toList.length = s.size := Array.length_toList
theorem mk_get (l : List UInt8) (i : Nat) : (mk l).get! i = l[i]?.getD 0 := by
  simp only [mk, ByteArray.get!]
  simp [Array.getElem!_eq_getD, Array.getD_eq_getD_getElem?]
  rfl
theorem get_lt (s : ByteArray) (i : Nat) : (s.get! i).toNat < 256 := UInt8.toNat_lt _
theorem flat_nil : flat [] = [] := rfl
theorem flat_cons (c : Int) (l : List Int) : flat (c :: l) = enc c ++ flat l := rfl
theorem flat_append (a b : List Int) : flat (a ++ b) = flat a ++ flat b := by simp [flat]
theorem encode_flat (l : List Int) : encode l = mk (flat l) := rfl
theorem enc_pos (c : Int) : 1 ≤ (enc c).length ∧ (enc c).length ≤ 4 := by
  have := encodeRuneZ_length c
  simpa [enc, encodeRune] using this
theorem enc_byte (x : Int) (h : 0 ≤ x ∧ x < 256) : ((x.toNat.toUInt8).toNat : Int) = x := by
  simp
  omega
theorem flat_len (l : List Int) : l.length ≤ (flat l).length ∧ (flat l).length ≤ 4 * l.length := by
  induction l with
  | nil => simp [flat]
  | cons c t ih => have := enc_pos c; rw [flat_cons]; simp; omega
def goodAt (s : ByteArray) (pos : Nat) : Bool := good (s.size - pos) (s.get! pos).toNat (s.get! (pos + 1)).toNat (s.get! (pos + 2)).toNat (Utf8.decode s pos).1
theorem byte_is (b : UInt8) (k : Nat) (hk : k < 256) : (b == k.toUInt8) = (b.toNat == k) := by
  rw [Bool.eq_iff_iff, beq_iff_eq, beq_iff_eq]
  constructor
  · intro h; subst h; simp; omega
  · intro h
    apply UInt8.toNat_inj.1
    rw [h]; simp; omega
theorem good_step (s : ByteArray) (pos : Nat) (h : pos < s.size) : (!isChar ((Utf8.decode s pos).1 : Int) || ((Utf8.decode s pos).1 == 65533 && !isBad s pos)) = !goodAt s pos := by
  unfold goodAt good isBad
  have e1 := byte_is (s.get! pos) 239 (by omega)
  have e2 := byte_is (s.get! (pos + 1)) 191 (by omega)
  have e3 := byte_is (s.get! (pos + 2)) 189 (by omega)
  have e0 : decide (pos + 3 ≤ s.size) = decide (3 ≤ s.size - pos) := by
    apply decide_eq_decide.2; omega
  rw [show (239 : UInt8) = (239 : Nat).toUInt8 from rfl, show (191 : UInt8) = (191 : Nat).toUInt8 from rfl, show (189 : UInt8) = (189 : Nat).toUInt8 from rfl, e1, e2, e3, e0]
  simp
theorem isTextFrom_step (s : ByteArray) (f pos : Nat) (h : pos < s.size) : isTextFrom s (f + 1) pos = (goodAt s pos && isTextFrom s f (pos + (Utf8.decode s pos).2)) := by
  simp only [isTextFrom, if_pos h, good_step s pos h]
  cases goodAt s pos <;> simp
theorem dec_at (pre rest : List UInt8) (c : Int) (hc : isChar c = true) : Utf8.decode (mk (pre ++ (enc c ++ rest))) pre.length = (c.toNat, (enc c).length) ∧ goodAt (mk (pre ++ (enc c ++ rest))) pre.length = true := by
  have hc' := (isChar_iff c).1 hc
  obtain ⟨m, rfl⟩ : ∃ m : Nat, c = (m : Int) := ⟨c.toNat, by omega⟩
  have g : ∀ j, (mk (pre ++ (enc (m : Int) ++ rest))).get! (pre.length + j) = ((enc (m : Int) ++ rest)[j]?).getD 0 := by
    intro j
    rw [mk_get, List.getElem?_append_right (by omega)]
    congr 2
    omega
  have hz : (mk (pre ++ (enc (m : Int) ++ rest))).size - pre.length = (enc (m : Int)).length + rest.length := by
    rw [mk_size]; simp
  have key : decodeN ((enc (m : Int)).length + rest.length) ((((enc (m : Int) ++ rest)[0]?).getD 0).toNat) ((((enc (m : Int) ++ rest)[1]?).getD 0).toNat) ((((enc (m : Int) ++ rest)[2]?).getD 0).toNat) ((((enc (m : Int) ++ rest)[3]?).getD 0).toNat) = (m, (enc (m : Int)).length) ∧
      good ((enc (m : Int)).length + rest.length) ((((enc (m : Int) ++ rest)[0]?).getD 0).toNat) ((((enc (m : Int) ++ rest)[1]?).getD 0).toNat) ((((enc (m : Int) ++ rest)[2]?).getD 0).toNat) m = true := by
    rw [good_iff]
    unfold enc encodeRune
    by_cases h1 : m < 128
    · rw [encodeRuneZ_one (by omega) (by omega)]
      refine ⟨?_, hc, by omega⟩
      simp only [List.map_cons, List.map_nil, List.cons_append, List.nil_append, List.length_cons, List.length_nil, List.getElem?_cons_zero, Option.getD_some]
      have : ((m : Int).toNat.toUInt8).toNat = m := by simp; omega
      rw [this]
      exact decodeN_one _ _ _ _ _ h1
    · by_cases h2 : m ≤ 2047
      · rw [encodeRuneZ_two (by omega) (by omega)]
        refine ⟨?_, hc, by omega⟩
        simp only [List.map_cons, List.map_nil, List.cons_append, List.nil_append, List.length_cons, List.length_nil, List.getElem?_cons_zero, List.getElem?_cons_succ, Option.getD_some]
        have e0 : ((192 + (m : Int) / 64).toNat.toUInt8).toNat = 192 + m / 64 := by simp; omega
        have e1 : ((128 + (m : Int) % 64).toNat.toUInt8).toNat = 128 + m % 64 := by simp; omega
        rw [e0, e1]
        exact decodeN_two _ _ _ _ (by omega) (by omega) h2
      · by_cases h3 : m ≤ 65535
        · rw [encodeRuneZ_three (by omega)]
          simp only [List.map_cons, List.map_nil, List.cons_append, List.nil_append, List.length_cons, List.length_nil, List.getElem?_cons_zero, List.getElem?_cons_succ, Option.getD_some]
          have e0 : ((224 + (m : Int) / 4096).toNat.toUInt8).toNat = 224 + m / 4096 := by simp; omega
          have e1 : ((128 + (m : Int) / 64 % 64).toNat.toUInt8).toNat = 128 + m / 64 % 64 := by simp; omega
          have e2 : ((128 + (m : Int) % 64).toNat.toUInt8).toNat = 128 + m % 64 := by simp; omega
          rw [e0, e1, e2]
          exact ⟨decodeN_three _ _ _ (by omega) (by omega) (by omega), hc, by omega⟩
        · rw [encodeRuneZ_four (by omega) (by omega)]
          refine ⟨?_, hc, by omega⟩
          simp only [List.map_cons, List.map_nil, List.cons_append, List.nil_append, List.length_cons, List.length_nil, List.getElem?_cons_zero, List.getElem?_cons_succ, Option.getD_some]
          have e0 : ((240 + (m : Int) / 262144).toNat.toUInt8).toNat = 240 + m / 262144 := by simp; omega
          have e1 : ((128 + (m : Int) / 4096 % 64).toNat.toUInt8).toNat = 128 + m / 4096 % 64 := by simp; omega
          have e2 : ((128 + (m : Int) / 64 % 64).toNat.toUInt8).toNat = 128 + m / 64 % 64 := by simp; omega
          have e3 : ((128 + (m : Int) % 64).toNat.toUInt8).toNat = 128 + m % 64 := by simp; omega
          rw [e0, e1, e2, e3]
          exact decodeN_four _ _ (by omega) (by omega) (by omega)
  have hd : Utf8.decode (mk (pre ++ (enc (m : Int) ++ rest))) pre.length = (m, (enc (m : Int)).length) := by
    rw [decode_at, hz]
    have g0 := g 0
    rw [Nat.add_zero] at g0
    rw [g0, g 1, g 2, g 3]
    exact key.1
  refine ⟨by rw [hd]; simp, ?_⟩
  unfold goodAt
  have g0 := g 0
  rw [Nat.add_zero] at g0
  rw [hd, hz, g0, g 1, g 2]
  exact key.2
theorem take_of_get (L : List UInt8) (pos w : Nat) (h : pos + w ≤ L.length) (hw : w ≤ 4) : L.drop pos = (([L[pos]?.getD 0, L[pos + 1]?.getD 0, L[pos + 2]?.getD 0, L[pos + 3]?.getD 0] : List UInt8).take w) ++ L.drop (pos + w) := by
  have d : ∀ i, i < L.length → L.drop i = L[i]?.getD 0 :: L.drop (i + 1) := by
    intro i hi
    rw [List.drop_eq_getElem_cons hi]
    simp [hi]
  match w, hw with
  | 0, _ => simp
  | 1, _ => rw [d pos (by omega)]; rfl
  | 2, _ => rw [d pos (by omega), d (pos + 1) (by omega)]; rfl
  | 3, _ => rw [d pos (by omega), d (pos + 1) (by omega), d (pos + 2) (by omega)]; rfl
  | 4, _ => rw [d pos (by omega), d (pos + 1) (by omega), d (pos + 2) (by omega), d (pos + 3) (by omega)]; rfl
theorem good_form (s : ByteArray) (pos : Nat) (h : pos < s.size) (hg : goodAt s pos = true) :
    isChar ((Utf8.decode s pos).1 : Int) = true ∧ (Utf8.decode s pos).2 = (enc ((Utf8.decode s pos).1 : Int)).length ∧ pos + (Utf8.decode s pos).2 ≤ s.size ∧ s.data.toList.drop pos = enc ((Utf8.decode s pos).1 : Int) ++ s.data.toList.drop (pos + (Utf8.decode s pos).2) := by
  unfold goodAt at hg
  have hd := decode_at s pos
  obtain ⟨r, w, hr⟩ : ∃ r w, Utf8.decode s pos = (r, w) := ⟨_, _, rfl⟩
  rw [hr] at hg hd ⊢
  have hN := hd.symm
  have hgd := decodeN_good _ _ _ _ _ r w (by omega) (get_lt _ _) (get_lt _ _) (get_lt _ _) (get_lt _ _) hN hg
  obtain ⟨hw, he⟩ := hgd
  have hlen := encodeRuneZ_length (r : Int)
  have hw4 : w ≤ 4 ∧ (encodeRuneZ (r : Int)).length = w := by
    rw [he] at hlen ⊢
    simp only [List.length_map, List.length_take, List.length_cons, List.length_nil] at hlen ⊢
    have : w ≤ 4 := by
      unfold decodeN at hN
      repeat' split at hN
      all_goals (obtain ⟨_, rfl⟩ := Prod.mk.inj hN; omega)
    omega
  have hen : enc (r : Int) = ([s.get! pos, s.get! (pos + 1), s.get! (pos + 2), s.get! (pos + 3)] : List UInt8).take w := by
    unfold enc encodeRune
    rw [he]
    simp only [List.map_map]
    have hid : ∀ (l : List UInt8), (l.map fun b => b.toNat).map ((fun (x : Int) => x.toNat.toUInt8) ∘ fun (x : Nat) => (x : Int)) = l := by
      intro l
      rw [List.map_map]
      conv => rhs; rw [← List.map_id l]
      apply List.map_congr_left
      intro b _
      simp
    have := hid (([s.get! pos, s.get! (pos + 1), s.get! (pos + 2), s.get! (pos + 3)] : List UInt8).take w)
    rw [List.map_take] at this
    exact this
  refine ⟨?_, ?_, by omega, ?_⟩
  · exact ((good_iff _ _ _ _ _).1 hg).1
  · show w = (enc (r : Int)).length
    simp only [enc, encodeRune, List.length_map]
    exact hw4.2.symm
  · show s.data.toList.drop pos = enc (r : Int) ++ s.data.toList.drop (pos + w)
    have gg : ∀ i, s.get! i = s.data.toList[i]?.getD 0 := by
      intro i
      rw [← mk_get, mk_data]
    rw [hen, gg pos, gg (pos + 1), gg (pos + 2), gg (pos + 3)]
    exact take_of_get _ _ _ (by rw [size_data]; omega) hw4.1
theorem points_enc : ∀ (l : List Int) (pre : List UInt8) (f : Nat), l.all isChar = true → l.length ≤ f → isTextFrom (mk (pre ++ flat l)) f pre.length = true ∧ pointsFrom (mk (pre ++ flat l)) f pre.length = l := by
  intro l
  induction l with
  | nil =>
    intro pre f _ _
    have : ¬ pre.length < (mk (pre ++ flat [])).size := by rw [mk_size]; simp [flat]
    exact ⟨isTextFrom_end _ _ _ this, pointsFrom_end _ _ _ this⟩
  | cons c t ih =>
    intro pre f hc hf
    obtain ⟨g, rfl⟩ : ∃ g, f = g + 1 := ⟨f - 1, by simp at hf; omega⟩
    rw [List.all_cons, Bool.and_eq_true] at hc
    have hd := dec_at pre (flat t) c hc.1
    have hlt : pre.length < (mk (pre ++ flat (c :: t))).size := by rw [mk_size, flat_cons]; have := enc_pos c; simp; omega
    have hi := ih (pre ++ enc c) g hc.2 (by simp at hf; omega)
    rw [List.length_append, List.append_assoc] at hi
    have hcn := (isChar_iff c).1 hc.1
    rw [isTextFrom_step _ _ _ hlt]
    unfold pointsFrom
    rw [if_pos hlt]
    rw [flat_cons, hd.1, hd.2]
    refine ⟨by rw [hi.1]; rfl, ?_⟩
    show ((c.toNat : Int) :: _) = _
    rw [hi.2]
    congr 1
    omega
theorem points_form (s : ByteArray) : ∀ (f pos : Nat), pos ≤ s.size → s.size ≤ pos + f → isTextFrom s f pos = true → (pointsFrom s f pos).all isChar = true ∧ s.data.toList.drop pos = flat (pointsFrom s f pos) := by
  intro f
  induction f with
  | zero =>
    intro pos h1 h2 _
    refine ⟨rfl, ?_⟩
    rw [List.drop_of_length_le (by rw [size_data]; omega)]
    rfl
  | succ f ih =>
    intro pos h1 h2 h3
    by_cases hp : pos < s.size
    · rw [isTextFrom_step s f pos hp, Bool.and_eq_true] at h3
      obtain ⟨hc, hw, hle, hdrop⟩ := good_form s pos hp h3.1
      have hpos := enc_pos ((Utf8.decode s pos).1 : Int)
      have hi := ih (pos + (Utf8.decode s pos).2) hle (by omega) h3.2
      unfold pointsFrom
      rw [if_pos hp]
      refine ⟨by rw [List.all_cons, hc, hi.1]; rfl, ?_⟩
      rw [flat_cons, ← hi.2]
      exact hdrop
    · rw [pointsFrom_end s _ pos hp]
      refine ⟨rfl, ?_⟩
      rw [List.drop_of_length_le (by rw [size_data]; omega)]
      rfl
theorem text_of_chars (l : List Int) (h : l.all isChar = true) : isText (encode l) = true ∧ points (encode l) = l := by
  have := points_enc l [] (encode l).size h (by rw [encode_flat, mk_size]; exact (flat_len l).1)
  simpa [isText, points, encode_flat] using this
theorem chars_of_text (s : ByteArray) (h : isText s = true) : (points s).all isChar = true ∧ encode (points s) = s := by
  have := points_form s s.size 0 (Nat.zero_le _) (by omega) h
  refine ⟨this.1, ?_⟩
  rw [encode_flat]
  unfold points
  rw [← this.2, List.drop_zero, mk_data]
theorem count_points (s : ByteArray) : Lib.runeCount s = (points s).length := by
  unfold Lib.runeCount points
  have : ∀ f pos, Lib.runeCountFrom s f pos = (pointsFrom s f pos).length := by
    intro f
    induction f with
    | zero => intro pos; rfl
    | succ f ih =>
      intro pos
      unfold Lib.runeCountFrom pointsFrom
      split
      · rw [ih]; simp; omega
      · rfl
  exact this _ _
theorem points_le (s : ByteArray) : (points s).length ≤ s.size := by rw [← count_points]; exact Lib.runeCount_le s
end Go.Proofs.YtmpenkinheneoaaDoor.Plain
