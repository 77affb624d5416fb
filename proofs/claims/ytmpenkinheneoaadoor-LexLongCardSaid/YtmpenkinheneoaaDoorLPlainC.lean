/- Texts of the claim: PlainC. -/
import Derived.Test.YtmpenkinheneoaaDoorLPlainB
import Derived.Test.YtmpenkinheneoaaDoorLQx21
namespace Go.Proofs.YtmpenkinheneoaaDoor.Plain
set_option linter.unusedVariables false
open Go Go.Lib Go.RowKit Go.Proofs.YtmpenkinheneoaaDoor.HPure Go.Proofs.YtmpenkinheneoaaDoor.Q Go.Proofs.YtmpenkinheneoaaDoorW.PrintWords Go.Proofs.YtmpenkinheneoaaDoorW.PrintLast Go.Proofs.YtmpenkinheneoaaDoorW.PrintMore
theorem bt_get (s : ByteArray) (i : Nat) : bt s (i : Int) = ((s.get! i).toNat : Int) := by
  unfold bt
  rw [Int.toNat_natCast]
  split
  · rename_i h
    congr 2
    obtain ⟨d⟩ := s
    simp only [ByteArray.get!]
    exact (getElem!_pos d i h).symm
  · rename_i h
    obtain ⟨d⟩ := s
    simp only [ByteArray.get!]
    have : d[i]! = default := getElem!_neg d i h
    rw [this]; rfl
theorem w64 {x : Int} (h0 : -9223372036854775808 ≤ x) (h1 : x ≤ 9223372036854775807) : wrap64 x = x := by unfold wrap64; omega
theorem next_l0 (s : ByteArray) (pos i m : Nat) (c sz least : Int) (hs : s.size ≤ 1099511627776) (hi : (i : Int) < sz) (hp : pos + i < s.size) (h0 : 0 ≤ c) (h1 : c ≤ 1099511627776) :
    chiselref01_next.l0 (m + 1) s (pos : Int) c sz least (i : Int) = if cont (s.get! (pos + i)).toNat = false then some (0, 0) else chiselref01_next.l0 m s (pos : Int) (c * 64 + ((s.get! (pos + i)).toNat : Int) - 128) sz least ((i : Int) + 1) := by
  have hb := get_lt s (pos + i)
  have e : bt s ((pos : Int) + (i : Int)) = ((s.get! (pos + i)).toNat : Int) := by rw [← bt_get]; rfl
  simp only [chiselref01_next.l0]
  rw [if_pos hi, w64 (x := (pos : Int) + i) (by omega) (by omega), if_pos (by omega), if_pos (by omega), e, w64 (x := ((s.get! (pos + i)).toNat : Int)) (by omega) (by omega)]
  simp only [cont_iff]
  by_cases hc : 128 ≤ (s.get! (pos + i)).toNat ∧ (s.get! (pos + i)).toNat < 192
  · rw [if_neg (by omega), if_neg (by omega), if_neg (by omega), w64 (x := c * 64) (by omega) (by omega), w64 (x := c * 64 + _) (by omega) (by omega), w64 (x := c * 64 + _ - 128) (by omega) (by omega), w64 (x := (i : Int) + 1) (by omega) (by omega)]
  · rw [if_pos hc]
    by_cases h2 : (s.get! (pos + i)).toNat < 128
    · rw [if_pos (by omega)]
    · rw [if_neg (by omega), if_pos (by omega)]
theorem next_l0_end (s : ByteArray) (x1 c sz least i : Int) (m : Nat) (hi : ¬ i < sz) : chiselref01_next.l0 (m + 1) s x1 c sz least i = if c < least then some (0, 0) else some (c, sz) := by
  simp only [chiselref01_next.l0]
  rw [if_neg hi]
theorem next_ref (s : ByteArray) (pos k : Nat) (hk : 10 ≤ k) (hs : s.size ≤ 1099511627776) (hp : pos < s.size) :
    chiselref01_next.f k s (pos : Int) = some (((nextN (s.size - pos) (s.get! pos).toNat (s.get! (pos + 1)).toNat (s.get! (pos + 2)).toNat (s.get! (pos + 3)).toNat).1 : Int), ((nextN (s.size - pos) (s.get! pos).toNat (s.get! (pos + 1)).toNat (s.get! (pos + 2)).toNat (s.get! (pos + 3)).toNat).2 : Int)) := by
  obtain ⟨m, rfl⟩ : ∃ m, k = m + 10 := ⟨k - 10, by omega⟩
  have hb0 := get_lt s pos
  have hb1 := get_lt s (pos + 1)
  have hb2 := get_lt s (pos + 2)
  have hb3 := get_lt s (pos + 3)
  have L1 := fun m c sz least h1 h2 h3 h4 => next_l0 s pos 1 m c sz least hs h1 h2 h3 h4
  have L2 := fun m c sz least h1 h2 h3 h4 => next_l0 s pos 2 m c sz least hs h1 h2 h3 h4
  have L3 := fun m c sz least h1 h2 h3 h4 => next_l0 s pos 3 m c sz least hs h1 h2 h3 h4
  simp only [Int.natCast_one, show ((2 : Nat) : Int) = 2 from rfl, show ((3 : Nat) : Int) = 3 from rfl, show (1 : Int) + 1 = 2 from rfl, show (2 : Int) + 1 = 3 from rfl, show (3 : Int) + 1 = 4 from rfl] at L1 L2 L3
  unfold chiselref01_next.f nextN
  rw [if_pos (by omega), if_pos (by omega), bt_get s pos]
  generalize (s.get! pos).toNat = b0 at *
  generalize (s.get! (pos + 1)).toNat = b1 at *
  generalize (s.get! (pos + 2)).toNat = b2 at *
  generalize (s.get! (pos + 3)).toNat = b3 at *
  rw [w64 (by omega) (by omega)]
  by_cases h1 : b0 < 128
  · rw [if_pos (by omega), if_pos h1]; rfl
  rw [if_neg (by omega), if_neg h1]
  by_cases h2 : 192 ≤ b0 ∧ b0 < 224
  · rw [if_pos h2, if_pos (by omega), show decide ((b0 : Int) < 224) = true from decide_eq_true (by omega)]
    simp only [chiselref01_next.j0, chiselref01_next.j2, if_true]
    rw [w64 (x := (b0 : Int) - 192) (by omega) (by omega), w64 (x := (pos : Int) + 2) (by omega) (by omega)]
    by_cases hn : s.size - pos < 2
    · rw [if_pos (by omega), if_pos hn]; rfl
    rw [if_neg (by omega), if_neg hn, L1 _ _ _ _ (by omega) (by omega) (by omega) (by omega)]
    cases hc1 : cont b1
    · rw [if_pos rfl, if_pos rfl]; rfl
    · rw [if_neg (by simp), if_neg (by simp), next_l0_end _ _ _ _ _ _ _ (by omega)]
      have hc1' : ¬ cont b1 = false := by rw [hc1]; simp
      rw [cont_iff] at hc1'
      by_cases hl : (b0 - 192) * 64 + (b1 - 128) < 128
      · rw [if_pos (by omega), if_pos hl]; rfl
      · rw [if_neg (by omega), if_neg hl]
        congr 2
        omega
  rw [if_neg h2]
  by_cases h3 : 224 ≤ b0 ∧ b0 < 240
  · have hj : (if (b0 : Int) ≥ 192 then chiselref01_next.j0 (m + 10) s (pos : Int) (b0 : Int) (decide ((b0 : Int) < 224)) else chiselref01_next.j0 (m + 10) s (pos : Int) (b0 : Int) false) = chiselref01_next.j1 (m + 9) s (pos : Int) (b0 : Int) true := by
      rw [if_pos (by omega), show decide ((b0 : Int) < 224) = false from decide_eq_false (by omega)]
      simp only [chiselref01_next.j0, Bool.false_eq_true, if_false]
      rw [if_pos (by omega), show decide ((b0 : Int) < 240) = true from decide_eq_true (by omega)]
    rw [hj, if_pos h3]
    simp only [chiselref01_next.j1]
    rw [if_pos trivial]
    simp only [chiselref01_next.j2]
    rw [w64 (x := (b0 : Int) - 224) (by omega) (by omega), w64 (x := (pos : Int) + 3) (by omega) (by omega)]
    by_cases hn : s.size - pos < 3
    · rw [if_pos (by omega), if_pos hn]; rfl
    rw [if_neg (by omega), if_neg hn, L1 _ _ _ _ (by omega) (by omega) (by omega) (by omega)]
    cases hc1 : cont b1
    · rw [if_pos rfl, if_pos rfl]; rfl
    have hc1' : ¬ cont b1 = false := by rw [hc1]; simp
    rw [cont_iff] at hc1'
    rw [if_neg (by simp), if_neg (by simp), L2 _ _ _ _ (by omega) (by omega) (by omega) (by omega)]
    cases hc2 : cont b2
    · rw [if_pos rfl, if_pos rfl]; rfl
    have hc2' : ¬ cont b2 = false := by rw [hc2]; simp
    rw [cont_iff] at hc2'
    rw [if_neg (by simp), if_neg (by simp), next_l0_end _ _ _ _ _ _ _ (by omega)]
    by_cases hl : ((b0 - 224) * 64 + (b1 - 128)) * 64 + (b2 - 128) < 2048
    · rw [if_pos (by omega), if_pos hl]; rfl
    · rw [if_neg (by omega), if_neg hl]
      congr 2
      omega
  rw [if_neg h3]
  by_cases h4 : 240 ≤ b0 ∧ b0 < 248
  · have hj : (if (b0 : Int) ≥ 192 then chiselref01_next.j0 (m + 10) s (pos : Int) (b0 : Int) (decide ((b0 : Int) < 224)) else chiselref01_next.j0 (m + 10) s (pos : Int) (b0 : Int) false) = chiselref01_next.j2 (m + 8) s (pos : Int) ((b0 : Int) - 240) 4 65536 := by
      rw [if_pos (by omega), show decide ((b0 : Int) < 224) = false from decide_eq_false (by omega)]
      simp only [chiselref01_next.j0, Bool.false_eq_true, if_false]
      rw [if_pos (by omega), show decide ((b0 : Int) < 240) = false from decide_eq_false (by omega)]
      simp only [chiselref01_next.j1, Bool.false_eq_true, if_false]
      rw [if_pos (by omega), if_pos (by omega), w64 (x := (b0 : Int) - 240) (by omega) (by omega)]
    rw [hj, if_pos h4]
    simp only [chiselref01_next.j2]
    rw [w64 (x := (pos : Int) + 4) (by omega) (by omega)]
    by_cases hn : s.size - pos < 4
    · rw [if_pos (by omega), if_pos hn]; rfl
    rw [if_neg (by omega), if_neg hn, L1 _ _ _ _ (by omega) (by omega) (by omega) (by omega)]
    cases hc1 : cont b1
    · rw [if_pos rfl, if_pos rfl]; rfl
    have hc1' : ¬ cont b1 = false := by rw [hc1]; simp
    rw [cont_iff] at hc1'
    rw [if_neg (by simp), if_neg (by simp), L2 _ _ _ _ (by omega) (by omega) (by omega) (by omega)]
    cases hc2 : cont b2
    · rw [if_pos rfl, if_pos rfl]; rfl
    have hc2' : ¬ cont b2 = false := by rw [hc2]; simp
    rw [cont_iff] at hc2'
    rw [if_neg (by simp), if_neg (by simp), L3 _ _ _ _ (by omega) (by omega) (by omega) (by omega)]
    cases hc3 : cont b3
    · rw [if_pos rfl, if_pos rfl]; rfl
    have hc3' : ¬ cont b3 = false := by rw [hc3]; simp
    rw [cont_iff] at hc3'
    rw [if_neg (by simp), if_neg (by simp), next_l0_end _ _ _ _ _ _ _ (by omega)]
    by_cases hl : (((b0 - 240) * 64 + (b1 - 128)) * 64 + (b2 - 128)) * 64 + (b3 - 128) < 65536
    · rw [if_pos (by omega), if_pos hl]; rfl
    · rw [if_neg (by omega), if_neg hl]
      congr 2
      omega
  rw [if_neg h4]
  have hj : (if (b0 : Int) ≥ 192 then chiselref01_next.j0 (m + 10) s (pos : Int) (b0 : Int) (decide ((b0 : Int) < 224)) else chiselref01_next.j0 (m + 10) s (pos : Int) (b0 : Int) false) = some (0, 0) := by
    by_cases h5 : (b0 : Int) ≥ 192
    · rw [if_pos h5, show decide ((b0 : Int) < 224) = false from decide_eq_false (by omega)]
      simp only [chiselref01_next.j0, Bool.false_eq_true, if_false]
      rw [if_pos (by omega), show decide ((b0 : Int) < 240) = false from decide_eq_false (by omega)]
      simp only [chiselref01_next.j1, Bool.false_eq_true, if_false]
      rw [if_pos (by omega), if_neg (by omega)]
    · rw [if_neg h5]
      simp only [chiselref01_next.j0, Bool.false_eq_true, if_false]
      rw [if_neg (by omega)]
      simp only [chiselref01_next.j1, Bool.false_eq_true, if_false]
      rw [if_neg (by omega)]
  rw [hj]
  rfl
theorem isChar_ref (c : Int) : chiselref01_IsChar.f c = some (isChar c) := by
  unfold chiselref01_IsChar.f isChar
  by_cases h9 : c = 9
  · subst h9; rfl
  by_cases h10 : c = 10
  · subst h10; rfl
  by_cases h13 : c = 13
  · subst h13; rfl
  simp only [if_neg h9, if_neg h10, if_neg h13, beq_eq_false_iff_ne.2 h9, beq_eq_false_iff_ne.2 h10, beq_eq_false_iff_ne.2 h13, Bool.false_or]
  repeat' split
  all_goals congr 1
  all_goals rw [Bool.eq_iff_iff]
  all_goals simp only [Bool.or_eq_true, Bool.and_eq_true, decide_eq_true_eq, true_iff, Bool.false_eq_true, false_iff]
  all_goals omega
theorem points_l0 (s : ByteArray) (hs : s.size ≤ 1099511627776) : ∀ (f pos k : Nat) (acc : List Int), pos ≤ s.size → s.size ≤ pos + f → f + 11 ≤ k → acc.length ≤ pos →
    chiselref01_Points.l0 k s acc (pos : Int) = some (if isTextFrom s f pos = true then (acc ++ pointsFrom s f pos, 0) else ([], 10)) := by
  intro f
  induction f with
  | zero =>
    intro pos k acc h1 h2 h3 h4
    obtain ⟨m, rfl⟩ : ∃ m, k = m + 1 := ⟨k - 1, by omega⟩
    simp only [chiselref01_Points.l0]
    have e : isTextFrom s 0 pos = true := rfl
    rw [if_neg (by omega), e]
    simp [pointsFrom]
  | succ f ih =>
    intro pos k acc h1 h2 h3 h4
    obtain ⟨m, rfl⟩ : ∃ m, k = m + 1 := ⟨k - 1, by omega⟩
    simp only [chiselref01_Points.l0]
    by_cases hp : pos < s.size
    · rw [if_pos (by omega), next_ref s pos m (by omega) hs hp, Option.bind_some, isTextFrom_step s f pos hp]
      obtain ⟨r, w, hr⟩ : ∃ r w, Utf8.decode s pos = (r, w) := ⟨_, _, rfl⟩
      have hN := (decode_at s pos).symm
      rw [hr] at hN
      cases hg : goodAt s pos
      · have hbad : ¬ ((nextN (s.size - pos) (s.get! pos).toNat (s.get! (pos + 1)).toNat (s.get! (pos + 2)).toNat (s.get! (pos + 3)).toNat).2 ≠ 0 ∧ isChar ((nextN (s.size - pos) (s.get! pos).toNat (s.get! (pos + 1)).toNat (s.get! (pos + 2)).toNat (s.get! (pos + 3)).toNat).1 : Int) = true) := by
          rintro ⟨hz, hc⟩
          have := next_bad _ _ _ _ _ r w _ _ (by omega) (get_lt _ _) (get_lt _ _) (get_lt _ _) (get_lt _ _) hN rfl hz hc
          unfold goodAt at hg
          rw [hr] at hg
          rw [hg] at this
          cases this
        generalize nextN (s.size - pos) (s.get! pos).toNat (s.get! (pos + 1)).toNat (s.get! (pos + 2)).toNat (s.get! (pos + 3)).toNat = x at hbad
        simp only
        rw [if_neg (by simp : ¬ (false && _) = true)]
        by_cases hz : x.2 = 0
        · rw [if_pos (by omega)]
        · rw [if_neg (by omega), isChar_ref, Option.bind_some]
          have : isChar (x.1 : Int) = false := by
            cases h : isChar (x.1 : Int)
            · rfl
            · exact absurd ⟨hz, h⟩ hbad
          rw [this, if_neg (by simp)]
      · obtain ⟨hc, hw, hle, _⟩ := good_form s pos hp hg
        have hwd := enc_pos ((Utf8.decode s pos).1 : Int)
        have hn := next_good _ _ _ _ _ r w (by omega) (get_lt _ _) (get_lt _ _) (get_lt _ _) (get_lt _ _) hN (by unfold goodAt at hg; rw [hr] at hg; exact hg)
        rw [hn]
        unfold pointsFrom
        rw [if_pos hp]
        rw [hr] at hc hw hle hwd ⊢
        simp only at hc hw hle hwd ⊢
        rw [if_neg (by omega), isChar_ref, Option.bind_some, hc, if_pos rfl, if_pos (by omega), w64 (by omega) (by omega)]
        have hi := ih (pos + w) m (acc ++ [(r : Int)]) hle (by omega) (by omega) (by simp; omega)
        rw [show ((pos + w : Nat) : Int) = (pos : Int) + (w : Int) from by omega] at hi
        rw [hi]
        simp
    · rw [if_neg (by omega), isTextFrom_end s _ pos hp, pointsFrom_end s _ pos hp]
      simp
theorem points_ref (s : ByteArray) (k : Nat) (hs : s.size ≤ 1099511627776) (hk : s.size + 11 ≤ k) : chiselref01_Points.f k s = some (if isText s = true then (points s, 0) else ([], 10)) := by
  unfold chiselref01_Points.f
  have := points_l0 s hs s.size 0 k [] (Nat.zero_le _) (by omega) hk (by simp)
  rw [List.nil_append] at this
  exact this
end Go.Proofs.YtmpenkinheneoaaDoor.Plain
