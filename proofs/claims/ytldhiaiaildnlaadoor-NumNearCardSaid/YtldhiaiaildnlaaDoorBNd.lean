/- Texts of the claim: Nd. -/
import Derived.Test.YtldhiaiaildnlaaDoorBNc
namespace Go.Proofs.YtldhiaiaildnlaaDoor.Nm
set_option linter.unusedVariables false
def absL (a : List UInt8) : List UInt8 := match a with
  | [] => []
  | b :: r => if b = 45 then r else b :: r
theorem abs_tx (x : Bool × Nat) : absL (tx x) = tx (false, x.2) := by
  obtain ⟨s, n⟩ := x
  obtain ⟨b, r, e, hb⟩ := body_head n
  have h1 := digit_ne hb
  unfold tx
  cases s with
  | true => simp only [if_true]; rw [if_neg (by decide)]; rfl
  | false =>
    simp only
    rw [if_neg (by decide), List.nil_append, e, absL, if_neg h1.2.1]
theorem abs_fine {x : Bool × Nat} (h : x.2 < 10 ^ 50) : Fine (false, x.2) := ⟨h, fun h => by cases h⟩
def sgI (a b : Int) : Int := if a < b then -1 else if a = b then 0 else 1
theorem cmp_some {a b : List UInt8} {x y : Bool × Nat} (ha : can a = some x) (hb : can b = some y) : cmpS a b = (sgI (iv x) (iv y), 0) := by
  have hx := (can_is ha).2
  have hy := (can_is hb).2
  unfold cmpS
  rw [two_some _ _ ha hb]
  obtain ⟨s, m⟩ := x
  obtain ⟨t, n⟩ := y
  have h1 := hx.2
  have h2 := hy.2
  simp only at h1 h2
  cases s <;> cases t
  · show ((if m < n then (-1 : Int) else if m = n then 0 else 1), (0 : Int)) = ((if (m : Int) < (n : Int) then (-1 : Int) else if (m : Int) = (n : Int) then 0 else 1), (0 : Int))
    rcases Nat.lt_trichotomy m n with h | h | h
    · rw [if_pos h, if_pos (by omega)]
    · rw [if_neg (by omega), if_pos h, if_neg (by omega), if_pos (by omega)]
    · rw [if_neg (by omega), if_neg (by omega), if_neg (by omega), if_neg (by omega)]
  · show ((1 : Int), (0 : Int)) = ((if (m : Int) < -(n : Int) then (-1 : Int) else if (m : Int) = -(n : Int) then 0 else 1), (0 : Int))
    have := h2 rfl
    rw [if_neg (by omega), if_neg (by omega)]
  · show ((-1 : Int), (0 : Int)) = ((if -(m : Int) < (n : Int) then (-1 : Int) else if -(m : Int) = (n : Int) then 0 else 1), (0 : Int))
    have := h1 rfl
    rw [if_pos (by omega)]
  · show ((if n < m then (-1 : Int) else if n = m then 0 else 1), (0 : Int)) = ((if -(m : Int) < -(n : Int) then (-1 : Int) else if -(m : Int) = -(n : Int) then 0 else 1), (0 : Int))
    rcases Nat.lt_trichotomy n m with h | h | h
    · rw [if_pos h, if_pos (by omega)]
    · rw [if_neg (by omega), if_pos h, if_neg (by omega), if_pos (by omega)]
    · rw [if_neg (by omega), if_neg (by omega), if_neg (by omega), if_neg (by omega)]
theorem tx_zero {n : Nat} (s : Bool) (h : tx (s, n) = [48]) (hf : Fine (s, n)) : n = 0 := by
  have : tx (s, n) = tx (false, 0) := h
  have := tx_inj hf ⟨by decide, fun h => by cases h⟩ this
  cases this; rfl
theorem tx_first (x : Bool × Nat) : ∃ b r, tx x = b :: r ∧ (b = 45 ↔ x.1 = true) := by
  obtain ⟨s, n⟩ := x
  obtain ⟨b, r, e, hb⟩ := body_head n
  have h1 := digit_ne hb
  unfold tx
  cases s with
  | true => exact ⟨45, body n, rfl, by simp⟩
  | false => exact ⟨b, r, by simp [e], by simp [h1.2.1]⟩
theorem iv_pos (s : Bool) (n : Nat) : iv (s, n) = if s = true then -(n : Int) else n := rfl
theorem res_fine (s : Bool) (n : Nat) (h : n < 10 ^ 50) : res (s, n) = (tx (nrm (iv (s, n))), 0) ∧ Fine (nrm (iv (s, n))) ∧ (nrm (iv (s, n))).2 = n := by
  have h1 : (iv (s, n)).natAbs < 10 ^ 50 := by rw [iv_abs]; exact h
  exact ⟨by rw [res_iv, resI_ok h1], nrm_fine h1, by show (iv (s, n)).natAbs = n; rw [iv_abs]⟩
theorem mod_err {a b : List UInt8} (h : (modS a b).2 ≠ 0) : (idivS a b).2 = (modS a b).2 := by
  rcases ways a b with hn | ⟨x, y, ha, hb⟩
  · unfold idivS modS; rw [two_none _ _ hn, two_none _ _ hn]
  · have hx := (can_is ha).2
    unfold idivS modS at *
    rw [two_some _ _ ha hb] at h ⊢
    rw [two_some _ _ ha hb]
    unfold nod at *
    by_cases h0 : y.2 = 0
    · rw [if_pos h0, if_pos h0]
    · rw [if_neg h0] at h
      have := (res_fine x.1 (x.2 % y.2) (Nat.lt_of_le_of_lt (Nat.mod_le _ _) hx.1)).1
      have h' : (res (x.1, x.2 % y.2)).2 ≠ 0 := h
      rw [this] at h'; exact absurd rfl h'
theorem mod_ok {a b : List UInt8} (h : (modS a b).2 = 0) : ∃ x y, can a = some x ∧ can b = some y ∧ y.2 ≠ 0 ∧ modS a b = (tx (nrm (iv (x.1, x.2 % y.2))), 0) ∧ idivS a b = resI (iv (x.1 != y.1, x.2 / y.2 * 10 ^ 20)) := by
  rcases ways a b with hn | ⟨x, y, ha, hb⟩
  · unfold modS at h; rw [two_none _ _ hn] at h; cases h
  · have hx := (can_is ha).2
    unfold modS at h
    rw [two_some _ _ ha hb] at h
    unfold nod at h
    by_cases h0 : y.2 = 0
    · rw [if_pos h0] at h; cases h
    · refine ⟨x, y, ha, hb, h0, ?_, ?_⟩
      · unfold modS nod
        rw [two_some _ _ ha hb, if_neg h0]
        exact (res_fine x.1 (x.2 % y.2) (Nat.lt_of_le_of_lt (Nat.mod_le _ _) hx.1)).1
      · unfold idivS nod
        rw [two_some _ _ ha hb, if_neg h0]; exact res_iv _
theorem mod_less {a b : List UInt8} {x y : Bool × Nat} (ha : can a = some x) (hb : can b = some y) (h0 : y.2 ≠ 0) : cmpS (absL (tx (nrm (iv (x.1, x.2 % y.2))))) (absL b) = (-1, 0) := by
  have hx := (can_is ha).2
  obtain ⟨eb, hy⟩ := can_is hb
  have hlt : x.2 % y.2 < y.2 := Nat.mod_lt _ (by omega)
  have h50 : x.2 % y.2 < 10 ^ 50 := Nat.lt_of_le_of_lt (Nat.mod_le _ _) hx.1
  rw [eb, abs_tx, abs_tx, (res_fine x.1 (x.2 % y.2) h50).2.2, cmp_some (can_tx (abs_fine (x := (false, x.2 % y.2)) h50)) (can_tx (abs_fine (x := y) hy.1))]
  show ((if ((x.2 % y.2 : Nat) : Int) < ((y.2 : Nat) : Int) then (-1 : Int) else if ((x.2 % y.2 : Nat) : Int) = ((y.2 : Nat) : Int) then 0 else 1), (0 : Int)) = _
  rw [if_pos (by omega)]
theorem mod_sign {x : Bool × Nat} (hx : Fine x) (m : Nat) (hm : m < 10 ^ 50) (h : tx (nrm (iv (x.1, m))) ≠ [48]) : (nrm (iv (x.1, m))).1 = x.1 := by
  rw [nrm_iv]
  by_cases h0 : m = 0
  · exfalso
    apply h
    rw [nrm_iv, h0]
    simp only [bne_self_eq_false, Bool.and_false]
    rfl
  · simp [h0]
theorem idiv_prod {b : List UInt8} {x y : Bool × Nat} (hb : can b = some y) (hx : Fine x) (h0 : y.2 ≠ 0) (hq : x.2 / y.2 * 10 ^ 20 < 10 ^ 50) :
    mulS b (tx (nrm (iv (x.1 != y.1, x.2 / y.2 * 10 ^ 20)))) = (tx (nrm (iv (x.1, y.2 * (x.2 / y.2)))), 0) ∧ Fine (nrm (iv (x.1, y.2 * (x.2 / y.2)))) := by
  obtain ⟨h1, h2, h3⟩ := res_fine (x.1 != y.1) _ hq
  have hle : y.2 * (x.2 / y.2) ≤ x.2 := Nat.mul_div_le _ _
  have h50 : y.2 * (x.2 / y.2) < 10 ^ 50 := Nat.lt_of_le_of_lt hle hx.1
  refine ⟨?_, (res_fine x.1 _ h50).2.1⟩
  unfold mulS
  rw [two_some _ _ hb (can_tx h2), h3]
  have e : y.2 * (x.2 / y.2 * 10 ^ 20) = y.2 * (x.2 / y.2) * 10 ^ 20 := by rw [Nat.mul_assoc]
  rw [e, rnd_exact (Nat.mul_mod_left _ _) (by decide), Nat.mul_div_cancel _ (by decide)]
  rw [res_iv]
  have es : iv (y.1 != (nrm (iv (x.1 != y.1, x.2 / y.2 * 10 ^ 20))).1, y.2 * (x.2 / y.2)) = iv (x.1, y.2 * (x.2 / y.2)) := by
    rw [nrm_iv]
    by_cases hz : x.2 / y.2 = 0
    · rw [hz]; unfold iv; simp
    · have : (x.2 / y.2 * 10 ^ 20 != 0) = true := by
        rw [bne_iff_ne]
        intro h
        rcases Nat.mul_eq_zero.mp h with h | h
        · exact hz h
        · revert h; decide
      simp only [this, Bool.and_true]
      have e2 : (y.1 != (x.1 != y.1)) = x.1 := by cases y.1 <;> cases x.1 <;> rfl
      rw [e2]
  rw [es, resI_ok (by rw [iv_abs]; exact h50)]
theorem idiv_sum {a : List UInt8} {x y : Bool × Nat} (ha : can a = some x) (h0 : y.2 ≠ 0) : addS (tx (nrm (iv (x.1, y.2 * (x.2 / y.2))))) (tx (nrm (iv (x.1, x.2 % y.2)))) = (a, 0) := by
  obtain ⟨ea, hx⟩ := can_is ha
  have hle : y.2 * (x.2 / y.2) ≤ x.2 := Nat.mul_div_le _ _
  have h1 := (res_fine x.1 _ (Nat.lt_of_le_of_lt hle hx.1)).2.1
  have h2 := (res_fine x.1 (x.2 % y.2) (Nat.lt_of_le_of_lt (Nat.mod_le _ _) hx.1)).2.1
  rw [add_some (can_tx h1) (can_tx h2), iv_nrm, iv_nrm]
  have hd := Nat.div_add_mod x.2 y.2
  have e : iv (x.1, y.2 * (x.2 / y.2)) + iv (x.1, x.2 % y.2) = iv x := by
    obtain ⟨s, n⟩ := x
    simp only at hd ⊢
    unfold iv
    cases s <;> simp only [if_true] <;> (try rw [if_neg (by decide), if_neg (by decide), if_neg (by decide)]) <;> omega
  rw [e, resI_fine hx, ← ea]
theorem int_whole (s : Bool) (m : Nat) (h : m * 10 ^ 20 < 10 ^ 50) : intS (tx (nrm (iv (s, m * 10 ^ 20)))) = true := by
  obtain ⟨_, h2, h3⟩ := res_fine s _ h
  unfold intS
  rw [can_tx h2]
  simp only
  rw [h3, Nat.mul_mod_left]; rfl
def U (d : Int) : Nat := 10 ^ (20 - d).toNat
theorem U_pos (d : Int) : 0 < U d := Nat.pow_pos (by decide)
theorem U_le {d : Int} (h : -29 ≤ d) : U d ≤ 10 ^ 49 := Nat.pow_le_pow_right (by decide) (by omega)
def R (k : Nat) (x : Bool × Nat) (d : Int) : Nat := rnd k x.1 x.2 (U d) * U d
theorem round_some {a : List UInt8} {x : Bool × Nat} (ha : can a = some x) {d : Int} (h0 : -30 ≤ d) (h1 : d ≤ 20) (k : Nat) : roundS a d (some k) = resI (iv (x.1, R k x d)) := by
  unfold roundS
  rw [ha]
  simp only
  rw [if_neg (by omega), res_iv]
  rfl
theorem round_none {a : List UInt8} (ha : can a = none) (d : Int) (k : Option Nat) : roundS a d k = ([], 1) := by unfold roundS; rw [ha]
theorem R_again (k : Nat) (y x : Bool × Nat) (d : Int) (h : y.2 = R k x d) : R k y d = y.2 := by
  rw [show R k y d = rnd k y.1 y.2 (U d) * U d from rfl, h, show R k x d = rnd k x.1 x.2 (U d) * U d from rfl, rnd_exact (Nat.mul_mod_left _ _) (U_pos d), Nat.mul_div_cancel _ (U_pos d)]
theorem round_again {x : Bool × Nat} {d : Int} (h0 : -30 ≤ d) (h1 : d ≤ 20) (k : Nat) (h : R k x d < 10 ^ 50) : roundS (tx (nrm (iv (x.1, R k x d)))) d (some k) = (tx (nrm (iv (x.1, R k x d))), 0) := by
  obtain ⟨_, h2, h3⟩ := res_fine x.1 _ h
  rw [round_some (can_tx h2) h0 h1]
  have e : R k (nrm (iv (x.1, R k x d))) d = R k x d := by rw [R_again k _ x d h3, h3]
  have e2 : ∀ y : Bool × Nat, y.2 = R k x d → iv (y.1, R k x d) = iv y := by
    rintro ⟨s, n⟩ h
    simp only at h
    rw [← h]
  rw [e, e2 _ h3, resI_fine h2]
theorem R_bounds (k : Nat) (x : Bool × Nat) (d : Int) : (R k x d ≤ x.2 ∧ x.2 < R k x d + U d ∧ R k x d = x.2 / U d * U d) ∨ (x.2 < R k x d ∧ R k x d < x.2 + U d ∧ R k x d = x.2 / U d * U d + U d) := by
  have hU := U_pos d
  have hd := Nat.div_add_mod x.2 (U d)
  have hm := Nat.mod_lt x.2 hU
  rw [Nat.mul_comm] at hd
  unfold R
  rcases rnd_near k x.1 x.2 (U d) hU with h | ⟨h, hr⟩
  · rw [h]; exact .inl ⟨by omega, by omega, rfl⟩
  · rw [h, Nat.add_mul, Nat.one_mul]; exact .inr ⟨by omega, by omega, rfl⟩
theorem rnd_half (k : Nat) (hk : k < 2) (s : Bool) (n u : Nat) (hu : 0 < u) : (rnd k s n u = n / u ∧ 2 * (n % u) ≤ u) ∨ (rnd k s n u = n / u + 1 ∧ u ≤ 2 * (n % u)) := by
  unfold rnd
  split
  · rename_i h
    refine .inr ⟨rfl, ?_⟩
    rcases Nat.lt_or_ge (2 * (n % u)) u with hl | hl
    · have : sg (2 * (n % u)) u = -1 := by unfold sg; rw [if_pos hl]
      rw [this] at h
      unfold up at h
      split at h <;> simp at h <;> omega
    · exact hl
  · rename_i h
    refine .inl ⟨rfl, ?_⟩
    rcases Nat.lt_or_ge u (2 * (n % u)) with hl | hl
    · have : sg (2 * (n % u)) u = 1 := by unfold sg; rw [if_neg (by omega), if_neg (by omega)]
      rw [this] at h
      exfalso; apply h
      match k, hk with
      | 0, _ => rfl
      | 1, _ => rfl
    · exact hl
theorem near_half (k : Nat) (hk : k < 2) (x : Bool × Nat) (d : Int) : 2 * (x.2 - R k x d) ≤ U d ∧ 2 * (R k x d - x.2) ≤ U d := by
  have hU := U_pos d
  have hd := Nat.div_add_mod x.2 (U d)
  have hm := Nat.mod_lt x.2 hU
  rw [Nat.mul_comm] at hd
  unfold R
  rcases rnd_half k hk x.1 x.2 (U d) hU with ⟨h, hr⟩ | ⟨h, hr⟩
  · rw [h]; omega
  · rw [h, Nat.add_mul, Nat.one_mul]; omega
theorem R_floor (x : Bool × Nat) (d : Int) : iv (x.1, R 2 x d) ≤ iv x ∧ iv x ≤ iv (x.1, R 3 x d) := by
  have hU := U_pos d
  have hd := Nat.div_add_mod x.2 (U d)
  rw [Nat.mul_comm] at hd
  have hm := Nat.mod_lt x.2 hU
  obtain ⟨s, n⟩ := x
  simp only at hd hm
  have e : (n / U d + 1) * U d = n / U d * U d + U d := by rw [Nat.add_mul, Nat.one_mul]
  have r2 : R 2 (s, n) d = (if (s && !(n % U d == 0)) = true then n / U d + 1 else n / U d) * U d := rfl
  have r3 : R 3 (s, n) d = (if (!s && !(n % U d == 0)) = true then n / U d + 1 else n / U d) * U d := rfl
  rw [r2, r3]
  by_cases h0 : n % U d = 0
  · have h1 : (n % U d == 0) = true := beq_iff_eq.mpr h0
    rw [h1]
    simp only [Bool.not_true, Bool.and_false]
    rw [if_neg (by decide)]
    cases s
    · show ((n / U d * U d : Nat) : Int) ≤ (n : Int) ∧ (n : Int) ≤ ((n / U d * U d : Nat) : Int)
      omega
    · show -((n / U d * U d : Nat) : Int) ≤ -(n : Int) ∧ -(n : Int) ≤ -((n / U d * U d : Nat) : Int)
      omega
  · have h1 : (n % U d == 0) = false := beq_eq_false_iff_ne.mpr h0
    rw [h1]
    simp only [Bool.not_false, Bool.and_true]
    cases s
    · rw [if_neg (by decide), if_pos (by decide), e]
      show ((n / U d * U d : Nat) : Int) ≤ (n : Int) ∧ (n : Int) ≤ ((n / U d * U d + U d : Nat) : Int)
      omega
    · rw [if_pos (by decide), if_neg (by decide), e]
      show -((n / U d * U d + U d : Nat) : Int) ≤ -(n : Int) ∧ -(n : Int) ≤ -((n / U d * U d : Nat) : Int)
      omega
theorem R_mirror (s : Bool) (n : Nat) (d : Int) : R 3 ((!s) && (n != 0), n) d = R 2 (s, n) d := by
  unfold R rnd up
  simp only
  by_cases h0 : n = 0
  · subst h0
    simp
  · rw [bne_iff_ne.mpr h0]
    cases s <;> simp
end Go.Proofs.YtldhiaiaildnlaaDoor.Nm
