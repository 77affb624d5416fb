/- Texts of the claim: Nd. -/
import Derived.Test.YtldhiaiaildnlaaDoorONc
namespace Go.Proofs.YtldhiaiaildnlaaDoor.Nm
set_option linter.unusedVariables false
def sgI (a b : Int) : Int := if a < b then -1 else if a = b then 0 else 1
theorem cmp_some {a b : List UInt8} {x y : Bool × Nat} (ha : can a = some x) (hb : can b = some y) : cmpS a b = (sgI (iv x) (iv y), 0) := by
  have hx := (can_is ha).2
  have hy := (can_is hb).2
  unfold cmpS
  rw [two_some _ _ ha hb]
  obtain ⟨s, m⟩ := x
  obtain ⟨t, n⟩ := y
  have h1 := hx.2
  have h2 := hy.2
  simp only at h1 h2
  cases s <;> cases t
  · show ((if m < n then (-1 : Int) else if m = n then 0 else 1), (0 : Int)) = ((if (m : Int) < (n : Int) then (-1 : Int) else if (m : Int) = (n : Int) then 0 else 1), (0 : Int))
    rcases Nat.lt_trichotomy m n with h | h | h
    · rw [if_pos h, if_pos (by omega)]
    · rw [if_neg (by omega), if_pos h, if_neg (by omega), if_pos (by omega)]
    · rw [if_neg (by omega), if_neg (by omega), if_neg (by omega), if_neg (by omega)]
  · show ((1 : Int), (0 : Int)) = ((if (m : Int) < -(n : Int) then (-1 : Int) else if (m : Int) = -(n : Int) then 0 else 1), (0 : Int))
    have := h2 rfl
    rw [if_neg (by omega), if_neg (by omega)]
  · show ((-1 : Int), (0 : Int)) = ((if -(m : Int) < (n : Int) then (-1 : Int) else if -(m : Int) = (n : Int) then 0 else 1), (0 : Int))
    have := h1 rfl
    rw [if_pos (by omega)]
  · show ((if n < m then (-1 : Int) else if n = m then 0 else 1), (0 : Int)) = ((if -(m : Int) < -(n : Int) then (-1 : Int) else if -(m : Int) = -(n : Int) then 0 else 1), (0 : Int))
    rcases Nat.lt_trichotomy n m with h | h | h
    · rw [if_pos h, if_pos (by omega)]
    · rw [if_neg (by omega), if_pos h, if_neg (by omega), if_pos (by omega)]
    · rw [if_neg (by omega), if_neg (by omega), if_neg (by omega), if_neg (by omega)]
theorem tx_zero {n : Nat} (s : Bool) (h : tx (s, n) = [48]) (hf : Fine (s, n)) : n = 0 := by
  have : tx (s, n) = tx (false, 0) := h
  have := tx_inj hf ⟨by decide, fun h => by cases h⟩ this
  cases this; rfl
theorem tx_first (x : Bool × Nat) : ∃ b r, tx x = b :: r ∧ (b = 45 ↔ x.1 = true) := by
  obtain ⟨s, n⟩ := x
  obtain ⟨b, r, e, hb⟩ := body_head n
  have h1 := digit_ne hb
  unfold tx
  cases s with
  | true => exact ⟨45, body n, rfl, by simp⟩
  | false => exact ⟨b, r, by simp [e], by simp [h1.2.1]⟩
def U (d : Int) : Nat := 10 ^ (20 - d).toNat
def R (k : Nat) (x : Bool × Nat) (d : Int) : Nat := rnd k x.1 x.2 (U d) * U d
end Go.Proofs.YtldhiaiaildnlaaDoor.Nm
