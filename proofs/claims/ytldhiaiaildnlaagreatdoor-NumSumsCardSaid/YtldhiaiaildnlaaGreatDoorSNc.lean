/- Texts of the claim: Nc. -/
import Derived.Test.YtldhiaiaildnlaaGreatDoorSNb
namespace Go.Proofs.YtldhiaiaildnlaaGreatDoor.Nm
set_option linter.unusedVariables false
def smv (x y : Bool × Nat) : Bool × Nat := if x.1 = y.1 then (x.1, x.2 + y.2) else if y.2 ≤ x.2 then (x.1, x.2 - y.2) else (y.1, y.2 - x.2)
def two {α : Type} (z : α) (f : Bool × Nat → Bool × Nat → α) (a b : List UInt8) : α := match can a, can b with
 | some x, some y => f x y
 | _, _ => z
def nod (f : Bool × Nat → Bool × Nat → List UInt8 × Int) (x y : Bool × Nat) : List UInt8 × Int := if y.2 = 0 then ([], 41) else f x y
def addS (a b : List UInt8) : List UInt8 × Int := two ([], 1) (fun x y => res (smv x y)) a b
def subS (a b : List UInt8) : List UInt8 × Int := two ([], 1) (fun x y => res (smv x (!y.1, y.2))) a b
def mulS (a b : List UInt8) : List UInt8 × Int := two ([], 1) (fun x y => res (x.1 != y.1, rnd 1 (x.1 != y.1) (x.2 * y.2) (10 ^ 20))) a b
def divS (a b : List UInt8) : List UInt8 × Int := two ([], 1) (nod fun x y => res (x.1 != y.1, rnd 1 (x.1 != y.1) (x.2 * 10 ^ 20) y.2)) a b
def modS (a b : List UInt8) : List UInt8 × Int := two ([], 1) (nod fun x y => res (x.1, x.2 % y.2)) a b
def negS (a : List UInt8) : List UInt8 × Int := subS [48] a
def roundS (a : List UInt8) (d : Int) (how : Option Nat) : List UInt8 × Int := match can a with
 | none => ([], 1)
 | some x => if d < -30 ∨ 20 < d then ([], 6) else match how with
  | none => ([], 1)
  | some k => res (x.1, rnd k x.1 x.2 (10 ^ (20 - d).toNat) * 10 ^ (20 - d).toNat)
def parseS (a : List UInt8) : List UInt8 × Int := match rdn a with
 | .error e => ([], e)
 | .ok x => (tx x, 0)
def iv (x : Bool × Nat) : Int := if x.1 = true then -(x.2 : Int) else x.2
def nrm (z : Int) : Bool × Nat := (decide (z < 0), z.natAbs)
def resI (z : Int) : List UInt8 × Int := if 10 ^ 50 ≤ z.natAbs then ([], 40) else (tx (nrm z), 0)
theorem iv_abs (x : Bool × Nat) : (iv x).natAbs = x.2 := by
 unfold iv; split <;> omega
theorem nrm_iv (x : Bool × Nat) : nrm (iv x) = (x.1 && x.2 != 0, x.2) := by
 obtain ⟨s, n⟩ := x
 unfold nrm
 rw [iv_abs]
 unfold iv
 cases s with
 | false => simp
 | true =>
  simp only [if_true, Bool.true_and, Prod.mk.injEq, and_true]
  rw [Bool.eq_iff_iff]; simp; omega
theorem res_iv (x : Bool × Nat) : res x = resI (iv x) := by
 unfold res fit resI
 rw [iv_abs, nrm_iv]
 by_cases h : 10 ^ 50 ≤ x.2
 ·rw [if_pos h, if_pos h]
 ·rw [if_neg h, if_neg h]
theorem iv_smv (x y : Bool × Nat) : iv (smv x y) = iv x + iv y := by
 obtain ⟨s, m⟩ := x
 obtain ⟨t, n⟩ := y
 unfold smv iv
 cases s <;> cases t
 ·simp
 ·by_cases h : n ≤ m
  ·simp [h]; omega
  ·simp [h]; omega
 ·by_cases h : n ≤ m
  ·simp [h]; omega
  ·simp [h]; omega
 ·simp; omega
theorem zaG {α : Type} (z : α) (f : Bool × Nat → Bool × Nat → α) {a b : List UInt8} (h : can a = none ∨ can b = none) : two z f a b = z := by
 unfold two
 rcases h with h | h
 ·rw [h]
 ·rw [h]; cases can a <;> rfl
theorem zbk {α : Type} (z : α) (f : Bool × Nat → Bool × Nat → α) {a b : List UInt8} {x y : Bool × Nat} (ha : can a = some x) (hb : can b = some y) : two z f a b = f x y := by
 unfold two
 rw [ha, hb]
theorem ways (a b : List UInt8) : (can a = none ∨ can b = none) ∨ ∃ x y, can a = some x ∧ can b = some y := by
 cases ha : can a with
 | none => exact .inl (.inl rfl)
 | some x =>
  cases hb : can b with
  | none => exact .inl (.inr rfl)
  | some y => exact .inr ⟨x, y, rfl, rfl⟩
theorem zds {a b : List UInt8} {x y : Bool × Nat} (ha : can a = some x) (hb : can b = some y) : addS a b = resI (iv x + iv y) := by
 unfold addS; rw [zbk _ _ ha hb, res_iv, iv_smv]
theorem add_comm (a b : List UInt8) : addS a b = addS b a := by
 rcases ways a b with h | ⟨x, y, ha, hb⟩
 ·unfold addS; rw [zaG _ _ h, zaG _ _ h.symm]
 ·rw [zds ha hb, zds hb ha, Int.add_comm]
theorem mul_comm (a b : List UInt8) : mulS a b = mulS b a := by
 rcases ways a b with h | ⟨x, y, ha, hb⟩
 ·unfold mulS; rw [zaG _ _ h, zaG _ _ h.symm]
 ·unfold mulS
  rw [zbk _ _ ha hb, zbk _ _ hb ha, Nat.mul_comm]
  have : (x.1 != y.1) = (y.1 != x.1) := by cases x.1 <;> cases y.1 <;> rfl
  rw [this]
def Good (r : List UInt8 × Int) : Prop := (r.2 ≠ 0 ∧ r.1 = []) ∨ (r.2 = 0 ∧ ∃ x, Fine x ∧ r.1 = tx x)
theorem zcw {how : Nat} {s : Bool} {n u : Nat} (h : n % u = 0) (hu : 0 < u) : rnd how s n u = n / u := by
 unfold rnd
 rw [h, if_neg]
 have hs : sg (2 * 0) u = -1 := by unfold sg; rw [if_pos (by omega)]
 rw [hs]
 unfold up
 split <;> simp
theorem zaH (how : Nat) (s : Bool) (n u : Nat) (hu : 0 < u) : rnd how s n u = n / u ∨ (rnd how s n u = n / u + 1 ∧ n % u ≠ 0) := by
 by_cases h : n % u = 0
 ·exact .inl (zcw h hu)
 ·unfold rnd
  split
  ·exact .inr ⟨rfl, h⟩
  ·exact .inl rfl
end Go.Proofs.YtldhiaiaildnlaaGreatDoor.Nm
