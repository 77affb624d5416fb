/- Texts of the claim: Nb. -/
import Derived.Test.YtldhiaiaildnlaaGreatDoorSNa
namespace Go.Proofs.YtldhiaiaildnlaaGreatDoor.Nm
set_option linter.unusedVariables false
def ch (d : Int) : UInt8 := (d + 48).toNat.toUInt8
def dd (b : UInt8) : Int := (b.toNat : Int) - 48
def dgt (b : UInt8) : Bool := decide (48 ≤ b.toNat) && decide (b.toNat ≤ 57)
theorem ch_nat {d : Int} (h : 0 ≤ d ∧ d ≤ 9) : (ch d).toNat = d.toNat + 48 := by
 unfold ch
 rw [UInt8.toNat_ofNat']
 omega
theorem dd_D {l : List UInt8} (h : l.all dgt = true) : D (l.map dd) := by
 intro x hx
 obtain ⟨b, hb, rfl⟩ := List.mem_map.mp hx
 have := List.all_eq_true.mp h b hb
 simp only [dgt, Bool.and_eq_true, decide_eq_true_eq] at this
 unfold dd; omega
def up (how : Nat) (neg odd : Bool) (half : Int) (none : Bool) : Bool :=
 match how with
 | 0 => decide (half > 0) || (half == 0 && !neg)
 | 1 => decide (half > 0) || (half == 0 && odd)
 | 2 => neg && !none
 | 3 => !neg && !none
 | _ => false
def sg (a b : Nat) : Int := if a < b then -1 else if a = b then 0 else 1
def rnd (how : Nat) (neg : Bool) (n u : Nat) : Nat := if up how neg (n / u % 2 == 1) (sg (2 * (n % u)) u) (n % u == 0) = true then n / u + 1 else n / u
def sgn (l : List UInt8) : Bool × List UInt8 := match l with
 | [] => (false, [])
 | b :: r => if b = 45 then (true, r) else if b = 43 then (false, r) else (false, b :: r)
def bef (l : List UInt8) : List UInt8 := l.takeWhile (· != 46)
def beh (l : List UInt8) : List UInt8 := (l.dropWhile (· != 46)).drop 1
def fit (x : Bool × Nat) : Except Int (Bool × Nat) := if 10 ^ 50 ≤ x.2 then .error 40 else .ok (x.1 && x.2 != 0, x.2)
def rdv (neg : Bool) (w f : List UInt8) : Nat :=
 if f.length ≤ 20 then dv ((w ++ f).map dd) * 10 ^ (20 - f.length) else rnd 1 neg (dv ((w ++ f).map dd)) (10 ^ (f.length - 20))
def rdn (l : List UInt8) : Except Int (Bool × Nat) :=
 if 200 < l.length then .error 2
 else if (bef (sgn l).2 ++ beh (sgn l).2 = [] ∨ (bef (sgn l).2 ++ beh (sgn l).2).all dgt = false) then .error 5
 else fit ((sgn l).1, rdv (sgn l).1 (bef (sgn l).2) (beh (sgn l).2))
def ds (n : Nat) : List Int := List.replicate (21 - (dg n).length) 0 ++ dg n
def rz (l : List Int) : List Int := (tz l.reverse).reverse
def whole (n : Nat) : List Int := (ds n).take ((ds n).length - 20)
def frac (n : Nat) : List Int := rz ((ds n).drop ((ds n).length - 20))
def body (n : Nat) : List UInt8 := (whole n).map ch ++ (if frac n = [] then [] else 46 :: (frac n).map ch)
def tx (x : Bool × Nat) : List UInt8 := (if x.1 = true then [45] else []) ++ body x.2
def can (l : List UInt8) : Option (Bool × Nat) := match rdn l with
 | .error _ => none
 | .ok x => if tx x = l then some x else none
def res (x : Bool × Nat) : List UInt8 × Int := match fit x with
 | .error e => ([], e)
 | .ok y => (tx y, 0)
def Fine (x : Bool × Nat) : Prop := x.2 < 10 ^ 50 ∧ (x.1 = true → x.2 ≠ 0)
theorem ds_D (n : Nat) : D (ds n) := (D.zeros _).append (dg_D n)
theorem zbf (n : Nat) : (ds n).length = max 21 (dg n).length := by unfold ds; rw [List.length_append, List.length_replicate]; omega
theorem zb4 (l : List Int) : ∃ k, l = List.replicate k 0 ++ tz l := by
 induction l with
 | nil => exact ⟨0, rfl⟩
 | cons x r ih =>
  rw [tz]
  by_cases h : x = 0
  ·rw [if_pos h]
   obtain ⟨k, hk⟩ := ih
   refine ⟨k + 1, ?_⟩
   rw [List.replicate_succ, List.cons_append, ← hk, h]
  ·rw [if_neg h]; exact ⟨0, rfl⟩
theorem zb6 (l : List Int) : l = rz l ++ List.replicate (l.length - (rz l).length) 0 := by
 obtain ⟨k, hk⟩ := zb4 l.reverse
 have h2 : l = rz l ++ List.replicate k 0 := by
  have := congrArg List.reverse hk
  rw [List.reverse_reverse, List.reverse_append, List.reverse_replicate] at this
  exact this
 have hl := congrArg List.length h2
 rw [List.length_append, List.length_replicate] at hl
 have : l.length - (rz l).length = k := by omega
 rw [this]; exact h2
theorem rz_len (l : List Int) : (rz l).length ≤ l.length := by
 have := congrArg List.length (zb6 l)
 rw [List.length_append] at this; omega
theorem rz_D {l : List Int} (h : D l) : D (rz l) := by rw [zb6 l] at h; exact h.left
theorem zcv (n : Nat) : (whole n).length = (ds n).length - 20 := by unfold whole; rw [List.length_take]; omega
theorem whole_D (n : Nat) : D (whole n) := fun x hx => ds_D n x (List.mem_of_mem_take hx)
theorem zdP (n : Nat) : D ((ds n).drop ((ds n).length - 20)) := fun x hx => ds_D n x (List.mem_of_mem_drop hx)
theorem frac_D (n : Nat) : D (frac n) := rz_D (zdP n)
theorem zcf (n : Nat) : (frac n).length ≤ 20 := by
 have h1 := rz_len ((ds n).drop ((ds n).length - 20))
 have h2 := zbf n
 rw [List.length_drop] at h1
 unfold frac; omega
theorem zdv (n : Nat) : whole n ++ (frac n ++ List.replicate (20 - (frac n).length) 0) = ds n := by
 have h := zb6 ((ds n).drop ((ds n).length - 20))
 have h2 := zbf n
 have h3 : ((ds n).drop ((ds n).length - 20)).length = 20 := by rw [List.length_drop]; omega
 rw [h3] at h
 unfold whole frac
 rw [← h, List.take_append_drop]
theorem digit_ne {b : UInt8} (h : dgt b = true) : b ≠ 46 ∧ b ≠ 45 ∧ b ≠ 43 := by
 simp only [dgt, Bool.and_eq_true, decide_eq_true_eq] at h
 refine ⟨?_, ?_, ?_⟩ <;> (intro e; subst e; revert h; decide)
theorem len50 {n : Nat} (h : n < 10 ^ 50) : (dg n).length ≤ 50 := zaY.mp h
theorem tx_len {x : Bool × Nat} (h : x.2 < 10 ^ 50) : (tx x).length ≤ 52 := by
 have h1 := len50 h
 have h2 := zbf x.2
 have h3 := zcv x.2
 have h4 := zcf x.2
 unfold tx body
 by_cases hx : x.1 = true <;> by_cases hf : frac x.2 = [] <;> simp [hx, hf] <;> omega
theorem zdL {x y : Bool × Nat} (h : fit x = .ok y) : Fine y ∧ y.2 = x.2 ∧ y.1 = (x.1 && x.2 != 0) := by
 unfold fit at h
 by_cases hb : 10 ^ 50 ≤ x.2
 ·rw [if_pos hb] at h; cases h
 ·rw [if_neg hb] at h
  obtain rfl := Except.ok.inj h
  refine ⟨⟨by simp only; omega, fun h => ?_⟩, rfl, rfl⟩
  simp only [Bool.and_eq_true, bne_iff_ne] at h
  exact h.2
theorem zat {l : List UInt8} {x : Bool × Nat} (h : rdn l = .ok x) : Fine x := by
 unfold rdn at h
 split at h
 ·cases h
 ·split at h
  ·cases h
  ·exact (zdL h).1
theorem zaP {l : List UInt8} {x : Bool × Nat} (h : can l = some x) : l = tx x ∧ Fine x := by
 unfold can at h
 split at h
 ·cases h
 ·rename_i y e
  by_cases ht : tx y = l
  ·rw [if_pos ht] at h
   obtain rfl := Option.some.inj h
   exact ⟨ht.symm, zat e⟩
  ·rw [if_neg ht] at h; cases h
end Go.Proofs.YtldhiaiaildnlaaGreatDoor.Nm
