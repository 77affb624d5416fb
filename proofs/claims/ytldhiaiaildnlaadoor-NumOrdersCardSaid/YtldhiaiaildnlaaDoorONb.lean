/- Texts of the claim: Nb. -/
import Derived.Test.YtldhiaiaildnlaaDoorONa
namespace Go.Proofs.YtldhiaiaildnlaaDoor.Nm
set_option linter.unusedVariables false
def ch (d : Int) : UInt8 := (d + 48).toNat.toUInt8
def dd (b : UInt8) : Int := (b.toNat : Int) - 48
def dgt (b : UInt8) : Bool := decide (48 ≤ b.toNat) && decide (b.toNat ≤ 57)
theorem ch_nat {d : Int} (h : 0 ≤ d ∧ d ≤ 9) : (ch d).toNat = d.toNat + 48 := by
  unfold ch
  rw [UInt8.toNat_ofNat']
  omega
theorem ch_dgt {d : Int} (h : 0 ≤ d ∧ d ≤ 9) : dgt (ch d) = true := by
  unfold dgt
  rw [ch_nat h]
  simp; omega
theorem dd_ch {d : Int} (h : 0 ≤ d ∧ d ≤ 9) : dd (ch d) = d := by
  unfold dd
  rw [ch_nat h]; omega
theorem dd_D {l : List UInt8} (h : l.all dgt = true) : D (l.map dd) := by
  intro x hx
  obtain ⟨b, hb, rfl⟩ := List.mem_map.mp hx
  have := List.all_eq_true.mp h b hb
  simp only [dgt, Bool.and_eq_true, decide_eq_true_eq] at this
  unfold dd; omega
theorem map_dd_ch {l : List Int} (h : D l) : (l.map ch).map dd = l := by
  rw [List.map_map]
  conv => rhs; rw [← List.map_id l]
  exact List.map_congr_left fun x hx => dd_ch (h x hx)
theorem map_ch_all {l : List Int} (h : D l) : (l.map ch).all dgt = true := by
  rw [List.all_eq_true]
  intro b hb
  obtain ⟨x, hx, rfl⟩ := List.mem_map.mp hb
  exact ch_dgt (h x hx)
def up (how : Nat) (neg odd : Bool) (half : Int) (none : Bool) : Bool :=
  match how with
  | 0 => decide (half > 0) || (half == 0 && !neg)
  | 1 => decide (half > 0) || (half == 0 && odd)
  | 2 => neg && !none
  | 3 => !neg && !none
  | _ => false
def sg (a b : Nat) : Int := if a < b then -1 else if a = b then 0 else 1
def rnd (how : Nat) (neg : Bool) (n u : Nat) : Nat := if up how neg (n / u % 2 == 1) (sg (2 * (n % u)) u) (n % u == 0) = true then n / u + 1 else n / u
def sgn (l : List UInt8) : Bool × List UInt8 := match l with
  | [] => (false, [])
  | b :: r => if b = 45 then (true, r) else if b = 43 then (false, r) else (false, b :: r)
def bef (l : List UInt8) : List UInt8 := l.takeWhile (· != 46)
def beh (l : List UInt8) : List UInt8 := (l.dropWhile (· != 46)).drop 1
def fit (x : Bool × Nat) : Except Int (Bool × Nat) := if 10 ^ 50 ≤ x.2 then .error 40 else .ok (x.1 && x.2 != 0, x.2)
def rdv (neg : Bool) (w f : List UInt8) : Nat :=
  if f.length ≤ 20 then dv ((w ++ f).map dd) * 10 ^ (20 - f.length) else rnd 1 neg (dv ((w ++ f).map dd)) (10 ^ (f.length - 20))
def rdn (l : List UInt8) : Except Int (Bool × Nat) :=
  if 200 < l.length then .error 2
  else if (bef (sgn l).2 ++ beh (sgn l).2 = [] ∨ (bef (sgn l).2 ++ beh (sgn l).2).all dgt = false) then .error 5
  else fit ((sgn l).1, rdv (sgn l).1 (bef (sgn l).2) (beh (sgn l).2))
def ds (n : Nat) : List Int := List.replicate (21 - (dg n).length) 0 ++ dg n
def rz (l : List Int) : List Int := (tz l.reverse).reverse
def whole (n : Nat) : List Int := (ds n).take ((ds n).length - 20)
def frac (n : Nat) : List Int := rz ((ds n).drop ((ds n).length - 20))
def body (n : Nat) : List UInt8 := (whole n).map ch ++ (if frac n = [] then [] else 46 :: (frac n).map ch)
def tx (x : Bool × Nat) : List UInt8 := (if x.1 = true then [45] else []) ++ body x.2
def can (l : List UInt8) : Option (Bool × Nat) := match rdn l with
  | .error _ => none
  | .ok x => if tx x = l then some x else none
def res (x : Bool × Nat) : List UInt8 × Int := match fit x with
  | .error e => ([], e)
  | .ok y => (tx y, 0)
def Fine (x : Bool × Nat) : Prop := x.2 < 10 ^ 50 ∧ (x.1 = true → x.2 ≠ 0)
theorem ds_D (n : Nat) : D (ds n) := (D.zeros _).append (dg_D n)
theorem dv_ds (n : Nat) : dv (ds n) = n := by unfold ds; rw [dv_append, dv_zeros, dv_dg]; omega
theorem ds_len (n : Nat) : (ds n).length = max 21 (dg n).length := by unfold ds; rw [List.length_append, List.length_replicate]; omega
theorem tz_split (l : List Int) : ∃ k, l = List.replicate k 0 ++ tz l := by
  induction l with
  | nil => exact ⟨0, rfl⟩
  | cons x r ih =>
    rw [tz]
    by_cases h : x = 0
    · rw [if_pos h]
      obtain ⟨k, hk⟩ := ih
      refine ⟨k + 1, ?_⟩
      rw [List.replicate_succ, List.cons_append, ← hk, h]
    · rw [if_neg h]; exact ⟨0, rfl⟩
theorem rz_split (l : List Int) : l = rz l ++ List.replicate (l.length - (rz l).length) 0 := by
  obtain ⟨k, hk⟩ := tz_split l.reverse
  have h2 : l = rz l ++ List.replicate k 0 := by
    have := congrArg List.reverse hk
    rw [List.reverse_reverse, List.reverse_append, List.reverse_replicate] at this
    exact this
  have hl := congrArg List.length h2
  rw [List.length_append, List.length_replicate] at hl
  have : l.length - (rz l).length = k := by omega
  rw [this]; exact h2
theorem rz_len (l : List Int) : (rz l).length ≤ l.length := by
  have := congrArg List.length (rz_split l)
  rw [List.length_append] at this; omega
theorem rz_D {l : List Int} (h : D l) : D (rz l) := by rw [rz_split l] at h; exact h.left
theorem whole_len (n : Nat) : (whole n).length = (ds n).length - 20 := by unfold whole; rw [List.length_take]; omega
theorem whole_D (n : Nat) : D (whole n) := fun x hx => ds_D n x (List.mem_of_mem_take hx)
theorem drop_D (n : Nat) : D ((ds n).drop ((ds n).length - 20)) := fun x hx => ds_D n x (List.mem_of_mem_drop hx)
theorem frac_D (n : Nat) : D (frac n) := rz_D (drop_D n)
theorem frac_len (n : Nat) : (frac n).length ≤ 20 := by
  have h1 := rz_len ((ds n).drop ((ds n).length - 20))
  have h2 := ds_len n
  rw [List.length_drop] at h1
  unfold frac; omega
theorem whole_frac (n : Nat) : whole n ++ (frac n ++ List.replicate (20 - (frac n).length) 0) = ds n := by
  have h := rz_split ((ds n).drop ((ds n).length - 20))
  have h2 := ds_len n
  have h3 : ((ds n).drop ((ds n).length - 20)).length = 20 := by rw [List.length_drop]; omega
  rw [h3] at h
  unfold whole frac
  rw [← h, List.take_append_drop]
theorem whole_frac_dv (n : Nat) : dv (whole n ++ frac n) * 10 ^ (20 - (frac n).length) = n := by
  have h := congrArg dv (whole_frac n)
  rw [← List.append_assoc, dv_append, dv_zeros, List.length_replicate, dv_ds] at h
  omega
theorem digit_ne {b : UInt8} (h : dgt b = true) : b ≠ 46 ∧ b ≠ 45 ∧ b ≠ 43 := by
  simp only [dgt, Bool.and_eq_true, decide_eq_true_eq] at h
  refine ⟨?_, ?_, ?_⟩ <;> (intro e; subst e; revert h; decide)
theorem bef_digits {a r : List UInt8} (h : a.all dgt = true) : bef (a ++ r) = a ++ bef r ∧ beh (a ++ r) = beh r := by
  unfold bef beh
  induction a with
  | nil => exact ⟨rfl, rfl⟩
  | cons b a ih =>
    rw [List.all_cons, Bool.and_eq_true] at h
    have hb := (digit_ne h.1).1
    have hb2 : (b != 46) = true := bne_iff_ne.mpr hb
    obtain ⟨i1, i2⟩ := ih h.2
    rw [List.cons_append, List.takeWhile_cons, List.dropWhile_cons, hb2, if_pos rfl, if_pos rfl, i1, i2]
    exact ⟨rfl, rfl⟩
theorem bef_body (n : Nat) : bef (body n) = (whole n).map ch ∧ beh (body n) = (frac n).map ch := by
  unfold body
  obtain ⟨h1, h2⟩ := bef_digits (r := if frac n = [] then [] else 46 :: (frac n).map ch) (map_ch_all (whole_D n))
  rw [h1, h2]
  by_cases h : frac n = []
  · rw [if_pos h, h]; exact ⟨by simp [bef], rfl⟩
  · rw [if_neg h]; exact ⟨by simp [bef], rfl⟩
theorem whole_ne (n : Nat) : whole n ≠ [] := by
  intro h
  have h1 := whole_len n
  have h2 := ds_len n
  rw [h] at h1
  simp at h1; omega
theorem body_head (n : Nat) : ∃ b r, body n = b :: r ∧ dgt b = true := by
  unfold body
  cases h : whole n with
  | nil => exact absurd h (whole_ne n)
  | cons x r =>
    have := whole_D n
    rw [h] at this
    exact ⟨_, _, rfl, ch_dgt this.head⟩
theorem sgn_tx (x : Bool × Nat) : sgn (tx x) = (x.1, body x.2) := by
  obtain ⟨neg, n⟩ := x
  obtain ⟨b, r, e, hb⟩ := body_head n
  have h1 := digit_ne hb
  unfold tx
  cases neg with
  | true => rfl
  | false =>
    simp only
    rw [if_neg (by decide), List.nil_append, e, sgn, if_neg h1.2.1, if_neg h1.2.2]
theorem len50 {n : Nat} (h : n < 10 ^ 50) : (dg n).length ≤ 50 := dg_len.mp h
theorem tx_len {x : Bool × Nat} (h : x.2 < 10 ^ 50) : (tx x).length ≤ 52 := by
  have h1 := len50 h
  have h2 := ds_len x.2
  have h3 := whole_len x.2
  have h4 := frac_len x.2
  unfold tx body
  by_cases hx : x.1 = true <;> by_cases hf : frac x.2 = [] <;> simp [hx, hf] <;> omega
theorem fit_fine {x : Bool × Nat} (h : Fine x) : fit x = .ok x := by
  obtain ⟨neg, n⟩ := x
  obtain ⟨h1, h2⟩ := h
  unfold fit
  simp only at h1 h2 ⊢
  rw [if_neg (by omega)]
  cases neg with
  | false => rfl
  | true => rw [bne_iff_ne.mpr (h2 rfl)]; rfl
theorem fit_is {x y : Bool × Nat} (h : fit x = .ok y) : Fine y ∧ y.2 = x.2 ∧ y.1 = (x.1 && x.2 != 0) := by
  unfold fit at h
  by_cases hb : 10 ^ 50 ≤ x.2
  · rw [if_pos hb] at h; cases h
  · rw [if_neg hb] at h
    obtain rfl := Except.ok.inj h
    refine ⟨⟨by simp only; omega, fun h => ?_⟩, rfl, rfl⟩
    simp only [Bool.and_eq_true, bne_iff_ne] at h
    exact h.2
theorem rdn_fine {l : List UInt8} {x : Bool × Nat} (h : rdn l = .ok x) : Fine x := by
  unfold rdn at h
  split at h
  · cases h
  · split at h
    · cases h
    · exact (fit_is h).1
theorem rdn_tx {x : Bool × Nat} (h : Fine x) : rdn (tx x) = .ok x := by
  have hl := tx_len h.1
  obtain ⟨b1, b2⟩ := bef_body x.2
  have hD := (whole_D x.2).append (frac_D x.2)
  unfold rdn
  rw [if_neg (by omega), sgn_tx]
  simp only
  rw [b1, b2, ← List.map_append, if_neg]
  · unfold rdv
    rw [List.length_map, if_pos (frac_len x.2), ← List.map_append, map_dd_ch hD, whole_frac_dv]
    exact fit_fine h
  · rintro (e | e)
    · have := whole_ne x.2
      simp at e; exact this e.1
    · rw [map_ch_all hD] at e; cases e
theorem can_tx {x : Bool × Nat} (h : Fine x) : can (tx x) = some x := by
  unfold can
  rw [rdn_tx h]
  simp only
  rw [if_pos True.intro]
theorem can_is {l : List UInt8} {x : Bool × Nat} (h : can l = some x) : l = tx x ∧ Fine x := by
  unfold can at h
  split at h
  · cases h
  · rename_i y e
    by_cases ht : tx y = l
    · rw [if_pos ht] at h
      obtain rfl := Option.some.inj h
      exact ⟨ht.symm, rdn_fine e⟩
    · rw [if_neg ht] at h; cases h
theorem tx_inj {x y : Bool × Nat} (hx : Fine x) (hy : Fine y) (h : tx x = tx y) : x = y := by
  have h1 := can_tx hx
  rw [h, can_tx hy] at h1
  exact (Option.some.inj h1).symm
end Go.Proofs.YtldhiaiaildnlaaDoor.Nm
