/- Texts of the claim: No. -/
import Derived.Test.YtldhiaiaildnlaaGreatDoorSNm
import Derived.Test.YtldhiaiaildnlaaGreatDoorSNk
namespace Go.Proofs.YtldhiaiaildnlaaGreatDoor.Nm
set_option linter.unusedVariables false
open Go Go.RowKit Go.Proofs.YtldhiaiaildnlaaGreatDoor.Q Go.Proofs.YtldhiaiaildnlaaGreatDoorW.PrintWords Go.Proofs.YtldhiaiaildnlaaGreatDoorW.PrintLast Go.Proofs.YtldhiaiaildnlaaGreatDoorW.PrintMore
theorem wayS_is {l : List UInt8} {how : Nat} (h : wayS l = some how) : (how = 0 ∧ l = [104, 97, 108, 102]) ∨ (how = 1 ∧ l = [101, 118, 101, 110]) ∨ (how = 2 ∧ l = [102, 108, 111, 111, 114]) ∨ (how = 3 ∧ l = [99, 101, 105, 108, 105, 110, 103]) ∨ (how = 4 ∧ l = [99, 117, 116]) := by
 unfold wayS at h
 by_cases h1 : l = [104, 97, 108, 102]
 ·rw [if_pos h1] at h; exact .inl ⟨(Option.some.inj h).symm, h1⟩
 rw [if_neg h1] at h
 by_cases h2 : l = [101, 118, 101, 110]
 ·rw [if_pos h2] at h; exact .inr (.inl ⟨(Option.some.inj h).symm, h2⟩)
 rw [if_neg h2] at h
 by_cases h3 : l = [102, 108, 111, 111, 114]
 ·rw [if_pos h3] at h; exact .inr (.inr (.inl ⟨(Option.some.inj h).symm, h3⟩))
 rw [if_neg h3] at h
 by_cases h4 : l = [99, 101, 105, 108, 105, 110, 103]
 ·rw [if_pos h4] at h; exact .inr (.inr (.inr (.inl ⟨(Option.some.inj h).symm, h4⟩)))
 rw [if_neg h4] at h
 by_cases h5 : l = [99, 117, 116]
 ·rw [if_pos h5] at h; exact .inr (.inr (.inr (.inr ⟨(Option.some.inj h).symm, h5⟩)))
 rw [if_neg h5] at h; cases h
theorem zei (t : Int) (x : Bool) : (if t > 0 then some true else if t = 0 then some x else some false) = some (decide (t > 0) || (t == 0 && x)) := by
 by_cases h1 : t > 0 <;> by_cases h2 : t = 0 <;> simp [h1, h2]
theorem Up_f {s z : Bool} {d t : Int} {p : ByteArray} {how : Nat} (h : wayS (dl p) = some how) : xf.f s d t z p = some (up how s (Int.tmod d 2 == 1) t z) := by
 unfold xf.f
 rw [xq]
 rcases wayS_is h with ⟨rfl, e⟩ | ⟨rfl, e⟩ | ⟨rfl, e⟩ | ⟨rfl, e⟩ | ⟨rfl, e⟩
 ·rw [e, if_neg (by decide), if_neg (by decide), if_pos rfl]; exact zei t (!s)
 ·rw [e, if_neg (by decide), if_neg (by decide), if_neg (by decide), if_pos rfl]; exact zei t _
 ·rw [e, if_pos rfl]; cases s <;> cases z <;> rfl
 ·rw [e, if_neg (by decide), if_pos rfl]; cases s <;> cases z <;> rfl
 ·rw [e, if_neg (by decide), if_neg (by decide), if_neg (by decide), if_neg (by decide)]; rfl
theorem sg_two (a b : Nat) : sg a b = sg (2 * a) (2 * b) := by
 unfold sg
 by_cases h1 : a < b
 ·rw [if_pos h1, if_pos (by omega)]
 ·rw [if_neg h1, if_neg (show ¬ 2 * a < 2 * b by omega)]
  by_cases h2 : a = b
  ·rw [if_pos h2, if_pos (by omega)]
  ·rw [if_neg h2, if_neg (by omega)]
theorem zeb {k : Nat} {l r : List Int} {o : Bool} (hl : D l) (ll : l.length ≤ 50000) (h : zl.j2 k l o = some r) : r = dg (if o = true then dv l + 1 else dv l) := by
 cases k with
 | zero => cases h
 | succ k =>
  rw [zl.j2] at h
  cases o with
  | true =>
   rw [if_pos rfl] at h
   obtain ⟨t, h1, h⟩ := bindE h
   rw [← someE h, radd_f hl (D.cons (by omega) (by omega) D.nil) (by omega) (by simp) h1]
   rfl
  | false =>
   rw [if_neg (by decide)] at h
   obtain ⟨y, h0, h⟩ := bindE h
   obtain ⟨_, h⟩ := ifE h
   obtain ⟨t, h1, h⟩ := bindE h
   rw [← someE h0, List.nil_append] at h1
   rw [← someE h, zam hl h1]
   rfl
theorem zec {k : Nat} {s : Bool} {l r : List Int} {n : Nat} {p : ByteArray} {how : Nat} (hp : wayS (dl p) = some how) (hl : D l) (ll : l.length ≤ 20000) (hn : n ≤ l.length) (h : zl.j0 k s l (n : Int) p = some r) : r = dg (rnd how s (dv l) (10 ^ n)) := by
 cases k with
 | zero => cases h
 | succ k =>
  rw [zl.j0, w64 (by omega) (by omega)] at h
  obtain ⟨_, h⟩ := ifE h
  obtain ⟨_, h⟩ := ifE h
  obtain ⟨y, h1, h⟩ := bindE h
  obtain ⟨w, h2, h⟩ := bindE h
  obtain ⟨v, h3, h⟩ := bindE h
  obtain ⟨_, h⟩ := ifE h
  obtain ⟨_, h⟩ := ifE h
  obtain ⟨t, h4, h⟩ := bindE h
  rw [show ((l.length : Int) - n).toNat = l.length - n from by omega] at h1 h2
  have hy := (someE h1).symm
  have hw := (someE h2).symm
  have hv := (someE h3).symm
  have hm : (mx 0 (wrap64 ((n : Int) - 1))).toNat = n - 1 := by
   rw [w64 (by omega) (by omega)]; unfold mx; split <;> omega
  rw [hm, hv] at h4
  have Dy : D y := by rw [hy]; exact hl.take _
  have Dw : D w := by rw [hw]; exact hl.drop _
  have lw : w.length = n := by rw [hw, List.length_drop]; omega
  have ly : y.length ≤ 20000 := by rw [hy, List.length_take]; omega
  have hlw : l = y ++ w := by rw [hy, hw, List.take_append_drop]
  have hsum : dv l = dv y * 10 ^ n + dv w := by
   conv => lhs; rw [hlw]
   rw [xP, lw]
  have hlt : dv w < 10 ^ n := by have := zaD Dw; rw [lw] at this; exact this
  have hpos : 0 < 10 ^ n := Nat.pow_pos (by decide)
  have hdiv : dv l / 10 ^ n = dv y := by rw [hsum, Nat.mul_comm, Nat.mul_add_div hpos, Nat.div_eq_of_lt hlt, Nat.add_zero]
  have hmod : dv l % 10 ^ n = dv w := by rw [hsum, Nat.mul_comm, Nat.mul_add_mod, Nat.mod_eq_of_lt hlt]
  have ht := rcmp_f Dw (D.cons (l := List.replicate (n - 1) 0) (x := 5) (by omega) (by omega) (D.zeros _)) (by omega) (by simp; omega) h4
  have J : ∀ (k : Nat) (e : Int), (Int.tmod e 2 == 1) = (dv y % 2 == 1) → zl.j1 k s (n : Int) p y w t e = some r → r = dg (rnd how s (dv l) (10 ^ n)) := by
   intro k e he h
   cases k with
   | zero => cases h
   | succ k =>
    rw [zl.j1] at h
    by_cases h0 : (n : Int) > 0
    ·rw [if_pos h0] at h
     obtain ⟨c, h5, h⟩ := bindE h
     rw [Up_f hp] at h
     obtain ⟨o, h6, h⟩ := bindE h
     have ho := (someE h6).symm
     rw [zeb Dy (by omega) h]
     unfold rnd
     rw [hdiv, hmod, ho, he, ht]
     have e10 : (10 : Nat) ^ n = 2 * (5 * 10 ^ (n - 1)) := by
      rw [show n = n - 1 + 1 from by omega, Nat.pow_succ, Nat.add_sub_cancel]; omega
     have e5 : dv (5 :: List.replicate (n - 1) 0) = 5 * 10 ^ (n - 1) := by
      rw [zae, zax, List.length_replicate, Nat.add_zero]; rfl
     have ec : ((c.length : Int) == 0) = (dv w == 0) := by
      rw [zam Dw h5, Bool.eq_iff_iff, beq_iff_eq, beq_iff_eq]
      constructor
      ·intro h; exact zc4 (List.length_eq_zero_iff.mp (by omega))
      ·intro h; rw [h]; rfl
     rw [e5, sg_two, ← e10, ec]
    ·rw [if_neg h0] at h
     have hn0 : n = 0 := by omega
     rw [zeb Dy (by omega) h]
     have hw0 : dv w = 0 := by rw [hn0] at hlt; simpa using hlt
     rw [zcw (by rw [hmod, hw0]) hpos, hdiv]
     rfl
  by_cases hyl : (y.length : Int) > 0
  ·rw [if_pos hyl, w64 (by omega) (by omega)] at h
   obtain ⟨_, h⟩ := ifE h
   obtain ⟨_, h⟩ := ifE h
   refine J _ _ ?_ h
   obtain ⟨a, x, e⟩ := zbn y (by intro e; rw [e] at hyl; simp at hyl)
   have hx : 0 ≤ x ∧ x ≤ 9 := by rw [e] at Dy; exact Dy.right.head
   have e2 : rd y ((y.length : Int) - 1) = x := by
    rw [e]
    have : ((a ++ [x]).length : Int) - 1 = (a.length : Nat) := by simp
    rw [this, xG, List.getD_eq_getElem?_getD, List.getElem?_append_right (Nat.le_refl _), Nat.sub_self]; rfl
   rw [e2, e, zb0]
   obtain ⟨m, rfl⟩ : ∃ m : Nat, x = m := ⟨x.toNat, by omega⟩
   rw [show Int.tmod (m : Int) 2 = ((m % 2 : Nat) : Int) from rfl, Bool.eq_iff_iff, beq_iff_eq, beq_iff_eq]
   omega
  ·rw [if_neg hyl] at h
   refine J _ _ ?_ h
   have : y = [] := List.length_eq_zero_iff.mp (by omega)
   rw [this]; rfl
theorem rcut_f {k : Nat} {s : Bool} {l r : List Int} {n : Nat} {p : ByteArray} {how : Nat} (hp : wayS (dl p) = some how) (hl : D l) (ll : l.length ≤ 10000) (hn : n ≤ 10000) (h : zl.f k s l (n : Int) p = some r) : r = dg (rnd how s (dv l) (10 ^ n)) := by
 unfold zl.f at h
 by_cases hgt : (n : Int) > (l.length : Int)
 ·rw [if_pos hgt, w64 (by omega) (by omega)] at h
  obtain ⟨_, h⟩ := ifE h
  obtain ⟨_, h⟩ := ifE h
  obtain ⟨y, h1, h⟩ := bindE h
  obtain ⟨_, h⟩ := ifE h
  have hy := (someE h1).symm
  rw [show ((n : Int) - l.length).toNat = n - l.length from by omega] at hy
  rw [hy] at h
  rw [zec hp ((D.zeros _).append hl) (by rw [List.length_append, List.length_replicate]; omega) (by rw [List.length_append, List.length_replicate]; omega) h, xP, zax]
  simp
 ·rw [if_neg hgt] at h
  exact zec hp hl (by omega) (by omega) h
end Go.Proofs.YtldhiaiaildnlaaGreatDoor.Nm
