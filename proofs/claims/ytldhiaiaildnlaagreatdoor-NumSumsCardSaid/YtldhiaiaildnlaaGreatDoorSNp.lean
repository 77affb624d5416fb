/- Texts of the claim: Np. -/
import Derived.Test.YtldhiaiaildnlaaGreatDoorSNo
namespace Go.Proofs.YtldhiaiaildnlaaGreatDoor.Nm
set_option linter.unusedVariables false
open Go Go.RowKit Go.Proofs.YtldhiaiaildnlaaGreatDoor.Q Go.Proofs.YtldhiaiaildnlaaGreatDoorW.PrintWords Go.Proofs.YtldhiaiaildnlaaGreatDoorW.PrintLast Go.Proofs.YtldhiaiaildnlaaGreatDoorW.PrintMore
def rP (x : Except Int (Bool × Nat)) : Bool × List Int × Int := match x with
 | .error e => (false, [], e)
 | .ok y => (y.1, dg y.2, 0)
theorem zdZ (s : ByteArray) (pre : List UInt8) (b : UInt8) (l : List UInt8) (h : dl s = pre ++ b :: l) : bt s (pre.length : Int) = (b.toNat : Int) := by
 have hl := yQ s
 rw [h] at hl
 simp at hl
 unfold bt
 rw [Int.toNat_natCast, dif_pos (by omega)]
 have : s[pre.length]'(by omega) = b := by
  have e : (dl s)[pre.length]? = some b := by rw [h, List.getElem?_append_right (Nat.le_refl _), Nat.sub_self]; rfl
  unfold dl at e
  rw [Array.getElem?_toList] at e
  obtain ⟨h1, h2⟩ := Array.getElem?_eq_some_iff.mp e
  exact h2
 rw [this]
theorem digit_f {b : UInt8} {t : Bool} (h : yR.f (b.toNat : Int) = some t) : t = dgt b := by
 unfold yR.f at h
 unfold dgt
 by_cases h1 : (b.toNat : Int) ≥ 48
 ·rw [if_pos h1] at h
  rw [decide_eq_true (show 48 ≤ b.toNat by omega), ← someE h, Bool.true_and, decide_eq_decide]
  omega
 ·rw [if_neg h1] at h
  rw [decide_eq_false (show ¬ 48 ≤ b.toNat by omega)]
  exact (someE h).symm
theorem zea {k : Nat} {s : Bool} {n : Nat} {r : Bool × List Int × Int} (h : zi.j4 k s (dg n) = some r) : r = rP (fit (s, n)) := by
 cases k with
 | zero => cases h
 | succ k =>
  rw [zi.j4] at h
  unfold fit rP
  have h50 : n < 10 ^ 50 ↔ (dg n).length ≤ 50 := zaY
  by_cases h0 : n = 0
  ·subst h0
   rw [if_pos (show ((dg 0).length : Int) = 0 from rfl), if_neg (show ¬ ((dg 0).length : Int) > 50 by decide)] at h
   rw [if_neg (show ¬ 10 ^ 50 ≤ 0 by decide), ← someE h]
   cases s <;> rfl
  ·have hne : (dg n).length ≠ 0 := fun e => h0 (zc4 (List.length_eq_zero_iff.mp e))
   rw [if_neg (by omega)] at h
   by_cases h5 : ((dg n).length : Int) > 50
   ·rw [if_pos h5] at h
    rw [if_pos (show 10 ^ 50 ≤ n by omega)]
    exact (someE h).symm
   ·rw [if_neg h5] at h
    rw [if_neg (show ¬ 10 ^ 50 ≤ n by omega), ← someE h]
    simp only
    rw [bne_iff_ne.mpr h0, Bool.and_true]
def fin (s : Bool) (l : List Int) (z : Nat) : Except Int (Bool × Nat) :=
 if l = [] then .error 5 else fit (s, if z ≤ 20 then dv l * 10 ^ (20 - z) else rnd 1 s (dv l) (10 ^ (z - 20)))
theorem read_end {k : Nat} {s : Bool} {l : List Int} {z : Nat} {r : Bool × List Int × Int} (hl : D l) (ll : l.length ≤ 1000) (lz : z ≤ 1000)
  (h : (if (l.length : Int) = 0 then some (false, ([] : List Int), (5 : Int)) else (if (z : Int) ≤ 20 then ((xa.f l (wrap64 (20 - (z : Int)))).bind fun t664 => ((zj.f k t664).bind fun t667 => (zi.j4 k s t667))) else ((zl.f k s l (wrap64 ((z : Int) - 20)) (⟨#[101, 118, 101, 110]⟩ : ByteArray)).bind fun t670 => (zi.j4 k s t670)))) = some r) : r = rP (fin s l z) := by
 unfold fin
 by_cases h0 : l = []
 ·rw [if_pos (by rw [h0]; rfl)] at h
  rw [if_pos h0]
  exact (someE h).symm
 ·rw [if_neg (by intro e; exact h0 (List.length_eq_zero_iff.mp (by omega)))] at h
  rw [if_neg h0]
  by_cases hz : z ≤ 20
  ·rw [if_pos (by omega), w64 (by omega) (by omega), show (20 : Int) - z = ((20 - z : Nat) : Int) from by omega] at h
   rw [if_pos hz]
   obtain ⟨t, h1, h⟩ := bindE h
   obtain ⟨u, h2, h⟩ := bindE h
   rw [rzeros_f h1] at h2
   have hu := zam (hl.append (D.zeros _)) h2
   rw [xP, zax, List.length_replicate, Nat.add_zero] at hu
   rw [hu] at h
   exact zea h
  ·rw [if_neg (by omega), w64 (by omega) (by omega), show (z : Int) - 20 = ((z - 20 : Nat) : Int) from by omega] at h
   rw [if_neg hz]
   obtain ⟨t, h1, h⟩ := bindE h
   rw [rcut_f (how := 1) rfl hl (by omega) (by omega) h1] at h
   exact zea h
theorem read_l0 : ∀ (k : Nat) (a : ByteArray) (pre l : List UInt8) (x : List Int) (z : Nat) (seen s : Bool) (r : Bool × List Int × Int), dl a = pre ++ l → a.size ≤ 300 → D x → x.length ≤ pre.length → z ≤ pre.length →
  zi.l0 k a (pre.length : Int) x (z : Int) seen s = some r →
  r = if seen = true then (if l.all dgt = true then rP (fin s (x ++ l.map dd) (z + l.length)) else (false, [], 5))
   else (if (bef l ++ beh l).all dgt = true then rP (fin s (x ++ (bef l ++ beh l).map dd) (z + (beh l).length)) else (false, [], 5)) := by
 intro k
 induction k with
 | zero => intro a pre l x z seen s r _ _ _ _ _ h; cases h
 | succ k ih =>
  intro a pre l x z seen s r hd ha hx lx lz h
  have hsz := yQ a
  rw [hd, List.length_append] at hsz
  rw [zi.l0] at h
  cases l with
  | nil =>
   rw [if_neg (by simp at hsz; omega)] at h
   rw [read_end hx (by omega) (by omega) h]
   cases seen <;> simp [bef, beh]
  | cons b l =>
   simp only [List.length_cons] at hsz
   rw [if_pos (by omega)] at h
   obtain ⟨_, h⟩ := ifE h
   rw [zdZ a pre b l hd] at h
   have hd2 : dl a = (pre ++ [b]) ++ l := by rw [hd]; simp
   have hp2 : ((pre ++ [b]).length : Int) = (pre.length : Int) + 1 := by simp
   have J : ∀ (k : Nat) (o : Bool), (∀ (a : ByteArray) (pre l : List UInt8) (x : List Int) (z : Nat) (seen s : Bool) (r : Bool × List Int × Int), dl a = pre ++ l → a.size ≤ 300 → D x → x.length ≤ pre.length → z ≤ pre.length →
     zi.l0 k a (pre.length : Int) x (z : Int) seen s = some r →
     r = if seen = true then (if l.all dgt = true then rP (fin s (x ++ l.map dd) (z + l.length)) else (false, [], 5))
      else (if (bef l ++ beh l).all dgt = true then rP (fin s (x ++ (bef l ++ beh l).map dd) (z + (beh l).length)) else (false, [], 5))) →
     (o = true ↔ (b = 46 ∧ seen = false)) → zi.j3 (k + 1) a (pre.length : Int) x (z : Int) seen o s = some r →
     r = if seen = true then (if (b :: l).all dgt = true then rP (fin s (x ++ (b :: l).map dd) (z + (b :: l).length)) else (false, [], 5))
      else (if (bef (b :: l) ++ beh (b :: l)).all dgt = true then rP (fin s (x ++ (bef (b :: l) ++ beh (b :: l)).map dd) (z + (beh (b :: l)).length)) else (false, [], 5)) := by
    intro k o ih ho h
    rw [zi.j3, w64 (x := (pre.length : Int) + 1) (by omega) (by omega), ← hp2] at h
    cases ho2 : o with
    | true =>
     obtain ⟨hb, hseen⟩ := ho.mp ho2
     rw [ho2, if_pos rfl] at h
     have := ih a (pre ++ [b]) l x z true s r hd2 ha hx (by simp; omega) (by simp; omega) h
     rw [if_pos rfl] at this
     rw [this, hseen, if_neg (show ¬ (false = true) by decide)]
     have e1 : bef (b :: l) = [] := by unfold bef; rw [List.takeWhile_cons, if_neg (by simp [hb])]
     have e2 : beh (b :: l) = l := by unfold beh; rw [List.dropWhile_cons, if_neg (by simp [hb])]; rfl
     rw [e1, e2, List.nil_append]
    | false =>
     rw [ho2, if_neg (by decide)] at h
     obtain ⟨_, h⟩ := ifE h
     obtain ⟨_, h⟩ := ifE h
     rw [zdZ a pre b l hd] at h
     obtain ⟨t, h1, h⟩ := bindE h
     have ht := digit_f h1
     have hno : ¬ (b = 46 ∧ seen = false) := fun e => by have := ho.mpr e; rw [ho2] at this; cases this
     by_cases hdg : dgt b = true
     ·rw [ht, if_pos hdg] at h
      obtain ⟨_, h⟩ := ifE h
      obtain ⟨y, h2, h⟩ := bindE h
      have hb := zdk hdg
      have hy := (someE h2).symm
      rw [hb.1] at hy
      have hDy : D y := by rw [hy]; exact hx.append (D.cons hb.2.1 hb.2.2 D.nil)
      have hly : y.length ≤ (pre ++ [b]).length := by rw [hy]; simp; omega
      have hap : ∀ m : List UInt8, y ++ m.map dd = x ++ (b :: m).map dd := by intro m; rw [hy]; simp
      cases hs2 : seen with
      | true =>
       rw [hs2, if_pos rfl, w64 (by omega) (by omega), show (z : Int) + 1 = ((z + 1 : Nat) : Int) from by omega] at h
       have := ih a (pre ++ [b]) l y (z + 1) true s r hd2 ha hDy hly (by simp; omega) h
       rw [if_pos rfl, hap] at this
       rw [if_pos rfl, this, List.all_cons, hdg, Bool.true_and, List.length_cons, show z + 1 + l.length = z + (l.length + 1) from by omega]
      | false =>
       rw [hs2, if_neg (by decide)] at h
       have := ih a (pre ++ [b]) l y z false s r hd2 ha hDy hly (by simp; omega) h
       rw [if_neg (by decide), hap] at this
       have hb46 : (b != 46) = true := bne_iff_ne.mpr (digit_ne hdg).1
       have e1 : bef (b :: l) = b :: bef l := by unfold bef; rw [List.takeWhile_cons, if_pos hb46]
       have e2 : beh (b :: l) = beh l := by unfold beh; rw [List.dropWhile_cons, if_pos hb46]
       rw [if_neg (by decide), this, e1, e2, List.cons_append, List.all_cons, hdg, Bool.true_and]
     ·rw [ht, if_neg hdg] at h
      rw [← someE h]
      rw [Bool.not_eq_true] at hdg
      cases hs2 : seen with
      | true => rw [if_pos rfl, List.all_cons, hdg, Bool.false_and, if_neg (by decide)]
      | false =>
       have hb46 : (b != 46) = true := bne_iff_ne.mpr (fun e => hno ⟨e, hs2⟩)
       have e1 : bef (b :: l) = b :: bef l := by unfold bef; rw [List.takeWhile_cons, if_pos hb46]
       rw [if_neg (by decide), e1, List.cons_append, List.all_cons, hdg, Bool.false_and, if_neg (by decide)]
   have J2 : ∀ (o : Bool), (o = true ↔ (b = 46 ∧ seen = false)) → zi.j3 k a (pre.length : Int) x (z : Int) seen o s = some r →
     r = if seen = true then (if (b :: l).all dgt = true then rP (fin s (x ++ (b :: l).map dd) (z + (b :: l).length)) else (false, [], 5))
      else (if (bef (b :: l) ++ beh (b :: l)).all dgt = true then rP (fin s (x ++ (bef (b :: l) ++ beh (b :: l)).map dd) (z + (beh (b :: l)).length)) else (false, [], 5)) := by
    intro o ho h
    cases k with
    | zero => cases h
    | succ k =>
     refine J k o ?_ ho h
     intro a pre l x z seen s r h1 h2 h3 h4 h5 h6
     exact ih a pre l x z seen s r h1 h2 h3 h4 h5 (zi.zai k |>.2.2.1 _ _ _ _ _ _ _ h6)
   by_cases h46 : (b.toNat : Int) = 46
   ·rw [if_pos h46] at h
    have hb : b = 46 := UInt8.toNat_inj.mp (by show b.toNat = 46; omega)
    exact J2 _ (by rw [Bool.not_eq_true']; exact ⟨fun e => ⟨hb, e⟩, fun e => e.2⟩) h
   ·rw [if_neg h46] at h
    exact J2 _ ⟨fun e => (by cases e), fun e => absurd (by rw [e.1]; rfl) h46⟩ h
end Go.Proofs.YtldhiaiaildnlaaGreatDoor.Nm
