/- Texts of the claim: Nq. -/
import Derived.Test.YtldhiaiaildnlaaGreatDoorSNp
namespace Go.Proofs.YtldhiaiaildnlaaGreatDoor.Nm
set_option linter.unusedVariables false
open Go Go.RowKit Go.Proofs.YtldhiaiaildnlaaGreatDoor.Q Go.Proofs.YtldhiaiaildnlaaGreatDoorW.PrintWords Go.Proofs.YtldhiaiaildnlaaGreatDoorW.PrintLast Go.Proofs.YtldhiaiaildnlaaGreatDoorW.PrintMore
theorem zey {s : Bool} {l : List UInt8} {r : Bool × List Int × Int} (h : r = if (bef l ++ beh l).all dgt = true then rP (fin s ([] ++ (bef l ++ beh l).map dd) (0 + (beh l).length)) else (false, [], 5)) :
  r = rP (if bef l ++ beh l = [] ∨ (bef l ++ beh l).all dgt = false then .error 5 else fit (s, rdv s (bef l) (beh l))) := by
 rw [List.nil_append, Nat.zero_add] at h
 by_cases ha : (bef l ++ beh l).all dgt = true
 ·rw [if_pos ha] at h
  rw [h]
  congr 1
  unfold fin rdv
  by_cases h0 : bef l ++ beh l = []
  ·rw [if_pos (by rw [h0]; rfl), if_pos (.inl h0)]
  ·have hno : ¬ (bef l ++ beh l = [] ∨ (bef l ++ beh l).all dgt = false) := by
    rintro (e | e)
    ·exact h0 e
    ·rw [ha] at e; cases e
   rw [if_neg (by simpa using h0), if_neg hno]
 ·rw [if_neg ha] at h
  rw [Bool.not_eq_true] at ha
  rw [if_pos (.inr ha)]
  exact h
theorem zbZ {k : Nat} {a : ByteArray} {pre l : List UInt8} {s : Bool} {r : Bool × List Int × Int} (hd : dl a = pre ++ l) (ha : a.size ≤ 300) (h : zi.j1 k a (pre.length : Int) s = some r) :
  r = rP (if bef l ++ beh l = [] ∨ (bef l ++ beh l).all dgt = false then .error 5 else fit (s, rdv s (bef l) (beh l))) := by
 cases k with
 | zero => cases h
 | succ k =>
  rw [zi.j1] at h
  have := read_l0 k a pre l [] 0 false s r hd ha D.nil (by simp) (by omega) h
  rw [if_neg (by decide)] at this
  exact zey this
theorem read_f {k : Nat} {a : ByteArray} {r : Bool × List Int × Int} (h : zi.f k a = some r) : r = rP (rdn (dl a)) := by
 unfold zi.f at h
 unfold rdn
 have hl := yQ a
 by_cases h2 : (a.size : Int) > 200
 ·rw [if_pos h2] at h
  rw [if_pos (by omega)]
  exact (someE h).symm
 ·rw [if_neg h2] at h
  rw [if_neg (by omega)]
  have J : ∀ k o q, zi.j0 k a 0 o q = some r → ∃ k, (if o = true then (if 0 < (a.size : Int) then zi.j1 k a 1 ((bt a 0) == 45) else none) else zi.j1 k a 0 q) = some r := by
   intro k o q h
   cases k with
   | zero => cases h
   | succ k => exact ⟨k, h⟩
  cases hd : dl a with
  | nil =>
   rw [hd] at hl
   rw [if_neg (by simp at hl; omega)] at h
   obtain ⟨k, h⟩ := J _ _ _ h
   rw [if_neg (by decide)] at h
   exact zbZ (pre := []) (l := []) hd (by omega) h
  | cons b l =>
   have hb := zdZ a [] b l hd
   rw [show (([] : List UInt8).length : Int) = 0 from rfl] at hb
   have hp : 0 < (a.size : Int) := by rw [hd] at hl; simp at hl; omega
   rw [if_pos hp, if_pos hp, hb] at h
   by_cases h43 : (b.toNat : Int) = 43
   ·rw [if_pos h43] at h
    have hbb : b = 43 := UInt8.toNat_inj.mp (by show b.toNat = 43; omega)
    obtain ⟨k, h⟩ := J _ _ _ h
    rw [if_pos rfl, if_pos hp, hb, h43] at h
    have hs : sgn (b :: l) = (false, l) := by rw [sgn, if_neg (by rw [hbb]; decide), if_pos hbb]
    rw [hs]
    exact zbZ (pre := [b]) (l := l) hd (by omega) h
   ·rw [if_neg h43] at h
    have hbb : b ≠ 43 := fun e => h43 (by rw [e]; rfl)
    obtain ⟨k, h⟩ := J _ _ _ h
    by_cases h45 : b = 45
    ·rw [if_pos (by rw [h45]; rfl), if_pos hp, hb, show (((b.toNat : Int) == 45) = true) from by rw [h45]; rfl] at h
     have hs : sgn (b :: l) = (true, l) := by rw [sgn, if_pos h45]
     rw [hs]
     exact zbZ (pre := [b]) (l := l) hd (by omega) h
    ·have hne : ((b.toNat : Int) == 45) = false := by
      rw [beq_eq_false_iff_ne]
      intro e
      exact h45 (UInt8.toNat_inj.mp (by show b.toNat = 45; omega))
     rw [hne, if_neg (by decide)] at h
     have hs : sgn (b :: l) = (false, b :: l) := by rw [sgn, if_neg h45, if_neg hbb]
     rw [hs]
     exact zbZ (pre := []) (l := b :: l) hd (by omega) h
theorem rz_zero (l : List Int) : rz (l ++ [0]) = rz l := by
 unfold rz
 rw [List.reverse_append, List.reverse_singleton, List.singleton_append, tz, if_pos rfl]
theorem rz_ne (l : List Int) {x : Int} (h : x ≠ 0) : rz (l ++ [x]) = l ++ [x] := by
 unfold rz
 rw [List.reverse_append, List.reverse_singleton, List.singleton_append, tz, if_neg h]
 simp
def wr (l : List Int) (i : Nat) : List Int :=
 ((l.take i).take (l.length - 20)).map (48 + ·) ++ (if i ≤ l.length - 20 then [] else 46 :: ((l.take i).drop (l.length - 20)).map (48 + ·))
theorem wr_step (l : List Int) (i : Nat) (h : i < l.length) : wr l (i + 1) = wr l i ++ ((if i = l.length - 20 then [46] else []) ++ [48 + l.getD i 0]) := by
 have e : l.take (i + 1) = l.take i ++ [l.getD i 0] := by
  rw [List.take_succ_eq_append_getElem h, List.getD_eq_getElem?_getD, List.getElem?_eq_getElem h]; rfl
 have hl : (l.take i).length = i := by rw [List.length_take]; omega
 unfold wr
 rw [e]
 rcases Nat.lt_trichotomy i (l.length - 20) with h1 | h1 | h1
 ·have a1 : (l.take i ++ [l.getD i 0]).take (l.length - 20) = l.take i ++ [l.getD i 0] := List.take_of_length_le (by rw [List.length_append, hl, List.length_singleton]; omega)
  have a2 : (l.take i).take (l.length - 20) = l.take i := List.take_of_length_le (by omega)
  rw [if_pos (show i + 1 ≤ l.length - 20 by omega), if_pos (show i ≤ l.length - 20 by omega), if_neg (show ¬ i = l.length - 20 by omega), a1, a2]
  simp
 ·rw [if_neg (by omega), if_pos (by omega), if_pos h1, List.take_append_of_le_length (by omega), List.drop_append_of_le_length (by omega), List.drop_of_length_le (by omega)]
  simp
 ·rw [if_neg (by omega), if_neg (by omega), if_neg (by omega), List.take_append_of_le_length (by omega), List.drop_append_of_le_length (by omega)]
  simp
theorem rtext_l2 : ∀ (k : Nat) (l o : List Int) (e i : Nat) (r : ByteArray), D l → 20 ≤ l.length → l.length ≤ 1000 → o.length ≤ 10 → i ≤ e → e ≤ l.length → zm.l2 k l (o ++ wr l i) (e : Int) (i : Int) = some r → r = strOfNums (o ++ wr l e) := by
 intro k
 induction k with
 | zero => intro l o e i r _ _ _ _ _ _ h; cases h
 | succ k ih =>
  intro l o e i r hD h20 hl ho hi he h
  rw [zm.l2] at h
  by_cases hlt : (i : Int) < (e : Int)
  ·have g := zcZ hD i
   rw [if_pos hlt, w64 (x := (l.length : Int) - 20) (by omega) (by omega), w64 (x := (i : Int) + 1) (by omega) (by omega), xG, w64 (x := 48 + l.getD i 0) (by omega) (by omega), show (48 + l.getD i 0) % 256 = 48 + l.getD i 0 from by omega] at h
   have hs := wr_step l i (by omega)
   by_cases hw : (i : Int) = (l.length : Int) - 20
   ·rw [if_pos hw] at h
    obtain ⟨_, h⟩ := ifE h
    obtain ⟨y, h1, h⟩ := bindE h
    obtain ⟨_, h⟩ := ifE h
    obtain ⟨_, h⟩ := ifE h
    obtain ⟨_, h⟩ := ifE h
    rw [if_pos (show i = l.length - 20 by omega)] at hs
    refine ih l o e (i + 1) r hD h20 hl ho (by omega) he ?_
    rw [hs, ← h, ← someE h1]
    congr 1
    simp
   ·rw [if_neg hw] at h
    obtain ⟨_, h⟩ := ifE h
    obtain ⟨_, h⟩ := ifE h
    obtain ⟨_, h⟩ := ifE h
    rw [if_neg (show ¬ i = l.length - 20 by omega)] at hs
    refine ih l o e (i + 1) r hD h20 hl ho (by omega) he ?_
    rw [hs, ← h]
    congr 1
    simp
  ·rw [if_neg hlt] at h
   obtain rfl : i = e := by omega
   exact (someE h).symm
theorem rtext_l1 : ∀ (k : Nat) (l o : List Int) (e : Nat) (r : ByteArray), D l → 20 ≤ l.length → l.length ≤ 1000 → o.length ≤ 10 → l.length - 20 ≤ e → e ≤ l.length → rz (l.drop (l.length - 20)) = rz ((l.take e).drop (l.length - 20)) →
  zm.l1 k l o (e : Int) = some r → r = strOfNums (o ++ wr l (l.length - 20 + (rz (l.drop (l.length - 20))).length)) := by
 intro k
 induction k with
 | zero => intro l o e r _ _ _ _ _ _ _ h; cases h
 | succ k ih =>
  intro l o e r hD h20 hl ho h1 h2 hz h
  rw [zm.l1] at h
  have J : ∀ k, e = l.length - 20 + (rz (l.drop (l.length - 20))).length → zm.j3 k l o (e : Int) = some r → r = strOfNums (o ++ wr l (l.length - 20 + (rz (l.drop (l.length - 20))).length)) := by
   intro k he h
   cases k with
   | zero => cases h
   | succ k =>
    rw [zm.j3] at h
    rw [← he]
    exact rtext_l2 k l o e 0 r hD h20 hl ho (by omega) h2 (by
     have : wr l 0 = [] := by unfold wr; rw [if_pos (by omega)]; simp
     rw [this, List.append_nil]; exact h)
  have htl : (l.take e).length = e := by rw [List.length_take]; omega
  by_cases hgt : (e : Int) > wrap64 ((l.length : Int) - 20)
  ·rw [if_pos hgt] at h
   rw [w64 (by omega) (by omega)] at hgt
   rw [w64 (by omega) (by omega), show (e : Int) - 1 = ((e - 1 : Nat) : Int) from by omega, xG] at h
   obtain ⟨_, h⟩ := ifE h
   obtain ⟨_, h⟩ := ifE h
   have et : l.take e = l.take (e - 1) ++ [l.getD (e - 1) 0] := by
    conv => lhs; rw [show e = e - 1 + 1 from by omega]
    rw [List.take_succ_eq_append_getElem (show e - 1 < l.length by omega), List.getD_eq_getElem?_getD, List.getElem?_eq_getElem (show e - 1 < l.length by omega)]; rfl
   rw [et, List.drop_append_of_le_length (by rw [List.length_take]; omega)] at hz
   by_cases h0 : l.getD (e - 1) 0 = 0
   ·rw [if_pos h0] at h
    rw [h0, rz_zero] at hz
    exact ih l o (e - 1) r hD h20 hl ho (by omega) (by omega) hz h
   ·rw [if_neg h0] at h
    rw [rz_ne _ h0] at hz
    refine J _ ?_ h
    rw [hz, List.length_append, List.length_drop, List.length_take, List.length_singleton]
    omega
  ·rw [if_neg hgt] at h
   rw [w64 (by omega) (by omega)] at hgt
   refine J _ ?_ h
   rw [hz, List.drop_of_length_le (by omega)]
   show e = l.length - 20 + 0
   omega
end Go.Proofs.YtldhiaiaildnlaaGreatDoor.Nm
