/- Texts of the claim: Ni. -/
import Derived.Test.YtldhiaiaildnlaaGreatDoorSNh
namespace Go.Proofs.YtldhiaiaildnlaaGreatDoor.Nm
set_option linter.unusedVariables false
open Go Go.RowKit Go.Proofs.YtldhiaiaildnlaaGreatDoor.Q Go.Proofs.YtldhiaiaildnlaaGreatDoorW.PrintWords Go.Proofs.YtldhiaiaildnlaaGreatDoorW.PrintLast Go.Proofs.YtldhiaiaildnlaaGreatDoorW.PrintMore
def cutOff (c : UInt8) (l : List UInt8) : List UInt8 := match l with
 | [] => []
 | b :: r => if b = c then r else b :: r
theorem zar {s p : ByteArray} {c : UInt8} {r : ByteArray} (hp : dl p = [c]) (hs : s.size ≤ 1000000) (h : yp.f s p = some r) : dl r = cutOff c (dl s) := by
 unfold yp.f y8.f yI.f at h
 have hps : p.size = 1 := by rw [← yQ, hp]; rfl
 have hl := yQ s
 rw [hps] at h
 obtain ⟨t, h1, h⟩ := bindE h
 obtain rfl := someE h
 obtain ⟨b, h2, h1⟩ := bindE h1
 by_cases h0 : (s.size : Int) ≥ ((1 : Nat) : Int)
 ·rw [if_pos h0] at h2
  obtain ⟨_, h2⟩ := ifE h2
  obtain ⟨_, h2⟩ := ifE h2
  rw [xq, xq, zaO, hp, Int.toNat_natCast] at h2
  cases hd : dl s with
  | nil => rw [hd] at hl; simp at hl; omega
  | cons x l =>
   rw [hd] at h2 hl
   have hb : b = (x == c) := by
    rw [← someE h2]
    show ([x] == [c]) = _
    simp
   unfold cutOff
   simp only
   by_cases hx : x = c
   ·rw [if_pos hx]
    rw [hb, if_pos (by rw [hx]; exact beq_self_eq_true c)] at h1
    obtain ⟨_, h1⟩ := ifE h1
    obtain ⟨_, h1⟩ := ifE h1
    rw [← someE h1, zaO, hd, Int.toNat_natCast, List.take_of_length_le (by simp; simp at hl; omega)]
    rfl
   ·rw [if_neg hx]
    rw [hb, if_neg (by simpa using hx)] at h1
    rw [← someE h1, hd]
 ·rw [if_neg h0] at h2
  have : dl s = [] := List.length_eq_zero_iff.mp (by omega)
  rw [← someE h2, if_neg (by decide)] at h1
  rw [← someE h1, this]; rfl
theorem zaW (l : List UInt8) (c : UInt8) : (Lib.indexByte l c = -1 ∧ l.dropWhile (· != c) = [] ∧ l.takeWhile (· != c) = l) ∨ (Lib.indexByte l c = ((l.takeWhile (· != c)).length : Int) ∧ l.dropWhile (· != c) ≠ []) := by
 induction l with
 | nil => exact .inl ⟨rfl, rfl, rfl⟩
 | cons b l ih =>
  rw [Lib.indexByte]
  by_cases h : b = c
  ·rw [if_pos (beq_iff_eq.mpr h), List.takeWhile_cons, List.dropWhile_cons, if_neg (by simp [h]), if_neg (by simp [h])]
   exact .inr ⟨rfl, by simp⟩
  ·rw [if_neg (by simpa using h), List.takeWhile_cons, List.dropWhile_cons, if_pos (bne_iff_ne.mpr h), if_pos (bne_iff_ne.mpr h)]
   rcases ih with ⟨h1, h2, h3⟩ | ⟨h1, h2⟩
   ·rw [h1, h3]; exact .inl ⟨rfl, h2, rfl⟩
   ·refine .inr ⟨?_, h2⟩
    rw [h1, if_neg (by simp), List.length_cons]; omega
theorem zem {s : ByteArray} {r : ByteArray × ByteArray × Bool} (hs : s.size ≤ 1000000) (h : xQ.f s (⟨#[46]⟩ : ByteArray) = some r) : dl r.1 = bef (dl s) ∧ dl r.2.1 = beh (dl s) := by
 unfold xQ.f xA.f yA.f at h
 rw [if_pos (show (⟨#[46]⟩ : ByteArray).size = 1 from rfl), show ((⟨#[46]⟩ : ByteArray).size : Int) = 1 from rfl, show (⟨#[46]⟩ : ByteArray).get! 0 = 46 from rfl, show s.data.toList = dl s from rfl] at h
 obtain ⟨t, h1, h⟩ := bindE h
 obtain rfl := someE h
 obtain ⟨i, h2, h1⟩ := bindE h1
 have hi := (someE h2).symm
 have hl := yQ s
 unfold bef beh
 rcases zaW (dl s) 46 with ⟨e1, e2, e3⟩ | ⟨e1, e2⟩
 ·rw [e1] at hi
  rw [hi, if_neg (by decide)] at h1
  rw [← someE h1, e2, e3]; exact ⟨rfl, rfl⟩
 ·rw [e1] at hi
  have hlt : ((dl s).takeWhile (· != 46)).length < (dl s).length := by
   have h4 := congrArg List.length (List.takeWhile_append_dropWhile (p := (· != 46)) (l := dl s))
   have h5 := List.length_pos_iff.mpr e2
   rw [List.length_append] at h4
   omega
  rw [hi, if_pos (by omega), w64 (by omega) (by omega)] at h1
  obtain ⟨_, h1⟩ := ifE h1
  obtain ⟨_, h1⟩ := ifE h1
  obtain ⟨_, h1⟩ := ifE h1
  obtain ⟨_, h1⟩ := ifE h1
  rw [← someE h1]
  refine ⟨?_, ?_⟩
  ·show dl (s.extract 0 _) = _
   rw [zaO, Int.toNat_natCast, List.drop_zero, Nat.sub_zero]
   conv => lhs; arg 2; rw [← List.takeWhile_append_dropWhile (p := (· != 46)) (l := dl s)]
   rw [List.take_left' rfl]
  ·show dl (s.extract _ s.size) = _
   rw [zaO, show ((((dl s).takeWhile (· != 46)).length : Int) + 1).toNat = ((dl s).takeWhile (· != 46)).length + 1 from by omega, List.take_of_length_le (by rw [List.length_drop]; omega), ← List.drop_drop]
   congr 1
   conv => lhs; arg 2; rw [← List.takeWhile_append_dropWhile (p := (· != 46)) (l := dl s)]
   rw [List.drop_left' rfl]
theorem zc2 (s : ByteArray) (pos : Nat) (h : pos < s.size) : (dl s).drop pos = s.get! pos :: (dl s).drop (pos + 1) := by
 have hl := yQ s
 have hp : pos < (dl s).length := by omega
 rw [List.drop_eq_getElem_cons hp, dl_get, List.getElem?_eq_getElem hp]
 rfl
theorem zeJ (b : UInt8) : ndig b.toNat = !dgt b := by
 unfold ndig dgt
 by_cases h1 : b.toNat < 48
 ·rw [decide_eq_true h1, decide_eq_false (show ¬ 48 ≤ b.toNat by omega)]; rfl
 ·by_cases h2 : 57 < b.toNat
  ·rw [decide_eq_true h2, decide_eq_false (show ¬ b.toNat ≤ 57 by omega)]; simp
  ·rw [decide_eq_false h1, decide_eq_false h2, decide_eq_true (show 48 ≤ b.toNat by omega), decide_eq_true (show b.toNat ≤ 57 by omega)]; rfl
theorem zeK (n b0 b1 b2 b3 : Nat) (h : 128 ≤ b0) : 128 ≤ (Lib.decodeN n b0 b1 b2 b3).1 := by
 unfold Lib.decodeN
 repeat' split
 all_goals simp only
 all_goals omega
theorem zbB (s : ByteArray) : decide (Lib.idxFunc ndig true s < 0) = (dl s).all dgt := by
 have hl := yQ s
 have key : ∀ f pos, pos ≤ s.size → s.size ≤ pos + f → decide (Lib.idxFuncFrom ndig true s f pos < 0) = ((dl s).drop pos).all dgt := by
  intro f
  induction f with
  | zero =>
   intro pos h1 h2
   rw [List.drop_of_length_le (by omega)]
   rfl
  | succ f ih =>
   intro pos h1 h2
   by_cases hp : pos < s.size
   ·unfold Lib.idxFuncFrom
    rw [if_pos hp, zc2 s pos hp, List.all_cons, Lib.decode_at]
    by_cases ha : (s.get! pos).toNat < 128
    ·rw [show Lib.decodeN (s.size - pos) (s.get! pos).toNat (s.get! (pos + 1)).toNat (s.get! (pos + 2)).toNat (s.get! (pos + 3)).toNat = ((s.get! pos).toNat, 1) from by unfold Lib.decodeN; rw [if_pos ha]]
     simp only
     rw [zeJ]
     cases hb : dgt (s.get! pos)
     ·rw [if_pos (by rfl)]; simp
     ·rw [if_neg (by simp), ih (pos + 1) (by omega) (by omega)]; simp
    ·have hh := zeK (s.size - pos) (s.get! pos).toNat (s.get! (pos + 1)).toNat (s.get! (pos + 2)).toNat (s.get! (pos + 3)).toNat (by omega)
     rw [if_pos (by unfold ndig; rw [decide_eq_true (show 57 < _ by omega)]; simp)]
     have : dgt (s.get! pos) = false := by unfold dgt; rw [decide_eq_false (show ¬ (s.get! pos).toNat ≤ 57 by omega)]; simp
     rw [this]; simp
   ·rw [List.drop_of_length_le (by omega), Lib.idxFuncFrom_end _ _ _ _ _ hp]
    rfl
 have := key s.size 0 (Nat.zero_le _) (by omega)
 unfold Lib.idxFunc
 rw [this]; rfl
def rdnP (l : List UInt8) : Bool × List Int × Int := match rdn l with
 | .error e => (false, [], e)
 | .ok y => (y.1, bg y.2, 0)
theorem len10 {n m : Nat} (h : n < 10 ^ m) (hm : m ≤ 250) : (bg n).length ≤ 28 := by
 apply zaz.mp
 have h1 : (1000000000 : Nat) = 10 ^ 9 := by decide
 rw [h1, ← Nat.pow_mul]
 exact Nat.lt_of_lt_of_le h (Nat.pow_le_pow_right (by decide) (by omega))
theorem zdN {r : Option Nat} {x : Nat} (h : yg.f (⟨#[101, 118, 101, 110]⟩ : ByteArray) = some x) : x = wayN 1 := by
 unfold yg.f at h
 simp only [xq] at h
 rw [if_neg (by decide), if_pos (by decide)] at h
 exact (someE h).symm
theorem sgn_len (l : List UInt8) : (sgn l).2.length ≤ l.length := by
 cases l with
 | nil => exact Nat.le_refl _
 | cons b l =>
  rw [sgn]
  split
  ·simp
  ·split <;> simp
theorem zcS {k : Nat} {s : ByteArray} {r : Bool × List Int × Int} (hs : s.size ≤ 1000000000) (h : zU.f k s = some r) : r = rdnP (dl s) := by
 have J1 : ∀ (k : Nat) (w f : ByteArray) (c ng : Bool), (c = false → (dl w).all dgt = true) → w.size ≤ 200 → f.size ≤ w.size → zU.j1 k f w c ng = some r →
   r = if c = true then (false, [], 5) else chk (ng, if f.size ≤ 20 then dv ((dl w).map dd) * 10 ^ (20 - f.size) else rnd 1 ng (dv ((dl w).map dd)) (10 ^ (f.size - 20))) := by
  intro k w f c ng hc hw hf h
  cases k with
  | zero => cases h
  | succ k =>
   rw [zU.j1] at h
   cases c with
   | true => exact (someE h).symm
   | false =>
    rw [if_neg (by decide)] at h ⊢
    have hD := hc rfl
    have hlt : dv ((dl w).map dd) < 10 ^ 200 := by
     have h1 := zaD (dd_D hD)
     rw [List.length_map, yQ] at h1
     exact Nat.lt_of_lt_of_le h1 (Nat.pow_le_pow_right (by decide) hw)
    have hll := len10 hlt (by decide)
    obtain ⟨t, h1, h⟩ := bindE h
    rw [zaN hD (by omega) h1, w64 (by omega) (by omega)] at h
    by_cases h20 : f.size ≤ 20
    ·rw [if_pos h20]
     rw [if_pos (by omega), show (20 : Int) - f.size = ((20 - f.size : Nat) : Int) from by omega] at h
     obtain ⟨p, h2, h⟩ := bindE h
     obtain ⟨q, h3, h⟩ := bindE h
     obtain ⟨u, h4, h⟩ := bindE h
     have hlp := len10 (n := 10 ^ (20 - f.size)) (m := 21) (Nat.pow_lt_pow_right (by decide) (by omega)) (by decide)
     rw [zaL (by omega) h2] at h3
     have hq := zas (bg_W _) (bg_W _) (by omega) (by omega) h3
     rw [y9, y9] at hq
     rw [hq] at h4
     have hm : dv ((dl w).map dd) * 10 ^ (20 - f.size) < 10 ^ 220 := by
      have h5 : (10 : Nat) ^ (20 - f.size) ≤ 10 ^ 20 := Nat.pow_le_pow_right (by decide) (by omega)
      have h6 : (10 : Nat) ^ 220 = 10 ^ 200 * 10 ^ 20 := by rw [← Nat.pow_add]
      rw [h6]
      exact Nat.lt_of_le_of_lt (Nat.mul_le_mul_left _ h5) (Nat.mul_lt_mul_of_pos_right hlt (Nat.pow_pos (by decide)))
     rw [← someE h]
     exact za7 (by have := len10 hm (by decide); omega) h4
    ·rw [if_neg h20]
     rw [if_neg (by omega), w64 (by omega) (by omega), show -((20 : Int) - f.size) = ((f.size - 20 : Nat) : Int) from by omega] at h
     obtain ⟨p, h2, h⟩ := bindE h
     obtain ⟨q, h3, h⟩ := bindE h
     obtain ⟨v, h4, h⟩ := bindE h
     obtain ⟨u, h5, h⟩ := bindE h
     have hlp := len10 (n := 10 ^ (f.size - 20)) (m := 201) (Nat.pow_lt_pow_right (by decide) (by omega)) (by decide)
     rw [zaL (by omega) h2, zdN (r := none) h3] at h4
     rw [zcG (by decide) (Nat.pow_pos (by decide)) (by omega) (by omega) h4] at h5
     have hm : rnd 1 ng (dv ((dl w).map dd)) (10 ^ (f.size - 20)) < 10 ^ 201 := by
      have h6 := Nat.div_le_self (dv ((dl w).map dd)) (10 ^ (f.size - 20))
      have h7 := zaH 1 ng (dv ((dl w).map dd)) (10 ^ (f.size - 20)) (Nat.pow_pos (by decide))
      omega
     rw [← someE h]
     exact za7 (by have := len10 hm (by decide); omega) h5
 have J0 : ∀ (k : Nat) (x : ByteArray) (ng : Bool), x.size ≤ 200 → zU.j0 k x ng = some r →
   r = if bef (dl x) ++ beh (dl x) = [] ∨ (bef (dl x) ++ beh (dl x)).all dgt = false then (false, [], 5) else chk (ng, rdv ng (bef (dl x)) (beh (dl x))) := by
  intro k x ng hx h
  cases k with
  | zero => cases h
  | succ k =>
   rw [zU.j0] at h
   obtain ⟨t, h1, h⟩ := bindE h
   obtain ⟨e1, e2⟩ := zem (by omega) h1
   obtain ⟨_, h⟩ := ifE h
   have hw : dl (t.1 ++ t.2.1) = bef (dl x) ++ beh (dl x) := by rw [zbI, e1, e2]
   have hlen : (bef (dl x) ++ beh (dl x)).length ≤ 200 := by
    have h4 := congrArg List.length (List.takeWhile_append_dropWhile (p := (· != 46)) (l := dl x))
    have h5 := yQ x
    rw [List.length_append] at h4
    unfold bef beh
    rw [List.length_append, List.length_drop]
    omega
   have hws : (t.1 ++ t.2.1).size = (bef (dl x) ++ beh (dl x)).length := by rw [← yQ, hw]
   have hfs : t.2.1.size = (beh (dl x)).length := by rw [← yQ, e2]
   have hle : t.2.1.size ≤ (t.1 ++ t.2.1).size := by rw [hfs, hws, List.length_append]; omega
   rw [xq, hw] at h
   unfold rdv
   by_cases h0 : bef (dl x) ++ beh (dl x) = []
   ·rw [if_pos h0] at h
    rw [if_pos (.inl h0), J1 _ _ _ _ _ (by intro h; cases h) (by omega) hle h, if_pos rfl]
   ·rw [if_neg h0] at h
    obtain ⟨i, h2, h⟩ := bindE h
    unfold xl.f at h2
    obtain ⟨_, h2⟩ := ifE h2
    have hi := zbB (t.1 ++ t.2.1)
    rw [someE h2, hw] at hi
    have := J1 _ _ _ _ _ (by
     intro hc
     rw [hw, ← hi]
     simp only [decide_eq_false_iff_not] at hc
     simp only [decide_eq_true_eq]; omega) (by omega) hle h
    rw [this, hw, hfs]
    by_cases hall : (bef (dl x) ++ beh (dl x)).all dgt = true
    ·rw [hall] at hi
     simp only [decide_eq_true_eq] at hi
     have hno : ¬ (bef (dl x) ++ beh (dl x) = [] ∨ (bef (dl x) ++ beh (dl x)).all dgt = false) := by
      rintro (e | e)
      ·exact h0 e
      ·rw [hall] at e; cases e
     rw [if_neg hno, if_neg (by simp only [decide_eq_true_eq]; omega)]
    ·rw [Bool.not_eq_true] at hall
     rw [hall] at hi
     simp only [decide_eq_false_iff_not] at hi
     rw [if_pos (by simp only [decide_eq_true_eq]; omega), if_pos (.inr hall)]
 have hl := yQ s
 unfold zU.f at h
 unfold rdnP rdn
 by_cases h2 : (s.size : Int) > 200
 ·rw [if_pos h2] at h
  rw [if_pos (by omega)]
  exact (someE h).symm
 ·rw [if_neg h2] at h
  rw [if_neg (by omega)]
  obtain ⟨t, h1, h⟩ := bindE h
  have e1 := zar (c := 45) (s := s) rfl (by omega) h1
  rw [xq, xq] at h
  have fin : ∀ (ng : Bool) (x : List UInt8), (if bef x ++ beh x = [] ∨ (bef x ++ beh x).all dgt = false then ((false, [], 5) : Bool × List Int × Int) else chk (ng, rdv ng (bef x) (beh x))) =
    (match (if bef x ++ beh x = [] ∨ (bef x ++ beh x).all dgt = false then .error 5 else fit (ng, rdv ng (bef x) (beh x)) : Except Int (Bool × Nat)) with
     | .error e => (false, [], e)
     | .ok y => (y.1, bg y.2, 0)) := by
   intro ng x
   split <;> rfl
  by_cases ht : dl t = dl s
  ·rw [if_pos ht] at h
   obtain ⟨u, h3, h⟩ := bindE h
   have e2 := zar (c := 43) (s := s) rfl (by omega) h3
   have hne : (dl t != dl s) = false := by rw [ht]; simp
   rw [hne] at h
   have hx : sgn (dl s) = (false, dl u) := by
    rw [e2]
    rw [ht] at e1
    cases hd : dl s with
    | nil => rfl
    | cons b l =>
     rw [hd] at e1
     unfold cutOff at e1 ⊢
     simp only at e1 ⊢
     by_cases hb : b = 45
     ·rw [if_pos hb] at e1
      have := congrArg List.length e1
      simp at this
     ·unfold sgn
      simp only
      rw [if_neg hb]
      split <;> rfl
   have hus : u.size ≤ 200 := by
    have h5 := yQ u
    have := sgn_len (dl s)
    rw [hx] at this
    simp only at this
    omega
   rw [J0 _ _ _ hus h, hx]
   exact fin _ _
  ·rw [if_neg ht] at h
   have hne : (dl t != dl s) = true := bne_iff_ne.mpr ht
   rw [hne] at h
   have hx : sgn (dl s) = (true, dl t) ∧ (dl t).length ≤ (dl s).length := by
    rw [e1]
    rw [e1] at ht
    cases hd : dl s with
    | nil => rw [hd] at ht; exact absurd rfl ht
    | cons b l =>
     rw [hd] at ht
     unfold cutOff at ht ⊢
     simp only at ht ⊢
     by_cases hb : b = 45
     ·rw [if_pos hb]
      unfold sgn
      simp only
      rw [if_pos hb]
      exact ⟨rfl, by simp⟩
     ·rw [if_neg hb] at ht; exact absurd rfl ht
   rw [J0 _ _ _ (by rw [← yQ]; omega) h, hx.1]
   exact fin _ _
end Go.Proofs.YtldhiaiaildnlaaGreatDoor.Nm
