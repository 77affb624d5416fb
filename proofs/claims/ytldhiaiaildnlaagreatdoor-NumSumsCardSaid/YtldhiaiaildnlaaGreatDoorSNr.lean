/- Texts of the claim: Nr. -/
import Derived.Test.YtldhiaiaildnlaaGreatDoorSNq
namespace Go.Proofs.YtldhiaiaildnlaaGreatDoor.Nm
set_option linter.unusedVariables false
open Go Go.RowKit Go.Proofs.YtldhiaiaildnlaaGreatDoor.Q Go.Proofs.YtldhiaiaildnlaaGreatDoorW.PrintWords Go.Proofs.YtldhiaiaildnlaaGreatDoorW.PrintLast Go.Proofs.YtldhiaiaildnlaaGreatDoorW.PrintMore
theorem zbX (a b : List Int) : dl (strOfNums (a ++ b)) = dl (strOfNums a) ++ dl (strOfNums b) := by
 unfold dl strOfNums
 simp
theorem zd7 {L : List Int} (h : D L) : dl (strOfNums (L.map (48 + ·))) = L.map ch := by
 rw [← zda h]
 congr 3
 funext x
 omega
theorem str_wr (n : Nat) : dl (strOfNums (wr (ds n) ((ds n).length - 20 + (frac n).length))) = body n := by
 have hl := zbf n
 have hf := zcf n
 have hw := zdv n
 have hwl := zcv n
 unfold wr body
 have e1 : (ds n).take ((ds n).length - 20 + (frac n).length) = whole n ++ frac n := by
  rw [← hwl]
  conv => lhs; arg 2; rw [← hw, ← List.append_assoc]
  rw [List.take_left' (by rw [List.length_append])]
 rw [e1, List.take_left' hwl, List.drop_left' hwl, zbX, zd7 (whole_D n)]
 congr 1
 by_cases h0 : frac n = []
 ·rw [if_pos h0, if_pos (by rw [h0]; simp)]; rfl
 ·have : (frac n).length ≠ 0 := fun e => h0 (List.length_eq_zero_iff.mp e)
  rw [if_neg h0, if_neg (by omega)]
  rw [show (46 : Int) :: (frac n).map (48 + ·) = [46] ++ (frac n).map (48 + ·) from rfl, zbX, zd7 (frac_D n)]
  rfl
theorem rtext_l0 : ∀ (k : Nat) (z : Nat) (n : Nat) (s : Bool) (m : List Int) (r : ByteArray), n < 10 ^ 200 → z + (dg n).length ≤ max 21 (dg n).length → zm.l0 k (List.replicate z 0 ++ dg n) s m = some r → dl r = tx (s, n) := by
 intro k
 induction k with
 | zero => intro z n s m r _ _ h; cases h
 | succ k ih =>
  intro z n s m r hn hz h
  have hl : (dg n).length ≤ 200 := zaY.mp hn
  rw [zm.l0, List.length_append, List.length_replicate] at h
  by_cases hlt : ((z + (dg n).length : Nat) : Int) < 21
  ·rw [if_pos hlt] at h
   obtain ⟨y, h1, h⟩ := bindE h
   obtain ⟨_, h⟩ := ifE h
   rw [← someE h1] at h
   exact ih (z + 1) n s m r hn (by omega) h
  ·rw [if_neg hlt] at h
   have e : List.replicate z 0 ++ dg n = ds n := by
    unfold ds
    congr 2
    omega
   rw [e] at h
   have hlen := zbf n
   have J : ∀ k (o : List Int), o.length ≤ 10 → zm.j1 k (ds n) o = some r → r = strOfNums (o ++ wr (ds n) ((ds n).length - 20 + (frac n).length)) := by
    intro k o ho h
    cases k with
    | zero => cases h
    | succ k =>
     rw [zm.j1] at h
     exact rtext_l1 k (ds n) o (ds n).length r (ds_D n) (by omega) (by omega) ho (by omega) (by omega) (by rw [List.take_of_length_le (Nat.le_refl _)]) h
   unfold tx
   cases s with
   | true =>
    rw [if_pos rfl] at h
    obtain ⟨_, h⟩ := ifE h
    rw [J _ _ (by simp) h, zbX, str_wr]; rfl
   | false =>
    rw [if_neg (by decide)] at h
    rw [J _ _ (by simp) h, zbX, str_wr]; rfl
theorem zcM {k : Nat} {s : Bool} {n : Nat} {r : ByteArray} (hn : n < 10 ^ 200) (h : zm.f k s (dg n) = some r) : dl r = tx (s, n) := by
 unfold zm.f at h
 exact rtext_l0 k 0 n s _ r hn (by omega) h
theorem big50 {n : Nat} (h : n < 10 ^ 50) : n < 10 ^ 200 := Nat.lt_of_lt_of_le h (Nat.pow_le_pow_right (by decide) (by decide))
def rcanP (l : List UInt8) : Bool × List Int × Bool := match can l with
 | none => (false, [], false)
 | some x => (x.1, dg x.2, true)
theorem zbw {k : Nat} {a : ByteArray} {r : Bool × List Int × Bool} (h : yd.f k a = some r) : r = rcanP (dl a) := by
 unfold yd.f at h
 obtain ⟨t, h1, h⟩ := bindE h
 have ht := read_f h1
 unfold rP at ht
 unfold rcanP can
 cases hr : rdn (dl a) with
 | error e =>
  rw [hr] at ht
  rw [ht, if_neg (zbv hr)] at h
  exact (someE h).symm
 | ok x =>
  rw [hr] at ht
  rw [ht, if_pos rfl] at h
  obtain ⟨u, h2, h⟩ := bindE h
  have hu := zcM (big50 (zat hr).1) h2
  rw [xq, xq, hu] at h
  simp only
  by_cases he : tx x = dl a
  ·rw [if_pos he] at h ⊢
   exact (someE h).symm
  ·rw [if_neg he] at h ⊢
   exact (someE h).symm
theorem result_f {k : Nat} {s : Bool} {l : List Int} {r : ByteArray × Int} (hl : D l) (h : zL.f k s l = some r) : Ans r (res (s, dv l)) := by
 unfold zL.f at h
 obtain ⟨t, h1, h⟩ := bindE h
 rw [zam hl h1] at h
 generalize dv l = n at h ⊢
 have h50 : n < 10 ^ 50 ↔ (dg n).length ≤ 50 := zaY
 unfold res fit
 by_cases h5 : ((dg n).length : Int) > 50
 ·rw [if_pos h5] at h
  rw [if_pos (show 10 ^ 50 ≤ n by omega), ← someE h]
  exact ⟨rfl, rfl⟩
 ·rw [if_neg h5] at h
  have hn : n < 10 ^ 50 := by omega
  rw [if_neg (show ¬ 10 ^ 50 ≤ n by omega)]
  have hz : decide (((dg n).length : Int) > 0) = (n != 0) := by
   rw [Bool.eq_iff_iff, decide_eq_true_eq, bne_iff_ne]
   constructor
   ·intro h e; subst e; simp [zc3] at h
   ·intro h
    have : (dg n).length ≠ 0 := fun e => h (zc4 (List.length_eq_zero_iff.mp e))
    omega
  cases s with
  | true =>
   rw [if_pos rfl] at h
   obtain ⟨u, h2, h⟩ := bindE h
   rw [hz] at h2
   rw [← someE h]
   exact ⟨zcM (big50 hn) h2, rfl⟩
  | false =>
   rw [if_neg (by decide)] at h
   obtain ⟨u, h2, h⟩ := bindE h
   rw [← someE h]
   exact ⟨zcM (big50 hn) h2, rfl⟩
end Go.Proofs.YtldhiaiaildnlaaGreatDoor.Nm
