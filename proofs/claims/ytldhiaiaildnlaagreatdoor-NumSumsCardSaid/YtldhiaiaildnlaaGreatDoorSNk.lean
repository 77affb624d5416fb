/- Texts of the claim: Nk. -/
import Derived.Test.YtldhiaiaildnlaaGreatDoorSNj
import Derived.Test.YtldhiaiaildnlaaGreatDoorSQx37
namespace Go.Proofs.YtldhiaiaildnlaaGreatDoor.Nm
set_option linter.unusedVariables false
open Go Go.RowKit Go.Proofs.YtldhiaiaildnlaaGreatDoor.Q Go.Proofs.YtldhiaiaildnlaaGreatDoorW.PrintWords Go.Proofs.YtldhiaiaildnlaaGreatDoorW.PrintLast Go.Proofs.YtldhiaiaildnlaaGreatDoorW.PrintMore
theorem zcm {F : Bool → List Int → Bool → List Int → Option (ByteArray × Int)} {f : Bool × Nat → Bool × Nat → List UInt8 × Int} {k : Nat} {a b : ByteArray} {r : ByteArray × Int} (ha : a.size ≤ 1000000000) (hb : b.size ≤ 1000000000)
  (hF : ∀ x y r, Fine x → Fine y → F x.1 (bg x.2) y.1 (bg y.2) = some r → Ans r (f x y))
  (h : ((zt.f k a).bind fun t => (zt.f k b).bind fun u => if t.2.2 = 0 then (if u.2.2 = 0 then (F t.1 t.2.1 u.1 u.2.1).bind fun q => some (q.1, q.2) else some ((⟨#[]⟩ : ByteArray), 1)) else some ((⟨#[]⟩ : ByteArray), 1)) = some r) :
  Ans r (two ([], 1) f (dl a) (dl b)) := by
 obtain ⟨t, h1, h⟩ := bindE h
 obtain ⟨u, h2, h⟩ := bindE h
 have ht := zaE ha h1
 have hu := zaE hb h2
 unfold canP at ht hu
 unfold two
 cases hca : can (dl a) with
 | none =>
  rw [hca] at ht
  rw [ht, if_neg (by decide)] at h
  rw [← someE h]; exact ⟨rfl, rfl⟩
 | some x =>
  rw [hca] at ht
  rw [ht, if_pos rfl] at h
  cases hcb : can (dl b) with
  | none =>
   rw [hcb] at hu
   rw [hu, if_neg (by decide)] at h
   rw [← someE h]; exact ⟨rfl, rfl⟩
  | some y =>
   rw [hcb] at hu
   rw [hu, if_pos rfl] at h
   obtain ⟨q, h3, h⟩ := bindE h
   have := hF x y q (zaP hca).2 (zaP hcb).2 h3
   rw [← someE h]; exact this
theorem pairE {r q : ByteArray × Int} (h : some (q.1, q.2) = some r) : q = r := by rw [← someE h]
theorem sum_f {k : Nat} {x y : Bool × Nat} {r : ByteArray × Int} (hx : x.2 < 10 ^ 50) (hy : y.2 < 10 ^ 50) (h : yt.f k x.1 (bg x.2) y.1 (bg y.2) = some r) : Ans r (res (smv x y)) := by
 have lx := len10 hx (by decide)
 have ly := len10 hy (by decide)
 unfold yt.f at h
 unfold smv
 by_cases hs : x.1 = y.1
 ·rw [if_pos (by rw [hs]; exact beq_self_eq_true _)] at h
  rw [if_pos hs]
  obtain ⟨t, h1, h⟩ := bindE h
  obtain ⟨u, h2, h⟩ := bindE h
  have ht := zcR (bg_W _) (bg_W _) (by omega) (by omega) h1
  rw [y9, y9] at ht
  rw [ht] at h2
  rw [← pairE h]
  exact zbh (by have := len10 (n := x.2 + y.2) (m := 51) (by omega) (by decide); omega) h2
 ·rw [if_neg (by simpa using hs)] at h
  rw [if_neg hs]
  obtain ⟨c, h1, h⟩ := bindE h
  have hc := zcH (by omega) (by omega) h1
  unfold Sgn at hc
  by_cases hle : y.2 ≤ x.2
  ·rw [if_pos (by omega)] at h
   rw [if_pos hle]
   obtain ⟨t, h1, h⟩ := bindE h
   obtain ⟨u, h2, h⟩ := bindE h
   have ht := zbA (bg_W _) (bg_W _) (by omega) (by omega) (by rw [y9, y9]; exact hle) h1
   rw [y9, y9] at ht
   rw [ht] at h2
   rw [← pairE h]
   exact zbh (by have := len10 (n := x.2 - y.2) (m := 51) (by omega) (by decide); omega) h2
  ·rw [if_neg (by omega)] at h
   rw [if_neg hle]
   obtain ⟨t, h1, h⟩ := bindE h
   obtain ⟨u, h2, h⟩ := bindE h
   have ht := zbA (bg_W _) (bg_W _) (by omega) (by omega) (by rw [y9, y9]; omega) h1
   rw [y9, y9] at ht
   rw [ht] at h2
   rw [← pairE h]
   exact zbh (by have := len10 (n := y.2 - x.2) (m := 51) (by omega) (by decide); omega) h2
theorem Add_f {k : Nat} {a b : ByteArray} {r : ByteArray × Int} (ha : a.size ≤ 1000000000) (hb : b.size ≤ 1000000000) (h : zad.f k a b = some r) : Ans r (addS (dl a) (dl b)) := by
 unfold zad.f xu.f at h
 rw [if_pos rfl] at h
 obtain ⟨q, h, h1⟩ := bindE h
 rw [← pairE h1]
 exact zcm (F := yt.f k) ha hb (fun x y r hx hy h => sum_f hx.1 hy.1 h) h
theorem Sub_f {k : Nat} {a b : ByteArray} {r : ByteArray × Int} (ha : a.size ≤ 1000000000) (hb : b.size ≤ 1000000000) (h : xI.f k a b = some r) : Ans r (subS (dl a) (dl b)) := by
 unfold xI.f xu.f at h
 rw [if_neg (by decide), if_pos rfl] at h
 obtain ⟨q, h, h1⟩ := bindE h
 rw [← pairE h1]
 refine zcm (F := xN.f k) ha hb (fun x y r hx hy h => ?_) h
 unfold xN.f at h
 obtain ⟨q, h, h1⟩ := bindE h
 rw [← pairE h1]
 exact sum_f (y := (!y.1, y.2)) hx.1 hy.1 h
theorem len20 : (bg (10 ^ 20)).length ≤ 28 := len10 (m := 21) (by decide) (by decide)
theorem Mul_f {k : Nat} {a b : ByteArray} {r : ByteArray × Int} (ha : a.size ≤ 1000000000) (hb : b.size ≤ 1000000000) (h : xM.f k a b = some r) : Ans r (mulS (dl a) (dl b)) := by
 unfold xM.f xu.f at h
 rw [if_neg (by decide), if_neg (by decide), if_pos rfl] at h
 obtain ⟨q, h, h1⟩ := bindE h
 rw [← pairE h1]
 refine zcm (F := xH.f k) ha hb (fun x y r hx hy h => ?_) h
 have lx := xJ hx
 have ly := xJ hy
 unfold xH.f at h
 obtain ⟨t, h1, h⟩ := bindE h
 obtain ⟨p, h2, h⟩ := bindE h
 obtain ⟨w, h3, h⟩ := bindE h
 obtain ⟨c, h4, h⟩ := bindE h
 obtain ⟨d, h5, h⟩ := bindE h
 have ht := zas (bg_W _) (bg_W _) (by omega) (by omega) h1
 rw [y9, y9] at ht
 have hm : x.2 * y.2 < 10 ^ 100 := by
  have h6 : (10 : Nat) ^ 100 = 10 ^ 50 * 10 ^ 50 := by decide
  rw [h6]
  exact Nat.mul_lt_mul'' hx.1 hy.1
 have lm := len10 hm (by decide)
 have l2 := len20
 rw [ht, zaL (n := 20) (by decide) h2, zdN (r := none) h3] at h4
 rw [zcG (by decide) (by decide) (by omega) (by omega) h4] at h5
 rw [← pairE h]
 refine zbh ?_ h5
 have h7 := zaH 1 (x.1 != y.1) (x.2 * y.2) (10 ^ 20) (by decide)
 have h8 := Nat.div_le_self (x.2 * y.2) (10 ^ 20)
 have := len10 (n := rnd 1 (x.1 != y.1) (x.2 * y.2) (10 ^ 20)) (m := 101) (by omega) (by decide)
 omega
theorem Neg_f {k : Nat} {a : ByteArray} {r : ByteArray × Int} (ha : a.size ≤ 1000000000) (h : xE.f k a = some r) : Ans r (negS (dl a)) := by
 unfold xE.f at h
 obtain ⟨q, h, h1⟩ := bindE h
 rw [← pairE h1]
 exact Sub_f (a := ⟨#[48]⟩) (by decide) ha h
theorem nod_g {f : Bool × Nat → Bool × Nat → List UInt8 × Int} {x y : Bool × Nat} {O : Option (ByteArray × Int)} {r : ByteArray × Int} (hF : ∀ r, y.2 ≠ 0 → O = some r → Ans r (f x y))
  (h : (if ((bg y.2).length : Int) = 0 then some ((⟨#[]⟩ : ByteArray), 41) else O.bind fun q => some (q.1, q.2)) = some r) : Ans r (nod f x y) := by
 unfold nod
 by_cases h0 : y.2 = 0
 ·rw [if_pos (by rw [h0]; rfl)] at h
  rw [if_pos h0, ← someE h]
  exact ⟨rfl, rfl⟩
 ·rw [if_neg (by intro e; exact h0 (zd0 (List.length_eq_zero_iff.mp (by omega))))] at h
  rw [if_neg h0]
  obtain ⟨q, h, h1⟩ := bindE h
  rw [← pairE h1]
  exact hF q h0 h
theorem Div_f {k : Nat} {a b : ByteArray} {r : ByteArray × Int} (ha : a.size ≤ 1000000000) (hb : b.size ≤ 1000000000) (h : xF.f k a b = some r) : Ans r (divS (dl a) (dl b)) := by
 unfold xF.f yZ.f at h
 rw [if_pos rfl] at h
 obtain ⟨q, h, h1⟩ := bindE h
 rw [← pairE h1]
 refine zcm (F := yW.f k) ha hb (fun x y r hx hy h => ?_) h
 refine nod_g (O := xm.f k x.1 (bg x.2) y.1 (bg y.2)) (fun r h0 h => ?_) h
 have lx := xJ hx
 have ly := xJ hy
 have l2 := len20
 unfold xm.f at h
 obtain ⟨p, h2, h⟩ := bindE h
 obtain ⟨t, h1, h⟩ := bindE h
 obtain ⟨w, h3, h⟩ := bindE h
 obtain ⟨c, h4, h⟩ := bindE h
 obtain ⟨d, h5, h⟩ := bindE h
 rw [zaL (n := 20) (by decide) h2] at h1
 have ht := zas (bg_W _) (bg_W _) (by omega) (by omega) h1
 rw [y9, y9] at ht
 have hm : x.2 * 10 ^ 20 < 10 ^ 70 := by
  have := hx.1
  omega
 have lm := len10 hm (by decide)
 rw [ht, zdN (r := none) h3] at h4
 rw [zcG (by decide) (by omega) (by omega) (by omega) h4] at h5
 rw [← pairE h]
 refine zbh ?_ h5
 have h7 := zaH 1 (x.1 != y.1) (x.2 * 10 ^ 20) y.2 (by omega)
 have h8 := Nat.div_le_self (x.2 * 10 ^ 20) y.2
 have := len10 (n := rnd 1 (x.1 != y.1) (x.2 * 10 ^ 20) y.2) (m := 71) (by omega) (by decide)
 omega
theorem Mod_f {k : Nat} {a b : ByteArray} {r : ByteArray × Int} (ha : a.size ≤ 1000000000) (hb : b.size ≤ 1000000000) (h : xB.f k a b = some r) : Ans r (modS (dl a) (dl b)) := by
 unfold xB.f yZ.f at h
 first | rw [if_neg (by decide), if_neg (by decide), if_pos rfl] at h | rw [if_neg (by decide), if_pos rfl] at h
 obtain ⟨q, h, h1⟩ := bindE h
 rw [← pairE h1]
 refine zcm (F := yV.f k) ha hb (fun x y r hx hy h => ?_) h
 refine nod_g (O := xY.f k x.1 (bg x.2) y.1 (bg y.2)) (fun r h0 h => ?_) h
 have lx := xJ hx
 have ly := xJ hy
 unfold xY.f at h
 obtain ⟨q, h1, h⟩ := bindE h
 obtain ⟨d, h4, h⟩ := bindE h
 rw [zcU (by omega) (by omega) (by omega) h1] at h4
 rw [← pairE h]
 exact zbh (by have := zav (Nat.mod_le x.2 y.2); omega) h4
theorem round_g (how : Nat) (hh : how ≤ 4) {k : Nat} {s : ByteArray} {d : Int} {r : ByteArray × Int} {J : Int → Bool → Bool → List Int → Option (ByteArray × Int)} (hs : s.size ≤ 1000000000)
  (hJt : ∀ s l r, J d true s l = some r → r = ((⟨#[]⟩ : ByteArray), 6))
  (hJf : ∀ s l r, J d false s l = some r → ∃ k, ((yq.f k (wrap64 (20 - d))).bind fun t => (yX.f k s l t (wayN how)).bind fun u => (zN.f k u t).bind fun v => (yh.f k s v).bind fun q => some (q.1, q.2)) = some r)
  (h : ((zt.f k s).bind fun t => if t.2.2 = 0 then (if d < (-30) then J d true t.1 t.2.1 else J d (decide (d > 20)) t.1 t.2.1) else some ((⟨#[]⟩ : ByteArray), t.2.2)) = some r) :
  Ans r (roundS (dl s) d (some how)) := by
 obtain ⟨t, h1, h⟩ := bindE h
 have ht := zaE hs h1
 unfold canP at ht
 unfold roundS
 cases hc : can (dl s) with
 | none =>
  rw [hc] at ht
  rw [ht, if_neg (by decide)] at h
  rw [← someE h]; exact ⟨rfl, rfl⟩
 | some x =>
  rw [hc] at ht
  rw [ht, if_pos rfl] at h
  simp only at h ⊢
  have hx := (zaP hc).2
  have lx := xJ hx
  by_cases h0 : d < -30
  ·rw [if_pos h0] at h
   rw [if_pos (.inl h0), hJt _ _ _ h]; exact ⟨rfl, rfl⟩
  ·rw [if_neg h0] at h
   by_cases h2 : d > 20
   ·rw [decide_eq_true h2] at h
    rw [if_pos (.inr h2), hJt _ _ _ h]; exact ⟨rfl, rfl⟩
   ·rw [decide_eq_false h2] at h
    rw [if_neg (by omega)]
    obtain ⟨k, h⟩ := hJf _ _ _ h
    rw [w64 (by omega) (by omega), show (20 : Int) - d = ((20 - d).toNat : Nat) from by omega] at h
    obtain ⟨e, he⟩ : ∃ e, (20 - d).toNat = e := ⟨_, rfl⟩
    have he2 : e ≤ 50 := by omega
    rw [he] at h ⊢
    obtain ⟨p, h3, h⟩ := bindE h
    obtain ⟨c, h4, h⟩ := bindE h
    obtain ⟨v, h5, h⟩ := bindE h
    obtain ⟨q, h6, h⟩ := bindE h
    have lp := len10 (n := 10 ^ e) (m := 51) (Nat.pow_lt_pow_right (by decide) (by omega)) (by decide)
    have hp := zaL (by omega) h3
    rw [hp] at h4 h5
    have hu : 0 < 10 ^ e := Nat.pow_pos (by decide)
    have hr := zcG hh hu (by omega) (by omega) h4
    have h7 := zaH how x.1 x.2 (10 ^ e) hu
    have h8 := Nat.div_le_self x.2 (10 ^ e)
    have h9 := hx.1
    have hm : rnd how x.1 x.2 (10 ^ e) < 10 ^ 51 := by omega
    have lm := len10 hm (by decide)
    rw [hr] at h5
    have hv := zas (bg_W _) (bg_W _) (by omega) (by omega) h5
    rw [y9, y9] at hv
    rw [hv] at h6
    rw [← pairE h]
    refine zbh ?_ h6
    have hpe : 10 ^ e ≤ 10 ^ 50 := Nat.pow_le_pow_right (by decide) he2
    have hmul : rnd how x.1 x.2 (10 ^ e) * 10 ^ e < 10 ^ 102 := by
     have h10 : (10 : Nat) ^ 102 = 10 ^ 51 * 10 ^ 51 := by decide
     rw [h10]
     exact Nat.mul_lt_mul'' hm (by omega)
    have := len10 hmul (by decide)
    omega
theorem zcO {k : Nat} {s p : ByteArray} {d : Int} {r : ByteArray × Int} (hs : s.size ≤ 1000000000) (h : zW.f k s d p = some r) : Ans r (roundS (dl s) d (some 0)) := by
 unfold zW.f at h
 refine round_g 0 (by decide) (J := zW.j0 k) hs ?_ ?_ h
 ·intro s l r h
  cases k with
  | zero => cases h
  | succ k => exact (someE h).symm
 ·intro s l r h
  cases k with
  | zero => cases h
  | succ k => exact ⟨k, h⟩
def wayS (l : List UInt8) : Option Nat :=
 if l = [104, 97, 108, 102] then some 0 else if l = [101, 118, 101, 110] then some 1 else if l = [102, 108, 111, 111, 114] then some 2 else if l = [99, 101, 105, 108, 105, 110, 103] then some 3 else if l = [99, 117, 116] then some 4 else none
theorem Parse_f {k : Nat} {s : ByteArray} {r : ByteArray × Int} (hs : s.size ≤ 1000000000) (h : xp.f k s = some r) : Ans r (parseS (dl s)) := by
 unfold xp.f at h
 obtain ⟨t, h1, h⟩ := bindE h
 have ht := zcS hs h1
 unfold rdnP at ht
 unfold parseS
 cases hr : rdn (dl s) with
 | error e =>
  rw [hr] at ht
  rw [ht, if_neg (zbv hr)] at h
  rw [← someE h]; exact ⟨rfl, rfl⟩
 | ok x =>
  rw [hr] at ht
  rw [ht, if_pos rfl] at h
  obtain ⟨u, h2, h⟩ := bindE h
  have hu := zdy (x := x) (by have := xJ (zat hr); omega) h2
  rw [← someE h]; exact ⟨hu, rfl⟩
end Go.Proofs.YtldhiaiaildnlaaGreatDoor.Nm
