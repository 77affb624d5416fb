/- Texts of the claim: Ns. -/
import Derived.Test.YtldhiaiaildnlaaDoorUNr
namespace Go.Proofs.YtldhiaiaildnlaaDoor.Nm
set_option linter.unusedVariables false
open Go Go.RowKit Go.Proofs.YtldhiaiaildnlaaDoor.Q Go.Proofs.YtldhiaiaildnlaaDoorW.PrintWords Go.Proofs.YtldhiaiaildnlaaDoorW.PrintLast Go.Proofs.YtldhiaiaildnlaaDoorW.PrintMore
theorem two_f {k : Nat} {a b : ByteArray} {r : Bool × List Int × Bool × List Int × Bool} (h : zO.f k a b = some r) :
  (r.2.2.2.2 = false ∧ ∀ {α : Type} (z : α) (f : Bool × Nat → Bool × Nat → α), two z f (dl a) (dl b) = z) ∨
  (∃ x y, r = (x.1, dg x.2, y.1, dg y.2, true) ∧ Fine x ∧ Fine y ∧ can (dl a) = some x ∧ can (dl b) = some y ∧ ∀ {α : Type} (z : α) (f : Bool × Nat → Bool × Nat → α), two z f (dl a) (dl b) = f x y) := by
 unfold zO.f at h
 obtain ⟨t, h1, h⟩ := bindE h
 obtain ⟨u, h2, h⟩ := bindE h
 have ht := zbq h1
 have hu := zbq h2
 unfold rcanP at ht hu
 cases hca : can (dl a) with
 | none =>
  rw [hca] at ht
  rw [ht, if_neg (by decide)] at h
  refine .inl ⟨by rw [← someE h], fun z f => zaC z f (.inl hca)⟩
 | some x =>
  rw [hca] at ht
  rw [ht, if_pos rfl] at h
  cases hcb : can (dl b) with
  | none =>
   rw [hcb] at hu
   rw [hu] at h
   refine .inl ⟨by rw [← someE h], fun z f => zaC z f (.inr hcb)⟩
  | some y =>
   rw [hcb] at hu
   rw [hu] at h
   exact .inr ⟨x, y, (someE h).symm, (zaO hca).2, (zaO hcb).2, rfl, rfl, fun z f => zbd z f hca hcb⟩
theorem zep (n : Nat) : (((dg n).length : Int) == 0) = (n == 0) := by
 rw [Bool.eq_iff_iff, beq_iff_eq, beq_iff_eq]
 constructor
 ·intro h; exact zcg (List.length_eq_zero_iff.mp (by omega))
 ·intro h; subst h; rfl
theorem zaH (n : Nat) : ((dg n).length : Int) = 0 ↔ n = 0 := by
 have := zep n
 rw [Bool.eq_iff_iff, beq_iff_eq, beq_iff_eq] at this
 exact this
theorem dlen {n m : Nat} (h : n < 10 ^ m) (hm : m ≤ 250) : (dg n).length ≤ 250 := Nat.le_trans (zac.mp h) hm
theorem rIDiv_f {k : Nat} {a b : ByteArray} {r : ByteArray × Int} (h : z1.f k a b = some r) : Ans r (idivS (dl a) (dl b)) := by
 unfold z1.f at h
 obtain ⟨t, h1, h⟩ := bindE h
 unfold idivS
 rcases two_f h1 with ⟨h2, h3⟩ | ⟨x, y, h2, hx, hy, ca, cb, h3⟩
 ·rw [h2, if_neg (by decide)] at h
  rw [h3, ← someE h]; exact ⟨rfl, rfl⟩
 ·rw [h2, if_pos rfl] at h
  rw [h3]
  unfold nod
  simp only at h
  by_cases h0 : y.2 = 0
  ·rw [if_pos ((zaH _).mpr h0)] at h
   rw [if_pos h0, ← someE h]; exact ⟨rfl, rfl⟩
  ·rw [if_neg (fun e => h0 ((zaH _).mp e))] at h
   rw [if_neg h0]
   obtain ⟨q, h4, h⟩ := bindE h
   obtain ⟨z, h5, h⟩ := bindE h
   obtain ⟨w, h6, h⟩ := bindE h
   obtain ⟨v, h7, h⟩ := bindE h
   have lx := dlen hx.1 (by decide)
   have ly := dlen hy.1 (by decide)
   rw [zcJ (dg_D _) (by omega) (by omega) (by omega) h4, xy] at h5
   have hz := zb4 (n := 20) h5
   rw [hz] at h6
   have hw := xR ((dg_D _).append (D.zeros _)) h6
   rw [xC, zak, List.length_replicate, xy, Nat.add_zero] at hw
   rw [hw] at h7
   have := zbm (dg_D _) h7
   rw [xy] at this
   rw [← pairE h]; exact this
theorem rMod_f {k : Nat} {a b : ByteArray} {r : ByteArray × Int} (h : yo.f k a b = some r) : Ans r (modS (dl a) (dl b)) := by
 unfold yo.f at h
 obtain ⟨t, h1, h⟩ := bindE h
 unfold modS
 rcases two_f h1 with ⟨h2, h3⟩ | ⟨x, y, h2, hx, hy, ca, cb, h3⟩
 ·rw [h2, if_neg (by decide)] at h
  rw [h3, ← someE h]; exact ⟨rfl, rfl⟩
 ·rw [h2, if_pos rfl] at h
  rw [h3]
  unfold nod
  simp only at h
  by_cases h0 : y.2 = 0
  ·rw [if_pos ((zaH _).mpr h0)] at h
   rw [if_pos h0, ← someE h]; exact ⟨rfl, rfl⟩
  ·rw [if_neg (fun e => h0 ((zaH _).mp e))] at h
   rw [if_neg h0]
   obtain ⟨q, h4, h⟩ := bindE h
   obtain ⟨v, h7, h⟩ := bindE h
   have lx := dlen hx.1 (by decide)
   have ly := dlen hy.1 (by decide)
   rw [zcJ (dg_D _) (by omega) (by omega) (by omega) h4, xy] at h7
   have := zbm (dg_D _) h7
   rw [xy] at this
   rw [← pairE h]; exact this
theorem rdiv_end {k : Nat} {n : Nat} {x y : Bool × Nat} {r : ByteArray × Int} (hm : n < 10 ^ 70) (hy : Fine y) (h0 : y.2 ≠ 0)
  (h : (if ((dg (n / y.2)).length : Int) > 0 then (if 0 ≤ (wrap64 (((dg (n / y.2)).length : Int) - 1)) then (if (wrap64 (((dg (n / y.2)).length : Int) - 1)) < ((dg (n / y.2)).length : Int) then (zz.j0 k (dg (n / y.2)) (dg (n % y.2)) (rd (dg (n / y.2)) (wrap64 (((dg (n / y.2)).length : Int) - 1))) x.1 (dg x.2) y.1 (dg y.2)) else (none)) else (none)) else (zz.j0 k (dg (n / y.2)) (dg (n % y.2)) 0 x.1 (dg x.2) y.1 (dg y.2))) = some r) :
  Ans r (res (x.1 != y.1, rnd 1 (x.1 != y.1) n y.2)) := by
 have ly := dlen hy.1 (by decide)
 have hpos : 0 < y.2 := by omega
 have hn1 := Nat.div_le_self n y.2
 have hn2 : n % y.2 < y.2 := Nat.mod_lt _ hpos
 have l1 := dlen (Nat.lt_of_le_of_lt hn1 hm) (by decide)
 have l2 := dlen (Nat.lt_trans hn2 hy.1) (by decide)
 have J : ∀ (k : Nat) (e : Int), (Int.tmod e 2 == 1) = (n / y.2 % 2 == 1) → zz.j0 k (dg (n / y.2)) (dg (n % y.2)) e x.1 (dg x.2) y.1 (dg y.2) = some r → Ans r (res (x.1 != y.1, rnd 1 (x.1 != y.1) n y.2)) := by
  intro k e he h
  cases k with
  | zero => cases h
  | succ k =>
   rw [zz.j0] at h
   obtain ⟨c, h6, h⟩ := bindE h
   obtain ⟨d, h7, h⟩ := bindE h
   obtain ⟨o, h8, h⟩ := bindE h
   have hc := zcL (dg_D _) (dg_D _) (by omega) (by omega) h6
   rw [xy, ← Nat.two_mul] at hc
   rw [hc] at h7
   have hlc : (dg (2 * (n % y.2))).length ≤ 250 := dlen (m := 51) (by have := hy.1; omega) (by decide)
   have hd := zcK (dg_D _) (dg_D _) (by omega) (by omega) h7
   rw [xy, xy] at hd
   rw [Up_f (how := 1) rfl, zep, he, hd] at h8
   have ho : o = up 1 (x.1 != y.1) (n / y.2 % 2 == 1) (sg (2 * (n % y.2)) y.2) (n % y.2 == 0) := (someE h8).symm
   unfold rnd
   rw [← ho]
   by_cases hx1 : o = true
   ·rw [if_pos hx1] at h ⊢
    obtain ⟨c, h9, h⟩ := bindE h
    obtain ⟨v, h10, h⟩ := bindE h
    have hc := zcL (dg_D _) (D.cons (by omega) (by omega) D.nil) (by omega) (by simp) h9
    rw [hc] at h10
    have := zbm (dg_D _) h10
    rw [xy, xy] at this
    rw [← pairE h]; exact this
   ·rw [if_neg hx1] at h ⊢
    obtain ⟨v, h10, h⟩ := bindE h
    have := zbm (dg_D _) h10
    rw [xy] at this
    rw [← pairE h]; exact this
 rcases Nat.eq_zero_or_pos (n / y.2) with hz0 | hz0
 ·rw [hz0, zbw, if_neg (by decide)] at h
  refine J _ 0 (by rw [hz0]; rfl) (by rw [hz0, zbw]; exact h)
 ·have e := zbE hz0
  rw [if_pos (by rw [e]; simp), w64 (by omega) (by omega)] at h
  obtain ⟨_, h⟩ := ifE h
  obtain ⟨_, h⟩ := ifE h
  refine J _ _ ?_ h
  have e2 : rd (dg (n / y.2)) (((dg (n / y.2)).length : Int) - 1) = ((n / y.2 % 10 : Nat) : Int) := by
   rw [e]
   have : ((dg (n / y.2 / 10) ++ [((n / y.2 % 10 : Nat) : Int)]).length : Int) - 1 = ((dg (n / y.2 / 10)).length : Nat) := by simp
   rw [this, xA, List.getD_eq_getElem?_getD, List.getElem?_append_right (Nat.le_refl _), Nat.sub_self]; rfl
  rw [e2, show Int.tmod ((n / y.2 % 10 : Nat) : Int) 2 = ((n / y.2 % 10 % 2 : Nat) : Int) from rfl, Bool.eq_iff_iff, beq_iff_eq, beq_iff_eq]
  omega
theorem rDiv_f {k : Nat} {a b : ByteArray} {r : ByteArray × Int} (h : zz.f k a b = some r) : Ans r (divS (dl a) (dl b)) := by
 unfold zz.f at h
 obtain ⟨t, h1, h⟩ := bindE h
 unfold divS
 rcases two_f h1 with ⟨h2, h3⟩ | ⟨x, y, h2, hx, hy, ca, cb, h3⟩
 ·rw [h2, if_neg (by decide)] at h
  rw [h3, ← someE h]; exact ⟨rfl, rfl⟩
 ·rw [h2, if_pos rfl] at h
  rw [h3]
  unfold nod
  simp only at h
  by_cases h0 : y.2 = 0
  ·rw [if_pos ((zaH _).mpr h0)] at h
   rw [if_pos h0, ← someE h]; exact ⟨rfl, rfl⟩
  ·rw [if_neg (fun e => h0 ((zaH _).mp e))] at h
   rw [if_neg h0]
   obtain ⟨z, h5, h⟩ := bindE h
   obtain ⟨q, h4, h⟩ := bindE h
   have lx := dlen hx.1 (by decide)
   have ly := dlen hy.1 (by decide)
   have hz := zb4 (n := 20) h5
   rw [hz] at h4
   have hq := zcJ ((dg_D _).append (D.zeros _)) (by rw [List.length_append, List.length_replicate]; omega) (by omega) (by omega) h4
   rw [xC, zak, List.length_replicate, xy, Nat.add_zero] at hq
   have hm : x.2 * 10 ^ 20 < 10 ^ 70 := by
    have := hx.1
    omega
   rw [hq] at h
   exact rdiv_end hm hy h0 h
end Go.Proofs.YtldhiaiaildnlaaDoor.Nm
