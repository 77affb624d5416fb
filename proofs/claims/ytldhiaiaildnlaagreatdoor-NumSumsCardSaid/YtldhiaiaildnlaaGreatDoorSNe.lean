/- Texts of the claim: Ne. -/
import Derived.Test.YtldhiaiaildnlaaGreatDoorSNd
import Derived.Test.YtldhiaiaildnlaaGreatDoorSQx4
namespace Go.Proofs.YtldhiaiaildnlaaGreatDoor.Nm
set_option linter.unusedVariables false
open Go Go.RowKit Go.Proofs.YtldhiaiaildnlaaGreatDoor.Q Go.Proofs.YtldhiaiaildnlaaGreatDoorW.PrintWords Go.Proofs.YtldhiaiaildnlaaGreatDoorW.PrintLast Go.Proofs.YtldhiaiaildnlaaGreatDoorW.PrintMore
theorem bindE {α β : Type} {x : Option α} {f : α → Option β} {r : β} (h : x.bind f = some r) : ∃ t, x = some t ∧ f t = some r := Option.bind_eq_some_iff.mp h
theorem ifE {α : Type} {c : Prop} [Decidable c] {a : Option α} {r : α} (h : (if c then a else none) = some r) : c ∧ a = some r := by
 by_cases hc : c
 ·rw [if_pos hc] at h; exact ⟨hc, h⟩
 ·rw [if_neg hc] at h; cases h
theorem someE {α : Type} {x r : α} (h : some x = some r) : x = r := Option.some.inj h
theorem w64 {x : Int} (h : 0 ≤ x + 9223372036854775808) (h2 : x < 9223372036854775808) : wrap64 x = x := by unfold wrap64; omega
theorem u64 {x : Int} (h : 0 ≤ x) (h2 : x < 18446744073709551616) : IntKind.u64.wrap x = x := by rw [IntKind.wrap_u64]; omega
theorem xG (l : List Int) (i : Nat) : rd l (i : Int) = l.getD i 0 := by unfold rd; rw [Int.toNat_natCast]
theorem zaq {l : List Int} (h : W l) (i : Nat) : 0 ≤ l.getD i 0 ∧ l.getD i 0 < 1000000000 := by
 rw [bv_at l i h]; omega
theorem W.set {l : List Int} (h : W l) (i : Nat) {x : Int} (h0 : 0 ≤ x) (h1 : x < 1000000000) : W (l.set i x) := by
 intro y hy
 rcases List.mem_or_eq_of_mem_set hy with hy | rfl
 ·exact h y hy
 ·exact ⟨h0, h1⟩
theorem W.drop {l : List Int} (h : W l) (i : Nat) : W (l.drop i) := fun x hx => h x (List.mem_of_mem_drop hx)
theorem W.take {l : List Int} (h : W l) (i : Nat) : W (l.take i) := fun x hx => h x (List.mem_of_mem_take hx)
theorem zaQ (l : List Int) (i : Nat) (h : i < l.length) : bv (l.drop i) = (l.getD i 0).toNat + 1000000000 * bv (l.drop (i + 1)) := by
 rw [List.drop_eq_getElem_cons h, bv, List.getD_eq_getElem?_getD, List.getElem?_eq_getElem h]; rfl
theorem xR (l : List Int) (i : Nat) (h : l.length ≤ i) : bv (l.drop i) = 0 := by rw [List.drop_eq_nil_of_le h]; rfl
theorem zdX : ∀ (l : List Int) (i : Nat) (x : Int), i < l.length → bv (l.set i x) + 1000000000 ^ i * (l.getD i 0).toNat = bv l + 1000000000 ^ i * x.toNat := by
 intro l
 induction l with
 | nil => intro i x h; simp at h
 | cons y l ih =>
  intro i x h
  cases i with
  | zero => simp only [List.set_cons_zero, bv, List.getD_cons_zero, Nat.pow_zero]; omega
  | succ i =>
   have := ih i x (by simpa using h)
   have e : ∀ z : Nat, 1000000000 ^ (i + 1) * z = 1000000000 * (1000000000 ^ i * z) := by intro z; rw [Nat.pow_succ, Nat.mul_comm (1000000000 ^ i), Nat.mul_assoc]
   simp only [List.set_cons_succ, bv, List.getD_cons_succ]
   rw [e, e]; omega
theorem zaw (l : List Int) (i j : Nat) (x : Int) (h : i ≠ j) : (l.set i x).getD j 0 = l.getD j 0 := by
 rw [List.getD_eq_getElem?_getD, List.getElem?_set_ne h, List.getD_eq_getElem?_getD]
theorem zbn (l : List Int) (h : l ≠ []) : ∃ a x, l = a ++ [x] := ⟨l.dropLast, l.getLast h, (List.dropLast_concat_getLast h).symm⟩
theorem norm_l0 : ∀ (k : Nat) (l r : List Int), W l → l.length ≤ 1000000 → zT.l0 k l = some r → r = bg (bv l) := by
 intro k
 induction k with
 | zero => intro l r _ _ h; cases h
 | succ k ih =>
  intro l r hW hl h
  rw [zT.l0] at h
  by_cases hp : (l.length : Int) > 0
  ·rw [if_pos hp] at h
   obtain ⟨a, x, rfl⟩ := zbn l (by intro e; rw [e] at hp; simp at hp)
   have hlen : (a ++ [x]).length = a.length + 1 := by simp
   rw [hlen] at h hl
   rw [show wrap64 (((a.length + 1 : Nat) : Int) - 1) = (a.length : Nat) from by rw [w64 (by omega) (by omega)]; omega] at h
   obtain ⟨_, h⟩ := ifE h
   obtain ⟨_, h⟩ := ifE h
   rw [xG, show (a ++ [x]).getD a.length 0 = x from by simp [List.getD_eq_getElem?_getD]] at h
   by_cases hx : x = 0
   ·rw [if_pos hx] at h
    obtain ⟨_, h⟩ := ifE h
    rw [Int.toNat_natCast, List.take_left' rfl] at h
    rw [ih a r hW.left (by omega) h, zaJ, hx]
    simp [bv]
   ·rw [if_neg hx] at h
    rw [← someE h, bg_bv a x hW hx]
  ·rw [if_neg hp] at h
   obtain rfl : l = [] := List.length_eq_zero_iff.mp (by omega)
   exact (someE h).symm
theorem zaM {k : Nat} {l r : List Int} (hW : W l) (hl : l.length ≤ 1000000) (h : zT.f k l = some r) : r = bg (bv l) := norm_l0 k l r hW hl h
theorem zeo {a b r : List Int} {x y : Int} (ha : W a) (hb : W b) (hab : a.length = b.length) (hx : 0 ≤ x) (hxy : x < y) : bv (a ++ x :: r) < bv (b ++ y :: r) := by
 rw [zaJ, zaJ, bv, bv, hab]
 have h1 := bv_lt ha
 rw [hab] at h1
 have h2 : 1000000000 ^ b.length * (x.toNat + 1 + 1000000000 * bv r) ≤ 1000000000 ^ b.length * (y.toNat + 1000000000 * bv r) := Nat.mul_le_mul_left _ (by omega)
 have h3 : 1000000000 ^ b.length * (x.toNat + 1 + 1000000000 * bv r) = 1000000000 ^ b.length * (x.toNat + 1000000000 * bv r) + 1000000000 ^ b.length := by
  rw [← Nat.mul_succ]; congr 1; omega
 omega
theorem zaU (l : List Int) (i : Nat) (h : i < l.length) : l = l.take i ++ l.getD i 0 :: l.drop (i + 1) := by
 conv => lhs; rw [← List.take_append_drop i l, List.drop_eq_getElem_cons h]
 rw [List.getD_eq_getElem?_getD, List.getElem?_eq_getElem h]; rfl
def Sgn (t : Int) (a b : Nat) : Prop := (0 < t ↔ b < a) ∧ (t = 0 ↔ a = b)
theorem cmp_l0 : ∀ (k : Nat) (a b : List Int) (i : Int) (t : Int), W a → W b → a.length = b.length → a.length ≤ 1000000 → -1 ≤ i → i < a.length → a.drop (i + 1).toNat = b.drop (i + 1).toNat →
  yu.l0 k a b i = some t → Sgn t (bv a) (bv b) := by
 intro k
 induction k with
 | zero => intro a b i t _ _ _ _ _ _ _ h; cases h
 | succ k ih =>
  intro a b i t ha hb hab hl h0 h1 hd h
  rw [yu.l0] at h
  by_cases hi : i ≥ 0
  ·rw [if_pos hi] at h
   obtain ⟨j, rfl⟩ : ∃ j : Nat, i = j := ⟨i.toNat, by omega⟩
   obtain ⟨_, h⟩ := ifE h
   obtain ⟨_, h⟩ := ifE h
   obtain ⟨_, h⟩ := ifE h
   rw [xG, xG] at h
   have hj : ((j : Int) + 1).toNat = j + 1 := by omega
   rw [hj] at hd
   have ea := zaU a j (by omega)
   have eb := zaU b j (by omega)
   by_cases he : a.getD j 0 = b.getD j 0
   ·rw [if_pos he, w64 (by omega) (by omega)] at h
    refine ih a b _ t ha hb hab hl (by omega) (by omega) ?_ h
    rw [show ((j : Int) - 1 + 1).toNat = j from by omega, List.drop_eq_getElem_cons (show j < a.length by omega), List.drop_eq_getElem_cons (show j < b.length by omega), hd]
    congr 1
    rw [List.getD_eq_getElem?_getD, List.getD_eq_getElem?_getD, List.getElem?_eq_getElem (show j < a.length by omega), List.getElem?_eq_getElem (show j < b.length by omega)] at he
    exact he
   ·rw [if_neg he] at h
    have g1 := zaq ha j
    have g2 := zaq hb j
    rw [w64 (x := a.getD j 0) (by omega) (by omega), w64 (x := b.getD j 0) (by omega) (by omega), w64 (by omega) (by omega)] at h
    obtain rfl := someE h
    rw [hd] at ea
    have hlen : (a.take j).length = (b.take j).length := by rw [List.length_take, List.length_take, hab]
    rcases Int.lt_trichotomy (a.getD j 0) (b.getD j 0) with hlt | heq | hgt
    ·have := zeo (r := b.drop (j + 1)) (ha.take j) (hb.take j) hlen g1.1 hlt
     rw [← ea, ← eb] at this
     exact ⟨by omega, by omega⟩
    ·exact absurd heq he
    ·have := zeo (r := b.drop (j + 1)) (hb.take j) (ha.take j) hlen.symm g2.1 hgt
     rw [← ea, ← eb] at this
     exact ⟨by omega, by omega⟩
  ·rw [if_neg hi] at h
   obtain rfl : i = -1 := by omega
   obtain rfl := someE h
   have e : a = b := by simpa using hd
   subst e
   exact ⟨by omega, by omega⟩
theorem zdq {a b : Nat} (h : (bg a).length < (bg b).length) : a < b := by
 have h1 : a < 1000000000 ^ ((bg b).length - 1) := zaz.mpr (by omega)
 rcases Nat.lt_or_ge b (1000000000 ^ ((bg b).length - 1)) with h2 | h2
 ·have := zaz.mp h2
  omega
 ·omega
theorem zcH {k : Nat} {a b : Nat} {t : Int} (ha : (bg a).length ≤ 1000000) (hb : (bg b).length ≤ 1000000) (h : yu.f k (bg a) (bg b) = some t) : Sgn t a b := by
 unfold yu.f at h
 by_cases hl : ((bg a).length : Int) = ((bg b).length : Int)
 ·rw [if_pos hl, w64 (by omega) (by omega)] at h
  have := cmp_l0 k (bg a) (bg b) _ t (bg_W a) (bg_W b) (by omega) ha (by omega) (by omega) (by
   rw [show (((bg a).length : Int) - 1 + 1).toNat = (bg a).length from by omega, List.drop_eq_nil_of_le (Nat.le_refl _), List.drop_eq_nil_of_le (by omega)]) h
  rw [y9, y9] at this
  exact this
 ·rw [if_neg hl, w64 (by omega) (by omega)] at h
  obtain rfl := someE h
  rcases Nat.lt_or_gt_of_ne (fun e => hl (by rw [e]) : (bg a).length ≠ (bg b).length) with h1 | h1
  ·have := zdq h1
   exact ⟨by omega, by omega⟩
  ·have := zdq h1
   exact ⟨by omega, by omega⟩
end Go.Proofs.YtldhiaiaildnlaaGreatDoor.Nm
