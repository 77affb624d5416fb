/- Texts of the claim: Nf. -/
import Derived.Test.YtldhiaiaildnlaaGreatDoorSNe
namespace Go.Proofs.YtldhiaiaildnlaaGreatDoor.Nm
set_option linter.unusedVariables false
open Go Go.RowKit Go.Proofs.YtldhiaiaildnlaaGreatDoor.Q Go.Proofs.YtldhiaiaildnlaaGreatDoorW.PrintWords Go.Proofs.YtldhiaiaildnlaaGreatDoorW.PrintLast Go.Proofs.YtldhiaiaildnlaaGreatDoorW.PrintMore
theorem xS {x : Int} {n : Nat} (e : x = n) (h : n < 18446744073709551616) : IntKind.u64.wrap x = n := by rw [e]; exact u64 (by omega) (by omega)
theorem zaX (l : List Int) (i : Nat) (h : l.length ≤ i) : l.getD i 0 = 0 := by rw [List.getD_eq_getElem?_getD, List.getElem?_eq_none h]; rfl
theorem tmodB (n : Nat) : Int.tmod (n : Int) 1000000000 = ((n % 1000000000 : Nat) : Int) := rfl
theorem tdivB (n : Nat) : Int.tdiv (n : Int) 1000000000 = ((n / 1000000000 : Nat) : Int) := rfl
theorem zaI (i m : Nat) : 1000000000 ^ (i + 1) * m = 1000000000 ^ i * (1000000000 * m) := by rw [Nat.pow_succ, Nat.mul_assoc]
theorem zdY (l : List Int) (i n : Nat) (h : i < l.length) (h0 : l.getD i 0 = 0) : bv (l.set i (n : Int)) = bv l + 1000000000 ^ i * n := by
 have := zdX l i n h
 rw [h0] at this
 simpa using this
theorem zal (l : List Int) (i : Nat) : bv (l.drop i) = (l.getD i 0).toNat + 1000000000 * bv (l.drop (i + 1)) := by
 by_cases h : i < l.length
 ·exact zaQ l i h
 ·rw [xR l i (by omega), xR l (i + 1) (by omega), zaX l _ (by omega)]; rfl
theorem zew {y : List Int} (hy : W y) {n z V : Nat} (hn : y.length = n) (h : bv y + 1000000000 ^ n * z = V) (hV : V < 1000000000 ^ n) : bv y = V := by
 rcases Nat.eq_zero_or_pos z with h0 | h0
 ·rw [h0] at h; simpa using h
 ·have : 1000000000 ^ n * 1 ≤ 1000000000 ^ n * z := Nat.mul_le_mul_left _ h0
  omega
theorem plus_l0 : ∀ (k : Nat) (a b y : List Int) (c i : Nat) (r : List Int) (V : Nat), W a → W b → W y → a.length ≤ 100000 → b.length ≤ 100000 → y.length ≤ 200000 → c < 1000000000 → i ≤ y.length →
  (∀ j, i ≤ j → y.getD j 0 = 0) → bv y + 1000000000 ^ i * (c + bv (a.drop i) + bv (b.drop i)) = V → V < 1000000000 ^ y.length →
  z2.l0 k a b y (c : Int) (y.length : Int) (i : Int) = some r → r = bg V := by
 intro k
 induction k with
 | zero => intro a b y c i r V _ _ _ _ _ _ _ _ _ _ _ h; cases h
 | succ k ih =>
  intro a b y c i r V ha hb hy la lb ly hc hi hz hv hV h
  rw [z2.l0] at h
  by_cases hlt : (i : Int) < (y.length : Int)
  ·rw [if_pos hlt, w64 (x := (i : Int) + 1) (by omega) (by omega), Int.toNat_natCast] at h
   simp only [xG] at h
   have ga := zaq ha i
   have gb := zaq hb i
   obtain ⟨x, hx⟩ : ∃ x : Nat, a.getD i 0 = x := ⟨(a.getD i 0).toNat, by omega⟩
   obtain ⟨z, hzb⟩ : ∃ z : Nat, b.getD i 0 = z := ⟨(b.getD i 0).toNat, by omega⟩
   have hx2 : x < 1000000000 := by omega
   have hz2 : z < 1000000000 := by omega
   have step : ∀ s : Nat, s = c + x + z → z2.l0 k a b (y.set i (Int.tmod (s : Int) 1000000000)) (IntKind.u64.wrap (Int.tdiv (s : Int) 1000000000)) (y.length : Int) ((i : Int) + 1) = some r → r = bg V := by
    intro s hs h
    rw [tmodB, tdivB, u64 (by omega) (by omega)] at h
    have hl : (y.set i ((s % 1000000000 : Nat) : Int)).length = y.length := List.length_set
    have e1 := zdY y i (s % 1000000000) (by omega) (hz i (Nat.le_refl _))
    refine ih a b (y.set i ((s % 1000000000 : Nat) : Int)) (s / 1000000000) (i + 1) r V ha hb (hy.set i (by omega) (by omega)) la lb (by omega) (by omega) (by omega) ?_ ?_ (by rw [hl]; exact hV) ?_
    ·intro j hj
     rw [zaw _ _ _ _ (by omega)]
     exact hz j (by omega)
    ·rw [← hv, e1, zaI, zal a i, zal b i, hx, hzb, Nat.add_assoc, ← Nat.mul_add]
     congr 2
     simp only [Int.toNat_natCast]
     omega
    ·rw [hl]; exact h
   by_cases h1 : (i : Int) < (a.length : Int)
   ·rw [if_pos h1] at h
    obtain ⟨_, h⟩ := ifE h
    by_cases h2 : (i : Int) < (b.length : Int)
    ·rw [if_pos h2] at h
     obtain ⟨_, h⟩ := ifE h
     rw [hx, hzb, xS (x := (c : Int) + x) (n := c + x) (by omega) (by omega), xS (x := ((c + x : Nat) : Int) + z) (n := c + x + z) (by omega) (by omega)] at h
     exact step _ rfl h
    ·rw [if_neg h2] at h
     obtain ⟨_, h⟩ := ifE h
     have : z = 0 := by rw [zaX b _ (by omega)] at hzb; omega
     rw [hx, xS (x := (c : Int) + x) (n := c + x) (by omega) (by omega)] at h
     exact step _ (by omega) h
   ·rw [if_neg h1] at h
    have hx0 : x = 0 := by rw [zaX a _ (by omega)] at hx; omega
    by_cases h2 : (i : Int) < (b.length : Int)
    ·rw [if_pos h2] at h
     obtain ⟨_, h⟩ := ifE h
     obtain ⟨_, h⟩ := ifE h
     rw [hzb, xS (x := (c : Int) + z) (n := c + z) (by omega) (by omega)] at h
     exact step _ (by omega) h
    ·rw [if_neg h2] at h
     obtain ⟨_, h⟩ := ifE h
     obtain ⟨_, h⟩ := ifE h
     have hz0 : z = 0 := by rw [zaX b _ (by omega)] at hzb; omega
     exact step c (by omega) h
  ·rw [if_neg hlt] at h
   obtain ⟨t, h1, h2⟩ := bindE h
   obtain rfl := someE h2
   obtain rfl : i = y.length := by omega
   rw [zaM hy (by omega) h1, zew hy rfl hv hV]
theorem zcV (a b : Nat) : mx (a : Int) b = ((max a b : Nat) : Int) := by unfold mx; split <;> omega
theorem zcI {l : List Int} (h : W l) {n : Nat} (hn : l.length ≤ n) : bv l < 1000000000 ^ n := Nat.lt_of_lt_of_le (bv_lt h) (Nat.pow_le_pow_right (by decide) hn)
theorem zcR {k : Nat} {a b r : List Int} (ha : W a) (hb : W b) (la : a.length ≤ 100000) (lb : b.length ≤ 100000) (h : z2.f k a b = some r) : r = bg (bv a + bv b) := by
 unfold z2.f at h
 rw [zcV, w64 (by omega) (by omega)] at h
 obtain ⟨_, h⟩ := ifE h
 obtain ⟨_, h⟩ := ifE h
 obtain ⟨y, hy, h⟩ := bindE h
 rw [show (((max a.length b.length : Nat) : Int) + 1).toNat = max a.length b.length + 1 from by omega] at hy
 obtain rfl := someE hy
 have hl : (List.replicate (max a.length b.length + 1) (0 : Int)).length = max a.length b.length + 1 := List.length_replicate
 refine plus_l0 k a b _ 0 0 r _ ha hb (W.zeros _) la lb (by omega) (by decide) (by omega) ?_ ?_ ?_ h
 ·intro j _
  rw [List.getD_eq_getElem?_getD, List.getElem?_replicate]; split <;> rfl
 ·rw [zck]; simp
 ·rw [hl, Nat.pow_succ]
  have h1 := zcI ha (Nat.le_max_left a.length b.length)
  have h2 := zcI hb (Nat.le_max_right a.length b.length)
  omega
theorem minus_l0 : ∀ (k : Nat) (b y : List Int) (c i : Nat) (r : List Int) (V : Nat), W b → W y → b.length ≤ 100000 → y.length ≤ 200000 → c ≤ 1 → i ≤ y.length →
  bv y = V + 1000000000 ^ i * (c + bv (b.drop i)) →
  z7.l0 k b y (c : Int) (y.length : Int) (i : Int) = some r → r = bg V := by
 intro k
 induction k with
 | zero => intro b y c i r V _ _ _ _ _ _ _ h; cases h
 | succ k ih =>
  intro b y c i r V hb hy lb ly hc hi hv h
  rw [z7.l0] at h
  by_cases hlt : (i : Int) < (y.length : Int)
  ·rw [if_pos hlt, w64 (x := (i : Int) + 1) (by omega) (by omega), Int.toNat_natCast] at h
   simp only [xG] at h
   have ga := zaq hy i
   have gb := zaq hb i
   obtain ⟨x, hx⟩ : ∃ x : Nat, y.getD i 0 = x := ⟨(y.getD i 0).toNat, by omega⟩
   obtain ⟨z, hzb⟩ : ∃ z : Nat, b.getD i 0 = z := ⟨(b.getD i 0).toNat, by omega⟩
   have hx2 : x < 1000000000 := by omega
   have hz2 : z < 1000000000 := by omega
   have hset : ∀ (v : Int), (y.set i v).getD i 0 = v := by
    intro v; rw [List.getD_eq_getElem?_getD, List.getElem?_set_self (by omega)]; rfl
   have step : ∀ (d c2 : Nat), c2 ≤ 1 → d < 1000000000 → d + c + z = x + 1000000000 * c2 → z7.l0 k b (y.set i (d : Int)) (c2 : Int) (y.length : Int) ((i : Int) + 1) = some r → r = bg V := by
    intro d c2 hc2 hd hs h
    have hl : (y.set i (d : Int)).length = y.length := List.length_set
    have e1 := zdX y i (d : Int) (by omega)
    rw [hx] at e1
    refine ih b (y.set i (d : Int)) c2 (i + 1) r V hb (hy.set i (by omega) (by omega)) lb (by omega) hc2 (by omega) ?_ (by rw [hl]; exact h)
    rw [hv, zal b i, hzb] at e1
    simp only [Int.toNat_natCast] at e1
    rw [zaI]
    have e2 : ∀ p q : Nat, 1000000000 ^ i * p + 1000000000 ^ i * q = 1000000000 ^ i * (p + q) := fun p q => (Nat.mul_add _ p q).symm
    have e3 : bv (y.set i (d : Int)) + 1000000000 ^ i * x = (V + 1000000000 ^ i * (1000000000 * (c2 + bv (b.drop (i + 1))))) + 1000000000 ^ i * x := by
     rw [e1, Nat.add_assoc, Nat.add_assoc, e2, e2]
     congr 2
     omega
    omega
   by_cases h2 : (i : Int) < (b.length : Int)
   ·rw [if_pos h2] at h
    obtain ⟨_, h⟩ := ifE h
    obtain ⟨_, h⟩ := ifE h
    rw [hx, hzb, xS (x := (c : Int) + z) (n := c + z) (by omega) (by omega)] at h
    by_cases hb1 : (x : Int) < ((c + z : Nat) : Int)
    ·rw [if_pos hb1] at h
     obtain ⟨y2, hy2, h⟩ := bindE h
     obtain rfl := someE hy2
     rw [hset, List.set_set, xS (x := (x : Int) + 1000000000) (n := x + 1000000000) (by omega) (by omega), xS (x := ((x + 1000000000 : Nat) : Int) - (c + z : Nat)) (n := x + 1000000000 - (c + z)) (by omega) (by omega)] at h
     exact step _ 1 (by omega) (by omega) (by omega) h
    ·rw [if_neg hb1, xS (x := (x : Int) - (c + z : Nat)) (n := x - (c + z)) (by omega) (by omega)] at h
     exact step _ 0 (by omega) (by omega) (by omega) h
   ·rw [if_neg h2] at h
    obtain ⟨_, h⟩ := ifE h
    obtain ⟨_, h⟩ := ifE h
    have hz0 : z = 0 := by rw [zaX b _ (by omega)] at hzb; omega
    rw [hx] at h
    by_cases hb1 : (x : Int) < (c : Int)
    ·rw [if_pos hb1] at h
     obtain ⟨y2, hy2, h⟩ := bindE h
     obtain rfl := someE hy2
     rw [hset, List.set_set, xS (x := (x : Int) + 1000000000) (n := x + 1000000000) (by omega) (by omega), xS (x := ((x + 1000000000 : Nat) : Int) - c) (n := x + 1000000000 - c) (by omega) (by omega)] at h
     exact step _ 1 (by omega) (by omega) (by omega) h
    ·rw [if_neg hb1, xS (x := (x : Int) - c) (n := x - c) (by omega) (by omega)] at h
     exact step _ 0 (by omega) (by omega) (by omega) h
  ·rw [if_neg hlt] at h
   obtain ⟨t, h1, h2⟩ := bindE h
   obtain rfl := someE h2
   obtain rfl : i = y.length := by omega
   have := bv_lt hy
   rw [zaM hy (by omega) h1]
   congr 1
   rcases Nat.eq_zero_or_pos (c + bv (b.drop y.length)) with h0 | h0
   ·rw [h0] at hv; simpa using hv
   ·have : 1000000000 ^ y.length * 1 ≤ 1000000000 ^ y.length * (c + bv (b.drop y.length)) := Nat.mul_le_mul_left _ h0
    omega
theorem zbA {k : Nat} {a b r : List Int} (ha : W a) (hb : W b) (la : a.length ≤ 100000) (lb : b.length ≤ 100000) (hle : bv b ≤ bv a) (h : z7.f k a b = some r) : r = bg (bv a - bv b) := by
 unfold z7.f xx.f at h
 obtain ⟨y, hy, h⟩ := bindE h
 obtain ⟨_, hy⟩ := ifE hy
 obtain rfl := someE hy
 refine minus_l0 k b a 0 0 r _ hb ha lb (by omega) (by decide) (by omega) ?_ h
 simp; omega
theorem times_l : ∀ (k : Nat),
  (∀ (a b y : List Int) (i : Nat) (r : List Int) (V : Nat), W a → W b → W y → a.length ≤ 100000 → b.length ≤ 100000 → y.length = a.length + b.length → i ≤ a.length →
   (∀ j, i + b.length ≤ j → y.getD j 0 = 0) → bv y + 1000000000 ^ i * (bv (a.drop i) * bv b) = V →
   zN.l0 k b y a (a.length : Int) (i : Int) = some r → r = bg V) ∧
  (∀ (a b y : List Int) (i j c : Nat) (r : List Int) (V : Nat), W a → W b → W y → a.length ≤ 100000 → b.length ≤ 100000 → y.length = a.length + b.length → i < a.length → j ≤ b.length → c < 1000000000 →
   (∀ q, i + b.length ≤ q → y.getD q 0 = 0) →
   bv y + 1000000000 ^ i * (1000000000 ^ j * (c + (a.getD i 0).toNat * bv (b.drop j)) + 1000000000 * (bv (a.drop (i + 1)) * bv b)) = V →
   zN.l1 k b y (i : Int) (a.getD i 0) (c : Int) a (a.length : Int) (i : Int) b (b.length : Int) (j : Int) = some r → r = bg V) := by
 intro k
 induction k with
 | zero =>
  constructor <;> (intros; rename_i h; cases h)
 | succ k ih =>
  obtain ⟨ih0, ih1⟩ := ih
  refine ⟨?_, ?_⟩
  ·intro a b y i r V ha hb hy la lb ly hi hz hv h
   rw [zN.l0] at h
   by_cases hlt : (i : Int) < (a.length : Int)
   ·rw [if_pos hlt] at h
    obtain ⟨_, h⟩ := ifE h
    obtain ⟨_, h⟩ := ifE h
    rw [xG] at h
    refine ih1 a b y i 0 0 r V ha hb hy la lb ly (by omega) (by omega) (by decide) hz ?_ h
    rw [← hv]
    congr 2
    rw [List.drop_zero, Nat.pow_zero, Nat.one_mul, Nat.zero_add, zal a i, Nat.add_mul, Nat.mul_assoc]
   ·rw [if_neg hlt] at h
    obtain ⟨t, h1, h2⟩ := bindE h
    obtain rfl := someE h2
    obtain rfl : i = a.length := by omega
    rw [zaM hy (by omega) h1]
    congr 1
    rw [xR a _ (Nat.le_refl _), Nat.zero_mul, Nat.mul_zero] at hv
    exact hv
  ·intro a b y i j c r V ha hb hy la lb ly hi hj hc hz hv h
   rw [zN.l1] at h
   by_cases hlt : (j : Int) < (b.length : Int)
   ·rw [if_pos hlt, w64 (x := (j : Int) + 1) (by omega) (by omega), w64 (x := (i : Int) + j) (by omega) (by omega), show ((i : Int) + j) = ((i + j : Nat) : Int) from by omega, xG, xG, Int.toNat_natCast] at h
    obtain ⟨_, h⟩ := ifE h
    obtain ⟨_, h⟩ := ifE h
    obtain ⟨_, h⟩ := ifE h
    obtain ⟨_, h⟩ := ifE h
    have ga := zaq ha i
    have gb := zaq hb j
    have gy := zaq hy (i + j)
    obtain ⟨d, hd⟩ : ∃ d : Nat, a.getD i 0 = d := ⟨(a.getD i 0).toNat, by omega⟩
    obtain ⟨z, hzb⟩ : ∃ z : Nat, b.getD j 0 = z := ⟨(b.getD j 0).toNat, by omega⟩
    obtain ⟨x, hx⟩ : ∃ x : Nat, y.getD (i + j) 0 = x := ⟨(y.getD (i + j) 0).toNat, by omega⟩
    have hd2 : d ≤ 999999999 := by omega
    have hz2 : z ≤ 999999999 := by omega
    have hx2 : x < 1000000000 := by omega
    have hdz : d * z ≤ 999999999 * 999999999 := Nat.mul_le_mul hd2 hz2
    rw [hd, hzb, hx, xS (x := (d : Int) * z) (n := d * z) (by simp) (by omega), xS (x := (x : Int) + (d * z : Nat)) (n := x + d * z) (by simp) (by omega), xS (x := (c : Int) + (x + d * z : Nat)) (n := c + (x + d * z)) (by simp) (by omega), tmodB, tdivB] at h
    generalize hs : c + (x + d * z) = s at h
    rw [u64 (by omega) (by omega)] at h
    have hl : (y.set (i + j) ((s % 1000000000 : Nat) : Int)).length = y.length := List.length_set
    have e1 := zdX y (i + j) ((s % 1000000000 : Nat) : Int) (by omega)
    rw [hx] at e1
    simp only [Int.toNat_natCast] at e1
    refine ih1 a b (y.set (i + j) ((s % 1000000000 : Nat) : Int)) i (j + 1) (s / 1000000000) r V ha hb (hy.set _ (by omega) (by omega)) la lb (by omega) hi (by omega) (by omega) ?_ ?_ (by rw [hd]; exact h)
    ·intro q hq
     rw [zaw _ _ _ _ (by omega)]
     exact hz q hq
    ·rw [hd] at hv ⊢
     rw [zal b j, hzb] at hv
     simp only [Int.toNat_natCast] at hv ⊢
     rw [Nat.mul_add, ← Nat.mul_assoc (1000000000 ^ i) (1000000000 ^ j), ← Nat.pow_add] at hv
     rw [Nat.mul_add, ← Nat.mul_assoc (1000000000 ^ i) (1000000000 ^ (j + 1)), ← Nat.pow_add, show i + (j + 1) = i + j + 1 from rfl, zaI]
     generalize 1000000000 ^ i * (1000000000 * (bv (a.drop (i + 1)) * bv b)) = T at hv ⊢
     generalize bv (b.drop (j + 1)) = Q at hv ⊢
     generalize 1000000000 ^ (i + j) = P at hv e1 ⊢
     have e2 : ∀ p q : Nat, P * p + P * q = P * (p + q) := fun p q => (Nat.mul_add _ p q).symm
     have e3 : (bv (y.set (i + j) ((s % 1000000000 : Nat) : Int)) + P * (1000000000 * (s / 1000000000 + d * Q))) + P * x = (bv y + P * (c + d * (z + 1000000000 * Q))) + P * x := by
      have e4 : bv (y.set (i + j) ((s % 1000000000 : Nat) : Int)) + P * (1000000000 * (s / 1000000000 + d * Q)) + P * x = (bv (y.set (i + j) ((s % 1000000000 : Nat) : Int)) + P * x) + P * (1000000000 * (s / 1000000000 + d * Q)) := by omega
      rw [e4, e1, Nat.add_assoc, Nat.add_assoc, e2, e2]
      congr 2
      rw [Nat.mul_add d, Nat.mul_add 1000000000, Nat.mul_left_comm d 1000000000 Q]
      omega
     omega
   ·rw [if_neg hlt] at h
    obtain rfl : j = b.length := by omega
    rw [w64 (x := (i : Int) + b.length) (by omega) (by omega), show ((i : Int) + b.length) = ((i + b.length : Nat) : Int) from by omega, xG, Int.toNat_natCast, w64 (x := (i : Int) + 1) (by omega) (by omega), hz _ (Nat.le_refl _), Int.zero_add, u64 (by omega) (by omega)] at h
    obtain ⟨_, h⟩ := ifE h
    obtain ⟨_, h⟩ := ifE h
    have hl : (y.set (i + b.length) (c : Int)).length = y.length := List.length_set
    have e1 := zdY y (i + b.length) c (by omega) (hz _ (Nat.le_refl _))
    refine ih0 a b (y.set (i + b.length) (c : Int)) (i + 1) r V ha hb (hy.set _ (by omega) (by omega)) la lb (by omega) (by omega) ?_ ?_ h
    ·intro q hq
     rw [zaw _ _ _ _ (by omega)]
     exact hz q (by omega)
    ·rw [← hv, e1, xR b _ (Nat.le_refl _), Nat.mul_zero, Nat.add_zero c, zaI, Nat.mul_add, Nat.pow_add, Nat.mul_assoc, Nat.add_assoc]
theorem zas {k : Nat} {a b r : List Int} (ha : W a) (hb : W b) (la : a.length ≤ 100000) (lb : b.length ≤ 100000) (h : zN.f k a b = some r) : r = bg (bv a * bv b) := by
 unfold zN.f at h
 rw [w64 (by omega) (by omega)] at h
 obtain ⟨_, h⟩ := ifE h
 obtain ⟨_, h⟩ := ifE h
 rw [show ((a.length : Int) + b.length).toNat = a.length + b.length from by omega] at h
 refine (times_l k).1 a b _ 0 r _ ha hb (W.zeros _) la lb List.length_replicate (by omega) ?_ ?_ h
 ·intro j _
  rw [List.getD_eq_getElem?_getD, List.getElem?_replicate]; split <;> rfl
 ·rw [zck]; simp
end Go.Proofs.YtldhiaiaildnlaaGreatDoor.Nm
