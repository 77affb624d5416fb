/- Texts of the claim: Nm. -/
import Derived.Test.YtldhiaiaildnlaaGreatDoorSNf
import Derived.Test.YtldhiaiaildnlaaGreatDoorSQx35
namespace Go.Proofs.YtldhiaiaildnlaaGreatDoor.Nm
set_option linter.unusedVariables false
open Go Go.RowKit Go.Proofs.YtldhiaiaildnlaaGreatDoor.Q Go.Proofs.YtldhiaiaildnlaaGreatDoorW.PrintWords Go.Proofs.YtldhiaiaildnlaaGreatDoorW.PrintLast Go.Proofs.YtldhiaiaildnlaaGreatDoorW.PrintMore
theorem zd9 : ∀ (k : Nat) (l r : List Int), zj.f k l = some r → r = tz l := by
 intro k
 induction k with
 | zero => intro l r h; cases h
 | succ k ih =>
  intro l r h
  unfold zj.f at h
  rw [zj.l0] at h
  cases l with
  | nil => rw [if_neg (by simp)] at h; exact (someE h).symm
  | cons x l =>
   rw [if_pos (by simp)] at h
   obtain ⟨_, h⟩ := ifE h
   rw [tz]
   have e : rd (x :: l) 0 = x := rfl
   rw [e] at h
   by_cases hx : x = 0
   ·rw [if_pos hx] at h ⊢
    obtain ⟨_, h⟩ := ifE h
    exact ih l r h
   ·rw [if_neg hx] at h ⊢
    exact (someE h).symm
theorem zam {k : Nat} {l r : List Int} (hD : D l) (h : zj.f k l = some r) : r = dg (dv l) := by rw [zd9 k l r h, tz_dg hD]
theorem zcZ {l : List Int} (h : D l) (i : Nat) : 0 ≤ l.getD i 0 ∧ l.getD i 0 ≤ 9 := by
 rw [List.getD_eq_getElem?_getD]
 by_cases hi : i < l.length
 ·rw [List.getElem?_eq_getElem hi]; exact h _ (List.getElem_mem _)
 ·rw [List.getElem?_eq_none (by omega)]; exact ⟨Int.le_refl _, by decide⟩
theorem D.take {l : List Int} (h : D l) (i : Nat) : D (l.take i) := fun x hx => h x (List.mem_of_mem_take hx)
theorem D.drop {l : List Int} (h : D l) (i : Nat) : D (l.drop i) := fun x hx => h x (List.mem_of_mem_drop hx)
theorem D.set {l : List Int} (h : D l) (i : Nat) {x : Int} (h0 : 0 ≤ x) (h1 : x ≤ 9) : D (l.set i x) := by
 intro y hy
 rcases List.mem_or_eq_of_mem_set hy with hy | rfl
 ·exact h y hy
 ·exact ⟨h0, h1⟩
theorem zel {a r s : List Int} {x y : Int} (hr : D r) (hs : D s) (hl : r.length = s.length) (hx : 0 ≤ x) (hxy : x < y) : dv (a ++ x :: r) < dv (a ++ y :: s) := by
 rw [xP, xP, zae, zae, List.length_cons, List.length_cons, hl]
 have h1 := zaD hr
 rw [hl] at h1
 have h2 : (x.toNat + 1) * 10 ^ s.length ≤ y.toNat * 10 ^ s.length := Nat.mul_le_mul_right _ (by omega)
 rw [Nat.add_mul, Nat.one_mul] at h2
 omega
theorem rcmp_l0 : ∀ (k : Nat) (a b : List Int) (i : Nat) (r : Int), D a → D b → a.length = b.length → a.length ≤ 1000000 → i ≤ a.length → a.take i = b.take i → zz.l0 k a b (i : Int) = some r → r = sg (dv a) (dv b) := by
 intro k
 induction k with
 | zero => intro a b i r _ _ _ _ _ _ h; cases h
 | succ k ih =>
  intro a b i r ha hb hab hl hi ht h
  rw [zz.l0] at h
  by_cases hlt : (i : Int) < (a.length : Int)
  ·rw [if_pos hlt] at h
   obtain ⟨_, h⟩ := ifE h
   obtain ⟨_, h⟩ := ifE h
   rw [xG, xG, w64 (by omega) (by omega)] at h
   have ea := zaU a i (by omega)
   have eb := zaU b i (by omega)
   have ga := zcZ ha i
   have gb := zcZ hb i
   have hlen : (a.drop (i + 1)).length = (b.drop (i + 1)).length := by rw [List.length_drop, List.length_drop, hab]
   by_cases he : a.getD i 0 = b.getD i 0
   ·rw [if_pos he] at h
    refine ih a b (i + 1) r ha hb hab hl (by omega) ?_ h
    have e1 : ∀ l : List Int, i < l.length → l.take (i + 1) = l.take i ++ [l.getD i 0] := by
     intro l hil
     rw [List.take_succ_eq_append_getElem hil, List.getD_eq_getElem?_getD, List.getElem?_eq_getElem hil]; rfl
    rw [e1 a (by omega), e1 b (by omega), ht, he]
   ·rw [if_neg he] at h
    rw [← ht] at eb
    by_cases hl2 : a.getD i 0 < b.getD i 0
    ·rw [if_pos hl2] at h
     have := zel (a := a.take i) (ha.drop (i + 1)) (hb.drop (i + 1)) hlen ga.1 hl2
     rw [← ea, ← eb] at this
     unfold sg
     rw [if_pos this]
     exact (someE h).symm
    ·rw [if_neg hl2] at h
     have hgt : b.getD i 0 < a.getD i 0 := by omega
     have := zel (a := a.take i) (hb.drop (i + 1)) (ha.drop (i + 1)) hlen.symm gb.1 hgt
     rw [← ea, ← eb] at this
     unfold sg
     rw [if_neg (by omega), if_neg (by omega)]
     exact (someE h).symm
  ·rw [if_neg hlt] at h
   have e : a = b := by
    have := ht
    rw [List.take_of_length_le (by omega), List.take_of_length_le (by omega)] at this
    exact this
   rw [← someE h, e]
   unfold sg
   rw [if_neg (by omega), if_pos rfl]
theorem sg_ge (a b : Nat) : 0 ≤ sg a b ↔ b ≤ a := by
 unfold sg
 split
 ·omega
 ·split <;> omega
theorem zdj {a b : Nat} (h : (dg a).length < (dg b).length) : a < b := by
 have h1 : a < 10 ^ ((dg b).length - 1) := zaY.mpr (by omega)
 rcases Nat.lt_or_ge b (10 ^ ((dg b).length - 1)) with h2 | h2
 ·have := zaY.mp h2
  omega
 ·omega
theorem tz_len (l : List Int) : (tz l).length ≤ l.length := by
 obtain ⟨z, hz⟩ := zb4 l
 have := congrArg List.length hz
 rw [List.length_append] at this
 omega
theorem rcmp_f {k : Nat} {a b : List Int} {r : Int} (ha : D a) (hb : D b) (la : a.length ≤ 1000000) (lb : b.length ≤ 1000000) (h : zz.f k a b = some r) : r = sg (dv a) (dv b) := by
 unfold zz.f at h
 obtain ⟨t, h1, h⟩ := bindE h
 obtain ⟨u, h2, h⟩ := bindE h
 have l1 := tz_len a
 rw [tz_dg ha] at l1
 rw [zam ha h1, zam hb h2] at h
 by_cases hl : ((dg (dv a)).length : Int) = ((dg (dv b)).length : Int)
 ·rw [if_pos hl] at h
  have := rcmp_l0 k (dg (dv a)) (dg (dv b)) 0 r (dg_D _) (dg_D _) (by omega) (by omega) (by omega) rfl h
  rw [zaa, zaa] at this
  exact this
 ·rw [if_neg hl] at h
  unfold sg
  by_cases h3 : ((dg (dv a)).length : Int) < ((dg (dv b)).length : Int)
  ·rw [if_pos h3] at h
   rw [if_pos (zdj (by omega))]
   exact (someE h).symm
  ·rw [if_neg h3] at h
   have := zdj (a := dv b) (b := dv a) (by omega)
   rw [if_neg (by omega), if_neg (by omega)]
   exact (someE h).symm
theorem at_f {l : List Int} {i : Nat} {r : Int} (h : D l) (hl : l.length ≤ 1000000) (hi : i ≤ 2000000) (hr : zX.f l (i : Int) = some r) : r = ((dv l / 10 ^ i % 10 : Nat) : Int) := by
 unfold zX.f at hr
 rw [← dv_at l i h]
 by_cases hlt : (i : Int) < (l.length : Int)
 ·rw [if_pos hlt, w64 (x := (l.length : Int) - 1) (by omega) (by omega), w64 (by omega) (by omega)] at hr
  obtain ⟨_, hr⟩ := ifE hr
  obtain ⟨_, hr⟩ := ifE hr
  rw [if_pos (by omega), ← someE hr]
  unfold rd
  congr 1
  omega
 ·rw [if_neg hlt] at hr
  rw [if_neg (by omega)]
  exact (someE hr).symm
theorem dv_set (l : List Int) (i : Nat) (x : Int) (h : i < l.length) : dv (l.set (l.length - 1 - i) x) + 10 ^ i * (l.getD (l.length - 1 - i) 0).toNat = dv l + 10 ^ i * x.toNat := by
 have hp : l.length - 1 - i < l.length := by omega
 have e := zaU l (l.length - 1 - i) hp
 have hb : (l.drop (l.length - 1 - i + 1)).length = i := by rw [List.length_drop]; omega
 have hs : l.set (l.length - 1 - i) x = l.take (l.length - 1 - i) ++ x :: l.drop (l.length - 1 - i + 1) := List.set_eq_take_append_cons_drop.trans (by rw [if_pos hp])
 rw [hs]
 conv => rhs; arg 1; rw [e]
 rw [xP, xP, zae, zae, List.length_cons, List.length_cons, hb, Nat.mul_comm (10 ^ i), Nat.mul_comm (10 ^ i)]
 omega
theorem zdO (l : List Int) (i n : Nat) (h : i < l.length) (h0 : l.getD (l.length - 1 - i) 0 = 0) : dv (l.set (l.length - 1 - i) (n : Int)) = dv l + 10 ^ i * n := by
 have := dv_set l i n h
 rw [h0] at this
 simpa using this
theorem zby (i m : Nat) : 10 ^ (i + 1) * m = 10 ^ i * (10 * m) := by rw [Nat.pow_succ, Nat.mul_assoc]
theorem zay (n i : Nat) : n / 10 ^ i = n / 10 ^ i % 10 + 10 * (n / 10 ^ (i + 1)) := by
 rw [Nat.pow_succ, ← Nat.div_div_eq_div_mul]; omega
theorem zdE {y n z V : Nat} (h : y + 10 ^ n * z = V) (hV : V < 10 ^ n) : y = V := by
 rcases Nat.eq_zero_or_pos z with h0 | h0
 ·rw [h0] at h; simpa using h
 ·have : 10 ^ n * 1 ≤ 10 ^ n * z := Nat.mul_le_mul_left _ h0
  omega
theorem radd_l0 : ∀ (k : Nat) (a b y : List Int) (c i : Nat) (r : List Int) (V : Nat), D a → D b → D y → a.length ≤ 100000 → b.length ≤ 100000 → y.length ≤ 200000 → c ≤ 1 → i ≤ y.length →
  (∀ j, i ≤ j → j < y.length → y.getD (y.length - 1 - j) 0 = 0) → dv y + 10 ^ i * (c + dv a / 10 ^ i + dv b / 10 ^ i) = V → V < 10 ^ y.length →
  zA.l0 k a b (y.length : Int) y (c : Int) (i : Int) = some r → r = dg V := by
 intro k
 induction k with
 | zero => intro a b y c i r V _ _ _ _ _ _ _ _ _ _ _ h; cases h
 | succ k ih =>
  intro a b y c i r V ha hb hy la lb ly hc hi hz hv hV h
  rw [zA.l0] at h
  by_cases hlt : (i : Int) < (y.length : Int)
  ·rw [if_pos hlt] at h
   obtain ⟨t, h1, h⟩ := bindE h
   obtain ⟨u, h2, h⟩ := bindE h
   have ht := at_f ha (by omega) (by omega) h1
   have hu := at_f hb (by omega) (by omega) h2
   have sa := zay (dv a) i
   have sb := zay (dv b) i
   obtain ⟨x, hx⟩ : ∃ x, dv a / 10 ^ i % 10 = x := ⟨_, rfl⟩
   obtain ⟨z, hz2⟩ : ∃ z, dv b / 10 ^ i % 10 = z := ⟨_, rfl⟩
   rw [hx] at ht sa
   rw [hz2] at hu sb
   have hx9 : x ≤ 9 := by omega
   have hz9 : z ≤ 9 := by omega
   rw [ht, hu, w64 (x := (y.length : Int) - 1) (by omega) (by omega), w64 (x := (y.length : Int) - 1 - i) (by omega) (by omega), w64 (x := (x : Int) + z) (by omega) (by omega), w64 (x := (x : Int) + z + c) (by omega) (by omega), w64 (x := (i : Int) + 1) (by omega) (by omega)] at h
   obtain ⟨_, h⟩ := ifE h
   obtain ⟨_, h⟩ := ifE h
   have e3 : (x : Int) + z + c = ((x + z + c : Nat) : Int) := by omega
   rw [e3, show Int.tmod ((x + z + c : Nat) : Int) 10 = (((x + z + c) % 10 : Nat) : Int) from rfl, show Int.tdiv ((x + z + c : Nat) : Int) 10 = (((x + z + c) / 10 : Nat) : Int) from rfl, w64 (by omega) (by omega), show ((y.length : Int) - 1 - i).toNat = y.length - 1 - i from by omega] at h
   have hl : (y.set (y.length - 1 - i) (((x + z + c) % 10 : Nat) : Int)).length = y.length := List.length_set
   have e1 := zdO y i ((x + z + c) % 10) (by omega) (hz i (Nat.le_refl _) (by omega))
   refine ih a b (y.set (y.length - 1 - i) (((x + z + c) % 10 : Nat) : Int)) ((x + z + c) / 10) (i + 1) r V ha hb (hy.set _ (by omega) (by omega)) la lb (by omega) (by omega) (by omega) ?_ ?_ (by rw [hl]; exact hV) (by rw [hl]; exact h)
   ·intro j hj hj2
    rw [hl] at hj2 ⊢
    rw [zaw _ _ _ _ (by omega)]
    exact hz j (by omega) hj2
   ·rw [← hv, e1, zby, Nat.add_assoc, ← Nat.mul_add]
    congr 2
    omega
  ·rw [if_neg hlt] at h
   obtain ⟨t, h1, h⟩ := bindE h
   rw [← someE h, zam hy h1]
   obtain rfl : i = y.length := by omega
   rw [zdE hv hV]
theorem radd_f {k : Nat} {a b r : List Int} (ha : D a) (hb : D b) (la : a.length ≤ 100000) (lb : b.length ≤ 100000) (h : zA.f k a b = some r) : r = dg (dv a + dv b) := by
 unfold zA.f at h
 rw [zcV, w64 (by omega) (by omega)] at h
 obtain ⟨_, h⟩ := ifE h
 obtain ⟨_, h⟩ := ifE h
 rw [show (((max a.length b.length : Nat) : Int) + 1).toNat = max a.length b.length + 1 from by omega] at h
 have hl : (List.replicate (max a.length b.length + 1) (0 : Int)).length = max a.length b.length + 1 := List.length_replicate
 refine radd_l0 k a b (List.replicate (max a.length b.length + 1) 0) 0 0 r _ ha hb (D.zeros _) la lb (by omega) (by decide) (by omega) ?_ ?_ ?_ (by rw [hl]; exact h)
 ·intro j _ _
  rw [List.getD_eq_getElem?_getD, List.getElem?_replicate]; split <;> rfl
 ·rw [zax]; simp
 ·rw [hl, Nat.pow_succ]
  have h1 := Nat.lt_of_lt_of_le (zaD ha) (Nat.pow_le_pow_right (by decide) (Nat.le_max_left a.length b.length))
  have h2 := Nat.lt_of_lt_of_le (zaD hb) (Nat.pow_le_pow_right (by decide) (Nat.le_max_right a.length b.length))
  omega
theorem rsub_l0 : ∀ (k : Nat) (a b y : List Int) (c i : Nat) (r : List Int) (V : Nat), D a → D b → D y → a.length ≤ 100000 → b.length ≤ 100000 → y.length = a.length → c ≤ 1 → i ≤ a.length →
  (∀ j, i ≤ j → j < y.length → y.getD (y.length - 1 - j) 0 = 0) → dv y + 10 ^ i * (dv a / 10 ^ i) = V + 10 ^ i * (c + dv b / 10 ^ i) →
  zI.l0 k a b y (c : Int) (i : Int) = some r → r = dg V := by
 intro k
 induction k with
 | zero => intro a b y c i r V _ _ _ _ _ _ _ _ _ _ h; cases h
 | succ k ih =>
  intro a b y c i r V ha hb hy la lb ly hc hi hz hv h
  rw [zI.l0] at h
  by_cases hlt : (i : Int) < (a.length : Int)
  ·rw [if_pos hlt] at h
   obtain ⟨t, h1, h⟩ := bindE h
   obtain ⟨u, h2, h⟩ := bindE h
   have ht := at_f ha (by omega) (by omega) h1
   have hu := at_f hb (by omega) (by omega) h2
   have sa := zay (dv a) i
   have sb := zay (dv b) i
   obtain ⟨x, hx⟩ : ∃ x, dv a / 10 ^ i % 10 = x := ⟨_, rfl⟩
   obtain ⟨z, hz2⟩ : ∃ z, dv b / 10 ^ i % 10 = z := ⟨_, rfl⟩
   rw [hx] at ht sa
   rw [hz2] at hu sb
   have hx9 : x ≤ 9 := by omega
   have hz9 : z ≤ 9 := by omega
   have step : ∀ d c2 : Nat, c2 ≤ 1 → d ≤ 9 → x + 10 * c2 = d + z + c → zI.l0 k a b (y.set (y.length - 1 - i) (d : Int)) (c2 : Int) ((i : Int) + 1) = some r → r = dg V := by
    intro d c2 hc2 hd hs h
    have hl : (y.set (y.length - 1 - i) (d : Int)).length = y.length := List.length_set
    have e1 := zdO y i d (by omega) (hz i (Nat.le_refl _) (by omega))
    refine ih a b (y.set (y.length - 1 - i) (d : Int)) c2 (i + 1) r V ha hb (hy.set _ (by omega) (by omega)) la lb (by omega) hc2 (by omega) ?_ ?_ h
    ·intro j hj hj2
     rw [hl] at hj2 ⊢
     rw [zaw _ _ _ _ (by omega)]
     exact hz j (by omega) hj2
    ·rw [e1, zby, zby]
     rw [sa, sb] at hv
     generalize dv a / 10 ^ (i + 1) = A at hv ⊢
     generalize dv b / 10 ^ (i + 1) = Bq at hv ⊢
     generalize 10 ^ i = P at hv ⊢
     have e2 : ∀ p q : Nat, P * p + P * q = P * (p + q) := fun p q => (Nat.mul_add _ p q).symm
     have e3 : (dv y + P * d + P * (10 * A)) + P * x = (V + P * (10 * (c2 + Bq))) + P * x := by
      have e4 : (dv y + P * d + P * (10 * A)) + P * x = (dv y + P * (x + 10 * A)) + P * d := by
       rw [Nat.mul_add P x]; omega
      rw [e4, hv, Nat.add_assoc, Nat.add_assoc, e2, e2]
      congr 2
      omega
     omega
   rw [ht, hu, w64 (x := (a.length : Int) - 1) (by omega) (by omega), w64 (x := (a.length : Int) - 1 - i) (by omega) (by omega), w64 (x := (x : Int) - z) (by omega) (by omega), w64 (x := (x : Int) - z - c) (by omega) (by omega), w64 (x := (i : Int) + 1) (by omega) (by omega), show ((a.length : Int) - 1 - i).toNat = y.length - 1 - i from by omega] at h
   by_cases hneg : (x : Int) - z - c < 0
   ·rw [if_pos hneg] at h
    obtain ⟨_, h⟩ := ifE h
    obtain ⟨_, h⟩ := ifE h
    rw [w64 (by omega) (by omega), show (x : Int) - z - c + 10 = ((x + 10 - z - c : Nat) : Int) from by omega] at h
    exact step _ 1 (by omega) (by omega) (by omega) h
   ·rw [if_neg hneg] at h
    obtain ⟨_, h⟩ := ifE h
    obtain ⟨_, h⟩ := ifE h
    rw [show (x : Int) - z - c = ((x - z - c : Nat) : Int) from by omega] at h
    exact step _ 0 (by omega) (by omega) (by omega) h
  ·rw [if_neg hlt] at h
   obtain ⟨t, h1, h⟩ := bindE h
   rw [← someE h, zam hy h1]
   obtain rfl : i = a.length := by omega
   rw [Nat.div_eq_of_lt (zaD ha), Nat.mul_zero, Nat.add_zero] at hv
   congr 1
   have hlt2 := zaD hy
   rw [ly] at hlt2
   rcases Nat.eq_zero_or_pos (c + dv b / 10 ^ a.length) with h0 | h0
   ·rw [h0] at hv; simpa using hv
   ·have : 10 ^ a.length * 1 ≤ 10 ^ a.length * (c + dv b / 10 ^ a.length) := Nat.mul_le_mul_left _ h0
    omega
theorem rsub_f {k : Nat} {a b r : List Int} (ha : D a) (hb : D b) (la : a.length ≤ 100000) (lb : b.length ≤ 100000) (hle : dv b ≤ dv a) (h : zI.f k a b = some r) : r = dg (dv a - dv b) := by
 unfold zI.f at h
 obtain ⟨_, h⟩ := ifE h
 obtain ⟨_, h⟩ := ifE h
 rw [Int.toNat_natCast] at h
 refine rsub_l0 k a b _ 0 0 r _ ha hb (D.zeros _) la lb List.length_replicate (by decide) (by omega) ?_ ?_ h
 ·intro j _ _
  rw [List.getD_eq_getElem?_getD, List.getElem?_replicate]; split <;> rfl
 ·rw [zax]; simp; omega
theorem rzeros_f {l r : List Int} {n : Nat} (h : xa.f l (n : Int) = some r) : r = l ++ List.replicate n 0 := by
 unfold xa.f at h
 obtain ⟨y, h1, h⟩ := bindE h
 obtain ⟨_, h⟩ := ifE h
 obtain ⟨z, h2, h⟩ := bindE h
 obtain ⟨_, h⟩ := ifE h
 obtain ⟨_, h⟩ := ifE h
 rw [← someE h, ← someE h2, ← someE h1, Int.toNat_natCast]; rfl
end Go.Proofs.YtldhiaiaildnlaaGreatDoor.Nm
