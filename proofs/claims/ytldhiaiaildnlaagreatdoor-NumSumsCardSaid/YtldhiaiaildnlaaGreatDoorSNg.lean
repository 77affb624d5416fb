/- Texts of the claim: Ng. -/
import Derived.Test.YtldhiaiaildnlaaGreatDoorSNf
import Derived.Test.YtldhiaiaildnlaaGreatDoorSQx13
namespace Go.Proofs.YtldhiaiaildnlaaGreatDoor.Nm
set_option linter.unusedVariables false
open Go Go.RowKit Go.Proofs.YtldhiaiaildnlaaGreatDoor.Q Go.Proofs.YtldhiaiaildnlaaGreatDoorW.PrintWords Go.Proofs.YtldhiaiaildnlaaGreatDoorW.PrintLast Go.Proofs.YtldhiaiaildnlaaGreatDoorW.PrintMore
theorem zc6 {x : Nat} (h : x < 1000000000) : bv [(x : Int)] = x ∧ W [(x : Int)] := ⟨by simp [bv], W.cons (by omega) (by omega) W.nil⟩
theorem zbe {n m : Nat} (h : n < 1000000000 * m) : (bg n).length ≤ (bg m).length + 1 := by
 apply zaz.mp
 have : m < 1000000000 ^ (bg m).length := zaz.mpr (Nat.le_refl _)
 rw [Nat.pow_succ, Nat.mul_comm]
 omega
theorem zav {n m : Nat} (h : n ≤ m) : (bg n).length ≤ (bg m).length := zaz.mp (Nat.lt_of_le_of_lt h (zaz.mpr (Nat.le_refl _)))
theorem tdiv2 (n : Nat) : Int.tdiv (n : Int) 2 = ((n / 2 : Nat) : Int) := rfl
theorem over_l : ∀ (k : Nat),
  (∀ (a q : List Int) (u m : Nat) (i : Int) (r : List Int × List Int), W a → 0 < u → a.length ≤ 50000 → (bg u).length ≤ 50000 → W q → q.length = a.length → -1 ≤ i → i < a.length → m < u →
   (∀ j : Nat, (j : Int) ≤ i → q.getD j 0 = 0) → bv (a.drop (i + 1).toNat) = bv (q.drop (i + 1).toNat) * u + m → bv q = 1000000000 ^ (i + 1).toNat * bv (q.drop (i + 1).toNat) →
   z6.l0 k a (bg u) q (bg m) i = some r → r = (bg (bv a / u), bg (bv a % u))) ∧
  (∀ (a q : List Int) (u m i lo hi : Nat) (r : List Int × List Int), W a → 0 < u → a.length ≤ 50000 → (bg u).length ≤ 50000 → W q → q.length = a.length → i < a.length → m < 1000000000 * u →
   lo < hi → hi ≤ 1000000000 → u * lo ≤ m → m < u * hi →
   (∀ j : Nat, j ≤ i → q.getD j 0 = 0) → bv (a.drop i) = 1000000000 * bv (q.drop (i + 1)) * u + m → bv q = 1000000000 ^ (i + 1) * bv (q.drop (i + 1)) →
   z6.l1 k a (bg u) q (bg m) (i : Int) (lo : Int) (hi : Int) = some r → r = (bg (bv a / u), bg (bv a % u))) := by
 intro k
 induction k with
 | zero =>
  constructor <;> (intros; rename_i h; cases h)
 | succ k ih =>
  obtain ⟨ih0, ih1⟩ := ih
  refine ⟨?_, ?_⟩
  ·intro a q u m i r ha hu la lu hq lq h0 h1 hm hz hv hw h
   rw [z6.l0] at h
   by_cases hi : i ≥ 0
   ·rw [if_pos hi] at h
    obtain ⟨j, rfl⟩ : ∃ j : Nat, i = j := ⟨i.toNat, by omega⟩
    obtain ⟨_, h⟩ := ifE h
    obtain ⟨_, h⟩ := ifE h
    obtain ⟨y, hy, h⟩ := bindE h
    obtain rfl := someE hy
    obtain ⟨_, h⟩ := ifE h
    obtain ⟨t, h2, h⟩ := bindE h
    rw [xG] at h2
    have g := zaq ha j
    rw [show ((j : Int) + 1).toNat = j + 1 from by omega] at hv hw
    have hlu := zav (Nat.le_of_lt hm)
    have ht := zaM (W.cons g.1 g.2 (bg_W m)) (by simp; omega) h2
    rw [bv, y9] at ht
    rw [ht] at h
    refine ih1 a q u ((a.getD j 0).toNat + 1000000000 * m) j 0 1000000000 r ha hu la lu hq lq (by omega) (by omega) (by decide) (Nat.le_refl _) (by omega) (by omega) (fun i hi => hz i (by omega)) ?_ hw h
    rw [zaQ a j (by omega), hv, Nat.mul_add, Nat.mul_assoc]
    omega
   ·rw [if_neg hi] at h
    obtain rfl : i = -1 := by omega
    obtain ⟨t, h2, h⟩ := bindE h
    obtain rfl := someE h
    rw [zaM hq (by omega) h2]
    have hv2 : bv a = bv q * u + m := by simpa using hv
    rw [hv2, Nat.mul_comm, Nat.mul_add_div hu, Nat.mul_add_mod, Nat.div_eq_of_lt hm, Nat.mod_eq_of_lt hm, Nat.add_zero]
  ·intro a q u m i lo hi r ha hu la lu hq lq hi2 hm hlh hh hlo hhi hz hv hw h
   rw [z6.l1] at h
   rw [xS (x := (hi : Int) - lo) (n := hi - lo) (by omega) (by omega)] at h
   have hlu := zbe hm
   by_cases hc : ((hi - lo : Nat) : Int) > 1
   ·rw [if_pos hc, xS (x := (lo : Int) + hi) (n := lo + hi) (by omega) (by omega), tdiv2, u64 (by omega) (by omega)] at h
    obtain ⟨t, h1, h⟩ := bindE h
    obtain ⟨c, h2, h⟩ := bindE h
    obtain ⟨b1, b2⟩ := zc6 (x := (lo + hi) / 2) (by omega)
    have ht := zas (bg_W u) b2 (by omega) (by simp) h1
    rw [b1, y9] at ht
    rw [ht] at h2
    have hlt : u * ((lo + hi) / 2) < 1000000000 * u := by
     rw [Nat.mul_comm 1000000000]
     exact Nat.mul_lt_mul_of_pos_left (by omega) hu
    have hs := zcH (by have := zbe hlt; omega) (by omega) h2
    unfold Sgn at hs
    by_cases hle : c ≤ 0
    ·rw [if_pos hle] at h
     exact ih1 a q u m i _ hi r ha hu la lu hq lq hi2 hm (by omega) hh (by omega) hhi hz hv hw h
    ·rw [if_neg hle] at h
     exact ih1 a q u m i lo _ r ha hu la lu hq lq hi2 hm (by omega) (by omega) hlo (by omega) hz hv hw h
   ·rw [if_neg hc] at h
    obtain rfl : hi = lo + 1 := by omega
    obtain ⟨_, h⟩ := ifE h
    obtain ⟨_, h⟩ := ifE h
    obtain ⟨t, h1, h⟩ := bindE h
    obtain ⟨c, h2, h⟩ := bindE h
    obtain ⟨d, h3, h⟩ := bindE h
    obtain ⟨b1, b2⟩ := zc6 (x := lo) (by omega)
    have ht := zaM b2 (by simp) h1
    rw [b1] at ht
    rw [ht] at h2
    have ll : (bg lo).length ≤ 1 := zaz.mp (by omega)
    have hc2 := zas (bg_W u) (bg_W lo) (by omega) (by omega) h2
    rw [y9, y9] at hc2
    rw [hc2] at h3
    have hl2 := zav hlo
    have hd := zbA (bg_W m) (bg_W _) (by omega) (by omega) (by rw [y9, y9]; exact hlo) h3
    rw [y9, y9] at hd
    rw [hd] at h
    rw [Int.toNat_natCast, w64 (by omega) (by omega)] at h
    have hql : (q.set i (lo : Int)).length = q.length := List.length_set
    have hdr : (q.set i (lo : Int)).drop (i + 1) = q.drop (i + 1) := by rw [List.drop_set, if_pos (by omega)]
    have e1 := zdY q i lo (by omega) (hz i (Nat.le_refl _))
    have e2 : bv ((q.set i (lo : Int)).drop i) = lo + 1000000000 * bv (q.drop (i + 1)) := by
     rw [zaQ _ _ (by omega), hdr, List.getD_eq_getElem?_getD, List.getElem?_set_self (by omega)]; rfl
    have hi3 : ((i : Int) - 1 + 1).toNat = i := by omega
    refine ih0 a (q.set i (lo : Int)) u (m - u * lo) _ r ha hu la lu (hq.set i (by omega) (by omega)) (by omega) (by omega) (by omega) ?_ ?_ ?_ ?_ h
    ·rw [Nat.mul_succ] at hhi; omega
    ·intro j hj
     rw [zaw _ _ _ _ (by omega)]
     exact hz j (by omega)
    ·rw [hi3, e2, hv, Nat.add_mul, Nat.mul_comm lo u]; omega
    ·rw [hi3, e2, e1, hw, zaI, Nat.mul_add]; omega
theorem zcU {k : Nat} {n u : Nat} {r : List Int × List Int} (hu : 0 < u) (ln : (bg n).length ≤ 40000) (lu : (bg u).length ≤ 40000) (h : z6.f k (bg n) (bg u) = some r) : r = (bg (n / u), bg (n % u)) := by
 unfold z6.f at h
 obtain ⟨_, h⟩ := ifE h
 obtain ⟨_, h⟩ := ifE h
 rw [Int.toNat_natCast, w64 (by omega) (by omega)] at h
 have e : (((bg n).length : Int) - 1 + 1).toNat = (bg n).length := by omega
 have := (over_l k).1 (bg n) (List.replicate (bg n).length 0) u 0 (((bg n).length : Int) - 1) r (bg_W n) hu (by omega) (by omega) (W.zeros _) List.length_replicate (by omega) (by omega) hu
  (fun j _ => by rw [List.getD_eq_getElem?_getD, List.getElem?_replicate]; split <;> rfl)
  (by rw [e, xR _ _ (Nat.le_refl _), xR _ _ (by simp)]; omega)
  (by rw [e, xR _ _ (by simp), zck]; omega) h
 rw [y9] at this
 exact this
theorem zeq (n : Nat) : (((bg n).length : Int) == 0) = (n == 0) := by
 rw [Bool.eq_iff_iff, beq_iff_eq, beq_iff_eq]
 constructor
 ·intro h; exact zd0 (List.length_eq_zero_iff.mp (by omega))
 ·intro h; subst h; rfl
theorem up_sgn (how : Nat) (s o z : Bool) {t : Int} {a b : Nat} (h : Sgn t a b) : up how s o t z = up how s o (sg a b) z := by
 unfold Sgn at h
 have h1 : decide (t > 0) = decide (sg a b > 0) := by
  rw [decide_eq_decide]
  unfold sg
  split
  ·omega
  ·split <;> omega
 have h2 : (t == 0) = (sg a b == 0) := by
  rw [Bool.eq_iff_iff, beq_iff_eq, beq_iff_eq]
  unfold sg
  split
  ·omega
  ·split <;> omega
 unfold up
 rw [h1, h2]
theorem zen (how : Nat) {k : Nat} {s : Bool} {n u : Nat} {r t : List Int} {c : Int} {x : Bool} (hu : 0 < u) (ln : (bg n).length ≤ 40000) (lu : (bg u).length ≤ 40000)
  (h1 : z2.f k (bg (n % u)) (bg (n % u)) = some t) (h2 : yu.f k t (bg u) = some c) (h3 : up how s (n / u % 2 == 1) c (n % u == 0) = x)
  (h : (if x = true then (z2.f k (bg (n / u)) [1]).bind fun t => some t else some (bg (n / u))) = some r) : r = bg (rnd how s n u) := by
 have hm : n % u < u := Nat.mod_lt _ hu
 have l1 := zav (Nat.le_of_lt hm)
 have l2 := zav (Nat.div_le_self n u)
 have ht := zcR (bg_W _) (bg_W _) (by omega) (by omega) h1
 rw [y9, ← Nat.two_mul] at ht
 rw [ht] at h2
 have l3 := zbe (n := 2 * (n % u)) (m := u) (by omega)
 have hs := zcH (by omega) (by omega) h2
 rw [up_sgn how _ _ _ hs] at h3
 unfold rnd
 rw [h3]
 by_cases hx : x = true
 ·rw [if_pos hx] at h ⊢
  obtain ⟨t, h4, h⟩ := bindE h
  obtain rfl := someE h
  have := zcR (bg_W _) (b := [1]) (W.cons (by omega) (by omega) W.nil) (by omega) (by simp) h4
  rw [y9] at this
  exact this
 ·rw [if_neg hx] at h ⊢
  exact (someE h).symm
theorem zee {q m : Nat} {r : List Int} {P : Prop} {f : Bool → Option (List Int)} (ln : (bg m).length ≤ 40000) (J : ∀ o, o = (q % 2 == 1) → f o = some r → P)
  (h : (if ((bg q).length : Int) > 0 then (if 0 < ((bg q).length : Int) then f ((Int.tmod (rd (bg q) 0) 2) == 1) else none) else f false) = some r) : P := by
 rcases Nat.eq_zero_or_pos q with h0 | h0
 ·subst h0
  rw [zbE, if_neg (by simp)] at h
  exact J false rfl h
 ·rw [zbK h0] at h
  rw [if_pos (by simp)] at h
  obtain ⟨_, h⟩ := ifE h
  refine J _ ?_ h
  show (Int.tmod ((q % 1000000000 : Nat) : Int) 2 == 1) = _
  rw [Bool.eq_iff_iff, beq_iff_eq, beq_iff_eq]
  rw [show Int.tmod ((q % 1000000000 : Nat) : Int) 2 = ((q % 1000000000 % 2 : Nat) : Int) from rfl]
  omega
theorem ways_0 (a b : Bool) (t : Int) (z : Bool) : xU.f a b t z = some (up 0 a b t z) := by
 unfold xU.f
 show _ = some (decide (t > 0) || (t == 0 && !a))
 rw [show (decide (t > 0) || (t == 0 && !a)) = (if t > 0 then true else if t = 0 then !a else false) from by by_cases h1 : t > 0 <;> by_cases h2 : t = 0 <;> simp [h1, h2]]
 by_cases h1 : t > 0
 ·rw [if_pos h1, if_pos h1]
 ·rw [if_neg h1, if_neg h1]
  split <;> rfl
theorem zdT {k : Nat} {s : Bool} {n u : Nat} {r : List Int} (hu : 0 < u) (ln : (bg n).length ≤ 40000) (lu : (bg u).length ≤ 40000) (h : yl.f k s (bg n) (bg u) = some r) : r = bg (rnd 0 s n u) := by
 unfold yl.f at h
 have J : ∀ k o, o = (n / u % 2 == 1) → yl.j0 k s (bg u) (bg (n / u)) (bg (n % u)) o = some r → r = bg (rnd 0 s n u) := by
  intro k o ho h
  cases k with
  | zero => cases h
  | succ k =>
   rw [yl.j0] at h
   obtain ⟨t, h1, h⟩ := bindE h
   obtain ⟨c, h2, h⟩ := bindE h
   obtain ⟨x, h3, h⟩ := bindE h
   exact zen 0 hu ln lu h1 h2 (by rw [ways_0, ho, zeq] at h3; exact someE h3) h
 obtain ⟨t, h1, h⟩ := bindE h
 rw [zcU hu ln lu h1] at h
 exact zee ln (fun o ho h => J k o ho h) h
theorem ways_1 (a b : Bool) (t : Int) (z : Bool) : xT.f a b t z = some (up 1 a b t z) := by
 unfold xT.f
 show _ = some (decide (t > 0) || (t == 0 && b))
 rw [show (decide (t > 0) || (t == 0 && b)) = (if t > 0 then true else if t = 0 then b else false) from by by_cases h1 : t > 0 <;> by_cases h2 : t = 0 <;> simp [h1, h2]]
 by_cases h1 : t > 0
 ·rw [if_pos h1, if_pos h1]
 ·rw [if_neg h1, if_neg h1]
  split <;> rfl
theorem zdV {k : Nat} {s : Bool} {n u : Nat} {r : List Int} (hu : 0 < u) (ln : (bg n).length ≤ 40000) (lu : (bg u).length ≤ 40000) (h : ym.f k s (bg n) (bg u) = some r) : r = bg (rnd 1 s n u) := by
 unfold ym.f at h
 have J : ∀ k o, o = (n / u % 2 == 1) → ym.j0 k s (bg u) (bg (n / u)) (bg (n % u)) o = some r → r = bg (rnd 1 s n u) := by
  intro k o ho h
  cases k with
  | zero => cases h
  | succ k =>
   rw [ym.j0] at h
   obtain ⟨t, h1, h⟩ := bindE h
   obtain ⟨c, h2, h⟩ := bindE h
   obtain ⟨x, h3, h⟩ := bindE h
   exact zen 1 hu ln lu h1 h2 (by rw [ways_1, ho, zeq] at h3; exact someE h3) h
 obtain ⟨t, h1, h⟩ := bindE h
 rw [zcU hu ln lu h1] at h
 exact zee ln (fun o ho h => J k o ho h) h
def wayN (how : Nat) : Nat := match how with
 | 0 => 50
 | 1 => 51
 | 2 => 52
 | 3 => 53
 | _ => 54
theorem zcG {k : Nat} {s : Bool} {n u how : Nat} {r : List Int} (hh : how ≤ 4) (hu : 0 < u) (ln : (bg n).length ≤ 40000) (lu : (bg u).length ≤ 40000) (h : yX.f k s (bg n) (bg u) (wayN how) = some r) : r = bg (rnd how s n u) := by
 unfold yX.f at h
 have : how = 0 ∨ how = 1 ∨ how = 2 ∨ how = 3 ∨ how = 4 := by omega
 rcases this with rfl | rfl | rfl | rfl | rfl
 ·rw [if_pos (by decide)] at h; exact zdT hu ln lu h
 ·rw [if_neg (by decide), if_pos (by decide)] at h; exact zdV hu ln lu h
 ·rw [if_neg (by decide), if_neg (by decide), if_pos (by decide)] at h; cases h
 ·rw [if_neg (by decide), if_neg (by decide), if_neg (by decide), if_pos (by decide)] at h; cases h
 ·rw [if_neg (by decide), if_neg (by decide), if_neg (by decide), if_neg (by decide), if_pos (by decide)] at h; cases h
end Go.Proofs.YtldhiaiaildnlaaGreatDoor.Nm
