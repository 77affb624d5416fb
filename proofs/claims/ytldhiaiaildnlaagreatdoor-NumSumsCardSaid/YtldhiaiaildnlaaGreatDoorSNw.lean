/- Texts of the claim: Nw. -/
import Derived.Test.YtldhiaiaildnlaaGreatDoorSNv
import Derived.Test.YtldhiaiaildnlaaGreatDoorSNk
namespace Go.Proofs.YtldhiaiaildnlaaGreatDoor.Nm
set_option linter.unusedVariables false
open Go Go.RowKit Go.Proofs.YtldhiaiaildnlaaGreatDoor.Q Go.Proofs.YtldhiaiaildnlaaGreatDoorW.PrintWords Go.Proofs.YtldhiaiaildnlaaGreatDoorW.PrintLast Go.Proofs.YtldhiaiaildnlaaGreatDoorW.PrintMore
theorem rev_l0_t : ∀ (n : Nat) (l : List Int) (i j : Int), j - i ≤ n → 0 ≤ i → j < l.length → l.length ≤ 1000000 → T (fun k => zC.l0 k l i j) := by
 intro n
 induction n with
 | zero =>
  intro l i j h1 h2 h3 h4
  refine T.succ ?_
  simp only [zC.l0]
  exact T.ite (fun h => by omega) (fun _ => T.pure _)
 | succ n ih =>
  intro l i j h1 h2 h3 h4
  refine T.succ ?_
  simp only [zC.l0]
  refine T.ite (fun h => ?_) (fun _ => T.pure _)
  rw [w64 (x := i + 1) (by omega) (by omega), w64 (x := j - 1) (by omega) (by omega)]
  exact T.grd (by omega) (T.grd (by omega) (T.grd (by omega) (T.grd (by omega) (ih _ _ _ (by omega) (by omega) (by rw [List.length_set, List.length_set]; omega) (by rw [List.length_set, List.length_set]; omega)))))
theorem rev_t {l : List Int} (hl : l.length ≤ 1000000) : T (fun k => zC.f k l) := by
 unfold zC.f
 rw [w64 (by omega) (by omega)]
 exact rev_l0_t l.length l _ _ (by omega) (by omega) (by omega) hl
theorem dig_l3_t : ∀ (n : Nat) (l : List Int), 21 ≤ l.length + n → l.length ≤ 200000 → T (fun k => zp.l3 k 21 l) := by
 intro n
 induction n with
 | zero =>
  intro l h1 h2
  refine T.succ ?_
  simp only [zp.l3]
  exact T.ite (fun h => by omega) (fun _ => T.bind (rev_t (by omega)) fun _ _ => T.pure _)
 | succ n ih =>
  intro l h1 h2
  refine T.succ ?_
  simp only [zp.l3]
  have e : (l ++ [48]).length = l.length + 1 := by rw [List.length_append, List.length_singleton]
  exact T.ite (fun h => T.grd (by omega) (ih _ (by omega) (by omega))) (fun _ => T.bind (rev_t (by omega)) fun _ _ => T.pure _)
theorem zcg (l : List Int) (hl : l.length ≤ 200000) : T (fun k => zp.j3 k 21 l) := by
 refine T.succ ?_
 simp only [zp.j3]
 exact dig_l3_t 21 l (by omega) hl
theorem dig_l2_t : ∀ (n : Nat) (l : List Int), l.length ≤ n → n ≤ 200000 → T (fun k => zp.l2 k 21 l) := by
 intro n
 induction n with
 | zero =>
  intro l h1 h2
  refine T.succ ?_
  simp only [zp.l2]
  exact T.ite (fun h => by omega) (fun _ => zcg l (by omega))
 | succ n ih =>
  intro l h1 h2
  refine T.succ ?_
  simp only [zp.l2]
  rw [w64 (x := (l.length : Int) - 1) (by omega) (by omega)]
  exact T.ite (fun h => T.grd (by omega) (T.grd (by omega) (T.ite (fun _ => T.grd (by omega) (ih _ (by rw [List.length_take]; omega) (by omega))) (fun _ => zcg l (by omega))))) (fun _ => zcg l (by omega))
theorem dig_l1_t (x8 : List Int) (i : Nat) (hi : i < 100000) (B : Nat) (hB : B ≤ 200000) (H : ∀ y : List Int, y.length = B → T (fun k => zp.l0 k 21 y x8 (x8.length : Int) ((i + 1 : Nat) : Int))) :
  ∀ (n : Nat) (y : List Int) (w : Int) (j : Nat), 9 = j + n → y.length + n = B → T (fun k => zp.l1 k 21 y w x8 (x8.length : Int) (i : Int) (j : Int)) := by
 intro n
 induction n with
 | zero =>
  intro y w j h1 h2
  refine T.succ ?_
  simp only [zp.l1]
  rw [w64 (x := (i : Int) + 1) (by omega) (by omega), show (i : Int) + 1 = ((i + 1 : Nat) : Int) from rfl]
  exact T.ite (fun h => by omega) (fun _ => H _ (by omega))
 | succ n ih =>
  intro y w j h1 h2
  refine T.succ ?_
  simp only [zp.l1]
  rw [w64 (x := (j : Int) + 1) (by omega) (by omega), show (j : Int) + 1 = ((j + 1 : Nat) : Int) from rfl]
  exact T.ite (fun h => T.grd (by omega) (ih _ _ (j + 1) (by omega) (by rw [List.length_append, List.length_singleton]; omega))) (fun h => by omega)
theorem dig_l0_t (x8 : List Int) (h8 : x8.length ≤ 10000) : ∀ (n : Nat) (y : List Int) (i : Nat), x8.length = i + n → y.length = 9 * i → T (fun k => zp.l0 k 21 y x8 (x8.length : Int) (i : Int)) := by
 intro n
 induction n with
 | zero =>
  intro y i h1 h2
  refine T.succ ?_
  simp only [zp.l0]
  exact T.ite (fun h => by omega) (fun _ => dig_l2_t y.length y (Nat.le_refl _) (by omega))
 | succ n ih =>
  intro y i h1 h2
  refine T.succ ?_
  simp only [zp.l0]
  refine T.ite (fun h => T.grd (by omega) (T.grd (by omega) ?_)) (fun h => by omega)
  exact dig_l1_t x8 i (by omega) (9 * (i + 1)) (by omega) (fun z hz => ih z (i + 1) (by omega) hz) 9 y _ 0 rfl (by omega)
theorem digits_t {l : List Int} (hl : l.length ≤ 10000) : T (fun k => zp.f k l 21) := by
 unfold zp.f
 exact dig_l0_t l hl l.length [] 0 (Nat.zero_add _).symm rfl
theorem digits_y {n : Nat} (hn : (bg n).length ≤ 300) : Y (fun k => zp.f k (bg n) 21) (fun r => dl r = (ds n).map ch) := Y.of (digits_t (by omega)) fun k r h => zdi hn h
theorem zcL {s : Bool} {n : Nat} (hn : (bg n).length ≤ 300) : T (fun k => zO.f k s (bg n)) := by
 unfold zO.f
 refine T.yb (digits_y hn) fun t ht => ?_
 have hl := yQ t
 have hlen := zbf n
 have hds : (dl t).length = (ds n).length := by rw [ht, List.length_map]
 have hsz : t.size ≤ 100000 := by
  have := zeh hn
  omega
 rw [w64 (x := (t.size : Int) - 20) (by omega) (by omega)]
 have e0 : ((t.size : Int) - 20).toNat = (ds n).length - 20 := by omega
 refine T.grd (by omega) (T.grd (by omega) ?_)
 rw [e0]
 obtain ⟨u, hu⟩ : ∃ u, yk.f (t.extract ((ds n).length - 20) t.size) (⟨#[48]⟩ : ByteArray) = some u := by
  unfold yk.f
  rw [if_pos ⟨rfl, by decide, by rw [ByteArray.size_extract]; omega⟩]
  exact ⟨_, rfl⟩
 have h2 := zbM hu
 rw [zaO, List.take_of_length_le (by rw [List.length_drop]; omega), ht, ← List.map_drop, zd6 (zdP n)] at h2
 have h3 := congrArg List.length h2
 rw [yQ, List.length_map] at h3
 have h4 := zcf n
 unfold frac at h4
 have hE : (t.extract 0 ((ds n).length - 20)).size = min ((ds n).length - 20) t.size - 0 := ByteArray.size_extract
 have hA := ByteArray.size_append (a := (⟨#[46]⟩ : ByteArray)) (b := u)
 have hB := ByteArray.size_append (a := t.extract 0 ((ds n).length - 20)) (b := (⟨#[46]⟩ : ByteArray) ++ u)
 have h1 : (⟨#[46]⟩ : ByteArray).size = 1 := rfl
 refine T.sb hu (T.ite (fun _ => T.ite (fun _ => T.grd (by omega) (T.pure _)) (fun _ => T.pure _)) (fun _ => T.grd (by omega) (T.grd (by omega) (T.ite (fun _ => T.grd (by omega) (T.pure _)) (fun _ => T.pure _)))))
theorem zdn {s : ByteArray} (hs : s.size ≤ 1000000000) : T (fun k => zt.f k s) := by
 unfold zt.f
 refine T.eq (zed hs) ?_
 cases hr : rdn (dl s) with
 | error e =>
  have hp : rdnP (dl s) = (false, [], e) := by unfold rdnP; rw [hr]
  rw [hp]
  exact T.ite (fun h => absurd h (zbv hr)) (fun _ => T.pure _)
 | ok y =>
  have hp : rdnP (dl s) = (y.1, bg y.2, 0) := by unfold rdnP; rw [hr]
  rw [hp]
  have := xJ (zat hr)
  exact T.ite (fun _ => T.bind (zcL (by omega)) fun _ _ => T.ite (fun _ => T.pure _) (fun _ => T.pure _)) (fun h => absurd rfl h)
theorem za0 {s : ByteArray} (hs : s.size ≤ 1000000000) : Y (fun k => zt.f k s) (fun r => r = canP (dl s)) := Y.of (zdn hs) fun k r h => zaE hs h
theorem zbg {s : Bool} {n : Nat} (hn : (bg n).length ≤ 40000) : T (fun k => yh.f k s (bg n)) := by
 unfold yh.f
 refine T.eq (zbJ hn) ?_
 cases hr : fit (s, n) with
 | error e =>
  have hp : chk (s, n) = (false, [], e) := by unfold chk; rw [hr]
  rw [hp]
  exact T.ite (fun _ => T.bind (zcL (s := false) (n := 0) (by decide)) fun _ _ => T.pure _) (fun _ => T.pure _)
 | ok y =>
  have hp : chk (s, n) = (y.1, bg y.2, 0) := by unfold chk; rw [hr]
  rw [hp]
  have := xJ (zdL hr).1
  exact T.ite (fun _ => T.bind (zcL (by omega)) fun _ _ => T.pure _) (fun h => absurd rfl h)
theorem zcl {F : Nat → Bool → List Int → Bool → List Int → Option (ByteArray × Int)} {a b : ByteArray} (ha : a.size ≤ 1000000000) (hb : b.size ≤ 1000000000)
  (hF : ∀ x y, Fine x → Fine y → T (fun k => F k x.1 (bg x.2) y.1 (bg y.2))) :
  T (fun k => (zt.f k a).bind fun bt => ((zt.f k b).bind fun bu => (if bt.2.2 = 0 then (if bu.2.2 = 0 then ((F k bt.1 bt.2.1 bu.1 bu.2.1).bind fun bv => (some (bv.1, bv.2))) else (some ((⟨#[]⟩ : ByteArray), 1))) else (some ((⟨#[]⟩ : ByteArray), 1))))) := by
 refine T.eq (za0 ha) (T.eq (za0 hb) ?_)
 cases hx : can (dl a) with
 | none =>
  have hp : canP (dl a) = (false, [], 1) := by unfold canP; rw [hx]
  rw [hp]
  exact T.ite (fun h => absurd h (by decide)) (fun _ => T.pure _)
 | some x =>
  have hp : canP (dl a) = (x.1, bg x.2, 0) := by unfold canP; rw [hx]
  rw [hp]
  refine T.ite (fun _ => ?_) (fun h => absurd rfl h)
  cases hy : can (dl b) with
  | none =>
   have hp : canP (dl b) = (false, [], 1) := by unfold canP; rw [hy]
   rw [hp]
   exact T.ite (fun h => absurd h (by decide)) (fun _ => T.pure _)
  | some y =>
   have hp : canP (dl b) = (y.1, bg y.2, 0) := by unfold canP; rw [hy]
   rw [hp]
   exact T.ite (fun _ => T.bind (hF x y (zaP hx).2 (zaP hy).2) fun _ _ => T.pure _) (fun h => absurd rfl h)
theorem sum_t {x y : Bool × Nat} (hx : x.2 < 10 ^ 50) (hy : y.2 < 10 ^ 50) : T (fun k => yt.f k x.1 (bg x.2) y.1 (bg y.2)) := by
 unfold yt.f
 have lx := len10 hx (by decide)
 have ly := len10 hy (by decide)
 have la : (bg (x.2 + y.2)).length ≤ 28 := len10 (m := 51) (by omega) (by decide)
 refine T.ite (fun _ => T.eq (zb8 (by omega) (by omega)) (T.bind (zbg (by omega)) fun _ _ => T.pure _)) (fun _ => T.yb (cmp_y (by omega) (by omega)) fun t ht => ?_)
 unfold Sgn at ht
 have l1 : (bg (x.2 - y.2)).length ≤ 28 := len10 (m := 50) (by omega) (by decide)
 have l2 : (bg (y.2 - x.2)).length ≤ 28 := len10 (m := 50) (by omega) (by decide)
 exact T.ite (fun h => T.eq (zef (by omega) (by omega) (by omega)) (T.bind (zbg (by omega)) fun _ _ => T.pure _)) (fun h => T.eq (zef (by omega) (by omega) (by omega)) (T.bind (zbg (by omega)) fun _ _ => T.pure _))
theorem za8 {a b m n : Nat} (ha : a ≤ 10 ^ m) (hb : b ≤ 10 ^ n) : a * b < 10 ^ (m + n + 1) := by
 have h1 : a * b ≤ 10 ^ (m + n) := by rw [Nat.pow_add]; exact Nat.mul_le_mul ha hb
 exact Nat.lt_of_le_of_lt h1 (Nat.pow_lt_pow_right (by decide) (by omega))
theorem rnd_le (how : Nat) (s : Bool) (n u : Nat) (hu : 0 < u) : rnd how s n u ≤ n + 1 := by
 have h6 := Nat.div_le_self n u
 have h7 := zaH how s n u hu
 omega
theorem zcP (how : Nat) (s : Bool) (n u m : Nat) (hu : 0 < u) (hn : n < 10 ^ m) (hm : m ≤ 240) : (bg (rnd how s n u)).length ≤ 28 := by
 refine len10 (m := m + 1) ?_ (by omega)
 have := rnd_le how s n u hu
 have h2 : (10 : Nat) ^ (m + 1) = 10 * 10 ^ m := by rw [Nat.pow_succ]; omega
 omega
theorem Mul_1_t {x y : Bool × Nat} (hx : x.2 < 10 ^ 50) (hy : y.2 < 10 ^ 50) : T (fun k => xH.f k x.1 (bg x.2) y.1 (bg y.2)) := by
 unfold xH.f
 have lx := len10 hx (by decide)
 have ly := len10 hy (by decide)
 have hm := za8 (Nat.le_of_lt hx) (Nat.le_of_lt hy)
 have lm := len10 hm (by decide)
 have l20 := len20
 have hr := zcP 1 (x.1 != y.1) (x.2 * y.2) (10 ^ 20) (50 + 50 + 1) (Nat.pow_pos (by decide)) hm (by decide)
 exact T.eq (zbW (by omega) (by omega)) (T.eq (za6 (n := 20) (by decide)) (T.sb zdM (T.eq (zaZ (Nat.pow_pos (by decide)) (by omega) (by omega)) (T.bind (zbg (by omega)) fun _ _ => T.pure _))))
theorem Div_1_t {x y : Bool × Nat} (hx : x.2 < 10 ^ 50) (hy : y.2 < 10 ^ 50) (h0 : 0 < y.2) : T (fun k => xm.f k x.1 (bg x.2) y.1 (bg y.2)) := by
 unfold xm.f
 have lx := len10 hx (by decide)
 have ly := len10 hy (by decide)
 have hm := za8 (Nat.le_of_lt hx) (Nat.le_refl (10 ^ 20))
 have lm := len10 hm (by decide)
 have l20 := len20
 have hr := zcP 1 (x.1 != y.1) (x.2 * 10 ^ 20) y.2 (50 + 20 + 1) h0 hm (by decide)
 exact T.eq (za6 (n := 20) (by decide)) (T.eq (zbW (by omega) (by omega)) (T.sb zdM (T.eq (zaZ h0 (by omega) (by omega)) (T.bind (zbg (by omega)) fun _ _ => T.pure _))))
theorem Mod_1_t {x y : Bool × Nat} (hx : x.2 < 10 ^ 50) (hy : y.2 < 10 ^ 50) (h0 : 0 < y.2) : T (fun k => xY.f k x.1 (bg x.2) y.1 (bg y.2)) := by
 unfold xY.f
 have lx := len10 hx (by decide)
 have ly := len10 hy (by decide)
 have hq : x.2 % y.2 < 10 ^ 50 := Nat.lt_of_le_of_lt (Nat.mod_le _ _) hx
 have lq := len10 hq (by decide)
 exact T.eq (zdJ h0 (by omega) (by omega)) (T.bind (zbg (by omega)) fun _ _ => T.pure _)
theorem zcJ {n : Nat} (h : ¬ ((bg n).length : Int) = 0) : 0 < n := by
 cases n with
 | zero => exact absurd rfl h
 | succ n => exact Nat.succ_pos n
theorem Add_t {a b : ByteArray} (ha : a.size ≤ 1000000000) (hb : b.size ≤ 1000000000) : T (fun k => zad.f k a b) := by
 unfold zad.f xu.f zaf.f
 exact T.bind (T.ite (fun _ => zcl (F := fun k => yt.f k) ha hb fun x y hx hy => sum_t hx.1 hy.1) (fun h => absurd rfl h)) fun _ _ => T.pure _
theorem Sub_t {a b : ByteArray} (ha : a.size ≤ 1000000000) (hb : b.size ≤ 1000000000) : T (fun k => xI.f k a b) := by
 unfold xI.f xu.f zag.f
 refine T.bind (T.ite (fun h => absurd h (by decide)) (fun _ => T.ite (fun _ => zcl (F := fun k => xN.f k) ha hb fun x y hx hy => ?_) (fun h => absurd rfl h))) fun _ _ => T.pure _
 unfold xN.f
 exact T.bind (sum_t (x := x) (y := (!y.1, y.2)) hx.1 hy.1) fun _ _ => T.pure _
theorem Mul_t {a b : ByteArray} (ha : a.size ≤ 1000000000) (hb : b.size ≤ 1000000000) : T (fun k => xM.f k a b) := by
 unfold xM.f xu.f zah.f
 exact T.bind (T.ite (fun h => absurd h (by decide)) (fun _ => T.ite (fun h => absurd h (by decide)) (fun _ => T.ite (fun _ => zcl (F := fun k => xH.f k) ha hb fun x y hx hy => Mul_1_t hx.1 hy.1) (fun h => absurd rfl h)))) fun _ _ => T.pure _
theorem Neg_t {a : ByteArray} (ha : a.size ≤ 1000000000) : T (fun k => xE.f k a) := by
 unfold xE.f
 exact T.bind (Sub_t (by decide) ha) fun _ _ => T.pure _
theorem Div_t {a b : ByteArray} (ha : a.size ≤ 1000000000) (hb : b.size ≤ 1000000000) : T (fun k => xF.f k a b) := by
 unfold xF.f yZ.f xX.f
 refine T.bind (T.ite (fun _ => zcl (F := fun k => yW.f k) ha hb fun x y hx hy => ?_) (fun h => absurd rfl h)) fun _ _ => T.pure _
 unfold yW.f
 exact T.ite (fun _ => T.pure _) (fun h => T.bind (Div_1_t hx.1 hy.1 (zcJ h)) fun _ _ => T.pure _)
theorem Mod_t {a b : ByteArray} (ha : a.size ≤ 1000000000) (hb : b.size ≤ 1000000000) : T (fun k => xB.f k a b) := by
 unfold xB.f yZ.f
 have J : T (fun k => xV.f k a b) := by
  unfold xV.f
  refine zcl (F := fun k => yV.f k) ha hb fun x y hx hy => ?_
  unfold yV.f
  exact T.ite (fun _ => T.pure _) (fun h => T.bind (Mod_1_t hx.1 hy.1 (zcJ h)) fun _ _ => T.pure _)
 refine T.bind ?_ fun _ _ => T.pure _
 first
  | exact T.ite (fun h => absurd h (by decide)) (fun _ => T.ite (fun h => absurd h (by decide)) (fun _ => T.ite (fun _ => J) (fun h => absurd rfl h)))
  | exact T.ite (fun h => absurd h (by decide)) (fun _ => T.ite (fun _ => J) (fun h => absurd rfl h))
theorem zcN {s p : ByteArray} {d : Int} (hs : s.size ≤ 1000000000) : T (fun k => zW.f k s d p) := by
 unfold zW.f
 have J : ∀ (x : Bool × Nat) (b : Bool), Fine x → (b = false → -30 ≤ d ∧ d ≤ 20) → T (fun k => zW.j0 k d b x.1 (bg x.2)) := by
  intro x b hx hb
  refine T.succ ?_
  simp only [zW.j0]
  refine T.ite (fun _ => T.pure _) (fun h => ?_)
  have hd := hb (by cases b <;> first | rfl | exact absurd rfl h)
  obtain ⟨e, he⟩ : ∃ e : Nat, 20 - d = e := ⟨(20 - d).toNat, by omega⟩
  rw [w64 (x := 20 - d) (by omega) (by omega), he]
  have hu : 0 < 10 ^ e := Nat.pow_pos (by decide)
  have hx1 := hx.1
  have l1 := xJ hx
  have l2 : (bg (10 ^ e)).length ≤ 28 := len10 (m := 51) (Nat.pow_lt_pow_right (by decide) (by omega)) (by decide)
  have l3 := zcP 0 x.1 x.2 (10 ^ e) 50 hu hx1 (by decide)
  have l4 : (bg (rnd 0 x.1 x.2 (10 ^ e) * 10 ^ e)).length ≤ 28 := len10 (za8 (m := 50) (n := 50) (by have := rnd_le 0 x.1 x.2 (10 ^ e) hu; omega) (Nat.pow_le_pow_right (by decide) (by omega))) (by decide)
  exact T.eq (za6 (by omega)) (T.eq (zdl hu (by omega) (by omega)) (T.eq (zbW (by omega) (by omega)) (T.bind (zbg (by omega)) fun _ _ => T.pure _)))
 refine T.eq (za0 hs) ?_
 cases hx : can (dl s) with
 | none =>
  have hp : canP (dl s) = (false, [], 1) := by unfold canP; rw [hx]
  rw [hp]
  exact T.ite (fun h => absurd h (by decide)) (fun _ => T.pure _)
 | some x =>
  have hp : canP (dl s) = (x.1, bg x.2, 0) := by unfold canP; rw [hx]
  rw [hp]
  exact T.ite (fun _ => T.ite (fun _ => J x _ (zaP hx).2 (fun h => by cases h)) (fun h => J x _ (zaP hx).2 (fun h2 => by rw [decide_eq_false_iff_not] at h2; omega))) (fun h => absurd rfl h)
theorem Parse_t {s : ByteArray} (hs : s.size ≤ 1000000000) : T (fun k => xp.f k s) := by
 unfold xp.f
 refine T.eq (zed hs) ?_
 cases hr : rdn (dl s) with
 | error e =>
  have hp : rdnP (dl s) = (false, [], e) := by unfold rdnP; rw [hr]
  rw [hp]
  exact T.ite (fun h => absurd h (zbv hr)) (fun _ => T.pure _)
 | ok y =>
  have hp : rdnP (dl s) = (y.1, bg y.2, 0) := by unfold rdnP; rw [hr]
  rw [hp]
  have := xJ (zat hr)
  exact T.ite (fun _ => T.bind (zcL (by omega)) fun _ _ => T.pure _) (fun h => absurd rfl h)
theorem Add_y {a b : ByteArray} (ha : a.size ≤ 1000000000) (hb : b.size ≤ 1000000000) : Y (fun k => zad.f k a b) (fun r => Ans r (addS (dl a) (dl b))) := Y.of (Add_t ha hb) fun _ _ h => Add_f ha hb h
theorem Sub_y {a b : ByteArray} (ha : a.size ≤ 1000000000) (hb : b.size ≤ 1000000000) : Y (fun k => xI.f k a b) (fun r => Ans r (subS (dl a) (dl b))) := Y.of (Sub_t ha hb) fun _ _ h => Sub_f ha hb h
theorem Mul_y {a b : ByteArray} (ha : a.size ≤ 1000000000) (hb : b.size ≤ 1000000000) : Y (fun k => xM.f k a b) (fun r => Ans r (mulS (dl a) (dl b))) := Y.of (Mul_t ha hb) fun _ _ h => Mul_f ha hb h
theorem Neg_y {a : ByteArray} (ha : a.size ≤ 1000000000) : Y (fun k => xE.f k a) (fun r => Ans r (negS (dl a))) := Y.of (Neg_t ha) fun _ _ h => Neg_f ha h
theorem Div_y {a b : ByteArray} (ha : a.size ≤ 1000000000) (hb : b.size ≤ 1000000000) : Y (fun k => xF.f k a b) (fun r => Ans r (divS (dl a) (dl b))) := Y.of (Div_t ha hb) fun _ _ h => Div_f ha hb h
theorem Mod_y {a b : ByteArray} (ha : a.size ≤ 1000000000) (hb : b.size ≤ 1000000000) : Y (fun k => xB.f k a b) (fun r => Ans r (modS (dl a) (dl b))) := Y.of (Mod_t ha hb) fun _ _ h => Mod_f ha hb h
theorem zc7 {s p : ByteArray} {d : Int} (hp : yg.f p = some 50) (hs : s.size ≤ 1000000000) : Y (fun k => xh.f k s d p) (fun r => Ans r (roundS (dl s) d (some 0))) := by
 refine Y.of (by unfold xh.f; exact T.ite (fun _ => zcN hs) (fun h => absurd hp h)) fun k r h => ?_
 unfold xh.f at h
 rw [if_pos hp] at h
 exact zcO hs h
theorem half_t : yg.f (⟨#[104, 97, 108, 102]⟩ : ByteArray) = some 50 := by
 unfold yg.f
 simp only [xq]
 rw [if_pos (by decide)]
theorem Parse_y {s : ByteArray} (hs : s.size ≤ 1000000000) : Y (fun k => xp.f k s) (fun r => Ans r (parseS (dl s))) := Y.of (Parse_t hs) fun _ _ h => Parse_f hs h
end Go.Proofs.YtldhiaiaildnlaaGreatDoor.Nm
