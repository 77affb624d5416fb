/- Texts of the claim: Nw. -/
import Derived.Test.YtldhiaiaildnlaaDoorUNv
import Derived.Test.YtldhiaiaildnlaaDoorUNk
namespace Go.Proofs.YtldhiaiaildnlaaDoor.Nm
set_option linter.unusedVariables false
open Go Go.RowKit Go.Proofs.YtldhiaiaildnlaaDoor.Q Go.Proofs.YtldhiaiaildnlaaDoorW.PrintWords Go.Proofs.YtldhiaiaildnlaaDoorW.PrintLast Go.Proofs.YtldhiaiaildnlaaDoorW.PrintMore
theorem rev_l0_t : ∀ (n : Nat) (l : List Int) (i j : Int), j - i ≤ n → 0 ≤ i → j < l.length → l.length ≤ 1000000 → T (fun k => zC.l0 k l i j) := by
 intro n
 induction n with
 | zero =>
  intro l i j h1 h2 h3 h4
  refine T.succ ?_
  simp only [zC.l0]
  exact T.ite (fun h => by omega) (fun _ => T.pure _)
 | succ n ih =>
  intro l i j h1 h2 h3 h4
  refine T.succ ?_
  simp only [zC.l0]
  refine T.ite (fun h => ?_) (fun _ => T.pure _)
  rw [w64 (x := i + 1) (by omega) (by omega), w64 (x := j - 1) (by omega) (by omega)]
  exact T.grd (by omega) (T.grd (by omega) (T.grd (by omega) (T.grd (by omega) (ih _ _ _ (by omega) (by omega) (by rw [List.length_set, List.length_set]; omega) (by rw [List.length_set, List.length_set]; omega)))))
theorem rev_t {l : List Int} (hl : l.length ≤ 1000000) : T (fun k => zC.f k l) := by
 unfold zC.f
 rw [w64 (by omega) (by omega)]
 exact rev_l0_t l.length l _ _ (by omega) (by omega) (by omega) hl
theorem dig_l3_t : ∀ (n : Nat) (l : List Int), 21 ≤ l.length + n → l.length ≤ 200000 → T (fun k => zo.l3 k 21 l) := by
 intro n
 induction n with
 | zero =>
  intro l h1 h2
  refine T.succ ?_
  simp only [zo.l3]
  exact T.ite (fun h => by omega) (fun _ => T.bind (rev_t (by omega)) fun _ _ => T.pure _)
 | succ n ih =>
  intro l h1 h2
  refine T.succ ?_
  simp only [zo.l3]
  have e : (l ++ [48]).length = l.length + 1 := by rw [List.length_append, List.length_singleton]
  exact T.ite (fun h => T.grd (by omega) (ih _ (by omega) (by omega))) (fun _ => T.bind (rev_t (by omega)) fun _ _ => T.pure _)
theorem zcf (l : List Int) (hl : l.length ≤ 200000) : T (fun k => zo.j3 k 21 l) := by
 refine T.succ ?_
 simp only [zo.j3]
 exact dig_l3_t 21 l (by omega) hl
theorem dig_l2_t : ∀ (n : Nat) (l : List Int), l.length ≤ n → n ≤ 200000 → T (fun k => zo.l2 k 21 l) := by
 intro n
 induction n with
 | zero =>
  intro l h1 h2
  refine T.succ ?_
  simp only [zo.l2]
  exact T.ite (fun h => by omega) (fun _ => zcf l (by omega))
 | succ n ih =>
  intro l h1 h2
  refine T.succ ?_
  simp only [zo.l2]
  rw [w64 (x := (l.length : Int) - 1) (by omega) (by omega)]
  exact T.ite (fun h => T.grd (by omega) (T.grd (by omega) (T.ite (fun _ => T.grd (by omega) (ih _ (by rw [List.length_take]; omega) (by omega))) (fun _ => zcf l (by omega))))) (fun _ => zcf l (by omega))
theorem dig_l1_t (x8 : List Int) (i : Nat) (hi : i < 100000) (B : Nat) (hB : B ≤ 200000) (H : ∀ y : List Int, y.length = B → T (fun k => zo.l0 k 21 y x8 (x8.length : Int) ((i + 1 : Nat) : Int))) :
  ∀ (n : Nat) (y : List Int) (w : Int) (j : Nat), 9 = j + n → y.length + n = B → T (fun k => zo.l1 k 21 y w x8 (x8.length : Int) (i : Int) (j : Int)) := by
 intro n
 induction n with
 | zero =>
  intro y w j h1 h2
  refine T.succ ?_
  simp only [zo.l1]
  rw [w64 (x := (i : Int) + 1) (by omega) (by omega), show (i : Int) + 1 = ((i + 1 : Nat) : Int) from rfl]
  exact T.ite (fun h => by omega) (fun _ => H _ (by omega))
 | succ n ih =>
  intro y w j h1 h2
  refine T.succ ?_
  simp only [zo.l1]
  rw [w64 (x := (j : Int) + 1) (by omega) (by omega), show (j : Int) + 1 = ((j + 1 : Nat) : Int) from rfl]
  exact T.ite (fun h => T.grd (by omega) (ih _ _ (j + 1) (by omega) (by rw [List.length_append, List.length_singleton]; omega))) (fun h => by omega)
theorem dig_l0_t (x8 : List Int) (h8 : x8.length ≤ 10000) : ∀ (n : Nat) (y : List Int) (i : Nat), x8.length = i + n → y.length = 9 * i → T (fun k => zo.l0 k 21 y x8 (x8.length : Int) (i : Int)) := by
 intro n
 induction n with
 | zero =>
  intro y i h1 h2
  refine T.succ ?_
  simp only [zo.l0]
  exact T.ite (fun h => by omega) (fun _ => dig_l2_t y.length y (Nat.le_refl _) (by omega))
 | succ n ih =>
  intro y i h1 h2
  refine T.succ ?_
  simp only [zo.l0]
  refine T.ite (fun h => T.grd (by omega) (T.grd (by omega) ?_)) (fun h => by omega)
  exact dig_l1_t x8 i (by omega) (9 * (i + 1)) (by omega) (fun z hz => ih z (i + 1) (by omega) hz) 9 y _ 0 rfl (by omega)
theorem digits_t {l : List Int} (hl : l.length ≤ 10000) : T (fun k => zo.f k l 21) := by
 unfold zo.f
 exact dig_l0_t l hl l.length [] 0 (Nat.zero_add _).symm rfl
theorem digits_y {n : Nat} (hn : (bg n).length ≤ 300) : Y (fun k => zo.f k (bg n) 21) (fun r => dl r = (ds n).map ch) := Y.of (digits_t (by omega)) fun k r h => zdg hn h
theorem zcF {s : Bool} {n : Nat} (hn : (bg n).length ≤ 300) : T (fun k => zN.f k s (bg n)) := by
 unfold zN.f
 refine T.yb (digits_y hn) fun t ht => ?_
 have hl := yS t
 have hlen := zba n
 have hds : (dl t).length = (ds n).length := by rw [ht, List.length_map]
 have hsz : t.size ≤ 100000 := by
  have := zek hn
  omega
 rw [w64 (x := (t.size : Int) - 20) (by omega) (by omega)]
 have e0 : ((t.size : Int) - 20).toNat = (ds n).length - 20 := by omega
 refine T.grd (by omega) (T.grd (by omega) ?_)
 rw [e0]
 obtain ⟨u, hu⟩ : ∃ u, ym.f (t.extract ((ds n).length - 20) t.size) (⟨#[48]⟩ : ByteArray) = some u := by
  unfold ym.f
  rw [if_pos ⟨rfl, by decide, by rw [ByteArray.size_extract]; omega⟩]
  exact ⟨_, rfl⟩
 have h2 := zbK hu
 rw [zaN, List.take_of_length_le (by rw [List.length_drop]; omega), ht, ← List.map_drop, zd9 (zdQ n)] at h2
 have h3 := congrArg List.length h2
 rw [yS, List.length_map] at h3
 have h4 := zce n
 unfold frac at h4
 have hE : (t.extract 0 ((ds n).length - 20)).size = min ((ds n).length - 20) t.size - 0 := ByteArray.size_extract
 have hA := ByteArray.size_append (a := (⟨#[46]⟩ : ByteArray)) (b := u)
 have hB := ByteArray.size_append (a := t.extract 0 ((ds n).length - 20)) (b := (⟨#[46]⟩ : ByteArray) ++ u)
 have h1 : (⟨#[46]⟩ : ByteArray).size = 1 := rfl
 refine T.sb hu (T.ite (fun _ => T.ite (fun _ => T.grd (by omega) (T.pure _)) (fun _ => T.pure _)) (fun _ => T.grd (by omega) (T.grd (by omega) (T.ite (fun _ => T.grd (by omega) (T.pure _)) (fun _ => T.pure _)))))
theorem zdn {s : ByteArray} (hs : s.size ≤ 1000000000) : T (fun k => zH.f k s) := by
 unfold zH.f
 refine T.eq (zeh hs) ?_
 cases hr : rdn (dl s) with
 | error e =>
  have hp : rdnP (dl s) = (false, [], e) := by unfold rdnP; rw [hr]
  rw [hp]
  exact T.ite (fun h => absurd h (zbp hr)) (fun _ => T.pure _)
 | ok y =>
  have hp : rdnP (dl s) = (y.1, bg y.2, 0) := by unfold rdnP; rw [hr]
  rw [hp]
  have := xE (zas hr)
  exact T.ite (fun _ => T.bind (zcF (by omega)) fun _ _ => T.ite (fun _ => T.pure _) (fun _ => T.pure _)) (fun h => absurd rfl h)
theorem zaW {s : ByteArray} (hs : s.size ≤ 1000000000) : Y (fun k => zH.f k s) (fun r => r = canP (dl s)) := Y.of (zdn hs) fun k r h => zaz hs h
theorem zcY {s : Bool} {n : Nat} (hn : (bg n).length ≤ 40000) : T (fun k => yO.f k s (bg n)) := by
 unfold yO.f
 refine T.eq (zbF hn) ?_
 cases hr : fit (s, n) with
 | error e =>
  have hp : chk (s, n) = (false, [], e) := by unfold chk; rw [hr]
  rw [hp]
  exact T.ite (fun _ => T.bind (zcF (s := false) (n := 0) (by decide)) fun _ _ => T.pure _) (fun _ => T.pure _)
 | ok y =>
  have hp : chk (s, n) = (y.1, bg y.2, 0) := by unfold chk; rw [hr]
  rw [hp]
  have := xE (zdO hr).1
  exact T.ite (fun _ => T.bind (zcF (by omega)) fun _ _ => T.pure _) (fun h => absurd rfl h)
theorem zd1 {F : Nat → Bool → List Int → Bool → List Int → Option (ByteArray × Int)} {a b : ByteArray} (ha : a.size ≤ 1000000000) (hb : b.size ≤ 1000000000)
  (hF : ∀ x y, Fine x → Fine y → T (fun k => F k x.1 (bg x.2) y.1 (bg y.2))) :
  T (fun k => (zH.f k a).bind fun bt => ((zH.f k b).bind fun bu => (if bt.2.2 = 0 then (if bu.2.2 = 0 then ((F k bt.1 bt.2.1 bu.1 bu.2.1).bind fun bv => (some (bv.1, bv.2))) else (some ((⟨#[]⟩ : ByteArray), 1))) else (some ((⟨#[]⟩ : ByteArray), 1))))) := by
 refine T.eq (zaW ha) (T.eq (zaW hb) ?_)
 cases hx : can (dl a) with
 | none =>
  have hp : canP (dl a) = (false, [], 1) := by unfold canP; rw [hx]
  rw [hp]
  exact T.ite (fun h => absurd h (by decide)) (fun _ => T.pure _)
 | some x =>
  have hp : canP (dl a) = (x.1, bg x.2, 0) := by unfold canP; rw [hx]
  rw [hp]
  refine T.ite (fun _ => ?_) (fun h => absurd rfl h)
  cases hy : can (dl b) with
  | none =>
   have hp : canP (dl b) = (false, [], 1) := by unfold canP; rw [hy]
   rw [hp]
   exact T.ite (fun h => absurd h (by decide)) (fun _ => T.pure _)
  | some y =>
   have hp : canP (dl b) = (y.1, bg y.2, 0) := by unfold canP; rw [hy]
   rw [hp]
   exact T.ite (fun _ => T.bind (hF x y (zaO hx).2 (zaO hy).2) fun _ _ => T.pure _) (fun h => absurd rfl h)
theorem zbG {a b m n : Nat} (ha : a ≤ 10 ^ m) (hb : b ≤ 10 ^ n) : a * b < 10 ^ (m + n + 1) := by
 have h1 : a * b ≤ 10 ^ (m + n) := by rw [Nat.pow_add]; exact Nat.mul_le_mul ha hb
 exact Nat.lt_of_le_of_lt h1 (Nat.pow_lt_pow_right (by decide) (by omega))
theorem rnd_le (how : Nat) (s : Bool) (n u : Nat) (hu : 0 < u) : rnd how s n u ≤ n + 1 := by
 have h6 := Nat.div_le_self n u
 have h7 := zaS how s n u hu
 omega
theorem zed (how : Nat) (s : Bool) (n u m : Nat) (hu : 0 < u) (hn : n < 10 ^ m) (hm : m ≤ 240) : (bg (rnd how s n u)).length ≤ 28 := by
 refine len10 (m := m + 1) ?_ (by omega)
 have := rnd_le how s n u hu
 have h2 : (10 : Nat) ^ (m + 1) = 10 * 10 ^ m := by rw [Nat.pow_succ]; omega
 omega
theorem Div_1_t {x y : Bool × Nat} (hx : x.2 < 10 ^ 50) (hy : y.2 < 10 ^ 50) (h0 : 0 < y.2) : T (fun k => xl.f k x.1 (bg x.2) y.1 (bg y.2)) := by
 unfold xl.f
 have lx := len10 hx (by decide)
 have ly := len10 hy (by decide)
 have hm := zbG (Nat.le_of_lt hx) (Nat.le_refl (10 ^ 20))
 have lm := len10 hm (by decide)
 have l20 := len20
 have hr := zed 1 (x.1 != y.1) (x.2 * 10 ^ 20) y.2 (50 + 20 + 1) h0 hm (by decide)
 exact T.eq (za2 (n := 20) (by decide)) (T.eq (zbU (by omega) (by omega)) (T.sb even_t (T.eq (zbQ h0 (by omega) (by omega)) (T.bind (zcY (by omega)) fun _ _ => T.pure _))))
theorem IDiv_1_t {x y : Bool × Nat} (hx : x.2 < 10 ^ 50) (hy : y.2 < 10 ^ 50) (h0 : 0 < y.2) : T (fun k => y8.f k x.1 (bg x.2) y.1 (bg y.2)) := by
 unfold y8.f
 have lx := len10 hx (by decide)
 have ly := len10 hy (by decide)
 have hq : x.2 / y.2 < 10 ^ 50 := Nat.lt_of_le_of_lt (Nat.div_le_self _ _) hx
 have lq := len10 hq (by decide)
 have hm := zbG (Nat.le_of_lt hq) (Nat.le_refl (10 ^ 20))
 have lm := len10 hm (by decide)
 have l20 := len20
 exact T.eq (zcR h0 (by omega) (by omega)) (T.eq (za2 (n := 20) (by decide)) (T.eq (zbU (by omega) (by omega)) (T.bind (zcY (by omega)) fun _ _ => T.pure _)))
theorem Mod_1_t {x y : Bool × Nat} (hx : x.2 < 10 ^ 50) (hy : y.2 < 10 ^ 50) (h0 : 0 < y.2) : T (fun k => xV.f k x.1 (bg x.2) y.1 (bg y.2)) := by
 unfold xV.f
 have lx := len10 hx (by decide)
 have ly := len10 hy (by decide)
 have hq : x.2 % y.2 < 10 ^ 50 := Nat.lt_of_le_of_lt (Nat.mod_le _ _) hx
 have lq := len10 hq (by decide)
 exact T.eq (zcR h0 (by omega) (by omega)) (T.bind (zcY (by omega)) fun _ _ => T.pure _)
theorem zbH {n : Nat} (h : ¬ ((bg n).length : Int) = 0) : 0 < n := by
 cases n with
 | zero => exact absurd rfl h
 | succ n => exact Nat.succ_pos n
theorem Div_t {a b : ByteArray} (ha : a.size ≤ 1000000000) (hb : b.size ≤ 1000000000) : T (fun k => xt.f k a b) := by
 unfold xt.f yu.f xU.f
 refine T.bind (T.ite (fun _ => zd1 (F := fun k => yY.f k) ha hb fun x y hx hy => ?_) (fun h => absurd rfl h)) fun _ _ => T.pure _
 unfold yY.f
 exact T.ite (fun _ => T.pure _) (fun h => T.bind (Div_1_t hx.1 hy.1 (zbH h)) fun _ _ => T.pure _)
theorem IDiv_t {a b : ByteArray} (ha : a.size ≤ 1000000000) (hb : b.size ≤ 1000000000) : T (fun k => xD.f k a b) := by
 unfold xD.f yu.f xQ.f
 refine T.bind (T.ite (fun h => absurd h (by decide)) (fun _ => T.ite (fun _ => zd1 (F := fun k => yU.f k) ha hb fun x y hx hy => ?_) (fun h => absurd rfl h))) fun _ _ => T.pure _
 unfold yU.f
 exact T.ite (fun _ => T.pure _) (fun h => T.bind (IDiv_1_t hx.1 hy.1 (zbH h)) fun _ _ => T.pure _)
theorem Mod_t {a b : ByteArray} (ha : a.size ≤ 1000000000) (hb : b.size ≤ 1000000000) : T (fun k => xa.f k a b) := by
 unfold xa.f yu.f xT.f
 refine T.bind (T.ite (fun h => absurd h (by decide)) (fun _ => T.ite (fun h => absurd h (by decide)) (fun _ => T.ite (fun _ => zd1 (F := fun k => yX.f k) ha hb fun x y hx hy => ?_) (fun h => absurd rfl h)))) fun _ _ => T.pure _
 unfold yX.f
 exact T.ite (fun _ => T.pure _) (fun h => T.bind (Mod_1_t hx.1 hy.1 (zbH h)) fun _ _ => T.pure _)
theorem zcH {s p : ByteArray} {d : Int} (hs : s.size ≤ 1000000000) : T (fun k => zX.f k s d p) := by
 unfold zX.f
 have J : ∀ (x : Bool × Nat) (b : Bool), Fine x → (b = false → -30 ≤ d ∧ d ≤ 20) → T (fun k => zX.j0 k d b x.1 (bg x.2)) := by
  intro x b hx hb
  refine T.succ ?_
  simp only [zX.j0]
  refine T.ite (fun _ => T.pure _) (fun h => ?_)
  have hd := hb (by cases b <;> first | rfl | exact absurd rfl h)
  obtain ⟨e, he⟩ : ∃ e : Nat, 20 - d = e := ⟨(20 - d).toNat, by omega⟩
  rw [w64 (x := 20 - d) (by omega) (by omega), he]
  have hu : 0 < 10 ^ e := Nat.pow_pos (by decide)
  have hx1 := hx.1
  have l1 := xE hx
  have l2 : (bg (10 ^ e)).length ≤ 28 := len10 (m := 51) (Nat.pow_lt_pow_right (by decide) (by omega)) (by decide)
  have l3 := zed 0 x.1 x.2 (10 ^ e) 50 hu hx1 (by decide)
  have l4 : (bg (rnd 0 x.1 x.2 (10 ^ e) * 10 ^ e)).length ≤ 28 := len10 (zbG (m := 50) (n := 50) (by have := rnd_le 0 x.1 x.2 (10 ^ e) hu; omega) (Nat.pow_le_pow_right (by decide) (by omega))) (by decide)
  exact T.eq (za2 (by omega)) (T.eq (zdj hu (by omega) (by omega)) (T.eq (zbU (by omega) (by omega)) (T.bind (zcY (by omega)) fun _ _ => T.pure _)))
 refine T.eq (zaW hs) ?_
 cases hx : can (dl s) with
 | none =>
  have hp : canP (dl s) = (false, [], 1) := by unfold canP; rw [hx]
  rw [hp]
  exact T.ite (fun h => absurd h (by decide)) (fun _ => T.pure _)
 | some x =>
  have hp : canP (dl s) = (x.1, bg x.2, 0) := by unfold canP; rw [hx]
  rw [hp]
  exact T.ite (fun _ => T.ite (fun _ => J x _ (zaO hx).2 (fun h => by cases h)) (fun h => J x _ (zaO hx).2 (fun h2 => by rw [decide_eq_false_iff_not] at h2; omega))) (fun h => absurd rfl h)
theorem Parse_t {s : ByteArray} (hs : s.size ≤ 1000000000) : T (fun k => xq.f k s) := by
 unfold xq.f
 refine T.eq (zeh hs) ?_
 cases hr : rdn (dl s) with
 | error e =>
  have hp : rdnP (dl s) = (false, [], e) := by unfold rdnP; rw [hr]
  rw [hp]
  exact T.ite (fun h => absurd h (zbp hr)) (fun _ => T.pure _)
 | ok y =>
  have hp : rdnP (dl s) = (y.1, bg y.2, 0) := by unfold rdnP; rw [hr]
  rw [hp]
  have := xE (zas hr)
  exact T.ite (fun _ => T.bind (zcF (by omega)) fun _ _ => T.pure _) (fun h => absurd rfl h)
theorem Div_y {a b : ByteArray} (ha : a.size ≤ 1000000000) (hb : b.size ≤ 1000000000) : Y (fun k => xt.f k a b) (fun r => Ans r (divS (dl a) (dl b))) := Y.of (Div_t ha hb) fun _ _ h => Div_f ha hb h
theorem IDiv_y {a b : ByteArray} (ha : a.size ≤ 1000000000) (hb : b.size ≤ 1000000000) : Y (fun k => xD.f k a b) (fun r => Ans r (idivS (dl a) (dl b))) := Y.of (IDiv_t ha hb) fun _ _ h => IDiv_f ha hb h
theorem Mod_y {a b : ByteArray} (ha : a.size ≤ 1000000000) (hb : b.size ≤ 1000000000) : Y (fun k => xa.f k a b) (fun r => Ans r (modS (dl a) (dl b))) := Y.of (Mod_t ha hb) fun _ _ h => Mod_f ha hb h
theorem zc5 {s p : ByteArray} {d : Int} (hp : yk.f p = some 67) (hs : s.size ≤ 1000000000) : Y (fun k => xd.f k s d p) (fun r => Ans r (roundS (dl s) d (some 0))) := by
 refine Y.of (by unfold xd.f; exact T.ite (fun _ => zcH hs) (fun h => absurd hp h)) fun k r h => ?_
 unfold xd.f at h
 rw [if_pos hp] at h
 exact zcI hs h
theorem half_t : yk.f (⟨#[104, 97, 108, 102]⟩ : ByteArray) = some 67 := by
 unfold yk.f
 simp only [xr]
 rw [if_pos (by decide)]
theorem Parse_y {s : ByteArray} (hs : s.size ≤ 1000000000) : Y (fun k => xq.f k s) (fun r => Ans r (parseS (dl s))) := Y.of (Parse_t hs) fun _ _ h => Parse_f hs h
end Go.Proofs.YtldhiaiaildnlaaDoor.Nm
