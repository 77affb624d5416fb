/- Texts of the claim: Nx. -/
import Derived.Test.YtldhiaiaildnlaaDoorUNv
import Derived.Test.YtldhiaiaildnlaaDoorUNo
namespace Go.Proofs.YtldhiaiaildnlaaDoor.Nm
set_option linter.unusedVariables false
open Go Go.RowKit Go.Proofs.YtldhiaiaildnlaaDoor.Q Go.Proofs.YtldhiaiaildnlaaDoorW.PrintWords Go.Proofs.YtldhiaiaildnlaaDoorW.PrintLast Go.Proofs.YtldhiaiaildnlaaDoorW.PrintMore
theorem T.pb {α β : Type} {x : α} {F : Nat → α → Option β} (hF : T (fun k => F k x)) : T (fun k => (some x).bind (F k)) := hF
theorem T.ex {α β : Type} {x : Option α} {F : Nat → α → Option β} (h : ∃ v, x = some v) (hF : ∀ v, x = some v → T (fun k => F k v)) : T (fun k => x.bind (F k)) := by
 obtain ⟨v, h⟩ := h
 exact T.sb h (hF v h)
theorem zdB : ∀ (n : Nat) (l : List Int), l.length ≤ n → T (fun k => zh.l0 k l) := by
 intro n
 induction n with
 | zero =>
  intro l h
  refine T.succ ?_
  simp only [zh.l0]
  exact T.ite (fun h => by omega) (fun _ => T.pure _)
 | succ n ih =>
  intro l h
  refine T.succ ?_
  simp only [zh.l0]
  exact T.ite (fun h => T.grd (by omega) (T.ite (fun _ => T.grd (by omega) (ih _ (by rw [List.length_drop]; omega))) (fun _ => T.pure _))) (fun _ => T.pure _)
theorem zbj (l : List Int) : Y (fun k => zh.f k l) (fun r => r = tz l) := Y.of (zdB _ l (Nat.le_refl _)) fun k r h => zec k l r h
theorem zaJ (l : List Int) : T (fun k => zh.f k l) := (zbj l).t
theorem rtrim_y {l : List Int} (h : D l) : Y (fun k => zh.f k l) (fun r => r = dg (dv l)) := Y.mono (zbj l) fun r e => by rw [e, tz_dg h]
theorem zeF : ∀ (n : Nat) (a b : List Int) (i : Nat), a.length = i + n → a.length = b.length → a.length ≤ 1000000 → T (fun k => zy.l0 k a b (i : Int)) := by
 intro n
 induction n with
 | zero =>
  intro a b i h1 h2 h3
  refine T.succ ?_
  simp only [zy.l0]
  exact T.ite (fun h => by omega) (fun _ => T.pure _)
 | succ n ih =>
  intro a b i h1 h2 h3
  refine T.succ ?_
  simp only [zy.l0]
  rw [w64 (x := (i : Int) + 1) (by omega) (by omega), show (i : Int) + 1 = ((i + 1 : Nat) : Int) from rfl]
  exact T.ite (fun h => T.grd (by omega) (T.grd (by omega) (T.ite (fun _ => ih a b (i + 1) (by omega) h2 h3) (fun _ => T.ite (fun _ => T.pure _) (fun _ => T.pure _))))) (fun h => by omega)
theorem zdJ {a b : List Int} (la : a.length ≤ 1000000) : T (fun k => zy.f k a b) := by
 unfold zy.f
 refine T.eq (zbj a) (T.eq (zbj b) ?_)
 have := tz_len a
 exact T.ite (fun h => zeF (tz a).length (tz a) (tz b) 0 (Nat.zero_add _).symm (by omega) (by omega)) (fun _ => T.ite (fun _ => T.pure _) (fun _ => T.pure _))
theorem rcmp_y {a b : List Int} (ha : D a) (hb : D b) (la : a.length ≤ 1000000) (lb : b.length ≤ 1000000) : Y (fun k => zy.f k a b) (fun r => r = sg (dv a) (dv b)) := Y.of (zdJ la) fun k r h => zcK ha hb la lb h
theorem at_t {l : List Int} {i : Nat} (hl : l.length ≤ 1000000) (hi : i ≤ 2000000) : ∃ r, yt.f l (i : Int) = some r := by
 unfold yt.f
 by_cases h : (i : Int) < l.length
 ·rw [if_pos h, w64 (x := (l.length : Int) - 1) (by omega) (by omega), w64 (x := (l.length : Int) - 1 - i) (by omega) (by omega), if_pos (by omega), if_pos (by omega)]
  exact ⟨_, rfl⟩
 ·rw [if_neg h]; exact ⟨_, rfl⟩
theorem zeG (a b : List Int) (la : a.length ≤ 100000) (lb : b.length ≤ 100000) : ∀ (n : Nat) (y : List Int) (c m : Int) (i : Nat), y.length = i + n → m = y.length → y.length ≤ 200001 → T (fun k => zt.l0 k a b m y c (i : Int)) := by
 intro n
 induction n with
 | zero =>
  intro y c m i h1 h2 h3
  refine T.succ ?_
  simp only [zt.l0]
  exact T.ite (fun h => by omega) (fun _ => T.bind (zaJ _) fun _ _ => T.pure _)
 | succ n ih =>
  intro y c m i h1 h2 h3
  refine T.succ ?_
  simp only [zt.l0]
  rw [w64 (x := (i : Int) + 1) (by omega) (by omega), show (i : Int) + 1 = ((i + 1 : Nat) : Int) from rfl, w64 (x := m - 1) (by omega) (by omega), w64 (x := m - 1 - i) (by omega) (by omega)]
  exact T.ite (fun h => T.ex (at_t (by omega) (by omega)) fun _ _ => T.ex (at_t (by omega) (by omega)) fun _ _ => T.grd (by omega) (T.grd (by omega) (ih _ _ m (i + 1) (by rw [List.length_set]; omega) (by rw [List.length_set]; omega) (by rw [List.length_set]; omega)))) (fun h => by omega)
theorem zdK {a b : List Int} (la : a.length ≤ 100000) (lb : b.length ≤ 100000) : T (fun k => zt.f k a b) := by
 unfold zt.f
 rw [zcS, w64 (by omega) (by omega)]
 refine T.grd (by omega) (T.grd (by omega) ?_)
 exact zeG a b la lb (max a.length b.length + 1) _ 0 _ 0 (by rw [List.length_replicate]; omega) (by rw [List.length_replicate]; omega) (by rw [List.length_replicate]; omega)
theorem radd_y {a b : List Int} (ha : D a) (hb : D b) (la : a.length ≤ 100000) (lb : b.length ≤ 100000) : Y (fun k => zt.f k a b) (fun r => r = dg (dv a + dv b)) := Y.of (zdK la lb) fun k r h => zcL ha hb la lb h
theorem zey (a b : List Int) (la : a.length ≤ 100000) (lb : b.length ≤ 100000) : ∀ (n : Nat) (y : List Int) (c : Int) (i : Nat), a.length = i + n → y.length = a.length → T (fun k => zP.l0 k a b y c (i : Int)) := by
 intro n
 induction n with
 | zero =>
  intro y c i h1 h2
  refine T.succ ?_
  simp only [zP.l0]
  exact T.ite (fun h => by omega) (fun _ => T.bind (zaJ _) fun _ _ => T.pure _)
 | succ n ih =>
  intro y c i h1 h2
  refine T.succ ?_
  simp only [zP.l0]
  rw [w64 (x := (i : Int) + 1) (by omega) (by omega), show (i : Int) + 1 = ((i + 1 : Nat) : Int) from rfl, w64 (x := (a.length : Int) - 1) (by omega) (by omega), w64 (x := (a.length : Int) - 1 - i) (by omega) (by omega)]
  exact T.ite (fun h => T.ex (at_t (by omega) (by omega)) fun _ _ => T.ex (at_t (by omega) (by omega)) fun _ _ => T.ite (fun _ => T.grd (by omega) (T.grd (by omega) (ih _ _ (i + 1) (by omega) (by rw [List.length_set]; omega)))) (fun _ => T.grd (by omega) (T.grd (by omega) (ih _ _ (i + 1) (by omega) (by rw [List.length_set]; omega))))) (fun h => by omega)
theorem rsub_t {a b : List Int} (la : a.length ≤ 100000) (lb : b.length ≤ 100000) : T (fun k => zP.f k a b) := by
 unfold zP.f
 refine T.grd (by omega) (T.grd (by omega) ?_)
 exact zey a b la lb a.length _ 0 0 (Nat.zero_add _).symm (by rw [List.length_replicate]; omega)
theorem rsub_y {a b : List Int} (ha : D a) (hb : D b) (la : a.length ≤ 100000) (lb : b.length ≤ 100000) (hle : dv b ≤ dv a) : Y (fun k => zP.f k a b) (fun r => r = dg (dv a - dv b)) := Y.of (rsub_t la lb) fun k r h => rsub_f ha hb la lb hle h
theorem zb3 {l : List Int} {n : Nat} (hl : l.length ≤ 1000000) (hn : n ≤ 1000000) : ya.f l (n : Int) = some (l ++ List.replicate n 0) := by
 unfold ya.f
 simp only [Option.bind_some, List.nil_append, List.length_nil]
 rw [if_pos (by omega), if_pos (by omega), if_pos (by rw [Int.toNat_natCast]; omega), Int.toNat_natCast]
theorem zc0 {n m : Nat} (h : n < 10 * m) : (dg n).length ≤ (dg m).length + 1 := by
 refine zac.mp ?_
 have h1 : m < 10 ^ (dg m).length := zac.mpr (Nat.le_refl _)
 rw [Nat.pow_succ]
 omega
theorem zc1 {n m : Nat} (h : n ≤ m) : (dg n).length ≤ (dg m).length := zac.mp (Nat.lt_of_le_of_lt h (zac.mpr (Nat.le_refl _)))
theorem zeD (a : List Int) (u : Nat) (hu : 0 < u) (lu : (dg u).length ≤ 50000) (i : Nat) (hi : i < 100000)
  (H : ∀ (q : List Int) (m : Nat), q.length = i + 1 → m < u → T (fun k => zp.l0 k a (dg u) q (dg m) ((i + 1 : Nat) : Int))) :
  ∀ (n : Nat) (q : List Int) (m : Nat) (c : Int), m ≤ n → m < 10 * u → q.length = i → T (fun k => zp.l1 k a (dg u) q (dg m) (i : Int) c) := by
 intro n
 induction n with
 | zero =>
  intro q m c hn hm hq
  refine T.succ ?_
  simp only [zp.l1]
  have l1 := zc0 hm
  refine T.eq (rcmp_y (dg_D _) (dg_D _) (by omega) (by omega)) ?_
  rw [xy, xy]
  refine T.ite (fun h => ?_) (fun h => ?_)
  ·have := (zcs m u).mp h; omega
  ·rw [w64 (x := (i : Int) + 1) (by omega) (by omega), show (i : Int) + 1 = ((i + 1 : Nat) : Int) from rfl]
   refine T.pb (T.grd (by rw [List.length_singleton]; omega) (H _ m (by rw [List.length_append, List.length_singleton]; omega) ?_))
   exact Nat.lt_of_not_le fun h2 => h ((zcs m u).mpr h2)
 | succ n ih =>
  intro q m c hn hm hq
  refine T.succ ?_
  simp only [zp.l1]
  have l1 := zc0 hm
  refine T.eq (rcmp_y (dg_D _) (dg_D _) (by omega) (by omega)) ?_
  rw [xy, xy]
  refine T.ite (fun h => ?_) (fun h => ?_)
  ·have hle := (zcs m u).mp h
   refine T.eq (rsub_y (dg_D _) (dg_D _) (by omega) (by omega) (by rw [xy, xy]; exact hle)) ?_
   rw [xy, xy]
   exact ih q (m - u) _ (by omega) (by omega) hq
  ·rw [w64 (x := (i : Int) + 1) (by omega) (by omega), show (i : Int) + 1 = ((i + 1 : Nat) : Int) from rfl]
   refine T.pb (T.grd (by rw [List.length_singleton]; omega) (H _ m (by rw [List.length_append, List.length_singleton]; omega) ?_))
   exact Nat.lt_of_not_le fun h2 => h ((zcs m u).mpr h2)
theorem zeE (a : List Int) (ha : D a) (la : a.length ≤ 50000) (u : Nat) (hu : 0 < u) (lu : (dg u).length ≤ 50000) :
  ∀ (n : Nat) (q : List Int) (m : Nat) (i : Nat), a.length = i + n → q.length = i → m < u → T (fun k => zp.l0 k a (dg u) q (dg m) (i : Int)) := by
 intro n
 induction n with
 | zero =>
  intro q m i h1 hq hm
  refine T.succ ?_
  simp only [zp.l0]
  exact T.ite (fun h => by omega) (fun _ => T.bind (zaJ _) fun _ _ => T.pure _)
 | succ n ih =>
  intro q m i h1 hq hm
  refine T.succ ?_
  simp only [zp.l0]
  have l1 := zc1 (Nat.le_of_lt hm)
  refine T.ite (fun _ => T.pb (T.grd (by rw [List.length_nil]; omega) (T.pb (T.grd (by omega) (T.pb (T.grd ?_ ?_)))))) (fun h => by omega)
  ·rw [List.nil_append, List.length_singleton]; omega
  ·rw [List.nil_append, xA]
   have g := zcd ha i
   refine T.eq (rtrim_y ((dg_D m).append (D.cons g.1 g.2 D.nil))) ?_
   rw [zay, xy]
   exact zeD a u hu lu i (by omega) (fun q m hq hm => ih q m (i + 1) (by omega) hq hm) _ q _ 0 (Nat.le_refl _) (by omega) hq
theorem rdiv_t {a : List Int} {u : Nat} (ha : D a) (la : a.length ≤ 50000) (hu : 0 < u) (lu : (dg u).length ≤ 50000) : T (fun k => zp.f k a (dg u)) := by
 unfold zp.f
 exact zeE a ha la u hu lu a.length [] 0 0 (Nat.zero_add _).symm rfl hu
theorem rdiv_y {a : List Int} {u : Nat} (ha : D a) (la : a.length ≤ 50000) (hu : 0 < u) (lu : (dg u).length ≤ 50000) : Y (fun k => zp.f k a (dg u)) (fun r => r = (dg (dv a / u), dg (dv a % u))) := Y.of (rdiv_t ha la hu lu) fun k r h => zcJ ha la hu lu h
theorem Up_t (s z : Bool) (d t : Int) (p : ByteArray) : ∃ v, yF.f s d t z p = some v := by
 unfold yF.f
 repeat' split
 all_goals exact ⟨_, rfl⟩
theorem zcy {l : List Int} {o : Bool} (ll : l.length ≤ 50000) : T (fun k => zn.j2 k l o) := by
 refine T.succ ?_
 simp only [zn.j2]
 exact T.ite (fun _ => T.bind (zdK (by omega) (by decide)) fun _ _ => T.pure _) (fun _ => T.pb (T.grd (by rw [List.length_nil]; omega) (T.bind (zaJ _) fun _ _ => T.pure _)))
theorem zcz {s : Bool} {n : Int} {p : ByteArray} {l r : List Int} {c d : Int} (ll : l.length ≤ 50000) : T (fun k => zn.j1 k s n p l r c d) := by
 refine T.succ ?_
 simp only [zn.j1]
 exact T.ite (fun _ => T.bind (zaJ _) fun t _ => T.ex (Up_t _ _ _ _ _) fun _ _ => zcy ll) (fun _ => zcy ll)
theorem zcA {s : Bool} {l : List Int} {n : Nat} {p : ByteArray} (ll : l.length ≤ 20000) (hn : n ≤ l.length) : T (fun k => zn.j0 k s l (n : Int) p) := by
 refine T.succ ?_
 simp only [zn.j0]
 rw [w64 (x := (l.length : Int) - n) (by omega) (by omega), w64 (x := (n : Int) - 1) (by omega) (by omega)]
 obtain ⟨m, hm⟩ : ∃ m, mx 0 ((n : Int) - 1) = m := ⟨_, rfl⟩
 have hm2 : 0 ≤ m ∧ m ≤ 20000 := by
  rw [← hm]; unfold mx; split <;> omega
 rw [hm]
 have e1 := List.length_take (i := ((l.length : Int) - n).toNat) (l := l)
 have e2 := List.length_drop (i := ((l.length : Int) - n).toNat) (l := l)
 refine T.grd (by omega) (T.grd (by omega) (T.pb (T.pb (T.pb (T.grd (by omega) (T.grd (by rw [List.length_singleton]; omega) (T.bind (zdJ (by omega)) fun t _ => ?_)))))))
 exact T.ite (fun h => T.grd (by rw [w64 (by omega) (by omega)]; omega) (T.grd (by rw [w64 (by omega) (by omega)]; omega) (zcz (by omega)))) (fun _ => zcz (by omega))
theorem rcut_t {s : Bool} {l : List Int} {n : Nat} {p : ByteArray} (ll : l.length ≤ 10000) (hn : n ≤ 10000) : T (fun k => zn.f k s l (n : Int) p) := by
 unfold zn.f
 refine T.ite (fun h => ?_) (fun h => zcA (by omega) (by omega))
 rw [w64 (x := (n : Int) - l.length) (by omega) (by omega)]
 have e := List.length_replicate (n := ((n : Int) - l.length).toNat) (a := (0 : Int))
 refine T.grd (by omega) (T.grd (by omega) (T.pb (T.grd (by omega) (zcA ?_ ?_))))
 ·rw [List.length_append]; omega
 ·rw [List.length_append]; omega
end Go.Proofs.YtldhiaiaildnlaaDoor.Nm
