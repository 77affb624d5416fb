/- Texts of the claim: Nx. -/
import Derived.Test.YtldhiaiaildnlaaGreatDoorSNv
import Derived.Test.YtldhiaiaildnlaaGreatDoorSNo
namespace Go.Proofs.YtldhiaiaildnlaaGreatDoor.Nm
set_option linter.unusedVariables false
open Go Go.RowKit Go.Proofs.YtldhiaiaildnlaaGreatDoor.Q Go.Proofs.YtldhiaiaildnlaaGreatDoorW.PrintWords Go.Proofs.YtldhiaiaildnlaaGreatDoorW.PrintLast Go.Proofs.YtldhiaiaildnlaaGreatDoorW.PrintMore
theorem T.pb {α β : Type} {x : α} {F : Nat → α → Option β} (hF : T (fun k => F k x)) : T (fun k => (some x).bind (F k)) := hF
theorem T.ex {α β : Type} {x : Option α} {F : Nat → α → Option β} (h : ∃ v, x = some v) (hF : ∀ v, x = some v → T (fun k => F k v)) : T (fun k => x.bind (F k)) := by
 obtain ⟨v, h⟩ := h
 exact T.sb h (hF v h)
theorem zdA : ∀ (n : Nat) (l : List Int), l.length ≤ n → T (fun k => zj.l0 k l) := by
 intro n
 induction n with
 | zero =>
  intro l h
  refine T.succ ?_
  simp only [zj.l0]
  exact T.ite (fun h => by omega) (fun _ => T.pure _)
 | succ n ih =>
  intro l h
  refine T.succ ?_
  simp only [zj.l0]
  exact T.ite (fun h => T.grd (by omega) (T.ite (fun _ => T.grd (by omega) (ih _ (by rw [List.length_drop]; omega))) (fun _ => T.pure _))) (fun _ => T.pure _)
theorem zbq (l : List Int) : Y (fun k => zj.f k l) (fun r => r = tz l) := Y.of (zdA _ l (Nat.le_refl _)) fun k r h => zd9 k l r h
theorem zbr (l : List Int) : T (fun k => zj.f k l) := (zbq l).t
theorem rtrim_y {l : List Int} (h : D l) : Y (fun k => zj.f k l) (fun r => r = dg (dv l)) := Y.mono (zbq l) fun r e => by rw [e, tz_dg h]
theorem zeA : ∀ (n : Nat) (a b : List Int) (i : Nat), a.length = i + n → a.length = b.length → a.length ≤ 1000000 → T (fun k => zz.l0 k a b (i : Int)) := by
 intro n
 induction n with
 | zero =>
  intro a b i h1 h2 h3
  refine T.succ ?_
  simp only [zz.l0]
  exact T.ite (fun h => by omega) (fun _ => T.pure _)
 | succ n ih =>
  intro a b i h1 h2 h3
  refine T.succ ?_
  simp only [zz.l0]
  rw [w64 (x := (i : Int) + 1) (by omega) (by omega), show (i : Int) + 1 = ((i + 1 : Nat) : Int) from rfl]
  exact T.ite (fun h => T.grd (by omega) (T.grd (by omega) (T.ite (fun _ => ih a b (i + 1) (by omega) h2 h3) (fun _ => T.ite (fun _ => T.pure _) (fun _ => T.pure _))))) (fun h => by omega)
theorem rcmp_t {a b : List Int} (la : a.length ≤ 1000000) : T (fun k => zz.f k a b) := by
 unfold zz.f
 refine T.eq (zbq a) (T.eq (zbq b) ?_)
 have := tz_len a
 exact T.ite (fun h => zeA (tz a).length (tz a) (tz b) 0 (Nat.zero_add _).symm (by omega) (by omega)) (fun _ => T.ite (fun _ => T.pure _) (fun _ => T.pure _))
theorem rcmp_y {a b : List Int} (ha : D a) (hb : D b) (la : a.length ≤ 1000000) (lb : b.length ≤ 1000000) : Y (fun k => zz.f k a b) (fun r => r = sg (dv a) (dv b)) := Y.of (rcmp_t la) fun k r h => rcmp_f ha hb la lb h
theorem at_t {l : List Int} {i : Nat} (hl : l.length ≤ 1000000) (hi : i ≤ 2000000) : ∃ r, zX.f l (i : Int) = some r := by
 unfold zX.f
 by_cases h : (i : Int) < l.length
 ·rw [if_pos h, w64 (x := (l.length : Int) - 1) (by omega) (by omega), w64 (x := (l.length : Int) - 1 - i) (by omega) (by omega), if_pos (by omega), if_pos (by omega)]
  exact ⟨_, rfl⟩
 ·rw [if_neg h]; exact ⟨_, rfl⟩
theorem zeB (a b : List Int) (la : a.length ≤ 100000) (lb : b.length ≤ 100000) : ∀ (n : Nat) (y : List Int) (c m : Int) (i : Nat), y.length = i + n → m = y.length → y.length ≤ 200001 → T (fun k => zA.l0 k a b m y c (i : Int)) := by
 intro n
 induction n with
 | zero =>
  intro y c m i h1 h2 h3
  refine T.succ ?_
  simp only [zA.l0]
  exact T.ite (fun h => by omega) (fun _ => T.bind (zbr _) fun _ _ => T.pure _)
 | succ n ih =>
  intro y c m i h1 h2 h3
  refine T.succ ?_
  simp only [zA.l0]
  rw [w64 (x := (i : Int) + 1) (by omega) (by omega), show (i : Int) + 1 = ((i + 1 : Nat) : Int) from rfl, w64 (x := m - 1) (by omega) (by omega), w64 (x := m - 1 - i) (by omega) (by omega)]
  exact T.ite (fun h => T.ex (at_t (by omega) (by omega)) fun _ _ => T.ex (at_t (by omega) (by omega)) fun _ _ => T.grd (by omega) (T.grd (by omega) (ih _ _ m (i + 1) (by rw [List.length_set]; omega) (by rw [List.length_set]; omega) (by rw [List.length_set]; omega)))) (fun h => by omega)
theorem radd_t {a b : List Int} (la : a.length ≤ 100000) (lb : b.length ≤ 100000) : T (fun k => zA.f k a b) := by
 unfold zA.f
 rw [zcV, w64 (by omega) (by omega)]
 refine T.grd (by omega) (T.grd (by omega) ?_)
 exact zeB a b la lb (max a.length b.length + 1) _ 0 _ 0 (by rw [List.length_replicate]; omega) (by rw [List.length_replicate]; omega) (by rw [List.length_replicate]; omega)
theorem radd_y {a b : List Int} (ha : D a) (hb : D b) (la : a.length ≤ 100000) (lb : b.length ≤ 100000) : Y (fun k => zA.f k a b) (fun r => r = dg (dv a + dv b)) := Y.of (radd_t la lb) fun k r h => radd_f ha hb la lb h
theorem zet (a b : List Int) (la : a.length ≤ 100000) (lb : b.length ≤ 100000) : ∀ (n : Nat) (y : List Int) (c : Int) (i : Nat), a.length = i + n → y.length = a.length → T (fun k => zI.l0 k a b y c (i : Int)) := by
 intro n
 induction n with
 | zero =>
  intro y c i h1 h2
  refine T.succ ?_
  simp only [zI.l0]
  exact T.ite (fun h => by omega) (fun _ => T.bind (zbr _) fun _ _ => T.pure _)
 | succ n ih =>
  intro y c i h1 h2
  refine T.succ ?_
  simp only [zI.l0]
  rw [w64 (x := (i : Int) + 1) (by omega) (by omega), show (i : Int) + 1 = ((i + 1 : Nat) : Int) from rfl, w64 (x := (a.length : Int) - 1) (by omega) (by omega), w64 (x := (a.length : Int) - 1 - i) (by omega) (by omega)]
  exact T.ite (fun h => T.ex (at_t (by omega) (by omega)) fun _ _ => T.ex (at_t (by omega) (by omega)) fun _ _ => T.ite (fun _ => T.grd (by omega) (T.grd (by omega) (ih _ _ (i + 1) (by omega) (by rw [List.length_set]; omega)))) (fun _ => T.grd (by omega) (T.grd (by omega) (ih _ _ (i + 1) (by omega) (by rw [List.length_set]; omega))))) (fun h => by omega)
theorem rsub_t {a b : List Int} (la : a.length ≤ 100000) (lb : b.length ≤ 100000) : T (fun k => zI.f k a b) := by
 unfold zI.f
 refine T.grd (by omega) (T.grd (by omega) ?_)
 exact zet a b la lb a.length _ 0 0 (Nat.zero_add _).symm (by rw [List.length_replicate]; omega)
theorem rsub_y {a b : List Int} (ha : D a) (hb : D b) (la : a.length ≤ 100000) (lb : b.length ≤ 100000) (hle : dv b ≤ dv a) : Y (fun k => zI.f k a b) (fun r => r = dg (dv a - dv b)) := Y.of (rsub_t la lb) fun k r h => rsub_f ha hb la lb hle h
theorem rzeros_t {l : List Int} {n : Nat} (hl : l.length ≤ 1000000) (hn : n ≤ 1000000) : xa.f l (n : Int) = some (l ++ List.replicate n 0) := by
 unfold xa.f
 simp only [Option.bind_some, List.nil_append, List.length_nil]
 rw [if_pos (by omega), if_pos (by omega), if_pos (by rw [Int.toNat_natCast]; omega), Int.toNat_natCast]
theorem Up_t (s z : Bool) (d t : Int) (p : ByteArray) : ∃ v, xf.f s d t z p = some v := by
 unfold xf.f
 repeat' split
 all_goals exact ⟨_, rfl⟩
theorem zcB {l : List Int} {o : Bool} (ll : l.length ≤ 50000) : T (fun k => zl.j2 k l o) := by
 refine T.succ ?_
 simp only [zl.j2]
 exact T.ite (fun _ => T.bind (radd_t (by omega) (by decide)) fun _ _ => T.pure _) (fun _ => T.pb (T.grd (by rw [List.length_nil]; omega) (T.bind (zbr _) fun _ _ => T.pure _)))
theorem zcC {s : Bool} {n : Int} {p : ByteArray} {l r : List Int} {c d : Int} (ll : l.length ≤ 50000) : T (fun k => zl.j1 k s n p l r c d) := by
 refine T.succ ?_
 simp only [zl.j1]
 exact T.ite (fun _ => T.bind (zbr _) fun t _ => T.ex (Up_t _ _ _ _ _) fun _ _ => zcB ll) (fun _ => zcB ll)
theorem zcD {s : Bool} {l : List Int} {n : Nat} {p : ByteArray} (ll : l.length ≤ 20000) (hn : n ≤ l.length) : T (fun k => zl.j0 k s l (n : Int) p) := by
 refine T.succ ?_
 simp only [zl.j0]
 rw [w64 (x := (l.length : Int) - n) (by omega) (by omega), w64 (x := (n : Int) - 1) (by omega) (by omega)]
 obtain ⟨m, hm⟩ : ∃ m, mx 0 ((n : Int) - 1) = m := ⟨_, rfl⟩
 have hm2 : 0 ≤ m ∧ m ≤ 20000 := by
  rw [← hm]; unfold mx; split <;> omega
 rw [hm]
 have e1 := List.length_take (i := ((l.length : Int) - n).toNat) (l := l)
 have e2 := List.length_drop (i := ((l.length : Int) - n).toNat) (l := l)
 refine T.grd (by omega) (T.grd (by omega) (T.pb (T.pb (T.pb (T.grd (by omega) (T.grd (by rw [List.length_singleton]; omega) (T.bind (rcmp_t (by omega)) fun t _ => ?_)))))))
 exact T.ite (fun h => T.grd (by rw [w64 (by omega) (by omega)]; omega) (T.grd (by rw [w64 (by omega) (by omega)]; omega) (zcC (by omega)))) (fun _ => zcC (by omega))
theorem rcut_t {s : Bool} {l : List Int} {n : Nat} {p : ByteArray} (ll : l.length ≤ 10000) (hn : n ≤ 10000) : T (fun k => zl.f k s l (n : Int) p) := by
 unfold zl.f
 refine T.ite (fun h => ?_) (fun h => zcD (by omega) (by omega))
 rw [w64 (x := (n : Int) - l.length) (by omega) (by omega)]
 have e := List.length_replicate (n := ((n : Int) - l.length).toNat) (a := (0 : Int))
 refine T.grd (by omega) (T.grd (by omega) (T.pb (T.grd (by omega) (zcD ?_ ?_))))
 ·rw [List.length_append]; omega
 ·rw [List.length_append]; omega
theorem rcut_y {s : Bool} {l : List Int} {n : Nat} {p : ByteArray} {how : Nat} (hp : wayS (dl p) = some how) (hl : D l) (ll : l.length ≤ 10000) (hn : n ≤ 10000) : Y (fun k => zl.f k s l (n : Int) p) (fun r => r = dg (rnd how s (dv l) (10 ^ n))) := Y.of (rcut_t ll hn) fun k r h => rcut_f hp hl ll hn h
end Go.Proofs.YtldhiaiaildnlaaGreatDoor.Nm
