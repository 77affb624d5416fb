/- Texts of the claim: Ny. -/
import Derived.Test.YtldhiaiaildnlaaDoorUNx
import Derived.Test.YtldhiaiaildnlaaDoorUNw
import Derived.Test.YtldhiaiaildnlaaDoorUNs
namespace Go.Proofs.YtldhiaiaildnlaaDoor.Nm
set_option linter.unusedVariables false
open Go Go.RowKit Go.Proofs.YtldhiaiaildnlaaDoor.Q Go.Proofs.YtldhiaiaildnlaaDoorW.PrintWords Go.Proofs.YtldhiaiaildnlaaDoorW.PrintLast Go.Proofs.YtldhiaiaildnlaaDoorW.PrintMore
theorem zcw {s : Bool} {l : List Int} : T (fun k => zi.j4 k s l) := by
 refine T.succ ?_
 simp only [zi.j4]
 exact T.ite (fun _ => T.ite (fun _ => T.pure _) (fun _ => T.pure _)) (fun _ => T.ite (fun _ => T.pure _) (fun _ => T.pure _))
theorem digit_t (x : Int) : ∃ v, yT.f x = some v := by
 unfold yT.f
 split <;> exact ⟨_, rfl⟩
theorem zeC (a : ByteArray) (ha : a.size ≤ 300) : ∀ (n : Nat) (x : List Int) (z : Nat) (seen s : Bool) (i : Nat), a.size = i + n → x.length ≤ i → z ≤ i → T (fun k => zi.l0 k a (i : Int) x (z : Int) seen s) := by
 intro n
 induction n with
 | zero =>
  intro x z seen s i h1 h2 h3
  refine T.succ ?_
  simp only [zi.l0]
  refine T.ite (fun h => by omega) (fun _ => T.ite (fun _ => T.pure _) (fun _ => T.ite (fun h => ?_) (fun h => ?_)))
  ·rw [w64 (x := 20 - (z : Int)) (by omega) (by omega), show 20 - (z : Int) = ((20 - z : Nat) : Int) from by omega]
   exact T.sb (zb3 (by omega) (by omega)) (T.bind (zaJ _) fun _ _ => zcw)
  ·rw [w64 (x := (z : Int) - 20) (by omega) (by omega), show (z : Int) - 20 = ((z - 20 : Nat) : Int) from by omega]
   exact T.bind (rcut_t (by omega) (by omega)) fun _ _ => zcw
 | succ n ih =>
  intro x z seen s i h1 h2 h3
  have J : ∀ b, T (fun k => zi.j3 k a (i : Int) x (z : Int) seen b s) := by
   intro b
   refine T.succ ?_
   simp only [zi.j3]
   rw [w64 (x := (i : Int) + 1) (by omega) (by omega), show (i : Int) + 1 = ((i + 1 : Nat) : Int) from rfl, w64 (x := (z : Int) + 1) (by omega) (by omega), show (z : Int) + 1 = ((z + 1 : Nat) : Int) from rfl]
   refine T.ite (fun _ => ih _ _ _ _ (i + 1) (by omega) (by omega) (by omega)) (fun _ => T.grd (by omega) (T.grd (by omega) (T.ex (digit_t _) fun t _ => T.ite (fun _ => T.grd (by omega) (T.pb ?_)) (fun _ => T.pure _))))
   exact T.ite (fun _ => ih _ _ _ _ (i + 1) (by omega) (by rw [List.length_append, List.length_singleton]; omega) (by omega)) (fun _ => ih _ _ _ _ (i + 1) (by omega) (by rw [List.length_append, List.length_singleton]; omega) (by omega))
  refine T.succ ?_
  simp only [zi.l0]
  exact T.ite (fun _ => T.grd (by omega) (T.ite (fun _ => J _) (fun _ => J _))) (fun h => by omega)
theorem read_t {a : ByteArray} : T (fun k => zi.f k a) := by
 unfold zi.f
 refine T.ite (fun _ => T.pure _) (fun h => ?_)
 have J1 : ∀ (i : Nat) (s : Bool), i ≤ a.size → T (fun k => zi.j1 k a (i : Int) s) := by
  intro i s hi
  refine T.succ ?_
  simp only [zi.j1]
  exact zeC a (by omega) (a.size - i) [] 0 _ _ i (by omega) (Nat.zero_le _) (Nat.zero_le _)
 have J0 : ∀ b s, (b = true → 0 < a.size) → T (fun k => zi.j0 k a 0 b s) := by
  intro b s hb
  refine T.succ ?_
  simp only [zi.j0]
  exact T.ite (fun h => T.grd (by have := hb h; omega) (J1 1 _ (hb h))) (fun _ => J1 0 _ (Nat.zero_le _))
 exact T.ite (fun h => T.grd h (T.ite (fun _ => J0 _ _ (fun _ => by omega)) (fun _ => J0 _ _ (fun _ => by omega)))) (fun _ => J0 _ _ (fun h => by cases h))
theorem read_y (a : ByteArray) : Y (fun k => zi.f k a) (fun r => r = rP (rdn (dl a))) := Y.of read_t fun k r h => read_f h
theorem zdC (l : List Int) (hl : l.length ≤ 1000) (e : Nat) (he : e ≤ l.length) : ∀ (n : Nat) (o : List Int) (i : Nat), e = i + n → o.length ≤ 2 * i + 10 → T (fun k => zl.l2 k l o (e : Int) (i : Int)) := by
 intro n
 induction n with
 | zero =>
  intro o i h1 h2
  refine T.succ ?_
  simp only [zl.l2]
  exact T.ite (fun h => by omega) (fun _ => T.pure _)
 | succ n ih =>
  intro o i h1 h2
  refine T.succ ?_
  simp only [zl.l2]
  rw [w64 (x := (i : Int) + 1) (by omega) (by omega), show (i : Int) + 1 = ((i + 1 : Nat) : Int) from rfl]
  have e1 : (o ++ [46]).length = o.length + 1 := by rw [List.length_append, List.length_singleton]
  exact T.ite (fun h => T.ite (fun _ => T.grd (by omega) (T.pb (T.grd (by omega) (T.grd (by omega) (T.grd (by omega) (ih _ (i + 1) (by omega) (by rw [List.length_append, List.length_singleton]; omega))))))) (fun _ => T.grd (by omega) (T.grd (by omega) (T.grd (by omega) (ih _ (i + 1) (by omega) (by rw [List.length_append, List.length_singleton]; omega)))))) (fun h => by omega)
theorem zdD (l : List Int) (hl : l.length ≤ 1000) (h20 : 20 ≤ l.length) (o : List Int) (ho : o.length ≤ 10) : ∀ (n e : Nat), e ≤ l.length → e ≤ l.length - 20 + n → T (fun k => zl.l1 k l o (e : Int)) := by
 have J : ∀ e : Nat, e ≤ l.length → T (fun k => zl.j3 k l o (e : Int)) := by
  intro e he
  refine T.succ ?_
  simp only [zl.j3]
  exact zdC l hl e he e o 0 (Nat.zero_add _).symm (by omega)
 intro n
 induction n with
 | zero =>
  intro e h1 h2
  refine T.succ ?_
  simp only [zl.l1]
  rw [w64 (x := (l.length : Int) - 20) (by omega) (by omega)]
  exact T.ite (fun h => by omega) (fun _ => J e h1)
 | succ n ih =>
  intro e h1 h2
  refine T.succ ?_
  simp only [zl.l1]
  rw [w64 (x := (l.length : Int) - 20) (by omega) (by omega)]
  refine T.ite (fun h => ?_) (fun _ => J e h1)
  rw [w64 (x := (e : Int) - 1) (by omega) (by omega), show (e : Int) - 1 = ((e - 1 : Nat) : Int) from by omega]
  exact T.grd (by omega) (T.grd (by omega) (T.ite (fun _ => ih (e - 1) (by omega) (by omega)) (fun _ => J e h1)))
theorem zdE (s : Bool) (m : List Int) : ∀ (n : Nat) (l : List Int), 21 ≤ l.length + n → l.length ≤ 1000 → T (fun k => zl.l0 k l s m) := by
 have J : ∀ (l o : List Int), l.length ≤ 1000 → 20 ≤ l.length → o.length ≤ 10 → T (fun k => zl.j1 k l o) := by
  intro l o h1 h2 h3
  refine T.succ ?_
  simp only [zl.j1]
  exact zdD l h1 h2 o h3 20 l.length (Nat.le_refl _) (by omega)
 intro n
 induction n with
 | zero =>
  intro l h1 h2
  refine T.succ ?_
  simp only [zl.l0]
  exact T.ite (fun h => by omega) (fun h => T.ite (fun _ => T.grd (by decide) (J _ _ h2 (by omega) (by decide))) (fun _ => J _ _ h2 (by omega) (by decide)))
 | succ n ih =>
  intro l h1 h2
  refine T.succ ?_
  simp only [zl.l0]
  exact T.ite (fun h => T.pb (T.grd (by rw [List.length_singleton]; omega) (ih _ (by rw [List.length_append, List.length_singleton]; omega) (by rw [List.length_append, List.length_singleton]; omega)))) (fun h => T.ite (fun _ => T.grd (by decide) (J _ _ h2 (by omega) (by decide))) (fun _ => J _ _ h2 (by omega) (by decide)))
theorem zbW {s : Bool} {l : List Int} (hl : l.length ≤ 1000) : T (fun k => zl.f k s l) := by
 unfold zl.f
 exact zdE s l 21 l (by omega) hl
theorem zbr {a : ByteArray} : T (fun k => yc.f k a) := by
 unfold yc.f
 refine T.eq (read_y a) ?_
 cases hr : rdn (dl a) with
 | error e => exact T.ite (fun _ => T.bind (zbW (l := []) (by decide)) fun _ _ => T.ite (fun _ => T.pure _) (fun _ => T.pure _)) (fun _ => T.pure _)
 | ok y =>
  have := len50 (zas hr).1
  exact T.ite (fun _ => T.bind (zbW (l := dg y.2) (by omega)) fun _ _ => T.ite (fun _ => T.pure _) (fun _ => T.pure _)) (fun _ => T.pure _)
theorem zbl {s : Bool} {l : List Int} : T (fun k => zG.f k s l) := by
 unfold zG.f
 refine T.eq (zbj l) (T.ite (fun _ => T.pure _) (fun h => ?_))
 exact T.ite (fun _ => T.bind (zbW (by omega)) fun _ _ => T.pure _) (fun _ => T.bind (zbW (by omega)) fun _ _ => T.pure _)
theorem two_t {a b : ByteArray} : T (fun k => zO.f k a b) := by
 unfold zO.f
 exact T.bind zbr fun _ _ => T.bind zbr fun _ _ => T.ite (fun _ => T.pure _) (fun _ => T.pure _)
theorem two_y (a b : ByteArray) : Y (fun k => zO.f k a b) (fun r => r.2.2.2.2 = false ∨ ∃ x y, r = (x.1, dg x.2, y.1, dg y.2, true) ∧ Fine x ∧ Fine y) := Y.of two_t fun k r h => by
 rcases two_f h with ⟨h2, _⟩ | ⟨x, y, h2, hx, hy, _⟩
 ·exact .inl h2
 ·exact .inr ⟨x, y, h2, hx, hy⟩
theorem zbD {n : Nat} (h : ¬ ((dg n).length : Int) = 0) : 0 < n := by
 cases n with
 | zero => exact absurd rfl h
 | succ n => exact Nat.succ_pos n
theorem rMod_t {a b : ByteArray} : T (fun k => yo.f k a b) := by
 unfold yo.f
 refine T.yb (two_y a b) fun r hr => ?_
 rcases hr with h | ⟨x, y, rfl, hx, hy⟩
 ·exact T.ite (fun h2 => by rw [h] at h2; cases h2) (fun _ => T.pure _)
 ·have lx := len50 hx.1
  have ly := len50 hy.1
  refine T.ite (fun _ => T.ite (fun _ => T.pure _) (fun h => ?_)) (fun _ => T.pure _)
  exact T.bind (rdiv_t (a := dg x.2) (u := y.2) (dg_D _) (by omega) (zbD h) (by omega)) fun _ _ => T.bind zbl fun _ _ => T.pure _
theorem rIDiv_t {a b : ByteArray} : T (fun k => z1.f k a b) := by
 unfold z1.f
 refine T.yb (two_y a b) fun r hr => ?_
 rcases hr with h | ⟨x, y, rfl, hx, hy⟩
 ·exact T.ite (fun h2 => by rw [h] at h2; cases h2) (fun _ => T.pure _)
 ·have lx := len50 hx.1
  have ly := len50 hy.1
  refine T.ite (fun _ => T.ite (fun _ => T.pure _) (fun h => ?_)) (fun _ => T.pure _)
  refine T.eq (rdiv_y (a := dg x.2) (u := y.2) (dg_D _) (by omega) (zbD h) (by omega)) ?_
  rw [xy]
  have l3 := zc1 (Nat.div_le_self x.2 y.2)
  exact T.sb (zb3 (n := 20) (by simp only; omega) (by decide)) (T.bind (zaJ _) fun _ _ => T.bind zbl fun _ _ => T.pure _)
theorem rDiv_t {a b : ByteArray} : T (fun k => zz.f k a b) := by
 unfold zz.f
 refine T.yb (two_y a b) fun r hr => ?_
 rcases hr with h | ⟨x, y, rfl, hx, hy⟩
 ·exact T.ite (fun h2 => by rw [h] at h2; cases h2) (fun _ => T.pure _)
 ·have lx := len50 hx.1
  have ly := len50 hy.1
  refine T.ite (fun _ => T.ite (fun _ => T.pure _) (fun h => ?_)) (fun _ => T.pure _)
  refine T.sb (zb3 (l := dg x.2) (n := 20) (by omega) (by decide)) ?_
  have lz : (dg x.2 ++ List.replicate 20 0).length ≤ 100 := by rw [List.length_append, List.length_replicate]; omega
  have h0 := zbD h
  refine T.eq (rdiv_y (u := y.2) ((dg_D x.2).append (D.zeros 20)) (by omega) h0 (by omega)) ?_
  obtain ⟨N, hN⟩ : ∃ N, dv (dg x.2 ++ List.replicate 20 0) = N := ⟨_, rfl⟩
  have hlt : N < 10 ^ 100 := by
   rw [← hN]
   exact Nat.lt_of_lt_of_le (zaG ((dg_D x.2).append (D.zeros 20))) (Nat.pow_le_pow_right (by decide) lz)
  rw [hN]
  have l3 : (dg (N / y.2)).length ≤ 100 := zac.mp (Nat.lt_of_le_of_lt (Nat.div_le_self _ _) hlt)
  have l4 : (dg (N % y.2)).length ≤ 50 := Nat.le_trans (zc1 (Nat.le_of_lt (Nat.mod_lt _ h0))) ly
  have J : ∀ c, T (fun k => zz.j0 k (dg (N / y.2)) (dg (N % y.2)) c x.1 (dg x.2) y.1 (dg y.2)) := by
   intro c
   refine T.succ ?_
   simp only [zz.j0]
   have hm := Nat.mod_lt N h0
   refine T.eq (radd_y (dg_D _) (dg_D _) (by omega) (by omega)) ?_
   rw [xy]
   have l5 := zc0 (n := N % y.2 + N % y.2) (m := y.2) (by omega)
   refine T.bind (zdJ (by omega)) fun t _ => T.ex (Up_t _ _ _ _ _) fun _ _ => T.ite (fun _ => ?_) (fun _ => T.bind zbl fun _ _ => T.pure _)
   exact T.bind (zdK (by omega) (by decide)) fun _ _ => T.bind zbl fun _ _ => T.pure _
  exact T.ite (fun h => T.grd (by rw [w64 (by simp only; omega) (by simp only; omega)]; simp only at h ⊢; omega) (T.grd (by rw [w64 (by simp only; omega) (by simp only; omega)]; simp only at h ⊢; omega) (J _))) (fun _ => J _)
theorem rDiv_y (a b : ByteArray) : Y (fun k => zz.f k a b) (fun r => Ans r (divS (dl a) (dl b))) := Y.of rDiv_t fun _ _ h => rDiv_f h
theorem rIDiv_y (a b : ByteArray) : Y (fun k => z1.f k a b) (fun r => Ans r (idivS (dl a) (dl b))) := Y.of rIDiv_t fun _ _ h => rIDiv_f h
theorem rMod_y (a b : ByteArray) : Y (fun k => yo.f k a b) (fun r => Ans r (modS (dl a) (dl b))) := Y.of rMod_t fun _ _ h => rMod_f h
end Go.Proofs.YtldhiaiaildnlaaDoor.Nm
