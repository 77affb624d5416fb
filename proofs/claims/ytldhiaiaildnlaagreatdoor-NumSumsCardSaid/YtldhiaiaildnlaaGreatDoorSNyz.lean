/- Texts of the claim: Nyz. -/
import Derived.Test.YtldhiaiaildnlaaGreatDoorSNx
import Derived.Test.YtldhiaiaildnlaaGreatDoorSNw
import Derived.Test.YtldhiaiaildnlaaGreatDoorSNs
namespace Go.Proofs.YtldhiaiaildnlaaGreatDoor.Nm
set_option linter.unusedVariables false
open Go Go.RowKit Go.Proofs.YtldhiaiaildnlaaGreatDoor.Q Go.Proofs.YtldhiaiaildnlaaGreatDoorW.PrintWords Go.Proofs.YtldhiaiaildnlaaGreatDoorW.PrintLast Go.Proofs.YtldhiaiaildnlaaGreatDoorW.PrintMore
theorem zcz {s : Bool} {l : List Int} : T (fun k => zi.j4 k s l) := by
 refine T.succ ?_
 simp only [zi.j4]
 exact T.ite (fun _ => T.ite (fun _ => T.pure _) (fun _ => T.pure _)) (fun _ => T.ite (fun _ => T.pure _) (fun _ => T.pure _))
theorem digit_t (x : Int) : ∃ v, yR.f x = some v := by
 unfold yR.f
 split <;> exact ⟨_, rfl⟩
theorem zez (a : ByteArray) (ha : a.size ≤ 300) : ∀ (n : Nat) (x : List Int) (z : Nat) (seen s : Bool) (i : Nat), a.size = i + n → x.length ≤ i → z ≤ i → T (fun k => zi.l0 k a (i : Int) x (z : Int) seen s) := by
 intro n
 induction n with
 | zero =>
  intro x z seen s i h1 h2 h3
  refine T.succ ?_
  simp only [zi.l0]
  refine T.ite (fun h => by omega) (fun _ => T.ite (fun _ => T.pure _) (fun _ => T.ite (fun h => ?_) (fun h => ?_)))
  ·rw [w64 (x := 20 - (z : Int)) (by omega) (by omega), show 20 - (z : Int) = ((20 - z : Nat) : Int) from by omega]
   exact T.sb (rzeros_t (by omega) (by omega)) (T.bind (zbr _) fun _ _ => zcz)
  ·rw [w64 (x := (z : Int) - 20) (by omega) (by omega), show (z : Int) - 20 = ((z - 20 : Nat) : Int) from by omega]
   exact T.bind (rcut_t (by omega) (by omega)) fun _ _ => zcz
 | succ n ih =>
  intro x z seen s i h1 h2 h3
  have J : ∀ b, T (fun k => zi.j3 k a (i : Int) x (z : Int) seen b s) := by
   intro b
   refine T.succ ?_
   simp only [zi.j3]
   rw [w64 (x := (i : Int) + 1) (by omega) (by omega), show (i : Int) + 1 = ((i + 1 : Nat) : Int) from rfl, w64 (x := (z : Int) + 1) (by omega) (by omega), show (z : Int) + 1 = ((z + 1 : Nat) : Int) from rfl]
   refine T.ite (fun _ => ih _ _ _ _ (i + 1) (by omega) (by omega) (by omega)) (fun _ => T.grd (by omega) (T.grd (by omega) (T.ex (digit_t _) fun t _ => T.ite (fun _ => T.grd (by omega) (T.pb ?_)) (fun _ => T.pure _))))
   exact T.ite (fun _ => ih _ _ _ _ (i + 1) (by omega) (by rw [List.length_append, List.length_singleton]; omega) (by omega)) (fun _ => ih _ _ _ _ (i + 1) (by omega) (by rw [List.length_append, List.length_singleton]; omega) (by omega))
  refine T.succ ?_
  simp only [zi.l0]
  exact T.ite (fun _ => T.grd (by omega) (T.ite (fun _ => J _) (fun _ => J _))) (fun h => by omega)
theorem read_t {a : ByteArray} : T (fun k => zi.f k a) := by
 unfold zi.f
 refine T.ite (fun _ => T.pure _) (fun h => ?_)
 have J1 : ∀ (i : Nat) (s : Bool), i ≤ a.size → T (fun k => zi.j1 k a (i : Int) s) := by
  intro i s hi
  refine T.succ ?_
  simp only [zi.j1]
  exact zez a (by omega) (a.size - i) [] 0 _ _ i (by omega) (Nat.zero_le _) (Nat.zero_le _)
 have J0 : ∀ b s, (b = true → 0 < a.size) → T (fun k => zi.j0 k a 0 b s) := by
  intro b s hb
  refine T.succ ?_
  simp only [zi.j0]
  exact T.ite (fun h => T.grd (by have := hb h; omega) (J1 1 _ (hb h))) (fun _ => J1 0 _ (Nat.zero_le _))
 exact T.ite (fun h => T.grd h (T.ite (fun _ => J0 _ _ (fun _ => by omega)) (fun _ => J0 _ _ (fun _ => by omega)))) (fun _ => J0 _ _ (fun h => by cases h))
theorem read_y (a : ByteArray) : Y (fun k => zi.f k a) (fun r => r = rP (rdn (dl a))) := Y.of read_t fun k r h => read_f h
theorem zdB (l : List Int) (hl : l.length ≤ 1000) (e : Nat) (he : e ≤ l.length) : ∀ (n : Nat) (o : List Int) (i : Nat), e = i + n → o.length ≤ 2 * i + 10 → T (fun k => zm.l2 k l o (e : Int) (i : Int)) := by
 intro n
 induction n with
 | zero =>
  intro o i h1 h2
  refine T.succ ?_
  simp only [zm.l2]
  exact T.ite (fun h => by omega) (fun _ => T.pure _)
 | succ n ih =>
  intro o i h1 h2
  refine T.succ ?_
  simp only [zm.l2]
  rw [w64 (x := (i : Int) + 1) (by omega) (by omega), show (i : Int) + 1 = ((i + 1 : Nat) : Int) from rfl]
  have e1 : (o ++ [46]).length = o.length + 1 := by rw [List.length_append, List.length_singleton]
  exact T.ite (fun h => T.ite (fun _ => T.grd (by omega) (T.pb (T.grd (by omega) (T.grd (by omega) (T.grd (by omega) (ih _ (i + 1) (by omega) (by rw [List.length_append, List.length_singleton]; omega))))))) (fun _ => T.grd (by omega) (T.grd (by omega) (T.grd (by omega) (ih _ (i + 1) (by omega) (by rw [List.length_append, List.length_singleton]; omega)))))) (fun h => by omega)
theorem zdC (l : List Int) (hl : l.length ≤ 1000) (h20 : 20 ≤ l.length) (o : List Int) (ho : o.length ≤ 10) : ∀ (n e : Nat), e ≤ l.length → e ≤ l.length - 20 + n → T (fun k => zm.l1 k l o (e : Int)) := by
 have J : ∀ e : Nat, e ≤ l.length → T (fun k => zm.j3 k l o (e : Int)) := by
  intro e he
  refine T.succ ?_
  simp only [zm.j3]
  exact zdB l hl e he e o 0 (Nat.zero_add _).symm (by omega)
 intro n
 induction n with
 | zero =>
  intro e h1 h2
  refine T.succ ?_
  simp only [zm.l1]
  rw [w64 (x := (l.length : Int) - 20) (by omega) (by omega)]
  exact T.ite (fun h => by omega) (fun _ => J e h1)
 | succ n ih =>
  intro e h1 h2
  refine T.succ ?_
  simp only [zm.l1]
  rw [w64 (x := (l.length : Int) - 20) (by omega) (by omega)]
  refine T.ite (fun h => ?_) (fun _ => J e h1)
  rw [w64 (x := (e : Int) - 1) (by omega) (by omega), show (e : Int) - 1 = ((e - 1 : Nat) : Int) from by omega]
  exact T.grd (by omega) (T.grd (by omega) (T.ite (fun _ => ih (e - 1) (by omega) (by omega)) (fun _ => J e h1)))
theorem zdD (s : Bool) (m : List Int) : ∀ (n : Nat) (l : List Int), 21 ≤ l.length + n → l.length ≤ 1000 → T (fun k => zm.l0 k l s m) := by
 have J : ∀ (l o : List Int), l.length ≤ 1000 → 20 ≤ l.length → o.length ≤ 10 → T (fun k => zm.j1 k l o) := by
  intro l o h1 h2 h3
  refine T.succ ?_
  simp only [zm.j1]
  exact zdC l h1 h2 o h3 20 l.length (Nat.le_refl _) (by omega)
 intro n
 induction n with
 | zero =>
  intro l h1 h2
  refine T.succ ?_
  simp only [zm.l0]
  exact T.ite (fun h => by omega) (fun h => T.ite (fun _ => T.grd (by decide) (J _ _ h2 (by omega) (by decide))) (fun _ => J _ _ h2 (by omega) (by decide)))
 | succ n ih =>
  intro l h1 h2
  refine T.succ ?_
  simp only [zm.l0]
  exact T.ite (fun h => T.pb (T.grd (by rw [List.length_singleton]; omega) (ih _ (by rw [List.length_append, List.length_singleton]; omega) (by rw [List.length_append, List.length_singleton]; omega)))) (fun h => T.ite (fun _ => T.grd (by decide) (J _ _ h2 (by omega) (by decide))) (fun _ => J _ _ h2 (by omega) (by decide)))
theorem zbY {s : Bool} {l : List Int} (hl : l.length ≤ 1000) : T (fun k => zm.f k s l) := by
 unfold zm.f
 exact zdD s l 21 l (by omega) hl
theorem zbx {a : ByteArray} : T (fun k => yd.f k a) := by
 unfold yd.f
 refine T.eq (read_y a) ?_
 cases hr : rdn (dl a) with
 | error e => exact T.ite (fun _ => T.bind (zbY (l := []) (by decide)) fun _ _ => T.ite (fun _ => T.pure _) (fun _ => T.pure _)) (fun _ => T.pure _)
 | ok y =>
  have := len50 (zat hr).1
  exact T.ite (fun _ => T.bind (zbY (l := dg y.2) (by omega)) fun _ _ => T.ite (fun _ => T.pure _) (fun _ => T.pure _)) (fun _ => T.pure _)
theorem result_t {s : Bool} {l : List Int} : T (fun k => zL.f k s l) := by
 unfold zL.f
 refine T.eq (zbq l) (T.ite (fun _ => T.pure _) (fun h => ?_))
 exact T.ite (fun _ => T.bind (zbY (by omega)) fun _ _ => T.pure _) (fun _ => T.bind (zbY (by omega)) fun _ _ => T.pure _)
theorem two_t {a b : ByteArray} : T (fun k => zR.f k a b) := by
 unfold zR.f
 exact T.bind zbx fun _ _ => T.bind zbx fun _ _ => T.ite (fun _ => T.pure _) (fun _ => T.pure _)
end Go.Proofs.YtldhiaiaildnlaaGreatDoor.Nm
