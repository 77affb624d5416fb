/- Texts of the claim: Nsum. -/
import Derived.Test.YtldhiaiaildnlaaGreatDoorSNyz
import Derived.Test.YtldhiaiaildnlaaGreatDoorSNz
namespace Go.Proofs.YtldhiaiaildnlaaGreatDoor.Nm
set_option linter.unusedVariables false
open Go Go.RowKit Go.Proofs.YtldhiaiaildnlaaGreatDoor.Q Go.Proofs.YtldhiaiaildnlaaGreatDoorW.PrintWords Go.Proofs.YtldhiaiaildnlaaGreatDoorW.PrintLast Go.Proofs.YtldhiaiaildnlaaGreatDoorW.PrintMore
theorem at_is {l : List Int} {i : Nat} (h : D l) (hl : l.length ≤ 1000000) (hi : i ≤ 2000000) : zX.f l (i : Int) = some ((dv l / 10 ^ i % 10 : Nat) : Int) := by
 obtain ⟨r, hr⟩ := at_t (l := l) (i := i) hl hi
 rw [hr, at_f h hl hi hr]
def Zs (y : List Int) (n : Nat) : Prop := ∀ q, n ≤ q → q < y.length → y.getD (y.length - 1 - q) 0 = 0
theorem Zs.set {y : List Int} {n p : Nat} (h : Zs y n) (hp : p < n) (hy : n ≤ y.length) (x : Int) : Zs (y.set (y.length - 1 - p) x) n := by
 intro q h1 h2
 rw [List.length_set] at h2 ⊢
 rw [zaw _ _ _ _ (by omega)]
 exact h q h1 h2
theorem zeu (a b : List Int) (ha : D a) (hb : D b) (la : a.length ≤ 1000) (lb : b.length ≤ 1000) (V i : Nat) (hi : i < a.length)
  (H : ∀ y : List Int, y.length = a.length + b.length → D y → Zs y (i + 1 + b.length) → dv y + 10 ^ (i + 1) * (dv a / 10 ^ (i + 1) * dv b) = V → Y (fun k => zJ.l0 k a b y ((i + 1 : Nat) : Int)) (fun r => r = dg V)) :
  ∀ (n : Nat) (y : List Int) (c j : Nat), b.length = j + n → y.length = a.length + b.length → D y → c ≤ 9 → Zs y (i + b.length) →
   dv y + 10 ^ (i + j) * (c + dv a / 10 ^ i % 10 * (dv b / 10 ^ j)) + 10 ^ (i + 1) * (dv a / 10 ^ (i + 1) * dv b) = V → Y (fun k => zJ.l1 k a b y (i : Int) (c : Int) (j : Int)) (fun r => r = dg V) := by
 intro n
 induction n with
 | zero =>
  intro y c j hj ly hy hc hz hv
  refine Y.succ ?_
  simp only [zJ.l1]
  rw [w64 (x := (y.length : Int) - 1) (by omega) (by omega), w64 (x := (y.length : Int) - 1 - i) (by omega) (by omega), w64 (x := (y.length : Int) - 1 - i - b.length) (by omega) (by omega), w64 (x := (i : Int) + 1) (by omega) (by omega), show (i : Int) + 1 = ((i + 1 : Nat) : Int) from rfl]
  have hb0 : dv b / 10 ^ j = 0 := Nat.div_eq_of_lt (by rw [show j = b.length from by omega]; exact zaD hb)
  rw [hb0, Nat.mul_zero, Nat.add_zero, show i + j = i + b.length from by omega] at hv
  refine Y.neg (by omega) (Y.ite (fun h => ?_) (fun h => ?_))
  ·refine Y.grd (by omega) (Y.grd (by omega) ?_)
   rw [show ((y.length : Int) - 1 - i - b.length).toNat = y.length - 1 - (i + b.length) from by omega]
   have e := zdO y (i + b.length) c (by omega) (hz _ (Nat.le_refl _) (by omega))
   refine H _ (by rw [List.length_set]; exact ly) (hy.set _ (by omega) (by omega)) ?_ ?_
   ·exact Zs.set (fun q h1 h2 => hz q (by omega) h2) (by omega) (by omega) _
   ·rw [e]; exact hv
  ·obtain rfl : c = 0 := by omega
   rw [Nat.mul_zero, Nat.add_zero] at hv
   exact H y ly hy (fun q h1 h2 => hz q (by omega) h2) hv
 | succ n ih =>
  intro y c j hj ly hy hc hz hv
  refine Y.succ ?_
  simp only [zJ.l1]
  rw [w64 (x := (y.length : Int) - 1) (by omega) (by omega), w64 (x := (y.length : Int) - 1 - i) (by omega) (by omega), w64 (x := (y.length : Int) - 1 - i - j) (by omega) (by omega), w64 (x := (j : Int) + 1) (by omega) (by omega), show (j : Int) + 1 = ((j + 1 : Nat) : Int) from rfl]
  refine Y.pos (by omega) (Y.grd (by omega) (Y.grd (by omega) (Y.sb (at_is ha (by omega) (by omega)) (Y.sb (at_is hb (by omega) (by omega)) ?_))))
  rw [show (y.length : Int) - 1 - i - j = ((y.length - 1 - (i + j) : Nat) : Int) from by omega, xG, Int.toNat_natCast]
  have gy := zcZ hy (y.length - 1 - (i + j))
  obtain ⟨x, hx⟩ : ∃ x : Nat, y.getD (y.length - 1 - (i + j)) 0 = x := ⟨(y.getD (y.length - 1 - (i + j)) 0).toNat, by omega⟩
  obtain ⟨d, hd⟩ : ∃ d, dv a / 10 ^ i % 10 = d := ⟨_, rfl⟩
  obtain ⟨z, hzd⟩ : ∃ z, dv b / 10 ^ j % 10 = z := ⟨_, rfl⟩
  have hd9 : d ≤ 9 := by omega
  have hz9 : z ≤ 9 := by omega
  have hdz : d * z ≤ 9 * 9 := Nat.mul_le_mul hd9 hz9
  rw [hx, hd, hzd, w64 (x := (d : Int) * z) (by rw [← Int.natCast_mul]; omega) (by rw [← Int.natCast_mul]; omega), ← Int.natCast_mul, w64 (x := (x : Int) + (d * z : Nat)) (by omega) (by omega), w64 (x := (x : Int) + (d * z : Nat) + c) (by omega) (by omega),
   show (x : Int) + (d * z : Nat) + c = ((x + d * z + c : Nat) : Int) from by omega, tmod10, tdiv10, w64 (x := (((x + d * z + c) / 10 : Nat) : Int)) (by omega) (by omega)]
  have e1 := dv_set y (i + j) (((x + d * z + c) % 10 : Nat) : Int) (by omega)
  rw [hx] at e1
  simp only [Int.toNat_natCast] at e1
  refine ih _ ((x + d * z + c) / 10) (j + 1) (by omega) (by rw [List.length_set]; exact ly) (hy.set _ (by omega) (by omega)) (by omega) (Zs.set hz (by omega) (by omega) _) ?_
  rw [hd] at hv ⊢
  rw [zay (dv b) j, hzd] at hv
  rw [show i + (j + 1) = i + j + 1 from rfl, zby]
  generalize 10 ^ (i + 1) * (dv a / 10 ^ (i + 1) * dv b) = T at hv ⊢
  generalize dv b / 10 ^ (j + 1) = Q at hv ⊢
  generalize 10 ^ (i + j) = P at hv e1 ⊢
  generalize hs : x + d * z + c = s at e1 ⊢
  have h3 : P * (10 * (s / 10 + d * Q)) + P * (s % 10) = P * (c + d * (z + 10 * Q)) + P * x := by
   rw [← Nat.mul_add, ← Nat.mul_add]
   congr 1
   rw [Nat.mul_add d, Nat.mul_left_comm d 10 Q]
   omega
  omega
theorem zev (a b : List Int) (ha : D a) (hb : D b) (la : a.length ≤ 1000) (lb : b.length ≤ 1000) (V : Nat) : ∀ (n : Nat) (y : List Int) (i : Nat), a.length = i + n → y.length = a.length + b.length → D y → Zs y (i + b.length) →
  dv y + 10 ^ i * (dv a / 10 ^ i * dv b) = V → Y (fun k => zJ.l0 k a b y (i : Int)) (fun r => r = dg V) := by
 intro n
 induction n with
 | zero =>
  intro y i hi ly hy hz hv
  refine Y.succ ?_
  simp only [zJ.l0]
  have h0 : dv a / 10 ^ i = 0 := Nat.div_eq_of_lt (by rw [show i = a.length from by omega]; exact zaD ha)
  rw [h0, Nat.zero_mul, Nat.mul_zero, Nat.add_zero] at hv
  exact Y.neg (by omega) (Y.eq (rtrim_y hy) (Y.pure (by rw [hv])))
 | succ n ih =>
  intro y i hi ly hy hz hv
  refine Y.succ ?_
  simp only [zJ.l0]
  refine Y.pos (by omega) (zeu a b ha hb la lb V i (by omega) (fun y h1 h2 h3 h4 => ih y (i + 1) (by omega) h1 h2 h3 h4) b.length y 0 0 (Nat.zero_add _).symm ly hy (by decide) hz ?_)
  rw [← hv, Nat.pow_zero, Nat.div_one, Nat.add_zero, Nat.zero_add, zay (dv a) i, Nat.add_assoc]
  congr 1
  rw [zby, ← Nat.mul_add]
  congr 1
  have e : dv a / 10 ^ i % 10 + 10 * (dv a / 10 ^ (i + 1)) = dv a / 10 ^ i := (zay (dv a) i).symm
  rw [Nat.add_mul, Nat.mul_assoc]
  congr 1
  congr 1
  omega
theorem rmul_y {a b : List Int} (ha : D a) (hb : D b) (la : a.length ≤ 1000) (lb : b.length ≤ 1000) : Y (fun k => zJ.f k a b) (fun r => r = dg (dv a * dv b)) := by
 unfold zJ.f
 rw [w64 (by omega) (by omega)]
 refine Y.grd (by omega) (Y.grd (by omega) ?_)
 refine zev a b ha hb la lb _ a.length _ 0 (Nat.zero_add _).symm (by rw [List.length_replicate]; omega) (D.zeros _) ?_ ?_
 ·intro q _ h
  rw [List.getD_eq_getElem?_getD, List.getElem?_replicate]
  split <;> rfl
 ·rw [zax, Nat.pow_zero, Nat.div_one]; omega
theorem result_y {s : Bool} {l : List Int} (hl : D l) : Y (fun k => zL.f k s l) (fun r => Ans r (res (s, dv l))) := Y.of result_t fun _ _ h => result_f hl h
theorem zbt {s : Bool} {n : Nat} : Y (fun k => (zL.f k s (dg n)).bind fun bt => some (bt.1, bt.2)) (fun r => Ans r (res (s, n))) :=
 Y.bind (result_y (dg_D n)) fun r hr => Y.pure (by rw [zaa] at hr; exact hr)
theorem rsum_y {x y : Bool × Nat} (hx : Fine x) (hy : Fine y) (s : Bool) : Y (fun k => zH.f k x.1 (dg x.2) s (dg y.2)) (fun r => Ans r (res (smv x (s, y.2)))) := by
 unfold zH.f smv
 have lx := len50 hx.1
 have ly := len50 hy.1
 refine Y.ite (fun h => ?_) (fun h => ?_)
 ·refine Y.eq (radd_y (dg_D _) (dg_D _) (by omega) (by omega)) ?_
  rw [zaa, zaa, if_pos (by simpa using h)]
  exact zbt
 ·rw [if_neg (by simpa using h)]
  refine Y.eq (rcmp_y (dg_D _) (dg_D _) (by omega) (by omega)) ?_
  rw [zaa, zaa]
  refine Y.ite (fun h2 => ?_) (fun h2 => ?_)
  ·have hle := (sg_ge _ _).mp h2
   refine Y.eq (rsub_y (dg_D _) (dg_D _) (by omega) (by omega) (by rw [zaa, zaa]; exact hle)) ?_
   rw [zaa, zaa, if_pos hle]
   exact zbt
  ·have hlt : ¬ y.2 ≤ x.2 := fun h3 => h2 ((sg_ge _ _).mpr h3)
   refine Y.eq (rsub_y (dg_D _) (dg_D _) (by omega) (by omega) (by rw [zaa, zaa]; omega)) ?_
   rw [zaa, zaa, if_neg hlt]
   exact zbt
theorem zb5 (a b : ByteArray) : Y (fun k => zR.f k a b) (fun r => (r.2.2.2.2 = false ∧ ∀ {α : Type} (z : α) (f : Bool × Nat → Bool × Nat → α), two z f (dl a) (dl b) = z) ∨
  (∃ x y, r = (x.1, dg x.2, y.1, dg y.2, true) ∧ Fine x ∧ Fine y ∧ can (dl a) = some x ∧ can (dl b) = some y ∧ ∀ {α : Type} (z : α) (f : Bool × Nat → Bool × Nat → α), two z f (dl a) (dl b) = f x y)) := Y.of two_t fun _ _ h => two_f h
theorem rAdd_y (a b : ByteArray) : Y (fun k => xg.f k a b) (fun r => Ans r (addS (dl a) (dl b))) := by
 unfold xg.f addS
 refine Y.bind (zb5 a b) fun r hr => ?_
 rcases hr with ⟨h1, h2⟩ | ⟨x, y, h1, hx, hy, _, _, h2⟩
 ·rw [h2]
  exact Y.neg (by rw [h1]; decide) (Y.pure ⟨rfl, rfl⟩)
 ·rw [h2, h1]
  exact Y.pos rfl (Y.bind (rsum_y hx hy y.1) fun s hs => Y.pure hs)
theorem rSub_y (a b : ByteArray) : Y (fun k => yB.f k a b) (fun r => Ans r (subS (dl a) (dl b))) := by
 unfold yB.f subS
 refine Y.bind (zb5 a b) fun r hr => ?_
 rcases hr with ⟨h1, h2⟩ | ⟨x, y, h1, hx, hy, _, _, h2⟩
 ·rw [h2]
  exact Y.neg (by rw [h1]; decide) (Y.pure ⟨rfl, rfl⟩)
 ·rw [h2, h1]
  exact Y.pos rfl (Y.bind (rsum_y hx hy (!y.1)) fun s hs => Y.pure hs)
theorem rNeg_y (a : ByteArray) : Y (fun k => yr.f k a) (fun r => Ans r (negS (dl a))) := by
 unfold yr.f
 exact Y.bind (rSub_y _ a) fun s hs => Y.pure hs
theorem rMul_y (a b : ByteArray) : Y (fun k => yF.f k a b) (fun r => Ans r (mulS (dl a) (dl b))) := by
 unfold yF.f mulS
 refine Y.bind (zb5 a b) fun r hr => ?_
 rcases hr with ⟨h1, h2⟩ | ⟨x, y, h1, hx, hy, _, _, h2⟩
 ·rw [h2]
  exact Y.neg (by rw [h1]; decide) (Y.pure ⟨rfl, rfl⟩)
 ·rw [h2, h1]
  have lx := len50 hx.1
  have ly := len50 hy.1
  refine Y.pos rfl (Y.eq (rmul_y (dg_D _) (dg_D _) (by simp only; omega) (by simp only; omega)) ?_)
  rw [zaa, zaa]
  have hm := za8 (Nat.le_of_lt hx.1) (Nat.le_of_lt hy.1)
  have lm : (dg (x.2 * y.2)).length ≤ 101 := zaY.mp hm
  refine Y.eq (rcut_y (n := 20) (how := 1) rfl (dg_D _) (by omega) (by decide)) ?_
  rw [zaa]
  exact zbt
end Go.Proofs.YtldhiaiaildnlaaGreatDoor.Nm
