/- Texts of the claim: Nj. -/
import Derived.Test.YtldhiaiaildnlaaGreatDoorSNi
import Derived.Test.YtldhiaiaildnlaaGreatDoorSQx20
namespace Go.Proofs.YtldhiaiaildnlaaGreatDoor.Nm
set_option linter.unusedVariables false
open Go Go.RowKit Go.Proofs.YtldhiaiaildnlaaGreatDoor.Q Go.Proofs.YtldhiaiaildnlaaGreatDoorW.PrintWords Go.Proofs.YtldhiaiaildnlaaGreatDoorW.PrintLast Go.Proofs.YtldhiaiaildnlaaGreatDoorW.PrintMore
theorem zd8 {α : Type} (a : List α) (x y : α) (b : List α) : (a ++ x :: b).set a.length y = a ++ y :: b := by
 rw [List.set_append_right _ _ (Nat.le_refl _), Nat.sub_self]; rfl
theorem zce (a : List Int) (x : Int) (b : List Int) : (a ++ x :: b).getD a.length 0 = x := by
 rw [List.getD_eq_getElem?_getD, List.getElem?_append_right (Nat.le_refl _), Nat.sub_self]; rfl
theorem rev_l0 : ∀ (k : Nat) (a m b r : List Int), (a ++ (m ++ b)).length ≤ 1000000 → zC.l0 k (a ++ (m ++ b)) (a.length : Int) ((a.length : Int) + m.length - 1) = some r → r = a ++ (m.reverse ++ b) := by
 intro k
 induction k with
 | zero => intro a m b r _ h; cases h
 | succ k ih =>
  intro a m b r hl h
  rw [zC.l0] at h
  by_cases hlt : (a.length : Int) < (a.length : Int) + m.length - 1
  ·rw [if_pos hlt] at h
   obtain ⟨x, m1, rfl⟩ : ∃ x m1, m = x :: m1 := by
    cases m with
    | nil => simp at hlt; omega
    | cons x m1 => exact ⟨x, m1, rfl⟩
   obtain ⟨m2, y, rfl⟩ := zbn m1 (by intro e; rw [e] at hlt; simp at hlt)
   have hll : a.length + m2.length + b.length + 2 ≤ 1000000 := by simp at hl; omega
   obtain ⟨_, h⟩ := ifE h
   obtain ⟨_, h⟩ := ifE h
   obtain ⟨_, h⟩ := ifE h
   obtain ⟨_, h⟩ := ifE h
   have ej : (a.length : Int) + (x :: (m2 ++ [y])).length - 1 = ((a ++ x :: m2).length : Nat) := by simp; omega
   have ej2 : (a.length : Int) + (x :: (m2 ++ [y])).length - 1 = ((a ++ y :: m2).length : Nat) := by simp; omega
   have e1 : a ++ (x :: (m2 ++ [y]) ++ b) = (a ++ x :: m2) ++ y :: b := by simp
   have e2 : rd (a ++ (x :: (m2 ++ [y]) ++ b)) ((a.length : Int) + (x :: (m2 ++ [y])).length - 1) = y := by
    rw [ej, xG, e1, zce]
   have e3 : rd (a ++ (x :: (m2 ++ [y]) ++ b)) (a.length : Int) = x := by
    rw [xG]
    exact zce a x _
   rw [e2, e3, Int.toNat_natCast] at h
   have e4 : (a ++ (x :: (m2 ++ [y]) ++ b)).set a.length y = (a ++ y :: m2) ++ y :: b := by
    have := zd8 a x y (m2 ++ [y] ++ b)
    simp at this ⊢
   rw [e4, ej2, Int.toNat_natCast, zd8] at h
   have e5 : (a ++ y :: m2) ++ x :: b = (a ++ [y]) ++ (m2 ++ (x :: b)) := by simp
   rw [e5, w64 (x := (a.length : Int) + 1) (by omega) (by omega), w64 (by simp; omega) (by simp; omega)] at h
   have := ih (a ++ [y]) m2 (x :: b) r (by simp; omega) (by
    rw [← h]
    congr 1
    ·simp
    ·simp; omega)
   rw [this]; simp
  ·rw [if_neg hlt] at h
   rw [← someE h]
   cases m with
   | nil => rfl
   | cons x m1 =>
    cases m1 with
    | nil => rfl
    | cons y m2 => exfalso; apply hlt; simp; omega
theorem rev_f {k : Nat} {l r : List Int} (hl : l.length ≤ 1000000) (h : zC.f k l = some r) : r = l.reverse := by
 unfold zC.f at h
 rw [w64 (by omega) (by omega)] at h
 have := rev_l0 k [] l [] r (by simpa using hl) (by simpa using h)
 simpa using this
def lv (l : List Int) : Nat := dv (l.reverse.map (· - 48))
def A (l : List Int) : Prop := ∀ x ∈ l, 48 ≤ x ∧ x ≤ 57
theorem A.snoc {l : List Int} {x : Int} (h : A l) (hx : 48 ≤ x ∧ x ≤ 57) : A (l ++ [x]) := by
 intro y hy
 rcases List.mem_append.mp hy with h1 | h1
 ·exact h y h1
 ·obtain rfl := List.mem_singleton.mp h1; exact hx
theorem A.front {l : List Int} {x : Int} (h : A (l ++ [x])) : A l ∧ 48 ≤ x ∧ x ≤ 57 := ⟨fun y hy => h y (List.mem_append_left _ hy), h x (by simp)⟩
theorem zcW (l : List Int) (x : Int) : lv (l ++ [x]) = lv l + 10 ^ l.length * (x - 48).toNat := by
 unfold lv
 rw [List.reverse_append, List.reverse_singleton, List.singleton_append, List.map_cons, zae, List.length_map, List.length_reverse, Nat.mul_comm, Nat.add_comm]
theorem A.D {l : List Int} (h : A l) : D (l.reverse.map (· - 48)) := by
 intro x hx
 obtain ⟨y, hy, rfl⟩ := List.mem_map.mp hx
 have := h y (List.mem_reverse.mp hy)
 omega
theorem ds_of {L : List Int} (h : D L) (hl : 21 ≤ L.length) (h0 : L.length > 21 → ∀ x r, L = x :: r → x ≠ 0) : L = ds (dv L) := by
 have ht := tz_dg h
 obtain ⟨z, hz⟩ := zb4 L
 rw [ht] at hz
 have hlen := congrArg List.length hz
 rw [List.length_append, List.length_replicate] at hlen
 unfold ds
 by_cases h21 : L.length > 21
 ·cases z with
  | zero =>
   rw [show 21 - (dg (dv L)).length = 0 from by omega]
   exact hz
  | succ z =>
   rw [List.replicate_succ, List.cons_append] at hz
   exact absurd rfl (h0 h21 _ _ hz)
 ·rw [show 21 - (dg (dv L)).length = z from by omega]
  exact hz
theorem zda {L : List Int} (h : D L) : dl (strOfNums (L.map (· + 48))) = L.map ch := by
 unfold dl strOfNums
 rw [List.map_map]
 rfl
theorem dig_l3 : ∀ (k : Nat) (l : List Int) (r : ByteArray), A l → l.length ≤ 3000 → (l.length > 21 → ∀ a x, l = a ++ [x] → x ≠ 48) → zp.l3 k 21 l = some r → dl r = (ds (lv l)).map ch := by
 intro k
 induction k with
 | zero => intro l r _ _ _ h; cases h
 | succ k ih =>
  intro l r ha hl h0 h
  rw [zp.l3] at h
  by_cases hlt : (l.length : Int) < 21
  ·rw [if_pos hlt] at h
   obtain ⟨_, h⟩ := ifE h
   rw [ih (l ++ [48]) r (ha.snoc (by omega)) (by simp; omega) (by intro h; simp at h; omega) h, zcW]
   simp
  ·rw [if_neg hlt] at h
   obtain ⟨t, h1, h⟩ := bindE h
   rw [rev_f (by omega) h1] at h
   rw [← someE h]
   have hD := ha.D
   have e : l.reverse = (l.reverse.map (· - 48)).map (· + 48) := by
    rw [List.map_map]
    conv => lhs; rw [← List.map_id l.reverse]
    exact List.map_congr_left fun x _ => by simp
   rw [e, zda hD]
   congr 1
   refine ds_of hD (by simp; omega) ?_
   intro hg x t he
   have hg2 : l.length > 21 := by simpa using hg
   have hne : l ≠ [] := by intro e; rw [e] at hg2; simp at hg2
   obtain ⟨a, y, rfl⟩ := zbn l hne
   have := h0 hg2 a y rfl
   rw [List.reverse_append, List.reverse_singleton, List.singleton_append, List.map_cons] at he
   have := (List.cons.inj he).1
   omega
theorem dig_j3 : ∀ (k : Nat) (l : List Int) (r : ByteArray), A l → l.length ≤ 3000 → (l.length > 21 → ∀ a x, l = a ++ [x] → x ≠ 48) → zp.j3 k 21 l = some r → dl r = (ds (lv l)).map ch := by
 intro k l r ha hl h0 h
 cases k with
 | zero => cases h
 | succ k => exact dig_l3 k l r ha hl h0 h
theorem dig_l2 : ∀ (k : Nat) (l : List Int) (r : ByteArray), A l → l.length ≤ 3000 → zp.l2 k 21 l = some r → dl r = (ds (lv l)).map ch := by
 intro k
 induction k with
 | zero => intro l r _ _ h; cases h
 | succ k ih =>
  intro l r ha hl h
  rw [zp.l2] at h
  by_cases hgt : (l.length : Int) > 21
  ·rw [if_pos hgt] at h
   obtain ⟨a, x, rfl⟩ := zbn l (by intro e; rw [e] at hgt; simp at hgt)
   have hlen : (a ++ [x]).length = a.length + 1 := by simp
   rw [hlen] at hgt hl
   rw [hlen, show wrap64 (((a.length + 1 : Nat) : Int) - 1) = (a.length : Nat) from by rw [w64 (by omega) (by omega)]; omega] at h
   obtain ⟨_, h⟩ := ifE h
   obtain ⟨_, h⟩ := ifE h
   rw [xG, zce] at h
   by_cases hx : x = 48
   ·rw [if_pos hx] at h
    obtain ⟨_, h⟩ := ifE h
    rw [Int.toNat_natCast, List.take_left' rfl] at h
    rw [ih a r ha.front.1 (by omega) h, zcW, hx]
    simp
   ·rw [if_neg hx] at h
    refine dig_j3 k _ r ha (by omega) ?_ h
    intro _ b y e
    have := List.append_inj_right' e rfl
    have := (List.cons.inj this).1
    omega
  ·rw [if_neg hgt] at h
   exact dig_j3 k _ r ha (by omega) (by intro h; omega) h
theorem tdiv10 (n : Nat) : Int.tdiv (n : Int) 10 = ((n / 10 : Nat) : Int) := rfl
theorem tmod10 (n : Nat) : Int.tmod (n : Int) 10 = ((n % 10 : Nat) : Int) := rfl
theorem dig_l : ∀ (k : Nat),
  (∀ (w l : List Int) (i : Nat) (r : ByteArray) (V : Nat), W w → A l → w.length ≤ 300 → i ≤ w.length → l.length = 9 * i → V = lv l + 10 ^ l.length * bv (w.drop i) →
   zp.l0 k 21 l w (w.length : Int) (i : Int) = some r → dl r = (ds V).map ch) ∧
  (∀ (w l : List Int) (i j x : Nat) (r : ByteArray) (V : Nat), W w → A l → w.length ≤ 300 → i < w.length → j ≤ 9 → x < 10 ^ (9 - j) → l.length = 9 * i + j → V = lv l + 10 ^ l.length * (x + 10 ^ (9 - j) * bv (w.drop (i + 1))) →
   zp.l1 k 21 l (x : Int) w (w.length : Int) (i : Int) (j : Int) = some r → dl r = (ds V).map ch) := by
 intro k
 induction k with
 | zero => constructor <;> (intros; rename_i h; cases h)
 | succ k ih =>
  obtain ⟨ih0, ih1⟩ := ih
  refine ⟨?_, ?_⟩
  ·intro w l i r V hw ha hl hi hll hV h
   rw [zp.l0] at h
   by_cases hlt : (i : Int) < (w.length : Int)
   ·rw [if_pos hlt] at h
    obtain ⟨_, h⟩ := ifE h
    obtain ⟨_, h⟩ := ifE h
    have g := zaq hw i
    obtain ⟨x, hx⟩ : ∃ x : Nat, w.getD i 0 = x := ⟨(w.getD i 0).toNat, by omega⟩
    rw [xG, hx] at h
    refine ih1 w l i 0 x r V hw ha hl (by omega) (by omega) (by omega) (by omega) ?_ h
    rw [hV, zal w i, hx]; rfl
   ·rw [if_neg hlt] at h
    rw [dig_l2 k l r ha (by omega) h, hV, xR w i (by omega)]
    simp
  ·intro w l i j x r V hw ha hl hi hj hx hll hV h
   rw [zp.l1] at h
   by_cases hlt : (j : Int) < 9
   ·rw [if_pos hlt, w64 (x := (j : Int) + 1) (by omega) (by omega), tmod10, tdiv10] at h
    obtain ⟨_, h⟩ := ifE h
    have hp : 10 ^ (9 - j) ≤ 10 ^ 9 := Nat.pow_le_pow_right (by decide) (by omega)
    have hp2 : 10 ^ (9 - j) = 10 * 10 ^ (9 - (j + 1)) := by
     rw [show 9 - j = 9 - (j + 1) + 1 from by omega, Nat.pow_succ, Nat.mul_comm]
    rw [u64 (x := (48 : Int) + _) (by omega) (by omega), u64 (by omega) (by omega)] at h
    have hd : ((48 : Int) + ((x % 10 : Nat) : Int)) % 256 = 48 + ((x % 10 : Nat) : Int) := by omega
    rw [hd] at h
    refine ih1 w _ i (j + 1) (x / 10) r V hw (ha.snoc (x := 48 + ((x % 10 : Nat) : Int)) (by omega)) hl hi (by omega) (by omega) (by simp; omega) ?_ h
    rw [hV, zcW, List.length_append, List.length_singleton, Nat.pow_succ, hp2, Nat.mul_assoc (10 ^ l.length) 10, Nat.add_assoc, ← Nat.mul_add]
    congr 2
    rw [Nat.mul_add, show ((48 : Int) + ((x % 10 : Nat) : Int) - 48).toNat = x % 10 from by omega, Nat.mul_assoc]
    omega
   ·rw [if_neg hlt, w64 (x := (i : Int) + 1) (by omega) (by omega)] at h
    obtain rfl : j = 9 := by omega
    have hx0 : x = 0 := by simpa using hx
    subst hx0
    refine ih0 w l (i + 1) r V hw ha hl (by omega) (by omega) ?_ h
    rw [hV]; simp
theorem zdi {k : Nat} {n : Nat} {r : ByteArray} (hn : (bg n).length ≤ 300) (h : zp.f k (bg n) 21 = some r) : dl r = (ds n).map ch := by
 unfold zp.f at h
 refine (dig_l k).1 (bg n) [] 0 r n (bg_W n) (by intro x hx; cases hx) hn (by omega) rfl ?_ h
 simp [lv, dv, y9]
theorem zc1 {l : List Int} (h : D l) : (l.map ch).dropWhile (· == 48) = (tz l).map ch := by
 induction l with
 | nil => rfl
 | cons x l ih =>
  have hx := h.head
  rw [List.map_cons, List.dropWhile_cons, tz]
  by_cases h0 : x = 0
  ·rw [if_pos h0, if_pos (by rw [h0]; rfl)]
   exact ih h.tail
  ·rw [if_neg h0, if_neg, List.map_cons]
   intro e
   have := beq_iff_eq.mp e
   have h2 := ch_nat hx
   rw [this] at h2
   have : (48 : UInt8).toNat = 48 := rfl
   omega
theorem D.reverse {l : List Int} (h : D l) : D l.reverse := fun x hx => h x (List.mem_reverse.mp hx)
theorem zd6 {l : List Int} (h : D l) : Lib.trimRightB (l.map ch) 48 = (rz l).map ch := by
 unfold Lib.trimRightB rz
 rw [← List.map_reverse, zc1 h.reverse, List.map_reverse]
theorem zbM {s r : ByteArray} (h : yk.f s (⟨#[48]⟩ : ByteArray) = some r) : dl r = Lib.trimRightB (dl s) 48 := by
 unfold yk.f at h
 obtain ⟨_, h⟩ := ifE h
 rw [← someE h]
 rfl
theorem zeh {n m : Nat} (h : (bg n).length ≤ m) : (dg n).length ≤ 9 * m := zaY.mp (by
 have h3 := zaz.mpr h
 have h4 : (1000000000 : Nat) = 10 ^ 9 := by decide
 rw [h4, ← Nat.pow_mul] at h3
 exact h3)
theorem zdy {k : Nat} {x : Bool × Nat} {r : ByteArray} (hn : (bg x.2).length ≤ 300) (h : zO.f k x.1 (bg x.2) = some r) : dl r = tx x := by
 obtain ⟨s, n⟩ := x
 unfold zO.f at h
 obtain ⟨t, h1, h⟩ := bindE h
 have ht := zdi hn h1
 have hl := yQ t
 have hlen := zbf n
 have hds : (dl t).length = (ds n).length := by rw [ht, List.length_map]
 obtain ⟨h0, h⟩ := ifE h
 obtain ⟨h00, h⟩ := ifE h
 have hsz : t.size ≤ 100000 := by
  have := zeh (n := n) hn
  omega
 rw [w64 (by omega) (by omega)] at h
 obtain ⟨u, h2, h⟩ := bindE h
 have hu := zbM h2
 have e0 : ((t.size : Int) - 20).toNat = (ds n).length - 20 := by omega
 rw [e0] at h hu
 have ew : dl (t.extract 0 ((ds n).length - 20)) = (whole n).map ch := by
  rw [zaO, ht, List.drop_zero, Nat.sub_zero, ← List.map_take]; rfl
 rw [zaO, List.take_of_length_le (by rw [List.length_drop]; omega), ht, ← List.map_drop, zd6 (zdP n)] at hu
 have hu2 : dl u = (frac n).map ch := hu
 rw [xq, hu2] at h
 unfold tx body
 have fin : ∀ (v : ByteArray) (b : List UInt8), dl v = b → (if s = true then (if 1 + v.size ≤ 9223372036854775807 then some ((⟨#[45]⟩ : ByteArray) ++ v) else none) else some v) = some r → dl r = (if s = true then [45] else []) ++ b := by
  intro v b hv h
  cases s with
  | true =>
   rw [if_pos rfl] at h
   obtain ⟨_, h⟩ := ifE h
   rw [← someE h, zbI, hv]; rfl
  | false =>
   rw [if_neg (by decide)] at h
   rw [← someE h, hv]; rfl
 by_cases hf : frac n = []
 ·rw [if_pos (by rw [hf]; rfl)] at h
  simp only
  rw [if_pos hf]
  refine fin _ _ ?_ h
  rw [ew]; simp
 ·rw [if_neg (by simpa using hf)] at h
  simp only
  rw [if_neg hf]
  obtain ⟨_, h⟩ := ifE h
  obtain ⟨_, h⟩ := ifE h
  refine fin _ _ ?_ h
  rw [zbI, zbI, ew, hu2]; rfl
theorem xJ {x : Bool × Nat} (h : Fine x) : (bg x.2).length ≤ 28 := len10 h.1 (by decide)
def canP (l : List UInt8) : Bool × List Int × Int := match can l with
 | none => (false, [], 1)
 | some x => (x.1, bg x.2, 0)
theorem zbv {l : List UInt8} {e : Int} (h : rdn l = .error e) : e ≠ 0 := by
 unfold rdn at h
 split at h
 ·cases h; decide
 ·split at h
  ·cases h; decide
  ·unfold fit at h
   split at h <;> cases h
   decide
theorem zaE {k : Nat} {s : ByteArray} {r : Bool × List Int × Int} (hs : s.size ≤ 1000000000) (h : zt.f k s = some r) : r = canP (dl s) := by
 unfold zt.f at h
 obtain ⟨t, h1, h⟩ := bindE h
 have ht := zcS hs h1
 unfold rdnP at ht
 unfold canP can
 cases hr : rdn (dl s) with
 | error e =>
  rw [hr] at ht
  rw [ht, if_neg (zbv hr)] at h
  exact (someE h).symm
 | ok x =>
  rw [hr] at ht
  rw [ht, if_pos rfl] at h
  obtain ⟨u, h2, h⟩ := bindE h
  have hu := zdy (x := x) (by have := xJ (zat hr); omega) h2
  rw [xq, xq, hu] at h
  simp only
  by_cases he : tx x = dl s
  ·rw [if_pos he] at h ⊢
   exact (someE h).symm
  ·rw [if_neg he] at h ⊢
   exact (someE h).symm
def Ans (r : ByteArray × Int) (a : List UInt8 × Int) : Prop := dl r.1 = a.1 ∧ r.2 = a.2
theorem zbh {k : Nat} {s : Bool} {n : Nat} {r : ByteArray × Int} (hn : (bg n).length ≤ 40000) (h : yh.f k s (bg n) = some r) : Ans r (res (s, n)) := by
 unfold yh.f at h
 obtain ⟨t, h1, h⟩ := bindE h
 have ht := za7 hn h1
 unfold chk at ht
 unfold res
 cases hf : fit (s, n) with
 | error e =>
  have he : e = 40 := by
   unfold fit at hf
   split at hf
   ·cases hf; rfl
   ·cases hf
  rw [hf] at ht
  rw [ht, if_neg (by rw [he]; decide)] at h
  rw [← someE h]
  exact ⟨rfl, rfl⟩
 | ok y =>
  rw [hf] at ht
  rw [ht, if_pos rfl] at h
  obtain ⟨u, h2, h⟩ := bindE h
  have hu := zdy (x := y) (by have := xJ (zdL hf).1; omega) h2
  rw [← someE h]
  exact ⟨hu, rfl⟩
end Go.Proofs.YtldhiaiaildnlaaGreatDoor.Nm
