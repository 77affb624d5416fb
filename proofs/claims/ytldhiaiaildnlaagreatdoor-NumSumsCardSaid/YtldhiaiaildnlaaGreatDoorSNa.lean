/- Texts of the claim: Na. -/
namespace Go.Proofs.YtldhiaiaildnlaaGreatDoor.Nm
set_option linter.unusedVariables false
def dv (l : List Int) : Nat := l.foldl (fun a d => 10 * a + d.toNat) 0
def D (l : List Int) : Prop := ∀ x ∈ l, 0 ≤ x ∧ x ≤ 9
theorem D.nil : D [] := by intro x h; cases h
theorem D.cons {x : Int} {l : List Int} (h0 : 0 ≤ x) (h1 : x ≤ 9) (h : D l) : D (x :: l) := by
 intro y hy
 rcases List.mem_cons.mp hy with rfl | hy
 ·exact ⟨h0, h1⟩
 ·exact h y hy
theorem D.append {a b : List Int} (ha : D a) (hb : D b) : D (a ++ b) := by
 intro y hy
 rcases List.mem_append.mp hy with h | h
 ·exact ha y h
 ·exact hb y h
theorem D.left {a b : List Int} (h : D (a ++ b)) : D a := fun x hx => h x (List.mem_append_left _ hx)
theorem D.right {a b : List Int} (h : D (a ++ b)) : D b := fun x hx => h x (List.mem_append_right _ hx)
theorem D.tail {x : Int} {l : List Int} (h : D (x :: l)) : D l := fun y hy => h y (List.mem_cons_of_mem _ hy)
theorem D.head {x : Int} {l : List Int} (h : D (x :: l)) : 0 ≤ x ∧ x ≤ 9 := h x List.mem_cons_self
theorem D.zeros (n : Nat) : D (List.replicate n 0) := by
 intro x hx
 obtain ⟨_, rfl⟩ := List.mem_replicate.mp hx
 omega
theorem dv_fold (l : List Int) : ∀ a : Nat, l.foldl (fun a d => 10 * a + d.toNat) a = a * 10 ^ l.length + dv l := by
 induction l with
 | nil => intro a; simp [dv]
 | cons x l ih =>
  intro a
  unfold dv
  rw [List.foldl_cons, List.foldl_cons, ih, ih (10 * 0 + x.toNat), List.length_cons, Nat.pow_succ]
  rw [Nat.add_mul, Nat.add_mul, Nat.mul_zero, Nat.zero_mul, Nat.zero_add, Nat.mul_comm 10 a, Nat.mul_assoc a 10, Nat.mul_comm 10, Nat.add_assoc]
theorem dv_nil : dv [] = 0 := rfl
theorem xP (a b : List Int) : dv (a ++ b) = dv a * 10 ^ b.length + dv b := by
 unfold dv
 rw [List.foldl_append, dv_fold]
 rfl
theorem zae (x : Int) (l : List Int) : dv (x :: l) = x.toNat * 10 ^ l.length + dv l := by
 have := xP [x] l
 rw [List.singleton_append] at this
 rw [this]; simp [dv]
theorem zb0 (l : List Int) (x : Int) : dv (l ++ [x]) = 10 * dv l + x.toNat := by
 rw [xP]; simp [dv]; omega
theorem zax (n : Nat) : dv (List.replicate n 0) = 0 := by
 induction n with
 | zero => rfl
 | succ n ih => rw [List.replicate_succ, zae, ih]; simp
theorem zaD {l : List Int} (h : D l) : dv l < 10 ^ l.length := by
 induction l with
 | nil => simp [dv]
 | cons x l ih =>
  have h1 := ih h.tail
  have h2 := h.head
  rw [zae, List.length_cons, Nat.pow_succ]
  have : x.toNat * 10 ^ l.length ≤ 9 * 10 ^ l.length := Nat.mul_le_mul_right _ (by omega)
  omega
def dgF : Nat → Nat → List Int
 | 0, _ => []
 | f + 1, n => if n = 0 then [] else dgF f (n / 10) ++ [((n % 10 : Nat) : Int)]
def dg (n : Nat) : List Int := dgF n n
theorem zdQ : ∀ (f g n : Nat), n ≤ f → n ≤ g → dgF f n = dgF g n := by
 intro f
 induction f with
 | zero =>
  intro g n h1 h2
  obtain rfl : n = 0 := by omega
  cases g with
  | zero => rfl
  | succ g => simp [dgF]
 | succ f ih =>
  intro g n h1 h2
  cases g with
  | zero =>
   obtain rfl : n = 0 := by omega
   simp [dgF]
  | succ g =>
   by_cases h : n = 0
   ·simp [dgF, h]
   ·simp only [dgF]
    rw [if_neg h, if_neg h, ih g (n / 10) (by omega) (by omega)]
theorem zc3 : dg 0 = [] := rfl
theorem zch {n : Nat} (h : 0 < n) : dg n = dg (n / 10) ++ [((n % 10 : Nat) : Int)] := by
 unfold dg
 obtain ⟨m, rfl⟩ : ∃ m, n = m + 1 := ⟨n - 1, by omega⟩
 rw [dgF, if_neg (by omega), zdQ m ((m + 1) / 10) ((m + 1) / 10) (by omega) (Nat.le_refl _)]
theorem dg_D : ∀ n : Nat, D (dg n) := by
 intro n
 induction n using Nat.strongRecOn with
 | _ n ih =>
  by_cases h : n = 0
  ·subst h; exact D.nil
  ·rw [zch (by omega)]
   exact (ih (n / 10) (by omega)).append (D.cons (by omega) (by omega) D.nil)
theorem zaa : ∀ n : Nat, dv (dg n) = n := by
 intro n
 induction n using Nat.strongRecOn with
 | _ n ih =>
  by_cases h : n = 0
  ·subst h; rfl
  ·rw [zch (by omega), zb0, ih (n / 10) (by omega)]
   omega
theorem zc4 {n : Nat} (h : dg n = []) : n = 0 := by have := zaa n; rw [h] at this; exact this.symm
theorem dg_head : ∀ n : Nat, ∀ x r, dg n = x :: r → x ≠ 0 := by
 intro n
 induction n using Nat.strongRecOn with
 | _ n ih =>
  intro x r h
  by_cases h0 : n = 0
  ·subst h0; cases h
  ·rw [zch (by omega)] at h
   cases hd : dg (n / 10) with
   | nil =>
    rw [hd] at h
    have := zc4 hd
    simp only [List.nil_append, List.cons.injEq] at h
    omega
   | cons y t =>
    rw [hd] at h
    simp only [List.cons_append, List.cons.injEq] at h
    rw [← h.1]
    exact ih (n / 10) (by omega) y t hd
theorem dg_dv {x : Int} {r : List Int} (h : D (x :: r)) (hx : x ≠ 0) : dg (dv (x :: r)) = x :: r := by
 suffices H : ∀ (n : Nat) (r : List Int), r.length = n → D (x :: r) → dg (dv (x :: r)) = x :: r from H r.length r rfl h
 intro n
 induction n with
 | zero =>
  intro r hr h
  obtain rfl := List.length_eq_zero_iff.mp hr
  have h1 := h.head
  have e : dv [x] = x.toNat := by simp [dv]
  rw [e, zch (by omega), show x.toNat / 10 = 0 from by omega, zc3]
  simp only [List.nil_append, List.cons.injEq, and_true]
  omega
 | succ n ih =>
  intro r hr h
  obtain ⟨r', y, rfl⟩ : ∃ r' y, r = r' ++ [y] := by
   have hne : r ≠ [] := by intro e; rw [e] at hr; cases hr
   exact ⟨r.dropLast, r.getLast hne, (List.dropLast_concat_getLast hne).symm⟩
  have hl : r'.length = n := by rw [List.length_append, List.length_singleton] at hr; omega
  have hD : D (x :: r') := by
   have : D ((x :: r') ++ [y]) := by simpa using h
   exact this.left
  have hy := h y (by simp)
  have e := ih r' hl hD
  have hpos : 0 < dv (x :: r') := by
   rcases Nat.eq_zero_or_pos (dv (x :: r')) with h0 | h0
   ·rw [h0, zc3] at e; cases e
   ·exact h0
  have e2 : x :: (r' ++ [y]) = (x :: r') ++ [y] := rfl
  rw [e2, zb0, zch (by omega), show (10 * dv (x :: r') + y.toNat) / 10 = dv (x :: r') from by omega, e]
  congr 1
  simp only [List.cons.injEq, and_true]
  omega
def tz : List Int → List Int
 | [] => []
 | d :: r => if d = 0 then tz r else d :: r
theorem tz_dg {l : List Int} (h : D l) : tz l = dg (dv l) := by
 induction l with
 | nil => rfl
 | cons x r ih =>
  rw [tz]
  by_cases hx : x = 0
  ·rw [if_pos hx, ih h.tail, zae, hx]; simp
  ·rw [if_neg hx, dg_dv h hx]
theorem zaY {n k : Nat} : n < 10 ^ k ↔ (dg n).length ≤ k := by
 constructor
 ·intro h
  cases hd : dg n with
  | nil => exact Nat.zero_le _
  | cons x r =>
   have hx := dg_head n x r hd
   have hD := dg_D n
   rw [hd] at hD
   have e := zaa n
   rw [hd, zae] at e
   have h1 := hD.head
   rcases Nat.lt_or_ge k (r.length + 1) with hk | hk
   ·have : 10 ^ k ≤ 10 ^ r.length := Nat.pow_le_pow_right (by omega) (by omega)
    have : 1 * 10 ^ r.length ≤ x.toNat * 10 ^ r.length := Nat.mul_le_mul_right _ (by omega)
    omega
   ·exact hk
 ·intro h
  have := zaD (dg_D n)
  rw [zaa] at this
  exact Nat.lt_of_lt_of_le this (Nat.pow_le_pow_right (by omega) h)
theorem dv_at : ∀ (l : List Int) (i : Nat), D l → (if i < l.length then l.getD (l.length - 1 - i) 0 else 0) = ((dv l / 10 ^ i % 10 : Nat) : Int) := by
 intro l i h
 by_cases hi : i < l.length
 ·rw [if_pos hi]
  obtain ⟨a, x, b, rfl, hb⟩ : ∃ a x b, l = a ++ x :: b ∧ b.length = i := by
   refine ⟨l.take (l.length - 1 - i), l[l.length - 1 - i]'(by omega), l.drop (l.length - 1 - i + 1), ?_, ?_⟩
   ·rw [← List.drop_eq_getElem_cons, List.take_append_drop]
   ·rw [List.length_drop]; omega
  have hD := h.right
  have hx := hD.head
  have hlt := zaD hD.tail
  have e : (a ++ x :: b).getD ((a ++ x :: b).length - 1 - i) 0 = x := by
   have : (a ++ x :: b).length - 1 - i = a.length := by simp; omega
   rw [this, List.getD_eq_getElem?_getD, List.getElem?_append_right (Nat.le_refl _), Nat.sub_self]; rfl
  rw [e, xP, zae, List.length_cons, hb]
  rw [hb] at hlt
  have e2 : dv a * 10 ^ (i + 1) + (x.toNat * 10 ^ i + dv b) = (10 * dv a + x.toNat) * 10 ^ i + dv b := by
   rw [Nat.pow_succ, Nat.add_mul, Nat.mul_comm (10 ^ i) 10, ← Nat.mul_assoc, Nat.mul_comm (dv a) 10]; omega
  rw [e2, Nat.mul_comm, Nat.mul_add_div (Nat.pow_pos (by omega)), Nat.div_eq_of_lt hlt]
  omega
 ·rw [if_neg hi]
  have := zaD h
  have h2 : 10 ^ l.length ≤ 10 ^ i := Nat.pow_le_pow_right (by omega) (by omega)
  rw [Nat.div_eq_of_lt (by omega)]
  rfl
def B : Nat := 1000000000
def bv : List Int → Nat
 | [] => 0
 | x :: r => x.toNat + 1000000000 * bv r
def W (l : List Int) : Prop := ∀ x ∈ l, 0 ≤ x ∧ x < 1000000000
theorem W.nil : W [] := by intro x h; cases h
theorem W.cons {x : Int} {l : List Int} (h0 : 0 ≤ x) (h1 : x < 1000000000) (h : W l) : W (x :: l) := by
 intro y hy
 rcases List.mem_cons.mp hy with rfl | hy
 ·exact ⟨h0, h1⟩
 ·exact h y hy
theorem W.append {a b : List Int} (ha : W a) (hb : W b) : W (a ++ b) := by
 intro y hy
 rcases List.mem_append.mp hy with h | h
 ·exact ha y h
 ·exact hb y h
theorem W.left {a b : List Int} (h : W (a ++ b)) : W a := fun x hx => h x (List.mem_append_left _ hx)
theorem W.right {a b : List Int} (h : W (a ++ b)) : W b := fun x hx => h x (List.mem_append_right _ hx)
theorem W.tail {x : Int} {l : List Int} (h : W (x :: l)) : W l := fun y hy => h y (List.mem_cons_of_mem _ hy)
theorem W.head {x : Int} {l : List Int} (h : W (x :: l)) : 0 ≤ x ∧ x < 1000000000 := h x List.mem_cons_self
theorem W.zeros (n : Nat) : W (List.replicate n 0) := by
 intro x hx
 obtain ⟨_, rfl⟩ := List.mem_replicate.mp hx
 omega
theorem zaJ (a b : List Int) : bv (a ++ b) = bv a + 1000000000 ^ a.length * bv b := by
 induction a with
 | nil => simp [bv]
 | cons x a ih => rw [List.cons_append, bv, ih, bv, List.length_cons, Nat.pow_succ, Nat.mul_add, Nat.mul_comm (1000000000 ^ a.length) 1000000000, Nat.mul_assoc, Nat.add_assoc]
theorem zck (n : Nat) : bv (List.replicate n 0) = 0 := by
 induction n with
 | zero => rfl
 | succ n ih => rw [List.replicate_succ, bv, ih]; rfl
theorem bv_lt {l : List Int} (h : W l) : bv l < 1000000000 ^ l.length := by
 induction l with
 | nil => simp [bv]
 | cons x l ih =>
  have h1 := ih h.tail
  have h2 := h.head
  rw [bv, List.length_cons, Nat.pow_succ]
  omega
def bgF : Nat → Nat → List Int
 | 0, _ => []
 | f + 1, n => if n = 0 then [] else ((n % 1000000000 : Nat) : Int) :: bgF f (n / 1000000000)
def bg (n : Nat) : List Int := bgF n n
theorem zd1 : ∀ (f g n : Nat), n ≤ f → n ≤ g → bgF f n = bgF g n := by
 intro f
 induction f with
 | zero =>
  intro g n h1 h2
  obtain rfl : n = 0 := by omega
  cases g with
  | zero => rfl
  | succ g => simp [bgF]
 | succ f ih =>
  intro g n h1 h2
  cases g with
  | zero =>
   obtain rfl : n = 0 := by omega
   simp [bgF]
  | succ g =>
   by_cases h : n = 0
   ·simp [bgF, h]
   ·simp only [bgF]
    rw [if_neg h, if_neg h, ih g (n / 1000000000) (by omega) (by omega)]
theorem zbE : bg 0 = [] := rfl
theorem zbK {n : Nat} (h : 0 < n) : bg n = ((n % 1000000000 : Nat) : Int) :: bg (n / 1000000000) := by
 unfold bg
 obtain ⟨m, rfl⟩ : ∃ m, n = m + 1 := ⟨n - 1, by omega⟩
 rw [bgF, if_neg (by omega), zd1 m ((m + 1) / 1000000000) ((m + 1) / 1000000000) (by omega) (Nat.le_refl _)]
theorem bg_W : ∀ n : Nat, W (bg n) := by
 intro n
 induction n using Nat.strongRecOn with
 | _ n ih =>
  by_cases h : n = 0
  ·subst h; exact W.nil
  ·rw [zbK (by omega)]
   exact W.cons (by omega) (by omega) (ih (n / 1000000000) (by omega))
theorem y9 : ∀ n : Nat, bv (bg n) = n := by
 intro n
 induction n using Nat.strongRecOn with
 | _ n ih =>
  by_cases h : n = 0
  ·subst h; rfl
  ·rw [zbK (by omega), bv, ih (n / 1000000000) (by omega)]
   omega
theorem zd0 {n : Nat} (h : bg n = []) : n = 0 := by have := y9 n; rw [h] at this; exact this.symm
theorem bg_bv : ∀ (l : List Int) (x : Int), W (l ++ [x]) → x ≠ 0 → bg (bv (l ++ [x])) = l ++ [x] := by
 intro l
 induction l with
 | nil =>
  intro x h hx
  have h1 := h.head
  have e : bv [x] = x.toNat := by simp [bv]
  rw [List.nil_append, e, zbK (by omega), show x.toNat / 1000000000 = 0 from by omega, zbE]
  simp only [List.cons.injEq, and_true]
  omega
 | cons y l ih =>
  intro x h hx
  have e := ih x h.tail hx
  have h1 := h.head
  have hpos : 0 < bv (l ++ [x]) := by
   rcases Nat.eq_zero_or_pos (bv (l ++ [x])) with h0 | h0
   ·rw [h0, zbE] at e
    have := congrArg List.length e
    simp at this
   ·exact h0
  rw [List.cons_append, bv, zbK (by omega), show (y.toNat + 1000000000 * bv (l ++ [x])) / 1000000000 = bv (l ++ [x]) from by omega, e]
  simp only [List.cons.injEq, and_true]
  omega
theorem bg_last {n : Nat} (h : 0 < n) : ∃ l x, bg n = l ++ [x] ∧ x ≠ 0 := by
 suffices H : ∀ n : Nat, 0 < n → ∃ l x, bg n = l ++ [x] ∧ x ≠ 0 from H n h
 intro n
 induction n using Nat.strongRecOn with
 | _ n ih =>
  intro h
  rw [zbK h]
  by_cases h0 : n / 1000000000 = 0
  ·rw [h0, zbE]
   exact ⟨[], _, rfl, by omega⟩
  ·obtain ⟨l, x, e, hx⟩ := ih (n / 1000000000) (by omega) (by omega)
   exact ⟨_ :: l, x, by rw [e]; rfl, hx⟩
theorem zaz {n k : Nat} : n < 1000000000 ^ k ↔ (bg n).length ≤ k := by
 constructor
 ·intro h
  rcases Nat.eq_zero_or_pos n with h0 | h0
  ·subst h0; exact Nat.zero_le _
  ·obtain ⟨l, x, e, hx⟩ := bg_last h0
   have hW := bg_W n
   rw [e] at hW
   have h1 := hW.right.head
   have e2 := y9 n
   rw [e, zaJ] at e2
   have e3 : bv [x] = x.toNat := by simp [bv]
   rw [e3] at e2
   rw [e, List.length_append, List.length_singleton]
   rcases Nat.lt_or_ge k (l.length + 1) with hk | hk
   ·have : 1000000000 ^ k ≤ 1000000000 ^ l.length := Nat.pow_le_pow_right (by omega) (by omega)
    have : 1000000000 ^ l.length * 1 ≤ 1000000000 ^ l.length * x.toNat := Nat.mul_le_mul_left _ (by omega)
    omega
   ·exact hk
 ·intro h
  have := bv_lt (bg_W n)
  rw [y9] at this
  exact Nat.lt_of_lt_of_le this (Nat.pow_le_pow_right (by omega) h)
theorem bv_at : ∀ (l : List Int) (i : Nat), W l → l.getD i 0 = ((bv l / 1000000000 ^ i % 1000000000 : Nat) : Int) := by
 intro l
 induction l with
 | nil => intro i h; simp [bv]
 | cons x l ih =>
  intro i h
  have h1 := h.head
  cases i with
  | zero => simp only [List.getD_cons_zero, bv, Nat.pow_zero, Nat.div_one]; omega
  | succ i =>
   rw [List.getD_cons_succ, ih i h.tail, bv, Nat.pow_succ, Nat.mul_comm (1000000000 ^ i), ← Nat.div_div_eq_div_mul, show (x.toNat + 1000000000 * bv l) / 1000000000 = bv l from by omega]
end Go.Proofs.YtldhiaiaildnlaaGreatDoor.Nm
