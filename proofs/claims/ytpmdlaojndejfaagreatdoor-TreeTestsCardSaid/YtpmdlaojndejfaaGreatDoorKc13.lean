/- Ancestors, depth, places of nodes. Plain. -/
import Derived.Test.YtpmdlaojndejfaaGreatDoorKc12
import Derived.ProofKit
import Derived.Test.YtpmdlaojndejfaaGreatDoorKc8
set_option linter.unusedVariables false
set_option linter.unusedSimpArgs false
set_option maxRecDepth 100000
namespace Go.Proofs.YtpmdlaojndejfaaGreatDoor.E
open Go
/-- Parents stand ahead, below n. -/
def UpLt (rows : List (List V)) (n : Nat) : Prop := ∀ j : Nat, j < n → uR rows j < j
theorem uR_upR (rows : List (List V)) (j : Int) : upR rows j = uR rows j.toNat := rfl
theorem raboveN_fuel {rows : List (List V)} {n : Nat} (hu : UpLt rows n) {a : Int} : ∀ (k k' : Nat) (i : Int), i < n → i < k → i < k' → raboveN (upR rows) a k i = raboveN (upR rows) a k' i
  | 0, 0, i, h, h1, h2 => rfl
  | 0, k' + 1, i, h, h1, h2 => by simp only [raboveN]; rw [if_neg (by omega)]
  | k + 1, 0, i, h, h1, h2 => by simp only [raboveN]; rw [if_neg (by omega)]
  | k + 1, k' + 1, i, h, h1, h2 => by
    simp only [raboveN]
    by_cases hc : 0 ≤ i ∧ i ≠ a
    · rw [if_pos hc, if_pos hc]
      have := hu i.toNat (by omega)
      rw [uR_upR]
      exact raboveN_fuel hu k k' _ (by omega) (by omega) (by omega)
    · rw [if_neg hc, if_neg hc]
/-- One step. -/
theorem rabove_step {rows : List (List V)} {n : Nat} (hu : UpLt rows n) {a i : Int} (hi : i < n) : raboveB rows a i = if 0 ≤ i ∧ i ≠ a then raboveB rows a (uR rows i.toNat) else (i == a) := by
  by_cases hc : 0 ≤ i ∧ i ≠ a
  · rw [if_pos hc]
    unfold raboveB
    have e : (i + 1).toNat = i.toNat + 1 := by omega
    have hd := hu i.toNat (by omega)
    rw [e]
    simp only [raboveN, if_pos hc]
    rw [uR_upR, raboveN_fuel hu i.toNat (uR rows i.toNat + 1).toNat (uR rows i.toNat) (by omega) (by omega) (by omega)]
  · rw [if_neg hc]
    unfold raboveB
    cases e : (i + 1).toNat with
    | zero => rfl
    | succ k => simp only [raboveN, if_neg hc]
theorem rabove_self {rows : List (List V)} (a : Int) : raboveB rows a a = true := by
  unfold raboveB
  have : ∀ k, raboveN (upR rows) a k a = a := fun k => by cases k <;> simp [raboveN]
  rw [this]; simp
theorem rabove_lt {rows : List (List V)} {n : Nat} (hu : UpLt rows n) {a : Int} (ha : 0 ≤ a) : ∀ (k : Nat) (i : Int), i < k → i < n → i < a → raboveB rows a i = false
  | 0, i, hk, hi, h => by
    rw [rabove_step hu hi, if_neg (by omega)]
    simp; omega
  | k + 1, i, hk, hi, h => by
    rw [rabove_step hu hi]
    by_cases hc : 0 ≤ i ∧ i ≠ a
    · rw [if_pos hc]
      have := hu i.toNat (by omega)
      exact rabove_lt hu ha k _ (by omega) (by omega) (by omega)
    · rw [if_neg hc]; simp; omega
theorem rabove_le {rows : List (List V)} {n : Nat} (hu : UpLt rows n) {a i : Int} (ha : 0 ≤ a) (hi : i < n) (h : raboveB rows a i = true) : a ≤ i := by
  rcases Int.lt_or_le i a with hlt | hle
  · rw [rabove_lt hu ha (i + 1).toNat i (by omega) hi hlt] at h; cases h
  · exact hle
theorem rabove_up {rows : List (List V)} {n : Nat} (hu : UpLt rows n) {a i : Int} (ha : 0 ≤ a) (hi : i < n) (h : raboveB rows a i = true) (hne : i ≠ a) : raboveB rows a (uR rows i.toNat) = true := by
  have := rabove_le hu ha hi h
  rw [rabove_step hu hi, if_pos ⟨by omega, hne⟩] at h
  exact h
theorem rabove_trans {rows : List (List V)} {n : Nat} (hu : UpLt rows n) {a b : Int} (ha : 0 ≤ a) (hb : 0 ≤ b) (hab : raboveB rows a b = true) : ∀ (k : Nat) (c : Int), c < k → c < n → raboveB rows b c = true → raboveB rows a c = true
  | 0, c, hk, hc, h => by have := rabove_le hu hb hc h; omega
  | k + 1, c, hk, hc, h => by
    by_cases hcb : c = b
    · subst hcb; exact hab
    · have hle := rabove_le hu hb hc h
      have h2 := rabove_up hu hb hc h hcb
      have hd := hu c.toNat (by omega)
      have h3 := rabove_trans hu ha hb hab k _ (by omega) (by omega) h2
      rw [rabove_step hu hc]
      by_cases hca : c = a
      · rw [if_neg (by omega)]; simp [hca]
      · rw [if_pos ⟨by omega, hca⟩]; exact h3
/-- The program's way. -/
theorem above_eq {rows : List (List V)} {n : Nat} (hu : UpLt rows n) {a i : Int} (ha : 0 ≤ a) (hi : i < n) : aboveB rows a i = raboveB rows a i := by
  have key : ∀ (k : Nat) (i : Int), i ≤ k → i < n → (aboveN (upR rows) a k i == a) = raboveB rows a i := by
    intro k
    induction k with
    | zero =>
      intro i hk hi
      simp only [aboveN]
      rcases Int.lt_or_le i a with hlt | hle
      · rw [rabove_lt hu ha (i + 1).toNat i (by omega) hi hlt]; simp; omega
      · have : i = a := by omega
        subst this; rw [rabove_self]; simp
    | succ k ih =>
      intro i hk hi
      simp only [aboveN]
      by_cases hc : i > a
      · rw [if_pos hc, rabove_step hu hi, if_pos ⟨by omega, by omega⟩, uR_upR]
        have := hu i.toNat (by omega)
        exact ih _ (by omega) (by omega)
      · rw [if_neg hc]
        rcases Int.lt_or_le i a with hlt | hle
        · rw [rabove_lt hu ha (i + 1).toNat i (by omega) hi hlt]; simp; omega
        · have : i = a := by omega
          subst this; rw [rabove_self]; simp
  exact key i.toNat i (by omega) hi
theorem depthN_fuel {rows : List (List V)} {n : Nat} (hu : UpLt rows n) : ∀ (k k' : Nat) (i : Int), i < n → i < k → i < k' → depthN (upR rows) k i = depthN (upR rows) k' i
  | 0, 0, i, h, h1, h2 => rfl
  | 0, k' + 1, i, h, h1, h2 => by simp only [depthN]; rw [if_neg (by omega)]
  | k + 1, 0, i, h, h1, h2 => by simp only [depthN]; rw [if_neg (by omega)]
  | k + 1, k' + 1, i, h, h1, h2 => by
    simp only [depthN]
    by_cases hc : 0 ≤ i
    · rw [if_pos hc, if_pos hc]
      have := hu i.toNat (by omega)
      rw [uR_upR, depthN_fuel hu k k' _ (by omega) (by omega) (by omega)]
    · rw [if_neg hc, if_neg hc]
theorem depth_step {rows : List (List V)} {n : Nat} (hu : UpLt rows n) {i : Int} (h0 : 0 ≤ i) (hi : i < n) : depthI rows i = depthI rows (uR rows i.toNat) + 1 := by
  unfold depthI
  have e : (i + 1).toNat = i.toNat + 1 := by omega
  have hd := hu i.toNat (by omega)
  rw [e]
  simp only [depthN, if_pos h0]
  rw [uR_upR, depthN_fuel hu i.toNat (uR rows i.toNat + 1).toNat (uR rows i.toNat) (by omega) (by omega) (by omega)]
theorem depth_neg {rows : List (List V)} {i : Int} (h : i < 0) : depthI rows i = 0 := by
  unfold depthI
  have e : (i + 1).toNat = 0 := by omega
  rw [e]; rfl

/-! Valid trees. -/
theorem validN_fits {rows : List (List V)} {n : Nat} (h : validN rows n = true) {i : Nat} (hi : i < n) (h0 : 0 < i) : fitsB rows i = true := by
  have := validN_le (i := i + 1) (by omega) h
  simp only [validN, Bool.and_eq_true, Bool.or_eq_true, decide_eq_true_eq] at this
  rcases this.2.2 with h | h
  · omega
  · exact h
theorem validN_lt {rows : List (List V)} (hz : uR rows 0 < 0) {n : Nat} (h : validN rows n = true) : UpLt rows n := fun j hj => by
  by_cases h0 : j = 0
  · subst h0; simpa using hz
  · have := validN_fits h hj (by omega)
    simp only [fitsB, Bool.and_eq_true, decide_eq_true_eq] at this
    exact this.2.1
structure Fits (rows : List (List V)) (i : Nat) : Prop where
  u0 : 0 ≤ uR rows i
  ui : uR rows i < i
  ab : raboveB rows (uR rows i) ((i : Int) - 1) = true
  k0 : kR rows i ≠ 0
  ku : kR rows (uR rows i).toNat = 1 ∨ (kR rows (uR rows i).toNat = 0 ∧ kR rows i ≠ 2)
  dep : kR rows i = 2 ∨ depthI rows i ≤ 200
  attr : kR rows i = 2 → attrB rows (uR rows i) (nR rows i) i = true
  txt : lastC rows (uR rows i) i < 0 ∨ kR rows i ≠ 3 ∨ kR rows (lastC rows (uR rows i) i).toNat ≠ 3
theorem fits_iff {rows : List (List V)} {i : Nat} : fitsB rows i = true ↔ Fits rows i := by
  simp only [fitsB, Bool.and_eq_true, decide_eq_true_eq, Bool.or_eq_true, Bool.not_eq_true', decide_eq_false_iff_not]
  constructor
  · rintro ⟨a, b, c, d, e, f, g, h⟩
    exact ⟨a, b, c, d, e, f, fun h2 => by rcases g with g | g; exact absurd h2 g; exact g, h⟩
  · rintro ⟨a, b, c, d, e, f, g, h⟩
    refine ⟨a, b, c, d, e, f, ?_, h⟩
    by_cases h2 : kR rows i = 2
    · exact .inr (g h2)
    · exact .inl h2
/-- All nodes between a node and the last below it are below it. -/
theorem between {rows : List (List V)} (hz : uR rows 0 < 0) {n : Nat} (h : validN rows n = true) {p : Int} (hp : 0 ≤ p) : ∀ (d : Nat) (i j : Int), i < n → raboveB rows p i = true → j = i - d → p ≤ j → raboveB rows p j = true
  | 0, i, j, hi, ha, hj, hpj => by have : j = i := by omega
                                   subst this; exact ha
  | d + 1, i, j, hi, ha, hj, hpj => by
    have hu := validN_lt hz h
    have hF := fits_iff.1 (validN_fits h (i := i.toNat) (by omega) (by omega))
    have hne : i ≠ p := by omega
    have hup := rabove_up hu hp hi ha hne
    have hci : ((i.toNat : Nat) : Int) = i := by omega
    have hab := hF.ab
    rw [hci] at hab
    have h1 := rabove_trans hu hp hF.u0 hup (i - 1 + 1).toNat (i - 1) (by omega) (by omega) hab
    exact between hz h hp d (i - 1) j (by omega) h1 (by omega) hpj
theorem attrB_at {rows : List (List V)} {p : Int} {n : ByteArray} : ∀ {i : Nat}, attrB rows p n i = true ↔ ∀ k : Nat, k < i → p < k → uR rows k = p → kR rows k = 2 ∧ ((nR rows k).toList == n.toList) = false
  | 0 => by simp [attrB]
  | i + 1 => by
    simp only [attrB, Bool.and_eq_true, Bool.or_eq_true, Bool.not_eq_true', decide_eq_true_eq, attrB_at (i := i)]
    constructor
    · rintro ⟨h1, h2⟩ k hk hp hu
      by_cases e : k = i
      · subst e
        rcases h2 with h2 | h2
        · rw [decide_eq_true hp, decide_eq_true hu] at h2; simp at h2
        · exact h2
      · exact h1 k (by omega) hp hu
    · intro h
      refine ⟨fun k hk => h k (by omega), ?_⟩
      by_cases hp : p < i
      · by_cases hu : uR rows i = p
        · exact .inr (h i (by omega) hp hu)
        · left; simp [hu]
      · left; simp [hp]
theorem lastC_top {rows : List (List V)} {p : Int} : ∀ (i : Nat) (k : Nat), k < i → p < k → uR rows k = p → (k : Int) ≤ lastC rows p i
  | 0, k, hk, hp, hu => by omega
  | i + 1, k, hk, hp, hu => by
    simp only [lastC]
    by_cases e : k = i
    · subst e; rw [if_pos ⟨hp, hu⟩]; exact Int.le_refl _
    · split
      · omega
      · exact lastC_top i k (by omega) hp hu
/-- Behind an attribute that is the last so far, all are attributes of the same element. -/
theorem attrs_only {rows : List (List V)} (hz : uR rows 0 < 0) {i : Nat} (h : validN rows i = true) {p : Int} (hp : 0 ≤ p) (hpi : p < i) (ha : raboveB rows p ((i : Int) - 1) = true) (hl : 0 ≤ lastC rows p i) (hk : kR rows (lastC rows p i).toNat = 2) :
    ∀ j : Nat, j < i → p < j → uR rows j = p ∧ kR rows j = 2 := by
  have hu := validN_lt hz h
  have hlt := lastC_lt (rows := rows) (p := p) i
  rcases hlt.2 with h0 | ⟨hpl, hul⟩
  · omega
  have hFb := fits_iff.1 (validN_fits h (i := (lastC rows p i).toNat) (by omega) (by omega))
  have hAb := attrB_at.1 (hFb.attr hk)
  rw [hul] at hAb
  intro j
  induction j using Nat.strongRecOn with
  | _ j ih =>
    intro hj hpj
    have hF := fits_iff.1 (validN_fits h hj (by omega))
    have hj1 := between hz h hp (i - 1 - j) ((i : Int) - 1) (j : Int) (by omega) ha (by omega) (by omega)
    have hup := rabove_up hu hp (i := (j : Int)) (by omega) hj1 (by omega)
    have hcj : ((j : Int)).toNat = j := by omega
    rw [hcj] at hup
    by_cases he : uR rows j = p
    · refine ⟨he, ?_⟩
      have htop := lastC_top i j hj hpj he
      by_cases hb : (j : Int) = lastC rows p i
      · rw [← hb] at hk; simpa using hk
      · exact (hAb j (by omega) hpj he).1
    · exfalso
      have hle := rabove_le hu hp (by have := hF.ui; omega) hup
      have hui := hF.ui
      have h2 := ih (uR rows j).toNat (by omega) (by omega) (by omega)
      rcases hF.ku with hk1 | hk1
      · rw [h2.2] at hk1; omega
      · rw [h2.2] at hk1; omega
theorem someN_sub {rows : List (List V)} {p i : Nat} (hpi : p ≤ i) (hi : i ≤ rows.length) (n : ByteArray) : someN ((rows.drop p).take (i - p)) n = false ↔ ∀ k : Nat, p ≤ k → k < i → ((nR rows k).toList == n.toList) = false := by
  have hat : ∀ j, j < i - p → nR ((rows.drop p).take (i - p)) j = nR rows (p + j) := fun j hj => by
    unfold nR
    simp only [List.getD, List.getElem?_take, if_pos hj, List.getElem?_drop]
  have hlen : ((rows.drop p).take (i - p)).length = i - p := by simp; omega
  unfold someN
  rw [hlen, List.any_eq_false]
  constructor
  · intro h k h1 h2
    have := h (k - p) (List.mem_range.2 (by omega))
    unfold nameAt at this
    rw [hat _ (by omega), show p + (k - p) = k by omega] at this
    simpa using this
  · intro h j hj
    have hj' := List.mem_range.1 hj
    unfold nameAt
    rw [hat j hj', h (p + j) (by omega) (by omega)]; simp
/-- What the program asks of a node's place, and what the reference asks. -/
theorem placed_fits {rows : List (List V)} (hz : uR rows 0 < 0) {i : Nat} (h : validN rows i = true) (hi : i < rows.length) (hu0 : 0 ≤ uR rows i) (hui : uR rows i < i) (ha : raboveB rows (uR rows i) ((i : Int) - 1) = true) (hk0 : kR rows i ≠ 0) {b : Nat} (hb : (b : Int) = if lastC rows (uR rows i) i < 0 then 0 else lastC rows (uR rows i) i) :
    fitsB rows i = (placedB rows i b && (decide (kR rows i = 2) || decide (depthI rows i ≤ 200))) := by
  have hlt := lastC_lt (rows := rows) (p := uR rows i) i
  have hnone : lastC rows (uR rows i) i < 0 → attrB rows (uR rows i) (nR rows i) i = true := fun hl => attrB_at.2 fun k hk hp hu => by
    have := lastC_top i k hk hp hu; omega
  have hattr : 0 ≤ lastC rows (uR rows i) i → attrB rows (uR rows i) (nR rows i) i = (decide (kR rows b = 2) && !someN ((rows.drop ((uR rows i).toNat + 1)).take (i - ((uR rows i).toNat + 1))) (nR rows i)) := fun hl => by
    rw [if_neg (by omega)] at hb
    have hbn : b = (lastC rows (uR rows i) i).toNat := by omega
    by_cases hkb : kR rows b = 2
    · have hall := attrs_only hz h hu0 hui ha hl (by rw [← hbn]; exact hkb)
      rw [decide_eq_true hkb, Bool.true_and, Bool.eq_iff_iff, attrB_at, Bool.not_eq_true', someN_sub (by omega) (by omega)]
      constructor
      · intro h1 k a1 a2
        obtain ⟨b1, b2⟩ := hall k a2 (by omega)
        exact (h1 k a2 (by omega) b1).2
      · intro h1 k a1 a2 a3
        exact ⟨(hall k a1 a2).2, h1 k (by omega) a1⟩
    · rw [decide_eq_false hkb, Bool.false_and]
      rcases hlt.2 with h0 | ⟨hpl, hul⟩
      · omega
      · cases hc : attrB rows (uR rows i) (nR rows i) i
        · rfl
        · exact absurd (attrB_at.1 hc b (by omega) (by omega) (by rw [hbn]; exact hul)).1 hkb
  unfold fitsB placedB
  rw [decide_eq_true hu0, decide_eq_true hui, ha, decide_eq_false hk0]
  simp only [Bool.true_and, Bool.not_false]
  by_cases hl : lastC rows (uR rows i) i < 0
  · rw [if_pos hl] at hb
    have hb0 : b = 0 := by omega
    rw [hnone hl, decide_eq_true hl, decide_eq_true hb0]
    simp
  · have hb' := hb
    rw [if_neg hl] at hb'
    have hbn : (lastC rows (uR rows i) i).toNat = b := by omega
    have hb0 : b ≠ 0 := by
      rcases hlt.2 with h0 | ⟨hpl, hul⟩ <;> omega
    rw [hattr (by omega), decide_eq_false hl, decide_eq_false hb0, hbn]
    simp only [Bool.false_or]
    by_cases hk2 : kR rows i = 2
    · have hk3 : ¬ (kR rows i = 3) := by omega
      simp only [hk2, decide_true, if_true, Bool.not_true, Bool.false_or, Bool.true_or, Bool.and_true, Bool.true_and]
      simp [hk2]
    · simp only [hk2, decide_false, if_false, Bool.not_false, Bool.true_or, Bool.true_and, Bool.false_or]
      cases decide (kR rows (uR rows i).toNat = 1) <;> cases decide (kR rows (uR rows i).toNat = 0) <;> cases decide (depthI rows i ≤ 200) <;> cases decide (kR rows i = 3) <;> cases decide (kR rows b = 3) <;> rfl
end Go.Proofs.YtpmdlaojndejfaaGreatDoor.E

/- Check: what it answers. -/
set_option linter.unusedVariables false
set_option linter.unusedSimpArgs false
set_option maxRecDepth 100000
namespace Go.Proofs.YtpmdlaojndejfaaGreatDoor.E
open Go
theorem intRows_set (l : List Int) (i : Nat) (x : Int) : List.set (intRows l) i [.lit (.int .i64 x)] = intRows (l.set i x) := by simp [intRows, List.map_set]
theorem intRows_rep (n : Nat) (x : Int) : List.replicate n [V.lit (.int .i64 x)] = intRows (List.replicate n x) := by simp [intRows]
theorem intRows_row0 (l : List Int) (i : Nat) (h : i < l.length) : List.getD (intRows l) i [] = [.lit (.int .i64 (l.getD i 0))] := by
  have := intRows_row l i h
  rwa [Nat.zero_add] at this
def CheckP (rows : List (List V)) (i : Int) (ls ds : List (List V)) : Prop :=
  0 ≤ i ∧ i ≤ rows.length ∧ validN rows i.toNat = true ∧ ∃ la da : List Int, ls = intRows la ∧ ds = intRows da ∧ la.length = rows.length ∧ da.length = rows.length ∧
    (∀ k : Nat, k < rows.length → la.getD k 0 = if lastC rows k i.toNat < 0 then 0 else lastC rows k i.toNat) ∧ (∀ k : Nat, (k : Int) < max i 1 → da.getD k 0 = depthI rows k)
theorem check_loop (m : Int) (rows : List (List V)) (hok : rowsOk nodeSh rows = true) (hlen : rows.length ≤ 65536) (h1 : 1 ≤ rows.length) (hz : uR rows 0 < 0) (hs : smallB rows = true) : SpOK (env m) (Lw m) none (atC [1, 1, 1, 1, 1, 0, 1, 0] (bodyOf (env m).P 23))
    (L_check (fun (rows', n1, n2, rows2, l, i, ls, ds) => rows' = rows ∧ n1 = rows.length ∧ n2 = rows.length ∧ rows2 = rows ∧ l = rows.length ∧ CheckP rows i ls ds) (fun _ _ => validN rows rows.length = true) (fun _ e => e = 1 ∧ validN rows rows.length = false)).sp true := by
  refine l_check m (con17_r m) (fun (_, _, _, _, _, i, _, _) => rows.length - i.toNat) ?_ ?_
  · rintro ⟨rows', n1, n2, rows2, l, i, ls, ds⟩ ⟨_, _, _, _, _, _, _, _, la, da, rfl, rfl, _⟩
    exact ⟨intRows_lit _, intRows_lit _⟩
  rintro rows' n1 n2 rows2 l i ls ds ⟨rfl, rfl, rfl, rfl, rfl, h0, hi, hv, la, da, rfl, rfl, hla, hda, hL, hD⟩
  unfold r_check
  by_cases hil : i < rows2.length
  · have g1 : i.toNat < rows2.length := by omega
    have hci : ((i.toNat : Nat) : Int) = i := by omega
    have ek : (i + 1).toNat = i.toNat + 1 := by omega
    have w : IntKind.wrap .i64 (i + 1) = i + 1 := w64_id (by omega) (by omega)
    have w1 : IntKind.wrap .i64 (i - 1) = i - 1 := w64_id (by omega) (by omega)
    have hmeas : rows2.length - (i + 1).toNat < rows2.length - i.toNat := by omega
    have hv1 : validN rows2 (i.toNat + 1) = (allowedB (kR rows2 i.toNat) (nR rows2 i.toNat) (tR rows2 i.toNat) && (decide (i.toNat = 0) || fitsB rows2 i.toNat)) := by simp only [validN, hv, Bool.true_and]
    have hno : validN rows2 (i.toNat + 1) = false → validN rows2 rows2.length = false := fun hf => by
      cases hc : validN rows2 rows2.length
      · rfl
      · rw [validN_le (by omega) hc] at hf; cases hf
    rw [if_pos (by simpa using hil), if_pos hok, if_pos h0, if_pos g1, if_pos (smallB_at hs g1)]
    refine ite_of (fun hA => ?_) fun hA => ⟨rfl, hno (by rw [Bool.not_eq_true] at hA; rw [hv1]; exact (congrArg (· && _) hA).trans rfl)⟩
    have hA' : allowedB (kR rows2 i.toNat) (nR rows2 i.toNat) (tR rows2 i.toNat) = true := hA
    rw [hA', Bool.true_and] at hv1
    by_cases hi0 : i = 0
    · subst hi0
      rw [if_pos (by simp), w]
      refine ⟨⟨rfl, rfl, rfl, rfl, rfl, by omega, by omega, ?_, la, da, rfl, rfl, hla, hda, fun k hk => ?_, fun k hk => hD k (by omega)⟩, hmeas, fun _ h => h, fun _ h => h⟩
      · rw [ek, hv1]; simp
      · have e : lastC rows2 k ((0 : Int) + 1).toNat = lastC rows2 k (0 : Int).toNat := by
          show lastC rows2 k 1 = lastC rows2 k 0
          simp only [lastC]; rw [if_neg (by omega)]
        rw [e]; exact hL k hk
    rw [if_neg (by simpa using hi0)]
    rw [decide_eq_false (by omega), Bool.false_or] at hv1
    have hbad : fitsB rows2 i.toNat = false → (1 : Int) = 1 ∧ validN rows2 rows2.length = false := fun h => ⟨rfl, hno (by rw [hv1, h])⟩
    have hfit : fitsB rows2 i.toNat = true → Fits rows2 i.toNat := fits_iff.1
    have hnf : ¬ Fits rows2 i.toNat → fitsB rows2 i.toNat = false := fun h => by
      cases hc : fitsB rows2 i.toNat
      · rfl
      · exact absurd (hfit hc) h
    refine ite_of (fun h => hbad (hnf fun hF => ?_)) fun hu0 => ite_of (fun h => hbad (hnf fun hF => ?_)) fun hui => ?_
    · have := hF.u0; simp at h; omega
    · have := hF.ui; simp at h; omega
    simp only [decide_eq_true_eq, Int.not_lt] at hu0
    have hui' : uR rows2 i.toNat < i := by simp at hui; omega
    have hul := validN_lt hz hv
    have hupB := validN_up hz hv (i := i - 1) (by omega)
    rw [w1, if_pos (by simp [hok, hu0, hupB, toI]; omega), above_eq hul hu0 (by omega)]
    refine ite_of (fun hab => ?_) fun hab => hbad (hnf fun hF => ?_)
    case refine_2 => exact hab (by have := hF.ab; rw [hci] at this; exact this)
    refine ite_of (fun hk => hbad (hnf fun hF => hF.k0 (by simpa using hk))) fun hk => ?_
    have hk0 : kR rows2 i.toNat ≠ 0 := by simpa using hk
    have gu : (uR rows2 i.toNat).toNat < rows2.length := by omega
    have gud : (uR rows2 i.toNat).toNat < da.length := by omega
    have gul : (uR rows2 i.toNat).toNat < la.length := by omega
    have gid : i.toNat < da.length := by omega
    have hlu := hL (uR rows2 i.toNat).toNat gu
    have hcu : (((uR rows2 i.toNat).toNat : Nat) : Int) = uR rows2 i.toNat := by omega
    rw [hcu] at hlu
    have hdu := hD (uR rows2 i.toNat).toNat (by omega)
    rw [hcu] at hdu
    have hdep : depthI rows2 i = depthI rows2 (uR rows2 i.toNat) + 1 := depth_step (n := i.toNat + 1) (fun j hj => by
      by_cases e : j = i.toNat
      · subst e; omega
      · exact hul j (by omega)) h0 (by omega)
    have hdle : depthI rows2 (uR rows2 i.toNat) ≤ 65536 := by
      unfold depthI
      exact Nat.le_trans (depthN_le _ _ _) (by omega)
    have wd : IntKind.wrap .i64 (da.getD (uR rows2 i.toNat).toNat 0 + 1) = depthI rows2 i := by
      rw [hdu, w64_id (by omega) (by omega), hdep]; omega
    have hlt := lastC_lt (rows := rows2) (p := uR rows2 i.toNat) i.toNat
    obtain ⟨b, hb⟩ : ∃ b : Nat, (b : Int) = la.getD (uR rows2 i.toNat).toNat 0 := ⟨(la.getD (uR rows2 i.toNat).toNat 0).toNat, by rw [hlu]; split <;> omega⟩
    have hbi : (b : Int) < i := by rw [hb, hlu]; split <;> omega
    have hpf := placed_fits hz hv g1 hu0 (by omega) (by rw [hci]; exact hab) hk0 (b := b) (by rw [hb, hlu])
    rw [hci] at hpf
    simp only [intRows_row0 da _ gud, intRows_row0 la _ gul, intRows_row0 da _ gid, intRows_len, Nat.zero_add, hda, hla, gu, g1, h0, hu0, if_true, intRows_set]
    have e1 : ∀ x : Int, cellI (List.getD [V.lit (Value.int IntKind.i64 x)] 0 un) = x := fun _ => rfl
    have e2 : ∀ x : Int, ckOk (ckOf (ofValue (Value.int IntKind.i64 0))) (List.getD [V.lit (Value.int IntKind.i64 x)] 0 un) = true := fun _ => rfl
    have e3 : ∀ x : Int, List.length [V.lit (Value.int IntKind.i64 x)] = 1 := fun _ => rfl
    have gset : i.toNat < (da.set i.toNat (depthI rows2 i : Int)).length := by simpa using gid
    have grow : List.getD (intRows (da.set i.toNat (depthI rows2 i : Int))) i.toNat [] = [V.lit (Value.int IntKind.i64 (depthI rows2 i))] := by
      have := intRows_row (da.set i.toNat (depthI rows2 i : Int)) i.toNat gset
      rw [Nat.zero_add] at this
      rw [this]
      congr 3
      simp [List.getD, gid]
    simp only [e1, e2, e3, w, ← hb, wd, grow, Nat.one_pos, if_true, intRows_len, List.length_set, hda, g1, Nat.lt_add_one, Int.toNat_natCast]
    rw [if_pos (by simp only [hok, toI, Bool.true_and, Bool.and_true, decide_true, Bool.and_eq_true, decide_eq_true_eq]; omega)]
    have hnext : CheckP rows2 (i + 1) (intRows (la.set (uR rows2 i.toNat).toNat i)) (intRows (da.set i.toNat (depthI rows2 i : Int))) ↔ fitsB rows2 i.toNat = true := by
      constructor
      · rintro ⟨_, _, hv2, _⟩
        rw [ek, hv1] at hv2; exact hv2
      · intro hF
        refine ⟨by omega, by omega, by rw [ek, hv1, hF], _, _, rfl, rfl, by simpa using hla, by simpa using hda, fun k hk => ?_, fun k hk => ?_⟩
        · rw [ek]
          by_cases e : k = (uR rows2 i.toNat).toNat
          · subst e
            have hlc : lastC rows2 ((uR rows2 i.toNat).toNat : Nat) (i.toNat + 1) = i := by
              simp only [lastC]; rw [if_pos (by omega), hci]
            rw [hlc, if_neg (by omega)]
            simp [List.getD, gul]
          · have hlc : lastC rows2 (k : Nat) (i.toNat + 1) = lastC rows2 (k : Nat) i.toNat := by
              simp only [lastC]; rw [if_neg (by omega)]
            rw [hlc]
            have : (la.set (uR rows2 i.toNat).toNat i).getD k 0 = la.getD k 0 := by
              simp only [List.getD, List.getElem?_set]; rw [if_neg (fun h => e h.symm)]
            rw [this]; exact hL k hk
        · by_cases e : k = i.toNat
          · subst e
            have : (da.set i.toNat (depthI rows2 i : Int)).getD i.toNat 0 = depthI rows2 i := by simp [List.getD, gid]
            rw [this, hci]
          · have : (da.set i.toNat (depthI rows2 i : Int)).getD k 0 = da.getD k 0 := by
              simp only [List.getD, List.getElem?_set]; rw [if_neg (fun h => e h.symm)]
            rw [this]; exact hD k (by omega)
    cases hP : placedB rows2 i.toNat b
    · rw [if_neg (by simp)]
      exact ⟨by trivial, (hbad (by rw [hpf, hP]; rfl)).2⟩
    · rw [hP, Bool.true_and] at hpf
      rw [if_pos rfl]
      by_cases hk2 : kR rows2 i.toNat = 2
      · rw [if_neg (by simp [hk2])]
        refine ⟨⟨by trivial, by trivial, by trivial, by trivial, by trivial, ?_⟩, hmeas, fun _ h => h, fun _ h => h⟩
        exact hnext.2 (by rw [hpf]; simp [hk2])
      · rw [if_pos (by simpa using hk2)]
        by_cases hd : depthI rows2 i ≤ 200
        · rw [if_neg (by simp; omega)]
          refine ⟨⟨by trivial, by trivial, by trivial, by trivial, by trivial, ?_⟩, hmeas, fun _ h => h, fun _ h => h⟩
          exact hnext.2 (by rw [hpf]; simp [hd])
        · rw [if_pos (by simp; omega)]
          exact ⟨by trivial, (hbad (by rw [hpf]; simp [hd, hk2])).2⟩
  · rw [if_neg (by simpa using hil)]
    show validN rows2 rows2.length = true
    rw [show rows2.length = i.toNat by omega]; exact hv
/-- Check: OK (0), or ErrArg (1). -/
theorem check_does (m : Int) (rows : List (List V)) (hok : rowsOk nodeSh rows = true) (hs : smallB rows = true) :
    ∃ H', (Lw m).callX 23 [.agg [.arr rows]] [] = some (.ret (.lit (.int .i64 (if validB rows = true then 0 else 1))), H') := by
  by_cases hg : (1 ≤ rows.length ∧ rows.length ≤ 65536) ∧ uR rows 0 = -1
  · obtain ⟨⟨h1, h2⟩, hz⟩ := hg
    refine ff_Check m rows (con17_r m) (check_loop m rows hok h2 h1 (by omega) hs) rfl ?_
    unfold r_FCheck validB
    have hn : Int.toNat (toI rows.length) = rows.length := by simp [toI]
    have e0 : List.length (List.getD (List.replicate rows.length [V.lit (Value.int IntKind.i64 0)]) 0 []) = 1 := by
      rw [intRows_rep]
      have := intRows_row (List.replicate rows.length (0 : Int)) 0 (by simp; omega)
      rw [Nat.zero_add] at this
      rw [this]; rfl
    rw [if_neg (by simp [toI]; omega), if_neg (by simp [toI]; omega), if_pos hok, if_pos (by omega), if_neg (by simp [hz]), hn, if_pos rfl, if_pos (by simp only [toI]; omega), if_pos rfl, if_pos (by simp only [toI]; omega), if_pos (by omega), if_pos (by simp; omega), if_pos e0, decide_eq_true h1, decide_eq_true h2, decide_eq_true hz]
    simp only [intRows_rep, intRows_set]
    refine ⟨⟨by trivial, by trivial, by trivial, by trivial, by trivial, Int.le_refl 0, by omega, rfl, _, _, rfl, rfl, by simp, by simp, fun k hk => ?_, fun k hk => ?_⟩, fun c h => ?_, ?_⟩
    · show (List.replicate rows.length (0 : Int)).getD k 0 = if lastC rows k 0 < 0 then 0 else lastC rows k 0
      simp [lastC, List.getD, hk]
    · have : k = 0 := by omega
      subst this
      have hd : depthI rows 0 = 1 := by
        rw [depth_step (n := 1) (fun j hj => by have : j = 0 := by omega
                                                subst this; omega) (Int.le_refl 0) (by omega)]
        rw [show uR rows (0 : Int).toNat = -1 from hz, depth_neg (by omega)]
      show ((List.replicate rows.length (0 : Int)).set 0 1).getD 0 0 = depthI rows 0
      rw [hd]
      have : 0 < rows.length := by omega
      simp [List.getD, this]
    · have h' : validN rows rows.length = true := h
      rw [h']; rfl
    · rintro b ⟨rfl, h⟩; rw [h]; rfl
  · refine ff_Check m rows (con17_r m) (P_check := fun _ => False) (Q_check_1 := fun _ _ => True) (Q_check_2 := fun _ _ => True) (sp_false fun _ => id) rfl ?_
    unfold r_FCheck validB
    by_cases h1 : 1 ≤ rows.length
    · rw [if_neg (by simp [toI]; omega), decide_eq_true h1]
      by_cases h2 : rows.length ≤ 65536
      · rw [if_neg (by simp [toI]; omega), if_pos hok, if_pos (by omega), if_pos (by simp; exact fun h => hg ⟨⟨h1, h2⟩, h⟩), decide_eq_false (fun h => hg ⟨⟨h1, h2⟩, h⟩)]
        simp
      · rw [if_pos (by simp [toI]; omega), decide_eq_false h2]; rfl
    · rw [if_pos (by simp [toI]; omega), decide_eq_false h1]; rfl
end Go.Proofs.YtpmdlaojndejfaaGreatDoor.E

/- Few, Valid, Check, works: gathered. -/
set_option linter.unusedVariables false
set_option linter.unusedSimpArgs false
set_option maxRecDepth 100000
namespace Go.Proofs.YtpmdlaojndejfaaGreatDoor.E
open Go
theorem works_does (m : Int) : ∃ H', (Lw m).callX 15 [] [] = some (.ret (.lit (.bool true)), H') :=
  ⟨[], (lim_x runM_mono).2 ⟨1, by simp only [runM, memo]; rfl⟩⟩
def fewS : PSpec
  | [.agg [.arr rows]] => some (rowsOk nodeSh rows && decide (rows.length ≤ 1000000000000000), .lit (.bool (fewB rows)))
  | _ => none
def validS : PSpec
  | [.agg [.arr rows]] => some (rowsOk nodeSh rows && smallB rows, .lit (.bool (validB rows)))
  | _ => none
/-- What Check answers. -/
def chkI (rows : List (List V)) : Int := if validB rows = true then 0 else 1
def checkS : PSpec
  | [.agg [.arr rows]] => some (rowsOk nodeSh rows && smallB rows, .lit (.int .i64 (chkI rows)))
  | _ => none
def worksS : PSpec
  | [] => some (true, .lit (.bool true))
  | _ => none
noncomputable def con18 : Con := addP 15 worksS (addP 14 fewS (addP 25 validS (addP 23 checkS con17)))
theorem con18_r (m : Int) : ConR (env m) (Lw m) con18 := by
  refine addP_r (addP_r (addP_r (addP_r (con17_r m) (by kernel_rfl) fun args v hs => ?_) (by kernel_rfl) fun args v hs => ?_) (by kernel_rfl) fun args v hs => ?_) (by kernel_rfl) fun args v hs => ?_
  · unfold checkS at hs
    split at hs
    · simp only [Option.some.injEq, Prod.mk.injEq, Bool.and_eq_true] at hs
      obtain ⟨⟨h1, h2⟩, rfl⟩ := hs
      exact ⟨rfl, rfl, check_does m _ h1 h2⟩
    · cases hs
  · unfold validS at hs
    split at hs
    · simp only [Option.some.injEq, Prod.mk.injEq, Bool.and_eq_true] at hs
      obtain ⟨⟨h1, h2⟩, rfl⟩ := hs
      exact ⟨rfl, rfl, valid_does m _ h1 h2⟩
    · cases hs
  · unfold fewS at hs
    split at hs
    · simp only [Option.some.injEq, Prod.mk.injEq, Bool.and_eq_true, decide_eq_true_eq] at hs
      obtain ⟨⟨h1, h2⟩, rfl⟩ := hs
      exact ⟨rfl, rfl, few_does m _ h1 h2⟩
    · cases hs
  · unfold worksS at hs
    split at hs
    · simp only [Option.some.injEq, Prod.mk.injEq, true_and] at hs
      subst hs
      exact ⟨rfl, rfl, works_does m⟩
    · cases hs
/-- No string is longer than a machine can hold. -/
def machineB (rows : List (List V)) : Prop := rows.length ≤ reachBytes ∧ ∀ i, i < rows.length → (nR rows i).size ≤ reachBytes ∧ (tR rows i).size ≤ reachBytes
/-- Trees that are looked at are small. -/
theorem few_small {rows : List (List V)} (hm : machineB rows) (h : fewB rows = true) : rows.length ≤ 60 ∧ smallB rows = true := by
  simp only [fewB, Bool.and_eq_true, decide_eq_true_eq] at h
  obtain ⟨h1, h2⟩ := h
  refine ⟨h1, ?_⟩
  have hr : reachBytes = 140737488351232 := rfl
  have key : ∀ (f i : Nat) (k : Int), rows.length ≤ i + f → i ≤ rows.length → 0 ≤ k → k ≤ i * 281474976702464 → fewN rows f i k ≤ 1000 → ∀ j, i ≤ j → j < rows.length → k + (nR rows j).size + (tR rows j).size ≤ 1000 := by
    intro f
    induction f with
    | zero => intro i k hf hi h0 hk hle j hj hjl; omega
    | succ f ih =>
      intro i k hf hi h0 hk hle j hj hjl
      have hil : i < rows.length := by omega
      have hs := hm.2 i hil
      have e : fewN rows (f + 1) i k = fewN rows f (i + 1) (k + (nR rows i).size + (tR rows i).size) := by
        simp only [fewN]
        rw [if_pos hil]
        have w1 : IntKind.wrap .i64 (k + ((cellS (List.getD (List.getD rows i []) 1 un)).size : Int)) = k + (nR rows i).size := w64_id (by show _ ≤ k + ((nR rows i).size : Int); omega) (by show k + ((nR rows i).size : Int) ≤ _; omega)
        have w2 : IntKind.wrap .i64 (k + (nR rows i).size + ((cellS (List.getD (List.getD rows i []) 2 un)).size : Int)) = k + (nR rows i).size + (tR rows i).size := w64_id (by show _ ≤ k + ((nR rows i).size : Int) + ((tR rows i).size : Int); omega) (by show k + ((nR rows i).size : Int) + ((tR rows i).size : Int) ≤ _; omega)
        rw [w1, w2]
      rw [e] at hle
      have mono : ∀ (f i : Nat) (k : Int), rows.length ≤ i + f → i ≤ rows.length → 0 ≤ k → k ≤ i * 281474976702464 → k ≤ fewN rows f i k := by
        intro f
        induction f with
        | zero => intro i k hf hi h0 hk; exact Int.le_refl _
        | succ f ihf =>
          intro i k hf hi h0 hk
          simp only [fewN]
          split
          · rename_i hil
            have hs := hm.2 i hil
            have w1 : IntKind.wrap .i64 (k + ((cellS (List.getD (List.getD rows i []) 1 un)).size : Int)) = k + (nR rows i).size := w64_id (by show _ ≤ k + ((nR rows i).size : Int); omega) (by show k + ((nR rows i).size : Int) ≤ _; omega)
            have w2 : IntKind.wrap .i64 (k + (nR rows i).size + ((cellS (List.getD (List.getD rows i []) 2 un)).size : Int)) = k + (nR rows i).size + (tR rows i).size := w64_id (by show _ ≤ k + ((nR rows i).size : Int) + ((tR rows i).size : Int); omega) (by show k + ((nR rows i).size : Int) + ((tR rows i).size : Int) ≤ _; omega)
            rw [w1, w2]
            have := ihf (i + 1) (k + (nR rows i).size + (tR rows i).size) (by omega) (by omega) (by omega) (by omega)
            omega
          · exact Int.le_refl _
      by_cases hji : j = i
      · subst hji
        have := mono f (j + 1) (k + (nR rows j).size + (tR rows j).size) (by omega) (by omega) (by omega) (by omega)
        omega
      · have := ih (i + 1) (k + (nR rows i).size + (tR rows i).size) (by omega) (by omega) (by omega) (by omega) hle j (by omega) hjl
        omega
  refine List.all_eq_true.2 fun j hj => ?_
  have hjl := List.mem_range.1 hj
  have := key rows.length 0 0 (by omega) (by omega) (by omega) (by omega) h2 j (by omega) hjl
  simp only [Bool.and_eq_true, decide_eq_true_eq]
  omega
end Go.Proofs.YtpmdlaojndejfaaGreatDoor.E

/- Printed by sv.py: what the program's code asks and does, piece by piece. -/
namespace Go.Proofs.YtpmdlaojndejfaaGreatDoor.E
open Go
set_option linter.unusedVariables false
set_option linter.unusedSimpArgs false
set_option maxRecDepth 1000000
def r_FlawChecks (rows : List (List V)) (q : V → Prop) : Prop :=
    (if (rowsOk nodeSh rows && decide (List.length rows ≤ 1000000000000000)) = true then (if fewB rows = true then (if (rowsOk nodeSh rows && smallB rows) = true then (if validB rows = true then (if (rowsOk nodeSh rows && smallB rows) = true then (if (chkI rows == 0) = true then (q (V.lit (Value.bool true))) else (q (V.lit (Value.bool false)))) else False) else (if (rowsOk nodeSh rows && smallB rows) = true then (if (chkI rows == 1) = true then (q (V.lit (Value.bool true))) else (q (V.lit (Value.bool false)))) else False)) else False) else (q (V.lit (Value.bool true)))) else False)
theorem w_FlawChecks (m : Int) (rows : List (List V)) (q : V → Prop) :
    codeF (env m) (con18) (fun _ => none) 0 (bodyOf (env m).P 5) [] ⟨[.agg [.arr rows]] ++ List.replicate (18 - 1) un, [], []⟩ (finR (env m) (resOf (env m).P 5) (fun v _ => q v)) =
    r_FlawChecks rows q := by kernel_rfl
theorem cc_lawChecks (m : Int) (rows : List (List V)) (hc : ConR (env m) (Lw m) (con18)) {q : V → Prop} (hr : r_FlawChecks rows q) :
    ∃ v_ K_ r_ H_, (Lw m).callX 5 [.agg [.arr rows]] [] = some (.ret (mapV r_ v_), H_) ∧ Rn r_ K_ H_ ∧ q v_ := by
  refine F_own (fg := true) hc (f := 5) (q := fun v _ => q v) lok_none (u := 0) (by kernel_rfl) rfl ?_
  rw [show ntmpsOf (env m).P 5 = 18 from by kernel_rfl]
  exact Eq.mpr (w_FlawChecks m rows q) hr
theorem ff_lawChecks (m : Int) (rows : List (List V)) (hc : ConR (env m) (Lw m) (con18)) {w_ : V} (hw : closedV w_ = true) (hr : r_FlawChecks rows (fun v_ => v_ = w_)) :
    ∃ H_, (Lw m).callX 5 [.agg [.arr rows]] [] = some (.ret w_, H_) := by
  obtain ⟨v_, K_, r_, H_, h1, h2, rfl⟩ := cc_lawChecks m rows hc hr
  rw [closed_eq hw] at h1
  exact ⟨H_, h1⟩
end Go.Proofs.YtpmdlaojndejfaaGreatDoor.E

/- TreeChecks: true, whatever the tree. -/
set_option linter.unusedVariables false
set_option linter.unusedSimpArgs false
set_option maxRecDepth 100000
namespace Go.Proofs.YtpmdlaojndejfaaGreatDoor.E
open Go
abbrev nodeC : List CS := [.int .i64, .str, .str, .int .i64]
theorem node_row {row : List V} (h : okL nodeC row) : rowOk nodeSh row = true ∧ (cellS (row.getD 1 un)).size ≤ reachBytes ∧ (cellS (row.getD 2 un)).size ≤ reachBytes := by
  simp only [okL, okC] at h
  obtain ⟨_, _, rfl, ⟨k, rfl, _⟩, _, _, rfl, ⟨n, rfl, hn⟩, _, _, rfl, ⟨t, rfl, ht⟩, _, _, rfl, ⟨u, rfl, _⟩, rfl⟩ := h
  exact ⟨rfl, hn, ht⟩
/-- A tree that is handed in. -/
theorem tree_arg {v : V} (h : okA (.agg [.sl nodeC]) v) : ∃ rows, v = .agg [.arr rows] ∧ rowsOk nodeSh rows = true ∧ machineB rows := by
  obtain ⟨vs, rfl, h⟩ := h
  simp only [okL] at h
  obtain ⟨x, vs', rfl, h, rfl⟩ := h
  simp only [okC] at h
  obtain ⟨rows, rfl, h1, h2⟩ := h
  refine ⟨rows, rfl, List.all_eq_true.2 fun r hr => (node_row (h2 r hr)).1, h1, fun i hi => ?_⟩
  have hm : List.getD rows i [] ∈ rows := by
    simp only [List.getD, List.getElem?_eq_getElem hi, Option.getD_some]; exact List.getElem_mem hi
  exact (node_row (h2 _ hm)).2
theorem lawChecks_true (m : Int) (args : List V) (h : okAs [.agg [.sl nodeC]] args) : ∃ H', (Lw m).callX 5 args [] = some (.ret (.lit (.bool true)), H') := by
  simp only [okAs] at h
  obtain ⟨v, _, rfl, h, rfl⟩ := h
  obtain ⟨rows, rfl, hok, hm⟩ := tree_arg h
  have hr : reachBytes = 140737488351232 := rfl
  refine ff_lawChecks m rows (con18_r m) rfl ?_
  unfold r_FlawChecks
  have hl := hm.1
  rw [if_pos (by simp [hok]; omega)]
  refine ite_of (fun hf => ?_) fun _ => rfl
  obtain ⟨_, hs⟩ := few_small hm hf
  rw [hok, hs]
  unfold chkI
  cases validB rows <;> simp
end Go.Proofs.YtpmdlaojndejfaaGreatDoor.E
