/- Texts of the claim: Nunit. -/
import Derived.Test.YtldhiaiaildnlaaDoorBNabs
import Derived.Test.YtldhiaiaildnlaaDoorBQx53
namespace Go.Proofs.YtldhiaiaildnlaaDoor.Nm
set_option linter.unusedVariables false
open Go Go.RowKit Go.Proofs.YtldhiaiaildnlaaDoor.Q Go.Proofs.YtldhiaiaildnlaaDoorW.PrintWords Go.Proofs.YtldhiaiaildnlaaDoorW.PrintLast Go.Proofs.YtldhiaiaildnlaaDoorW.PrintMore
def unitS (d : Int) : List UInt8 := if d > 0 then [48, 46] ++ List.replicate (d - 1).toNat 48 ++ [49] else 49 :: List.replicate (-d).toNat 48
theorem unitS_tx {d : Int} (h0 : -29 ≤ d) (h1 : d ≤ 20) : unitS d = tx (false, U d) := by
  have h : ∀ n : Nat, n < 50 → unitS ((n : Int) - 29) = tx (false, U ((n : Int) - 29)) := by decide +kernel
  have := h (d + 29).toNat (by omega)
  rwa [show (((d + 29).toNat : Nat) : Int) - 29 = d from by omega] at this
theorem unit_l1 (d : Int) (h1 : d ≤ 20) : ∀ (n : Nat) (s : ByteArray) (i : Nat), d = i + n → 1 ≤ i → dl s = [48, 46] ++ List.replicate (i - 1) 48 → Y (fun k => chisellaw04_unit.l1 k d s (i : Int)) (fun r => dl r = [48, 46] ++ List.replicate (d - 1).toNat 48 ++ [49]) := by
  intro n
  induction n with
  | zero =>
    intro s i hi h0 hs
    refine Y.succ ?_
    simp only [chisellaw04_unit.l1]
    have hl := dl_size s
    rw [hs] at hl
    simp at hl
    refine Y.neg (by omega) (Y.grd (by omega) (Y.pure ?_))
    rw [dl_app, hs, show (d - 1).toNat = i - 1 from by omega]
    rfl
  | succ n ih =>
    intro s i hi h0 hs
    refine Y.succ ?_
    simp only [chisellaw04_unit.l1]
    have hl := dl_size s
    rw [hs] at hl
    simp at hl
    rw [w64 (x := (i : Int) + 1) (by omega) (by omega), show (i : Int) + 1 = ((i + 1 : Nat) : Int) from rfl]
    refine Y.pos (by omega) (Y.grd (by omega) (ih _ (i + 1) (by omega) (by omega) ?_))
    rw [dl_app, hs, show i + 1 - 1 = (i - 1) + 1 from by omega, List.replicate_succ', List.append_assoc]
    rfl
theorem unit_l0 (d : Int) (h0 : -29 ≤ d) (h1 : d ≤ 20) : ∀ (n : Nat) (s : ByteArray) (i : Nat), (-d).toNat = i + n → dl s = 49 :: List.replicate i 48 → Y (fun k => chisellaw04_unit.l0 k d s (i : Int)) (fun r => dl r = unitS d) := by
  intro n
  induction n with
  | zero =>
    intro s i hi hs
    refine Y.succ ?_
    simp only [chisellaw04_unit.l0]
    rw [w64 (x := -d) (by omega) (by omega)]
    unfold unitS
    refine Y.neg (by omega) (Y.ite (fun h => ?_) (fun h => ?_))
    · rw [if_pos h]
      exact unit_l1 d h1 (d - 1).toNat _ 1 (by omega) (Nat.le_refl _) rfl
    · rw [if_neg h]
      exact Y.pure (by rw [hs, show (-d).toNat = i from by omega])
  | succ n ih =>
    intro s i hi hs
    refine Y.succ ?_
    simp only [chisellaw04_unit.l0]
    have hl := dl_size s
    rw [hs] at hl
    simp at hl
    rw [w64 (x := -d) (by omega) (by omega), w64 (x := (i : Int) + 1) (by omega) (by omega), show (i : Int) + 1 = ((i + 1 : Nat) : Int) from rfl]
    refine Y.pos (by omega) (Y.grd (by omega) (ih _ (i + 1) (by omega) ?_))
    rw [dl_app, hs, List.replicate_succ']
    rfl
theorem unit_y {d : Int} (h0 : -29 ≤ d) (h1 : d ≤ 20) : Y (fun k => chisellaw04_unit.f k d) (fun r => dl r = tx (false, U d)) := by
  unfold chisellaw04_unit.f
  refine Y.mono (unit_l0 d h0 h1 (-d).toNat (⟨#[49]⟩ : ByteArray) 0 (by omega) rfl) fun r hr => ?_
  rw [hr, unitS_tx h0 h1]
theorem can_nrm {z : Int} (h : z.natAbs < 10 ^ 50) : can (tx (nrm z)) = some (nrm z) := can_tx (nrm_fine h)
theorem can_pos {n : Nat} (h : n < 10 ^ 50) : can (tx (false, n)) = some (false, n) := can_tx (x := (false, n)) ⟨h, fun h => by cases h⟩
theorem iv_false (n : Nat) : iv (false, n) = (n : Int) := rfl
theorem U_fine {d : Int} (h0 : -29 ≤ d) : U d < 10 ^ 50 := Nat.lt_of_le_of_lt (U_le h0) (Nat.pow_lt_pow_right (by decide) (by decide))
theorem near_y {a r : ByteArray} {x y : Bool × Nat} {d : Int} {half : Bool} (h0 : -29 ≤ d) (h1 : d ≤ 20) (ha : a.size ≤ 300) (hr : r.size ≤ 300) (ca : can (dl a) = some x) (cr : can (dl r) = some y)
    (hh : half = true → 2 * (iv x - iv y).natAbs ≤ U d) (hn : (iv x - iv y).natAbs < U d) : Y (fun k => chisellaw04_near.f k a r d half) (fun t => t = true) := by
  unfold chisellaw04_near.f
  refine Y.bind (Sub_y (by omega) (by omega)) fun s hs => ?_
  rw [sub_some ca cr] at hs
  have hss := hs.size (good_resI _)
  have hU := U_fine h0
  have hlt : (iv x - iv y).natAbs < 10 ^ 50 := by omega
  rw [resI_ok hlt] at hs
  have hs1 : dl s.1 = tx (nrm (iv x - iv y)) := hs.1
  have hs2 : s.2 = 0 := hs.2
  refine Y.neg (by rw [hs2]; decide) (Y.ex (abs_y _) fun v hv => ?_)
  rw [hs1, abs_tx] at hv
  have ev : (nrm (iv x - iv y)).2 = (iv x - iv y).natAbs := rfl
  rw [ev] at hv
  have hvs : v.size ≤ 300 := by
    have h3 := congrArg List.length hv
    rw [dl_size] at h3
    have := tx_len (x := (false, (iv x - iv y).natAbs)) hlt
    omega
  have cv : can (dl v) = some (false, (iv x - iv y).natAbs) := by rw [hv]; exact can_pos hlt
  have hus : ∀ u : ByteArray, dl u = tx (false, U d) → u.size ≤ 300 ∧ can (dl u) = some (false, U d) := by
    intro u hu
    have h3 := congrArg List.length hu
    rw [dl_size] at h3
    have := tx_len (x := (false, U d)) hU
    exact ⟨by omega, by rw [hu]; exact can_pos hU⟩
  refine Y.ite (fun hb => ?_) (fun hb => ?_)
  · have hh := hh hb
    refine Y.bind (Add_y (by omega) (by omega)) fun p hp => Y.bind (unit_y h0 h1) fun u hu => ?_
    rw [add_some cv cv] at hp
    have hps := hp.size (good_resI _)
    obtain ⟨hus, cu⟩ := hus u hu
    have e2 : iv (false, (iv x - iv y).natAbs) + iv (false, (iv x - iv y).natAbs) = iv (false, (iv x - iv y).natAbs + (iv x - iv y).natAbs) := by
      rw [iv_false, iv_false]; omega
    have hlt2 : (iv x - iv y).natAbs + (iv x - iv y).natAbs < 10 ^ 50 := by omega
    rw [e2, resI_fine (x := (false, (iv x - iv y).natAbs + (iv x - iv y).natAbs)) ⟨hlt2, fun h => by cases h⟩] at hp
    refine Y.bind (Cmp_y (by omega) (by omega)) fun c hc => ?_
    have hp1 : dl p.1 = tx (false, (iv x - iv y).natAbs + (iv x - iv y).natAbs) := hp.1
    have hp2 : p.2 = 0 := hp.2
    rw [cmp_some (by rw [hp1]; exact can_pos hlt2) cu] at hc
    rw [hc]
    refine Y.neg (by rw [hp2]; decide) (Y.pos hs2 (Y.pos hp2 (Y.pos rfl (Y.pure ?_))))
    rw [decide_eq_true_eq]
    simp only
    unfold sgI
    rw [iv_false, iv_false]
    split
    · omega
    · split <;> omega
  · refine Y.bind (unit_y h0 h1) fun u hu => ?_
    obtain ⟨hus, cu⟩ := hus u hu
    refine Y.bind (Cmp_y (by omega) (by omega)) fun c hc => ?_
    rw [cmp_some cv cu] at hc
    rw [hc]
    refine Y.pos hs2 (Y.pos rfl (Y.pure ?_))
    rw [decide_eq_true_eq]
    simp only
    unfold sgI
    rw [iv_false, iv_false, if_pos (by omega)]
    decide
end Go.Proofs.YtldhiaiaildnlaaDoor.Nm
