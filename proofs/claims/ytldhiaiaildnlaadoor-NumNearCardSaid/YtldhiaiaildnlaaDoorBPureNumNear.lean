/- Texts of the claim: PureNumNear. -/
import Derived.Test.YtldhiaiaildnlaaDoorBQx54
import Derived.Test.YtldhiaiaildnlaaDoorBNlong
import Derived.Test.YtldhiaiaildnlaaDoorBNunit
namespace Go.Proofs.YtldhiaiaildnlaaDoor.Pure
set_option linter.unusedVariables false
open Go Go.RowKit Go.Proofs.YtldhiaiaildnlaaDoor.Nm Go.Proofs.YtldhiaiaildnlaaDoor.Q Go.Proofs.YtldhiaiaildnlaaDoorW.PrintWords Go.Proofs.YtldhiaiaildnlaaDoorW.PrintLast Go.Proofs.YtldhiaiaildnlaaDoorW.PrintMore
theorem iv_sub (s : Bool) (m n : Nat) : (iv (s, m) - iv (s, n)).natAbs = (m - n) + (n - m) := by
  rw [iv_pos, iv_pos]
  cases s
  · rw [if_neg (by decide), if_neg (by decide)]; omega
  · rw [if_pos rfl, if_pos rfl]; omega
theorem R_less (k : Nat) (x : Bool × Nat) (d : Int) : (x.2 - R k x d) + (R k x d - x.2) < U d := by
  rcases R_bounds k x d with ⟨h1, h2, _⟩ | ⟨h1, h2, _⟩ <;> omega
theorem near_end {a : ByteArray} {d : Int} {X : List ByteArray} {i : Int} (ha : a.size ≤ 300) (h0 : -29 ≤ d) (h1 : d ≤ 20) (hi : ¬ i < X.length) : Y (fun k => chisellaw04_NumNear.l0 k a d X i) (fun t => t = true) := by
  refine Y.succ ?_
  simp only [chisellaw04_NumNear.l0]
  refine Y.neg hi (Y.bind (Neg_y (by omega)) fun m hm => Y.bind (Round_floor_y floor_t (by omega)) fun lo hl => ?_)
  have hms := hm.size (good_sub _ _)
  refine Y.bind (Round_ceiling_y ceiling_t (by omega)) fun hi hh => ?_
  cases ca : can (dl a) with
  | none =>
    rw [neg_none ca] at hm
    have e : m.2 = 1 := hm.2
    exact Y.neg (by rw [e]; decide) works_b
  | some x =>
    rw [neg_some ca] at hm
    have hm1 : dl m.1 = tx (nrm (-iv x)) := hm.1
    have hx := (can_is ca).2
    have hz : (-iv x).natAbs < 10 ^ 50 := by have := fine_lt hx; omega
    have cm : can (dl m.1) = some (nrm (-iv x)) := by rw [hm1]; exact can_nrm hz
    refine Y.pos hm.2 ?_
    have hls := hl.size (good_round _ _ _)
    rw [round_some ca (by omega) h1] at hl
    rw [round_some cm (by omega) h1] at hh
    have en : nrm (-iv x) = ((!x.1) && (x.2 != 0), x.2) := by
      have := nrm_iv (!x.1, x.2)
      rw [iv_not] at this
      exact this
    have eR : R 3 (nrm (-iv x)) d = R 2 x d := by rw [en]; exact R_mirror x.1 x.2 d
    have ez : iv ((nrm (-iv x)).1, R 3 (nrm (-iv x)) d) = -iv (x.1, R 2 x d) := by
      rw [eR, en]
      simp only
      by_cases h : x.2 = 0
      · have : R 2 x d = 0 := by
          have hx1 : x.1 = false := by
            cases hxx : x.1 with
            | false => rfl
            | true => exact absurd h (hx.2 hxx)
          obtain ⟨s, n⟩ := x
          simp only at h hx1
          subst h; subst hx1
          have h3 := R_bounds 2 (false, 0) d
          have hU := U_pos d
          rcases h3 with ⟨h4, _, _⟩ | ⟨_, _, h4⟩
          · simp only at h4; omega
          · exfalso
            have : R 2 (false, 0) d = 0 := by
              unfold R rnd Nm.up
              simp
            omega
        rw [this, iv_pos, iv_pos]
        split <;> split <;> simp
      · have : (x.2 != 0) = true := bne_iff_ne.mpr h
        rw [this, Bool.and_true, iv_pos, iv_pos]
        cases x.1 <;> simp
    rw [ez] at hh
    generalize iv (x.1, R 2 x d) = z at hl hh
    by_cases hz2 : z.natAbs < 10 ^ 50
    · rw [resI_ok hz2] at hl
      rw [resI_ok (by omega)] at hh
      have hl1 : dl lo.1 = tx (nrm z) := hl.1
      have cl : can (dl lo.1) = some (nrm z) := by rw [hl1]; exact can_nrm hz2
      refine Y.pos hl.2 (Y.bind (Neg_y (by omega)) fun b hb => ?_)
      rw [neg_some cl, iv_nrm] at hb
      exact Y.pos hb.2 (Y.pos hh.2 (Y.pos (by rw [dl_toList, dl_toList, hb.1, hh.1]) works_b))
    · have e1 : resI z = ([], 40) := by unfold resI; rw [if_pos (by omega)]
      have e2 : resI (-z) = ([], 40) := by unfold resI; rw [if_pos (by omega)]
      rw [e1] at hl
      rw [e2] at hh
      have hl2 : lo.2 = 40 := hl.2
      have hh2 : hi.2 = 40 := hh.2
      exact Y.neg (by rw [hl2]; decide) (Y.pos (by rw [hl2, hh2]) works_b)
theorem near_step {a p : ByteArray} {d : Int} {X : List ByteArray} {i : Nat} (ha : a.size ≤ 300) (h0 : -29 ≤ d) (h1 : d ≤ 20) (hi : i < X.length) (hi5 : i < 5) (hp : X.getD i ByteArray.empty = p)
    (hR : ∀ s : ByteArray, s.size ≤ 1000000000 → Y (fun k => num_Round.f k s d p) (fun r => Ans r (roundS (dl s) d (some i))))
    (H : Y (fun k => chisellaw04_NumNear.l0 k a d X ((i + 1 : Nat) : Int)) (fun t => t = true)) : Y (fun k => chisellaw04_NumNear.l0 k a d X (i : Int)) (fun t => t = true) := by
  refine Y.succ ?_
  simp only [chisellaw04_NumNear.l0]
  rw [w64 (x := (i : Int) + 1) (by omega) (by omega), show (i : Int) + 1 = ((i + 1 : Nat) : Int) from rfl]
  unfold rdOf
  rw [Int.toNat_natCast, hp]
  refine Y.pos (by omega) (Y.grd (by omega) (Y.bind (hR a (by omega)) fun r hr => Y.ite (fun hr0 => ?_) (fun _ => H)))
  have hrs := hr.size (good_round _ _ _)
  cases ca : can (dl a) with
  | none => rw [round_none ca] at hr; have := hr.2; simp only at this; omega
  | some x =>
    have hx := (can_is ca).2
    rw [round_some ca (by omega) h1] at hr
    rw [hr.2] at hr0
    obtain ⟨hlt, e⟩ := resI_is hr0
    rw [e] at hr
    have hr1 : dl r.1 = tx (nrm (iv (x.1, R i x d))) := hr.1
    have cr : can (dl r.1) = some (nrm (iv (x.1, R i x d))) := by rw [hr1]; exact can_nrm hlt
    refine Y.bind (hR r.1 (by omega)) fun s hs => Y.bind (Cmp_y (by omega) (by omega)) fun c hc => ?_
    rw [iv_abs] at hlt
    rw [hr1, round_again (by omega) h1 i hlt] at hs
    rw [cmp_some cr ca, iv_nrm] at hc
    rw [hc]
    refine Y.pos hs.2 (Y.pos (by rw [dl_toList, dl_toList, hs.1, hr1]) (Y.pos rfl ?_))
    have hd : (iv x - iv (nrm (iv (x.1, R i x d)))).natAbs = (x.2 - R i x d) + (R i x d - x.2) := by
      rw [iv_nrm]; exact iv_sub x.1 x.2 _
    refine Y.eq (near_y h0 h1 ha (by omega) ca cr (fun hb => ?_) (by rw [hd]; exact R_less i x d)) (Y.pos rfl ?_)
    · rw [decide_eq_true_eq] at hb
      have := near_half i (by omega) x d
      rw [hd]; omega
    · have h2 : (i : Int) = 2 → ¬ sgI (iv (x.1, R i x d)) (iv x) > 0 := by
        intro h
        obtain rfl : i = 2 := by omega
        have := (R_floor x d).1
        unfold sgI
        split
        · omega
        · split <;> omega
      have h3 : (i : Int) = 3 → ¬ sgI (iv (x.1, R i x d)) (iv x) < 0 := by
        intro h
        obtain rfl : i = 3 := by omega
        have := (R_floor x d).2
        unfold sgI
        split
        · omega
        · split <;> omega
      exact Y.ite (fun e2 => Y.neg (h2 e2) (Y.ite (fun e3 => Y.neg (h3 e3) H) (fun _ => H))) (fun _ => Y.ite (fun e3 => Y.neg (h3 e3) H) (fun _ => H))
theorem NumNear : chisellaw04_NumNear.Pure := by
  intro a d _ hd
  refine Y.any ?_
  unfold chisellaw04_NumNear.f
  refine law_y fun ha _ => ?_
  obtain ⟨n, hn⟩ : ∃ n, wrap64 (Int.tmod (wrap64 d) 50 - 29) = n := ⟨_, rfl⟩
  have hb : 0 ≤ d ∧ d ≤ 255 := by
    have h1 : (decide ((0 : Int) ≤ d) && decide (d ≤ (255 : Int))) = true := hd
    rw [Bool.and_eq_true, decide_eq_true_eq, decide_eq_true_eq] at h1
    exact h1
  have hn2 : -29 ≤ n ∧ n ≤ 20 := by
    rw [w64 (x := d) (by omega) (by omega), Int.tmod_eq_emod_of_nonneg hb.1, w64 (by omega) (by omega)] at hn
    omega
  rw [hn]
  exact near_step (i := 0) ha hn2.1 hn2.2 (by decide) (by decide) rfl (fun s hs => Round_half_y half_t hs)
    (near_step (i := 1) ha hn2.1 hn2.2 (by decide) (by decide) rfl (fun s hs => Round_even_y even_t hs)
    (near_step (i := 2) ha hn2.1 hn2.2 (by decide) (by decide) rfl (fun s hs => Round_floor_y floor_t hs)
    (near_step (i := 3) ha hn2.1 hn2.2 (by decide) (by decide) rfl (fun s hs => Round_ceiling_y ceiling_t hs)
    (near_step (i := 4) ha hn2.1 hn2.2 (by decide) (by decide) rfl (fun s hs => Round_none_y cut_t hs)
    (near_end ha hn2.1 hn2.2 (by decide))))))
end Go.Proofs.YtldhiaiaildnlaaDoor.Pure
