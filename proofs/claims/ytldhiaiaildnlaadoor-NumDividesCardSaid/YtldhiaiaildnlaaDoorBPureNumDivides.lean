/- Texts of the claim: PureNumDivides. -/
import Derived.Test.YtldhiaiaildnlaaDoorBQx53
import Derived.Test.YtldhiaiaildnlaaDoorBNlong
import Derived.Test.YtldhiaiaildnlaaDoorBNabs
namespace Go.Proofs.YtldhiaiaildnlaaDoor.Pure
set_option linter.unusedVariables false
open Go Go.RowKit Go.Proofs.YtldhiaiaildnlaaDoor.Nm Go.Proofs.YtldhiaiaildnlaaDoor.Q Go.Proofs.YtldhiaiaildnlaaDoorW.PrintWords Go.Proofs.YtldhiaiaildnlaaDoorW.PrintLast Go.Proofs.YtldhiaiaildnlaaDoorW.PrintMore
theorem div_j0 {a b q r : ByteArray} {e : Int} {x y : Bool × Nat} (ha : a.size ≤ 300) (hb : b.size ≤ 300) (ca : can (dl a) = some x) (cb : can (dl b) = some y) (h0 : y.2 ≠ 0)
    (hq : Ans (q, e) (resI (iv (x.1 != y.1, x.2 / y.2 * 10 ^ 20)))) (hr : dl r = tx (nrm (iv (x.1, x.2 % y.2)))) (hrs : r.size ≤ 300) :
    Y (fun k => chisellaw04_NumDivides.j0 k a b q e r false) (fun t => t = true) := by
  refine Y.succ ?_
  simp only [chisellaw04_NumDivides.j0]
  refine Y.neg (by decide) ?_
  have hqs := hq.size (good_resI _)
  have hx := (can_is ca).2
  by_cases h : x.2 / y.2 * 10 ^ 20 < 10 ^ 50
  · rw [resI_ok (by rw [iv_abs]; exact h)] at hq
    obtain ⟨p1, p2⟩ := idiv_prod cb hx h0 h
    refine Y.pos hq.2 (Y.bind (Mul_y (by omega) (by simp only at hqs; omega)) fun m hm => ?_)
    have hq1 : dl q = _ := hq.1
    rw [hq1, p1] at hm
    have hms := hm.size (.inr ⟨rfl, _, p2, rfl⟩)
    refine Y.pos hm.2 (Y.bind (Add_y (by omega) (by omega)) fun s hs => ?_)
    rw [hm.1, hr, idiv_sum ca h0] at hs
    refine Y.pos hs.2 (Y.pos (by rw [dl_toList, dl_toList]; exact hs.1) (Y.bind (IsInt_y (by simp only at hqs; omega)) fun t ht => ?_))
    rw [hq1, int_whole _ _ h] at ht
    exact Y.pos ht works_b
  · have e40 : resI (iv (x.1 != y.1, x.2 / y.2 * 10 ^ 20)) = ([], 40) := by
      unfold resI
      rw [iv_abs, if_pos (by simp only; omega)]
    rw [e40] at hq
    have he : e = 40 := hq.2
    exact Y.neg (by rw [he]; decide) (Y.pos he works_b)
theorem NumDivides : chisellaw04_NumDivides.Pure := by
  intro a b _ _
  refine Y.any ?_
  unfold chisellaw04_NumDivides.f
  refine law_y fun ha hb => Y.bind (IDiv_y (by omega) (by omega)) fun r1 h1 => Y.bind (Mod_y (by omega) (by omega)) fun r2 h2 => ?_
  by_cases hm : (modS (dl a) (dl b)).2 = 0
  · obtain ⟨x, y, ca, cb, h0, em, ei⟩ := mod_ok hm
    have hx := (can_is ca).2
    have hy := (can_is cb).2
    have hmlt : x.2 % y.2 < 10 ^ 50 := Nat.lt_of_le_of_lt (Nat.mod_le _ _) hx.1
    rw [em] at h2
    rw [ei] at h1
    have hr := h2.1
    simp only at hr
    have hrs := h2.size (.inr ⟨rfl, _, (res_fine x.1 _ hmlt).2.1, rfl⟩)
    refine Y.pos h2.2 (Y.ex (abs_y _) fun u hu => Y.ex (abs_y _) fun v hv => ?_)
    have hus : u.size ≤ 300 := by
      have h3 := congrArg List.length hu
      rw [dl_size, hr] at h3
      rw [abs_tx] at h3
      have := tx_len (x := (false, (nrm (iv (x.1, x.2 % y.2))).2)) (by simp only; rw [(res_fine x.1 _ hmlt).2.2]; exact hmlt)
      omega
    have hvs : v.size ≤ 300 := by
      have h3 := congrArg List.length hv
      rw [dl_size, (can_is cb).1, abs_tx] at h3
      have := tx_len (x := (false, y.2)) hy.1
      omega
    refine Y.bind (Cmp_y (by omega) (by omega)) fun c hc => ?_
    rw [hu, hv, hr, mod_less ca cb h0] at hc
    rw [hc]
    have J := div_j0 (q := r1.1) (e := r1.2) (r := r2.1) ha hb ca cb h0 h1 hr (by omega)
    refine Y.pos rfl (Y.neg (by decide) (Y.ite (fun _ => J) (fun hz => ?_)))
    obtain ⟨z1, z2⟩ := minus_0 r2.1 _ hr
    obtain ⟨z3, z4⟩ := minus_0 a _ (can_is ca).1
    rw [dl_toList, hr] at hz
    rw [z2, z4, mod_sign hx _ hmlt hz]
    refine Y.grd (by omega) (Y.grd (by omega) ?_)
    rw [show (x.1 != x.1) = false from by simp]
    exact J
  · refine Y.neg (by rw [h2.2]; exact hm) (Y.pos ?_ works_b)
    rw [h1.2, h2.2]
    exact mod_err hm
end Go.Proofs.YtldhiaiaildnlaaDoor.Pure
