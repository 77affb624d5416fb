/- Texts of the claim: Nt. -/
import Derived.Test.YtldhiaiaildnlaaDoorONs
namespace Go.Proofs.YtldhiaiaildnlaaDoor.Nm
set_option linter.unusedVariables false
open Go Go.RowKit Go.Proofs.YtldhiaiaildnlaaDoor.Q Go.Proofs.YtldhiaiaildnlaaDoorW.PrintWords Go.Proofs.YtldhiaiaildnlaaDoorW.PrintLast Go.Proofs.YtldhiaiaildnlaaDoorW.PrintMore
theorem rCmp_f {k : Nat} {a b : ByteArray} {r : Int × Int} (h : chiselref04_Cmp.f k a b = some r) : r = cmpS (dl a) (dl b) := by
  unfold chiselref04_Cmp.f at h
  obtain ⟨t, h1, h⟩ := bindE h
  unfold cmpS
  rcases two_f h1 with ⟨h2, h3⟩ | ⟨x, y, h2, hx, hy, ca, cb, h3⟩
  · rw [h2, if_neg (by decide)] at h
    rw [h3]; exact (someE h).symm
  · rw [h2, if_pos rfl] at h
    rw [h3]
    simp only at h ⊢
    have lx := dlen hx.1 (by decide)
    have ly := dlen hy.1 (by decide)
    by_cases hs : x.1 = y.1
    · rw [if_neg (by rw [hs]; simp)] at h
      rw [if_pos hs]
      by_cases h0 : x.1 = true
      · rw [if_pos h0] at h ⊢
        obtain ⟨c, h4, h⟩ := bindE h
        have hc := rcmp_f (dg_D _) (dg_D _) (by omega) (by omega) h4
        rw [dv_dg, dv_dg] at hc
        rw [← someE h, hc]
      · rw [if_neg h0] at h ⊢
        obtain ⟨c, h4, h⟩ := bindE h
        have hc := rcmp_f (dg_D _) (dg_D _) (by omega) (by omega) h4
        rw [dv_dg, dv_dg] at hc
        rw [← someE h, hc]
    · rw [if_pos (bne_iff_ne.mpr hs)] at h
      rw [if_neg hs]
      by_cases h0 : x.1 = true
      · rw [if_pos h0] at h ⊢; exact (someE h).symm
      · rw [if_neg h0] at h ⊢; exact (someE h).symm
end Go.Proofs.YtldhiaiaildnlaaDoor.Nm
