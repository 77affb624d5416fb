/- Texts of the claim: Nt. -/
import Derived.Test.YtldhiaiaildnlaaDoorDNs
namespace Go.Proofs.YtldhiaiaildnlaaDoor.Nm
set_option linter.unusedVariables false
open Go Go.RowKit Go.Proofs.YtldhiaiaildnlaaDoor.Q Go.Proofs.YtldhiaiaildnlaaDoorW.PrintWords Go.Proofs.YtldhiaiaildnlaaDoorW.PrintLast Go.Proofs.YtldhiaiaildnlaaDoorW.PrintMore
theorem rIsInt_f {k : Nat} {a : ByteArray} {r : Bool} (h : chiselref04_IsInt.f k a = some r) : r = intS (dl a) := by
  unfold chiselref04_IsInt.f at h
  obtain ⟨t, h1, h⟩ := bindE h
  have ht := rcanonical_f h1
  unfold rcanP at ht
  unfold intS
  cases hc : can (dl a) with
  | none =>
    rw [hc] at ht
    rw [ht, if_neg (by decide)] at h
    exact (someE h).symm
  | some x =>
    rw [hc] at ht
    rw [ht, if_pos rfl] at h
    simp only at h ⊢
    obtain ⟨z, h2, h⟩ := bindE h
    obtain ⟨q, h3, h⟩ := bindE h
    have hz := rzeros_f (n := 20) h2
    have e20 : z = dg (10 ^ 20) := by
      have e := dg_dv (x := 1) (r := List.replicate 20 0) (D.cons (by omega) (by omega) (D.zeros _)) (by decide)
      rw [dv_cons, dv_zeros, List.length_replicate, show (1 : Int).toNat = 1 from rfl, Nat.one_mul, Nat.add_zero] at e
      rw [hz, e]; rfl
    rw [e20] at h3
    have lx := dlen (can_is hc).2.1 (by decide)
    have l20 := dlen (n := 10 ^ 20) (m := 21) (by decide) (by decide)
    have hq := rdiv_f (dg_D _) (by omega) (by decide) (by omega) h3
    rw [dv_dg] at hq
    rw [hq] at h
    rw [← someE h]
    exact dg_len0 _
end Go.Proofs.YtldhiaiaildnlaaDoor.Nm
