/- Texts of the claim: Ns. -/
import Derived.Test.YtldhiaiaildnlaaDoorDNr
import Derived.Test.YtldhiaiaildnlaaDoorDNl
import Derived.Test.YtldhiaiaildnlaaDoorDQx0
import Derived.Test.YtldhiaiaildnlaaDoorDQx30
import Derived.Test.YtldhiaiaildnlaaDoorDQx32
import Derived.Test.YtldhiaiaildnlaaDoorDQx29
import Derived.Test.YtldhiaiaildnlaaDoorDQx36
import Derived.Test.YtldhiaiaildnlaaDoorDQx27
import Derived.Test.YtldhiaiaildnlaaDoorDQx14
import Derived.Test.YtldhiaiaildnlaaDoorDQx10
import Derived.Test.YtldhiaiaildnlaaDoorDQx11
import Derived.Test.YtldhiaiaildnlaaDoorDQx21
namespace Go.Proofs.YtldhiaiaildnlaaDoor.Nm
set_option linter.unusedVariables false
open Go Go.RowKit Go.Proofs.YtldhiaiaildnlaaDoor.Q Go.Proofs.YtldhiaiaildnlaaDoorW.PrintWords Go.Proofs.YtldhiaiaildnlaaDoorW.PrintLast Go.Proofs.YtldhiaiaildnlaaDoorW.PrintMore
theorem rParse_f {k : Nat} {a : ByteArray} {r : ByteArray × Int} (h : chiselref04_Parse.f k a = some r) : Ans r (parseS (dl a)) := by
  unfold chiselref04_Parse.f at h
  obtain ⟨t, h1, h⟩ := bindE h
  have ht := read_f h1
  unfold rP at ht
  unfold parseS
  cases hr : rdn (dl a) with
  | error e =>
    rw [hr] at ht
    rw [ht, if_neg (rdn_err hr)] at h
    rw [← someE h]; exact ⟨rfl, rfl⟩
  | ok x =>
    rw [hr] at ht
    rw [ht, if_pos rfl] at h
    obtain ⟨u, h2, h⟩ := bindE h
    rw [← someE h]
    exact ⟨rtext_f (big50 (rdn_fine hr).1) h2, rfl⟩
theorem dg_len0 (n : Nat) : (((dg n).length : Int) == 0) = (n == 0) := by
  rw [Bool.eq_iff_iff, beq_iff_eq, beq_iff_eq]
  constructor
  · intro h; exact dg_nil (List.length_eq_zero_iff.mp (by omega))
  · intro h; subst h; rfl
theorem dlen {n m : Nat} (h : n < 10 ^ m) (hm : m ≤ 250) : (dg n).length ≤ 250 := Nat.le_trans (dg_len.mp h) hm
end Go.Proofs.YtldhiaiaildnlaaDoor.Nm
