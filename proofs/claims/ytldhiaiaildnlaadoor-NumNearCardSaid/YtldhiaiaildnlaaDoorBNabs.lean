/- Texts of the claim: Nabs. -/
import Derived.Test.YtldhiaiaildnlaaDoorBNz
import Derived.Test.YtldhiaiaildnlaaDoorBQx53
namespace Go.Proofs.YtldhiaiaildnlaaDoor.Nm
set_option linter.unusedVariables false
open Go Go.RowKit Go.Proofs.YtldhiaiaildnlaaDoor.Q Go.Proofs.YtldhiaiaildnlaaDoorW.PrintWords Go.Proofs.YtldhiaiaildnlaaDoorW.PrintLast Go.Proofs.YtldhiaiaildnlaaDoorW.PrintMore
theorem bt_0 (s : ByteArray) (b : UInt8) (l : List UInt8) (h : dl s = b :: l) : 0 < s.size ∧ bt s 0 = (b.toNat : Int) := by
  have hl := dl_size s
  rw [h] at hl
  simp at hl
  have h0 : 0 < s.size := by omega
  refine ⟨h0, ?_⟩
  unfold bt
  rw [dif_pos (by show (0 : Int).toNat < s.size; exact h0)]
  have : s[(0 : Int).toNat]'h0 = b := by
    have e : (dl s)[0]? = some b := by rw [h]; rfl
    unfold dl at e
    rw [Array.getElem?_toList] at e
    obtain ⟨h1, h2⟩ := Array.getElem?_eq_some_iff.mp e
    exact h2
  rw [this]
theorem abs_y (s : ByteArray) : ∃ v, chisellaw04_abs.f s = some v ∧ dl v = absL (dl s) := by
  unfold chisellaw04_abs.f
  have hl := dl_size s
  cases h : dl s with
  | nil =>
    rw [h] at hl
    simp at hl
    rw [if_neg (by omega)]
    exact ⟨_, rfl, by rw [h]; rfl⟩
  | cons b l =>
    obtain ⟨h0, h1⟩ := bt_0 s b l h
    rw [if_pos (by omega), if_pos (by omega), h1]
    unfold absL
    by_cases hb : b = 45
    · rw [hb, if_pos (by decide), if_pos (by omega)]
      refine ⟨_, rfl, ?_⟩
      rw [dl_ext, h, List.take_of_length_le (by rw [h] at hl; simp at hl ⊢; omega)]
      simp
    · rw [if_neg (fun h => hb (UInt8.toNat_inj.mp (by have : (45 : UInt8).toNat = 45 := rfl; omega)))]
      refine ⟨_, rfl, ?_⟩
      rw [h]; simp only; rw [if_neg hb]
theorem minus_0 (s : ByteArray) (x : Bool × Nat) (h : dl s = tx x) : 0 < s.size ∧ (bt s 0 == 45) = x.1 := by
  obtain ⟨b, l, e, hb⟩ := tx_first x
  obtain ⟨h0, h1⟩ := bt_0 s b l (h.trans e)
  refine ⟨h0, ?_⟩
  rw [h1, Bool.eq_iff_iff, beq_iff_eq, ← hb]
  constructor
  · intro h; exact UInt8.toNat_inj.mp (by have : (45 : UInt8).toNat = 45 := rfl; omega)
  · intro h; rw [h]; rfl
end Go.Proofs.YtldhiaiaildnlaaDoor.Nm
