/- Texts of the claim: Nl. -/
import Derived.Test.YtldhiaiaildnlaaDoorDNk
namespace Go.Proofs.YtldhiaiaildnlaaDoor.Nm
set_option linter.unusedVariables false
open Go Go.RowKit Go.Proofs.YtldhiaiaildnlaaDoor.Q Go.Proofs.YtldhiaiaildnlaaDoorW.PrintWords Go.Proofs.YtldhiaiaildnlaaDoorW.PrintLast Go.Proofs.YtldhiaiaildnlaaDoorW.PrintMore
theorem rz_last {l a : List Int} {x : Int} (h : rz l = a ++ [x]) : x ≠ 0 := by
  unfold rz at h
  have := congrArg List.reverse h
  rw [List.reverse_reverse, List.reverse_append, List.reverse_singleton, List.singleton_append] at this
  exact tz_head _ _ _ this
theorem frac_zero (n : Nat) : frac n = [] ↔ n % 10 ^ 20 = 0 := by
  have h1 := whole_frac n
  have hl := frac_len n
  have hv := congrArg dv h1
  rw [dv_append, dv_append, dv_zeros, List.length_append, List.length_replicate, dv_ds] at hv
  have e20 : (frac n).length + (20 - (frac n).length) = 20 := by omega
  rw [e20] at hv
  have hlt : dv (frac n) * 10 ^ (20 - (frac n).length) < 10 ^ 20 := by
    have h2 := dv_lt (frac_D n)
    have h3 : (10 : Nat) ^ 20 = 10 ^ (frac n).length * 10 ^ (20 - (frac n).length) := by rw [← Nat.pow_add, e20]
    rw [h3]
    exact Nat.mul_lt_mul_of_pos_right h2 (Nat.pow_pos (by decide))
  have hmod : n % 10 ^ 20 = dv (frac n) * 10 ^ (20 - (frac n).length) := by
    conv => lhs; rw [← hv]
    rw [Nat.add_zero, Nat.mul_comm, Nat.mul_add_mod, Nat.mod_eq_of_lt hlt]
  rw [hmod]
  constructor
  · intro h; rw [h]; simp [dv]
  · intro h
    rcases Nat.mul_eq_zero.mp h with h4 | h4
    · by_cases hf : frac n = []
      · exact hf
      · exfalso
        obtain ⟨a, x, e⟩ := snoc_ex (frac n) hf
        have hx : x ≠ 0 := rz_last (l := (ds n).drop ((ds n).length - 20)) e
        have hD := frac_D n
        rw [e] at hD h4
        have := hD.right.head
        rw [dv_snoc] at h4
        omega
    · exact absurd h4 (Nat.pos_iff_ne_zero.mp (Nat.pow_pos (by decide)))
theorem drop_none {l : List UInt8} : l.dropWhile (· != 46) = [] ↔ 46 ∉ l := by
  induction l with
  | nil => simp
  | cons b l ih =>
    rw [List.dropWhile_cons, List.mem_cons]
    by_cases h : b = 46
    · rw [if_neg (by simp [h])]
      simp [h]
    · rw [if_pos (bne_iff_ne.mpr h), ih]
      simp [Ne.symm h]
theorem no_dot {l : List Int} (h : D l) : (46 : UInt8) ∉ l.map ch := by
  intro hm
  have := List.all_eq_true.mp (map_ch_all h) 46 hm
  revert this; decide
theorem dot_tx (x : Bool × Nat) : 46 ∉ tx x ↔ frac x.2 = [] := by
  unfold tx body
  have h1 := no_dot (whole_D x.2)
  have h2 : (46 : UInt8) ∉ (if x.1 = true then ([45] : List UInt8) else []) := by split <;> decide
  by_cases hf : frac x.2 = []
  · rw [if_pos hf]
    simp only [hf, iff_true, List.append_nil]
    intro h
    rcases List.mem_append.mp h with h | h
    · exact h2 h
    · exact h1 h
  · rw [if_neg hf]
    simp [hf]
theorem IsInt_f {k : Nat} {a : ByteArray} {r : Bool} (ha : a.size ≤ 1000000000) (h : num_IsInt.f k a = some r) : r = intS (dl a) := by
  unfold num_IsInt.f at h
  obtain ⟨t, h1, h⟩ := bindE h
  have ht := canonical_f ha h1
  unfold canP at ht
  unfold intS
  cases hc : can (dl a) with
  | none =>
    rw [hc] at ht
    rw [ht, if_neg (by decide)] at h
    exact (someE h).symm
  | some x =>
    rw [hc] at ht
    rw [ht, if_pos rfl] at h
    obtain ⟨u, h2, h⟩ := bindE h
    unfold strings_Contains.f strings_Index.f stringslite_Index.f at h2
    rw [if_pos (show (⟨#[46]⟩ : ByteArray).size = 1 from rfl)] at h2
    have hu : u = decide (Lib.indexByte (dl a) 46 ≥ 0) := (someE h2).symm
    have ea := (can_is hc).1
    have hd := dot_tx x
    rw [← ea, ← drop_none, frac_zero] at hd
    rw [← someE h, hu]
    simp only
    rcases indexByte_spec (dl a) 46 with ⟨e1, e2, _⟩ | ⟨e1, e2⟩
    · rw [e1, hd.mp e2]; rfl
    · rw [e1, decide_eq_true (by omega)]
      have : x.2 % 10 ^ 20 ≠ 0 := fun e => e2 (hd.mpr e)
      rw [beq_eq_false_iff_ne.mpr this]; rfl
end Go.Proofs.YtldhiaiaildnlaaDoor.Nm
