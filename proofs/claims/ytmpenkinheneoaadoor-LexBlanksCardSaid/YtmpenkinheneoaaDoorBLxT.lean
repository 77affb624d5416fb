/- Texts of the claim: LxT. -/
import Derived.Test.YtmpenkinheneoaaDoorBLxS
import Derived.Test.YtmpenkinheneoaaDoorBQx31
namespace Go.Proofs.YtmpenkinheneoaaDoor.Plain
set_option linter.unusedVariables false
open Go Go.RowKit Go.Proofs.YtmpenkinheneoaaDoor.HPure Go.Proofs.YtmpenkinheneoaaDoor.Q Go.Proofs.YtmpenkinheneoaaDoor.Lx Go.Proofs.YtmpenkinheneoaaDoorW.PrintWords Go.Proofs.YtmpenkinheneoaaDoorW.PrintLast Go.Proofs.YtmpenkinheneoaaDoorW.PrintMore
theorem ans_ways (s : ByteArray) (hs : s.size ≤ 1000000) : (isText s = false ∧ ansP s = ([], 0, 10)) ∨ (isText s = true ∧ ∃ u e, lx (points s) = .error (u, e) ∧ ansP s = ([], P s u, e)) ∨ (isText s = true ∧ ∃ T, lx (points s) = .ok T ∧ ansP s = (T.map (fun t => tkP s t.1 t.2.1 t.2.2), 0, 0)) := by
  unfold ansP
  cases ht : isText s with
  | false => exact .inl ⟨rfl, rfl⟩
  | true =>
    right
    rw [if_pos rfl, if_pos (by omega)]
    cases he : lx (points s) with
    | error e => exact .inl ⟨rfl, e.1, e.2, rfl, rfl⟩
    | ok T => exact .inr ⟨rfl, T, rfl, rfl⟩
theorem tok_errno (l : List Int) (u : List Int) (e : Int) (h : tok l = .error (u, e)) : e = 5 ∨ e = 2 := by
  cases l with
  | nil => cases h; exact .inl rfl
  | cons c r =>
    rw [tok_cons] at h
    by_cases hq : c = 34 ∨ c = 39
    · rw [if_pos hq] at h
      cases hqq : quo c r with
      | none => rw [hqq] at h; cases h; exact .inl rfl
      | some x => rw [hqq] at h; cases h
    · rw [if_neg hq] at h
      by_cases hn : (num (c :: r)).1 ≠ []
      · rw [if_pos hn] at h
        by_cases hst : starts (num (c :: r)).2 = true
        · rw [if_pos hst] at h; cases h; exact .inl rfl
        · rw [if_neg hst] at h; cases h
      · rw [if_neg hn] at h
        by_cases hm : (nam (c :: r)).1 ≠ []
        · rw [if_pos hm] at h
          by_cases hl : 100 < (nam (c :: r)).1.length
          · rw [if_pos hl] at h; cases h; exact .inr rfl
          · rw [if_neg hl] at h; cases h
        · rw [if_neg hm] at h
          by_cases hg : sgn (c :: r) ≠ []
          · rw [if_pos hg] at h; cases h
          · rw [if_neg hg] at h; cases h; exact .inl rfl
theorem lx_errno : ∀ (n : Nat) (l u : List Int) (e : Int), l.length ≤ n → lx l = .error (u, e) → e = 5 ∨ e = 2 := by
  intro n
  induction n with
  | zero =>
    intro l u e hl h
    cases l with
    | cons c l => simp at hl
    | nil => cases h
  | succ n ih =>
    intro l u e hl h
    cases l with
    | nil => cases h
    | cons c r =>
      simp only [List.length_cons] at hl
      rw [lx_cons] at h
      by_cases hb : Lx.blank c = true
      · rw [if_pos hb] at h; exact ih r u e (by omega) h
      · rw [if_neg hb] at h
        by_cases ho : opens (c :: r) = true
        · rw [if_pos ho] at h
          cases hcm : comm 1 (r.drop 1) with
          | none => rw [hcm] at h; cases h; exact .inl rfl
          | some v =>
            rw [hcm] at h
            have := comm_short hcm
            rw [List.length_drop] at this
            exact ih v u e (by omega) h
        · rw [if_neg ho] at h
          cases ht : tok (c :: r) with
          | error x => rw [ht] at h; cases h; exact tok_errno _ _ _ ht
          | ok y =>
            obtain ⟨k, x, v⟩ := y
            rw [ht] at h
            have := tok_short ht
            simp only [List.length_cons] at this
            exact ih v u e (by omega) (pre_err h)
theorem app_mk (t : ByteArray) (l : List UInt8) : t ++ mk l = mk (t.data.toList ++ l) := by
  rw [← mk_data (t ++ mk l)]
  simp only [ByteArray.data_append, Array.toList_append, data_mk]
end Go.Proofs.YtmpenkinheneoaaDoor.Plain
