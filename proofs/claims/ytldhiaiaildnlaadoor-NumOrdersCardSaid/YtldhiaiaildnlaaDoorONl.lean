/- Texts of the claim: Nl. -/
import Derived.Test.YtldhiaiaildnlaaDoorONk
namespace Go.Proofs.YtldhiaiaildnlaaDoor.Nm
set_option linter.unusedVariables false
open Go Go.RowKit Go.Proofs.YtldhiaiaildnlaaDoor.Q Go.Proofs.YtldhiaiaildnlaaDoorW.PrintWords Go.Proofs.YtldhiaiaildnlaaDoorW.PrintLast Go.Proofs.YtldhiaiaildnlaaDoorW.PrintMore
theorem hasPrefix_f {s p : ByteArray} {c : UInt8} {t : Bool} (hp : dl p = [c]) (h : strings_HasPrefix.f s p = some t) : t = match dl s with
    | [] => false
    | b :: _ => b == c := by
  unfold strings_HasPrefix.f stringslite_HasPrefix.f at h
  have hps : p.size = 1 := by rw [← dl_size, hp]; rfl
  have hl := dl_size s
  rw [hps] at h
  obtain ⟨b, h2, h1⟩ := bindE h
  rw [← someE h1]
  by_cases h0 : (s.size : Int) ≥ ((1 : Nat) : Int)
  · rw [if_pos h0] at h2
    obtain ⟨_, h2⟩ := ifE h2
    obtain ⟨_, h2⟩ := ifE h2
    rw [dl_toList, dl_toList, dl_ext, hp, Int.toNat_natCast] at h2
    cases hd : dl s with
    | nil => rw [hd] at hl; simp at hl; omega
    | cons x l =>
      rw [hd] at h2
      rw [← someE h2]
      show ([x] == [c]) = _
      simp
  · rw [if_neg h0] at h2
    have : dl s = [] := List.length_eq_zero_iff.mp (by omega)
    rw [← someE h2, this]
theorem prefix_tx {s p : ByteArray} {t : Bool} {x : Bool × Nat} (hp : dl p = [45]) (hs : dl s = tx x) (h : strings_HasPrefix.f s p = some t) : t = x.1 := by
  rw [hasPrefix_f hp h, hs]
  obtain ⟨b, r, e, hb⟩ := tx_first x
  rw [e]
  simp only
  rw [Bool.eq_iff_iff, beq_iff_eq]
  exact hb
theorem Cmp_f {k : Nat} {a b : ByteArray} {r : Int × Int} (ha : a.size ≤ 1000000000) (hb : b.size ≤ 1000000000) (h : num_Cmp.f k a b = some r) : r = cmpS (dl a) (dl b) := by
  unfold num_Cmp.f at h
  obtain ⟨t, h1, h⟩ := bindE h
  obtain ⟨e1, e2⟩ := Sub_f ha hb h1
  rcases ways (dl a) (dl b) with hn | ⟨x, y, hx, hy⟩
  · unfold cmpS
    unfold subS at e1 e2
    rw [two_none _ _ hn] at e1 e2
    rw [two_none _ _ hn]
    rw [if_pos e2] at h
    rw [← someE h, e2]
  · rw [cmp_some hx hy]
    rw [sub_some hx hy] at e1 e2
    obtain ⟨ea, fx⟩ := can_is hx
    obtain ⟨eb, fy⟩ := can_is hy
    have l1 := fine_lt fx
    have l2 := fine_lt fy
    generalize hz : iv x - iv y = z at e1 e2
    have hsg : sgI (iv x) (iv y) = if z < 0 then -1 else if z = 0 then 0 else 1 := by
      unfold sgI
      by_cases h3 : iv x < iv y
      · rw [if_pos h3, if_pos (show z < 0 by omega)]
      · rw [if_neg h3, if_neg (show ¬ z < 0 by omega)]
        by_cases h4 : iv x = iv y
        · rw [if_pos h4, if_pos (show z = 0 by omega)]
        · rw [if_neg h4, if_neg (show ¬ z = 0 by omega)]
    rw [hsg]
    by_cases hb : 10 ^ 50 ≤ z.natAbs
    · have h40 : t.2 = 40 := by rw [e2]; unfold resI; rw [if_pos hb]
      rw [if_neg (by rw [h40]; decide), if_pos h40] at h
      obtain ⟨p, h5, h⟩ := bindE h
      rw [prefix_tx (x := x) rfl ea h5] at h
      have hx1 : x.1 = true ↔ z < 0 := by
        have hv : iv x = if x.1 = true then -(x.2 : Int) else x.2 := rfl
        by_cases hs : x.1 = true
        · rw [if_pos hs] at hv
          exact ⟨fun _ => by omega, fun _ => hs⟩
        · rw [if_neg hs] at hv
          exact ⟨fun h => absurd h hs, fun h => by omega⟩
      by_cases hs : x.1 = true
      · rw [if_pos hs] at h
        rw [if_pos (hx1.mp hs), ← someE h]
      · rw [if_neg hs] at h
        have : ¬ z < 0 := fun h => hs (hx1.mpr h)
        rw [if_neg this, if_neg (by omega), ← someE h]
    · have hok : resI z = (tx (nrm z), 0) := resI_ok (by omega)
      rw [hok] at e1 e2
      rw [if_neg (by rw [e2]; show ¬ (0 : Int) = 1; decide), if_neg (by rw [e2]; show ¬ (0 : Int) = 40; decide), dl_toList, e1] at h
      have fz : Fine (nrm z) := nrm_fine (by omega)
      by_cases h0 : tx (nrm z) = [48]
      · rw [if_pos h0] at h
        have h6 : (nrm z).2 = 0 := tx_zero (nrm z).1 h0 fz
        have h7 : z.natAbs = 0 := h6
        rw [if_neg (by omega), if_pos (by omega), ← someE h]
      · rw [if_neg h0] at h
        obtain ⟨p, h5, h⟩ := bindE h
        rw [prefix_tx (x := nrm z) rfl e1 h5] at h
        have h8 : (nrm z).1 = decide (z < 0) := rfl
        rw [h8] at h
        by_cases hs : z < 0
        · rw [if_pos (decide_eq_true hs)] at h
          rw [if_pos hs, ← someE h]
        · rw [if_neg (by simpa using hs)] at h
          have h9 : z ≠ 0 := by
            intro e
            rw [e] at h0
            exact h0 rfl
          rw [if_neg hs, if_neg h9, ← someE h]
end Go.Proofs.YtldhiaiaildnlaaDoor.Nm
