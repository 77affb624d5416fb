/- Texts of the claim: PlainA. -/
import Derived.Test.YtmpenkinheneoaaDoorKHPure
namespace Go.Proofs.YtmpenkinheneoaaDoor.Plain
set_option linter.unusedVariables false
open Go Go.Lib Go.Proofs.YtmpenkinheneoaaDoor.HPure
def good (n b0 b1 b2 : Nat) (r : Nat) : Bool := isChar (r : Int) && !(r == 65533 && !(decide (3 ≤ n) && (b0 == 239 && b1 == 191 && b2 == 189)))
theorem isChar_iff (c : Int) : isChar c = true ↔ (c = 9 ∨ c = 10 ∨ c = 13 ∨ (32 ≤ c ∧ c ≤ 55295) ∨ (57344 ≤ c ∧ c ≤ 65533) ∨ (65536 ≤ c ∧ c ≤ 1114111)) := by
  unfold isChar
  simp only [Bool.or_eq_true, Bool.and_eq_true, beq_iff_eq, decide_eq_true_eq, or_assoc]
theorem good_iff (n b0 b1 b2 r : Nat) : good n b0 b1 b2 r = true ↔ (isChar (r : Int) = true ∧ (r = 65533 → 3 ≤ n ∧ b0 = 239 ∧ b1 = 191 ∧ b2 = 189)) := by
  unfold good
  rw [Bool.and_eq_true]
  refine and_congr Iff.rfl ?_
  by_cases h : r = 65533
  · simp [h, and_assoc]
  · simp [h]
theorem decodeN_one (n c b1 b2 b3 : Nat) (h : c < 128) : decodeN n c b1 b2 b3 = (c, 1) := by unfold decodeN; rw [if_pos h]
theorem decodeN_two (n c b2 b3 : Nat) (hn : 2 ≤ n) (h0 : 128 ≤ c) (h1 : c ≤ 2047) : decodeN n (192 + c / 64) (128 + c % 64) b2 b3 = (c, 2) := by
  unfold decodeN
  rw [if_neg (by omega), if_pos (by omega), if_pos (by omega)]
  congr 1
  omega
theorem decodeN_three (n c b3 : Nat) (hn : 3 ≤ n) (h0 : 2048 ≤ c) (h1 : c ≤ 55295 ∨ (57344 ≤ c ∧ c ≤ 65535)) : decodeN n (224 + c / 4096) (128 + c / 64 % 64) (128 + c % 64) b3 = (c, 3) := by
  unfold decodeN
  rw [if_neg (by omega), if_neg (by omega), if_pos (by omega), if_pos (by omega)]
  congr 1
  omega
theorem decodeN_four (n c : Nat) (hn : 4 ≤ n) (h0 : 65536 ≤ c) (h1 : c ≤ 1114111) : decodeN n (240 + c / 262144) (128 + c / 4096 % 64) (128 + c / 64 % 64) (128 + c % 64) = (c, 4) := by
  unfold decodeN
  rw [if_neg (by omega), if_neg (by omega), if_neg (by omega), if_pos (by omega), if_pos (by omega)]
  congr 1
  omega
theorem decodeN_good (n b0 b1 b2 b3 r w : Nat) (hn : 1 ≤ n) (h0 : b0 < 256) (h1 : b1 < 256) (h2 : b2 < 256) (h3 : b3 < 256) (h : decodeN n b0 b1 b2 b3 = (r, w)) (hg : good n b0 b1 b2 r = true) :
    w ≤ n ∧ encodeRuneZ (r : Int) = ((([b0, b1, b2, b3] : List Nat).take w).map (fun (x : Nat) => (x : Int))) := by
  rw [good_iff, isChar_iff] at hg
  obtain ⟨hc, hb⟩ := hg
  unfold decodeN at h
  split at h
  · obtain ⟨rfl, rfl⟩ := Prod.mk.inj h
    exact ⟨hn, by rw [encodeRuneZ_one (by omega) (by omega)]; rfl⟩
  · split at h
    · split at h
      · obtain ⟨rfl, rfl⟩ := Prod.mk.inj h
        refine ⟨by omega, ?_⟩
        rw [encodeRuneZ_two (by omega) (by omega)]
        simp only [List.take_succ_cons, List.take_zero, List.map_cons, List.map_nil, List.cons.injEq, and_true]
        omega
      · obtain ⟨rfl, rfl⟩ := Prod.mk.inj h
        have := hb rfl
        omega
    · split at h
      · split at h
        · obtain ⟨rfl, rfl⟩ := Prod.mk.inj h
          refine ⟨by omega, ?_⟩
          rw [encodeRuneZ_three (by omega)]
          simp only [List.take_succ_cons, List.take_zero, List.map_cons, List.map_nil, List.cons.injEq, and_true]
          omega
        · obtain ⟨rfl, rfl⟩ := Prod.mk.inj h
          have := hb rfl
          omega
      · split at h
        · split at h
          · obtain ⟨rfl, rfl⟩ := Prod.mk.inj h
            refine ⟨by omega, ?_⟩
            rw [encodeRuneZ_four (by omega) (by omega)]
            simp only [List.take_succ_cons, List.take_zero, List.map_cons, List.map_nil, List.cons.injEq, and_true]
            omega
          · obtain ⟨rfl, rfl⟩ := Prod.mk.inj h
            have := hb rfl
            omega
        · obtain ⟨rfl, rfl⟩ := Prod.mk.inj h
          have := hb rfl
          omega
def cont (b : Nat) : Bool := decide (128 ≤ b) && decide (b < 192)
end Go.Proofs.YtmpenkinheneoaaDoor.Plain
