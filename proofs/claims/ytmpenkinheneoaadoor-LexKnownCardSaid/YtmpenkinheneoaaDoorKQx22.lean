/- Texts of the claim: Qx22, Qx23, Qx24. -/
import Derived.Test.YtmpenkinheneoaaDoorKQx0
import Derived.Test.YtmpenkinheneoaaDoorKQx21
namespace Go.Proofs.YtmpenkinheneoaaDoor.Q
open Go.RowKit Go.Proofs.YtmpenkinheneoaaDoorW.PrintWords Go.Proofs.YtmpenkinheneoaaDoorW.PrintLast Go.Proofs.YtmpenkinheneoaaDoorW.PrintMore
attribute [local go_sem] max2_int min2_int max_two min_two max_three min_three max_four min_four   -- for this text's walks alone
set_option linter.unusedVariables false
set_option linter.unusedSimpArgs false
mutual
def chiselref14_comment.l0 : Nat → ByteArray → Int → Option (Int)
 | 0, _, _ => none
 | k + 1, x0, x1 => if x1 < (x0.size : Int) then ((chiselref14_begins.f x0 x1 (⟨#[58, 41]⟩ : ByteArray)).bind fun t154 => (if t154 = true then (some (wrap64 (x1 + 2))) else ((chiselref14_begins.f x0 x1 (⟨#[40, 58]⟩ : ByteArray)).bind fun t155 => (if t155 = true then ((chiselref14_comment.f k x0 x1).bind fun t156 => (if t156 < 0 then (some (-1)) else (chiselref14_comment.l0 k x0 t156))) else (chiselref14_comment.l0 k x0 (wrap64 (x1 + 1))))))) else (some (-1))
def chiselref14_comment.f : Nat → ByteArray → Int → Option (Int)
 | 0, _, _ => none
 | k + 1, a0, a1 => chiselref14_comment.l0 k a0 (wrap64 (a1 + 2))
end
theorem chiselref14_comment.mono_l : ∀ k, (∀ y0 y1, LeO (chiselref14_comment.f k y0 y1) (chiselref14_comment.f (k + 1) y0 y1)) ∧ (∀ y0 y1, LeO (chiselref14_comment.l0 k y0 y1) (chiselref14_comment.l0 (k + 1) y0 y1))
 | 0 => ⟨fun _ _ r h => by simp [chiselref14_comment.f] at h, fun _ _ r h => by simp [chiselref14_comment.l0] at h⟩
 | k + 1 => by
  obtain ⟨ih0, ih1⟩ := chiselref14_comment.mono_l k
  refine ⟨?_, ?_⟩
  ·intro y0 y1
   unfold chiselref14_comment.f
   repeat' first
   | (with_reducible exact ih0 _ _)
   | (with_reducible exact ih1 _ _)
   | (with_reducible exact LeO.refl _)
   | (with_reducible exact LeO.none _)
   | (with_reducible refine LeO.ite ?_ ?_)
   | (with_reducible refine LeO.bind ?_ (fun _ => ?_))
   | exact ih0 _ _
   | exact ih1 _ _
   | exact LeO.none _
   | refine LeO.ite ?_ ?_
   | refine LeO.bind ?_ (fun _ => ?_)
  ·intro y0 y1
   unfold chiselref14_comment.l0
   repeat' first
   | (with_reducible exact ih0 _ _)
   | (with_reducible exact ih1 _ _)
   | (with_reducible exact LeO.refl _)
   | (with_reducible exact LeO.none _)
   | (with_reducible refine LeO.ite ?_ ?_)
   | (with_reducible refine LeO.bind ?_ (fun _ => ?_))
   | exact ih0 _ _
   | exact ih1 _ _
   | exact LeO.none _
   | refine LeO.ite ?_ ?_
   | refine LeO.bind ?_ (fun _ => ?_)
theorem chiselref14_comment.mono : ∀ a0 a1 k, LeO (chiselref14_comment.f k a0 a1) (chiselref14_comment.f (k + 1) a0 a1) := by
 intro a0 a1 k; obtain ⟨ih0, ih1⟩ := chiselref14_comment.mono_l k; exact ih0 a0 a1
def chiselref14_quoted.l0 : Nat → ByteArray → Int → Int → ByteArray → Int → Option (ByteArray × Int)
 | 0, _, _, _, _, _ => none
 | k + 1, x0, x6, x7, x8, x9 => if x9 < (x0.size : Int) then (if 0 ≤ x9 then (if (bt x0 x9) = x6 then (if 0 ≤ x7 then (if x7 ≤ x9 then (if x9 ≤ (x0.size : Int) then (if x8.size + (x0.extract (x7 : Int).toNat (x9 : Int).toNat).size ≤ 9223372036854775807 then (if (wrap64 (x9 + 1)) = (x0.size : Int) then (some (x8 ++ (x0.extract (x7 : Int).toNat (x9 : Int).toNat), wrap64 (x9 + 1))) else (if 0 ≤ (wrap64 (x9 + 1)) then (if (wrap64 (x9 + 1)) < (x0.size : Int) then (if (bt x0 (wrap64 (x9 + 1))) = x6 then (if x9 ≤ (wrap64 (x9 + 1)) then (if (wrap64 (x9 + 1)) ≤ (x0.size : Int) then (if (x8 ++ (x0.extract (x7 : Int).toNat (x9 : Int).toNat)).size + (x0.extract (x9 : Int).toNat ((wrap64 (x9 + 1)) : Int).toNat).size ≤ 9223372036854775807 then (chiselref14_quoted.l0 k x0 x6 (wrap64 ((wrap64 (x9 + 1)) + 1)) ((x8 ++ (x0.extract (x7 : Int).toNat (x9 : Int).toNat)) ++ (x0.extract (x9 : Int).toNat ((wrap64 (x9 + 1)) : Int).toNat)) (wrap64 ((wrap64 (x9 + 1)) + 1))) else (none)) else (none)) else (none)) else (some (x8 ++ (x0.extract (x7 : Int).toNat (x9 : Int).toNat), wrap64 (x9 + 1)))) else (none)) else (none))) else (none)) else (none)) else (none)) else (none)) else (chiselref14_quoted.l0 k x0 x6 x7 x8 (wrap64 (x9 + 1)))) else (none)) else (some ((⟨#[]⟩ : ByteArray), (-1)))
def chiselref14_quoted.f (k : Nat) (a0 : ByteArray) (a1 : Int) : Option (ByteArray × Int) := if 0 ≤ a1 then (if a1 < (a0.size : Int) then (chiselref14_quoted.l0 k a0 (bt a0 a1) (wrap64 (a1 + 1)) (⟨#[]⟩ : ByteArray) (wrap64 (a1 + 1))) else (none)) else (none)
theorem chiselref14_quoted.mono_l : ∀ k, (∀ y0 y1 y2 y3 y4, LeO (chiselref14_quoted.l0 k y0 y1 y2 y3 y4) (chiselref14_quoted.l0 (k + 1) y0 y1 y2 y3 y4))
 | 0 => fun _ _ _ _ _ r h => by simp [chiselref14_quoted.l0] at h
 | k + 1 => by
  have ih0 := chiselref14_quoted.mono_l k
  ·intro y0 y1 y2 y3 y4
   unfold chiselref14_quoted.l0
   repeat' first
   | (with_reducible exact ih0 _ _ _ _ _)
   | (with_reducible exact LeO.refl _)
   | (with_reducible exact LeO.none _)
   | (with_reducible refine LeO.ite ?_ ?_)
   | (with_reducible refine LeO.bind ?_ (fun _ => ?_))
   | exact ih0 _ _ _ _ _
   | exact LeO.none _
   | refine LeO.ite ?_ ?_
   | refine LeO.bind ?_ (fun _ => ?_)
theorem chiselref14_quoted.mono : ∀ a0 a1 k, LeO (chiselref14_quoted.f k a0 a1) (chiselref14_quoted.f (k + 1) a0 a1) := by
 intro a0 a1 k; have ih0 := chiselref14_quoted.mono_l k; unfold chiselref14_quoted.f
 repeat' first
   | (with_reducible exact ih0 _ _ _ _ _)
   | (with_reducible exact LeO.refl _)
   | (with_reducible exact LeO.none _)
   | (with_reducible refine LeO.ite ?_ ?_)
   | (with_reducible refine LeO.bind ?_ (fun _ => ?_))
   | exact ih0 _ _ _ _ _
   | exact LeO.none _
   | refine LeO.ite ?_ ?_
   | refine LeO.bind ?_ (fun _ => ?_)
def chiselref14_digit.f (a0 : ByteArray) (a1 : Int) : Option (Bool) := if a1 < (a0.size : Int) then (if 0 ≤ a1 then (if (bt a0 a1) ≥ 48 then (some (decide ((bt a0 a1) ≤ 57))) else (some false)) else (none)) else (some false)
def chiselref14_digits.l0 : Nat → ByteArray → Int → Option (Int)
 | 0, _, _ => none
 | k + 1, x0, x1 => (chiselref14_digit.f x0 x1).bind fun t157 => (if t157 = true then (chiselref14_digits.l0 k x0 (wrap64 (x1 + 1))) else (some x1))
def chiselref14_digits.f (k : Nat) (a0 : ByteArray) (a1 : Int) : Option (Int) := chiselref14_digits.l0 k a0 a1
theorem chiselref14_digits.mono_l : ∀ k, (∀ y0 y1, LeO (chiselref14_digits.l0 k y0 y1) (chiselref14_digits.l0 (k + 1) y0 y1))
 | 0 => fun _ _ r h => by simp [chiselref14_digits.l0] at h
 | k + 1 => by
  have ih0 := chiselref14_digits.mono_l k
  ·intro y0 y1
   unfold chiselref14_digits.l0
   repeat' first
   | (with_reducible exact ih0 _ _)
   | (with_reducible exact LeO.refl _)
   | (with_reducible exact LeO.none _)
   | (with_reducible refine LeO.ite ?_ ?_)
   | (with_reducible refine LeO.bind ?_ (fun _ => ?_))
   | exact ih0 _ _
   | exact LeO.none _
   | refine LeO.ite ?_ ?_
   | refine LeO.bind ?_ (fun _ => ?_)
theorem chiselref14_digits.mono : ∀ a0 a1 k, LeO (chiselref14_digits.f k a0 a1) (chiselref14_digits.f (k + 1) a0 a1) := by
 intro a0 a1 k; have ih0 := chiselref14_digits.mono_l k; unfold chiselref14_digits.f
 repeat' first
   | (with_reducible exact ih0 _ _)
   | (with_reducible exact LeO.refl _)
   | (with_reducible exact LeO.none _)
   | (with_reducible refine LeO.ite ?_ ?_)
   | (with_reducible refine LeO.bind ?_ (fun _ => ?_))
   | exact ih0 _ _
   | exact LeO.none _
   | refine LeO.ite ?_ ?_
   | refine LeO.bind ?_ (fun _ => ?_)
end Go.Proofs.YtmpenkinheneoaaDoor.Q
namespace Go.Proofs.YtmpenkinheneoaaDoor.Q
open Go.RowKit Go.Proofs.YtmpenkinheneoaaDoorW.PrintWords Go.Proofs.YtmpenkinheneoaaDoorW.PrintLast Go.Proofs.YtmpenkinheneoaaDoorW.PrintMore
attribute [local go_sem] max2_int min2_int max_two min_two max_three min_three max_four min_four   -- for this text's walks alone
set_option linter.unusedVariables false
set_option linter.unusedSimpArgs false
mutual
def chiselref14_number.j0 : Nat → ByteArray → Int → Int → Bool → Option (Int)
 | 0, _, _, _, _ => none
 | k + 1, x0, x1, x5, x18 => if x18 = true then ((chiselref14_digits.f k x0 (wrap64 (x5 + 1))).bind fun t161 => (chiselref14_number.j1 k x0 x1 t161)) else (chiselref14_number.j1 k x0 x1 x5)
def chiselref14_number.j1 : Nat → ByteArray → Int → Int → Option (Int)
 | 0, _, _, _ => none
 | k + 1, x0, x1, x5 => if x5 = x1 then (some x1) else ((chiselref14_begins.f x0 x5 (⟨#[101]⟩ : ByteArray)).bind fun t162 => (if t162 = true then (chiselref14_number.j2 k x0 x5 x5 true) else ((chiselref14_begins.f x0 x5 (⟨#[69]⟩ : ByteArray)).bind fun t163 => (chiselref14_number.j2 k x0 x5 x5 t163))))
def chiselref14_number.j2 : Nat → ByteArray → Int → Int → Bool → Option (Int)
 | 0, _, _, _, _ => none
 | k + 1, x0, x5, x6, x35 => if x35 = true then ((chiselref14_begins.f x0 (wrap64 (x6 + 1)) (⟨#[43]⟩ : ByteArray)).bind fun t164 => (if t164 = true then (chiselref14_number.j3 k x0 x5 (wrap64 (x6 + 1)) true) else ((chiselref14_begins.f x0 (wrap64 (x6 + 1)) (⟨#[45]⟩ : ByteArray)).bind fun t165 => (chiselref14_number.j3 k x0 x5 (wrap64 (x6 + 1)) t165)))) else (some x5)
def chiselref14_number.j3 : Nat → ByteArray → Int → Int → Bool → Option (Int)
 | 0, _, _, _, _ => none
 | k + 1, x0, x5, x6, x45 => if x45 = true then (chiselref14_number.j4 k x0 x5 (wrap64 (x6 + 1))) else (chiselref14_number.j4 k x0 x5 x6)
def chiselref14_number.j4 : Nat → ByteArray → Int → Int → Option (Int)
 | 0, _, _, _ => none
 | k + 1, x0, x5, x6 => (chiselref14_digit.f x0 x6).bind fun t166 => (if t166 = true then ((chiselref14_digits.f k x0 x6).bind fun t167 => (some t167)) else (some x5))
end
def chiselref14_number.f (k : Nat) (a0 : ByteArray) (a1 : Int) : Option (Int) := (chiselref14_digits.f k a0 a1).bind fun t158 => ((chiselref14_begins.f a0 t158 (⟨#[46]⟩ : ByteArray)).bind fun t159 => (if t159 = true then ((chiselref14_digit.f a0 (wrap64 (t158 + 1))).bind fun t160 => (chiselref14_number.j0 k a0 a1 t158 t160)) else (chiselref14_number.j0 k a0 a1 t158 false)))
theorem chiselref14_number.mono_l : ∀ k, (∀ y0 y1 y2 y3, LeO (chiselref14_number.j0 k y0 y1 y2 y3) (chiselref14_number.j0 (k + 1) y0 y1 y2 y3)) ∧ (∀ y0 y1 y2, LeO (chiselref14_number.j1 k y0 y1 y2) (chiselref14_number.j1 (k + 1) y0 y1 y2)) ∧ (∀ y0 y1 y2 y3, LeO (chiselref14_number.j2 k y0 y1 y2 y3) (chiselref14_number.j2 (k + 1) y0 y1 y2 y3)) ∧ (∀ y0 y1 y2 y3, LeO (chiselref14_number.j3 k y0 y1 y2 y3) (chiselref14_number.j3 (k + 1) y0 y1 y2 y3)) ∧ (∀ y0 y1 y2, LeO (chiselref14_number.j4 k y0 y1 y2) (chiselref14_number.j4 (k + 1) y0 y1 y2))
 | 0 => ⟨fun _ _ _ _ r h => by simp [chiselref14_number.j0] at h, fun _ _ _ r h => by simp [chiselref14_number.j1] at h, fun _ _ _ _ r h => by simp [chiselref14_number.j2] at h, fun _ _ _ _ r h => by simp [chiselref14_number.j3] at h, fun _ _ _ r h => by simp [chiselref14_number.j4] at h⟩
 | k + 1 => by
  obtain ⟨ih0, ih1, ih2, ih3, ih4⟩ := chiselref14_number.mono_l k
  refine ⟨?_, ?_, ?_, ?_, ?_⟩
  ·intro y0 y1 y2 y3
   unfold chiselref14_number.j0
   repeat' first
   | (with_reducible exact ih0 _ _ _ _)
   | (with_reducible exact ih1 _ _ _)
   | (with_reducible exact ih2 _ _ _ _)
   | (with_reducible exact ih3 _ _ _ _)
   | (with_reducible exact ih4 _ _ _)
   | (with_reducible exact chiselref14_digits.mono _ _ _)
   | (with_reducible exact LeO.refl _)
   | (with_reducible exact LeO.none _)
   | (with_reducible refine LeO.ite ?_ ?_)
   | (with_reducible refine LeO.bind ?_ (fun _ => ?_))
   | exact ih0 _ _ _ _
   | exact ih1 _ _ _
   | exact ih2 _ _ _ _
   | exact ih3 _ _ _ _
   | exact ih4 _ _ _
   | exact chiselref14_digits.mono _ _ _
   | exact LeO.none _
   | refine LeO.ite ?_ ?_
   | refine LeO.bind ?_ (fun _ => ?_)
  ·intro y0 y1 y2
   unfold chiselref14_number.j1
   repeat' first
   | (with_reducible exact ih0 _ _ _ _)
   | (with_reducible exact ih1 _ _ _)
   | (with_reducible exact ih2 _ _ _ _)
   | (with_reducible exact ih3 _ _ _ _)
   | (with_reducible exact ih4 _ _ _)
   | (with_reducible exact chiselref14_digits.mono _ _ _)
   | (with_reducible exact LeO.refl _)
   | (with_reducible exact LeO.none _)
   | (with_reducible refine LeO.ite ?_ ?_)
   | (with_reducible refine LeO.bind ?_ (fun _ => ?_))
   | exact ih0 _ _ _ _
   | exact ih1 _ _ _
   | exact ih2 _ _ _ _
   | exact ih3 _ _ _ _
   | exact ih4 _ _ _
   | exact chiselref14_digits.mono _ _ _
   | exact LeO.none _
   | refine LeO.ite ?_ ?_
   | refine LeO.bind ?_ (fun _ => ?_)
  ·intro y0 y1 y2 y3
   unfold chiselref14_number.j2
   repeat' first
   | (with_reducible exact ih0 _ _ _ _)
   | (with_reducible exact ih1 _ _ _)
   | (with_reducible exact ih2 _ _ _ _)
   | (with_reducible exact ih3 _ _ _ _)
   | (with_reducible exact ih4 _ _ _)
   | (with_reducible exact chiselref14_digits.mono _ _ _)
   | (with_reducible exact LeO.refl _)
   | (with_reducible exact LeO.none _)
   | (with_reducible refine LeO.ite ?_ ?_)
   | (with_reducible refine LeO.bind ?_ (fun _ => ?_))
   | exact ih0 _ _ _ _
   | exact ih1 _ _ _
   | exact ih2 _ _ _ _
   | exact ih3 _ _ _ _
   | exact ih4 _ _ _
   | exact chiselref14_digits.mono _ _ _
   | exact LeO.none _
   | refine LeO.ite ?_ ?_
   | refine LeO.bind ?_ (fun _ => ?_)
  ·intro y0 y1 y2 y3
   unfold chiselref14_number.j3
   repeat' first
   | (with_reducible exact ih0 _ _ _ _)
   | (with_reducible exact ih1 _ _ _)
   | (with_reducible exact ih2 _ _ _ _)
   | (with_reducible exact ih3 _ _ _ _)
   | (with_reducible exact ih4 _ _ _)
   | (with_reducible exact chiselref14_digits.mono _ _ _)
   | (with_reducible exact LeO.refl _)
   | (with_reducible exact LeO.none _)
   | (with_reducible refine LeO.ite ?_ ?_)
   | (with_reducible refine LeO.bind ?_ (fun _ => ?_))
   | exact ih0 _ _ _ _
   | exact ih1 _ _ _
   | exact ih2 _ _ _ _
   | exact ih3 _ _ _ _
   | exact ih4 _ _ _
   | exact chiselref14_digits.mono _ _ _
   | exact LeO.none _
   | refine LeO.ite ?_ ?_
   | refine LeO.bind ?_ (fun _ => ?_)
  ·intro y0 y1 y2
   unfold chiselref14_number.j4
   repeat' first
   | (with_reducible exact ih0 _ _ _ _)
   | (with_reducible exact ih1 _ _ _)
   | (with_reducible exact ih2 _ _ _ _)
   | (with_reducible exact ih3 _ _ _ _)
   | (with_reducible exact ih4 _ _ _)
   | (with_reducible exact chiselref14_digits.mono _ _ _)
   | (with_reducible exact LeO.refl _)
   | (with_reducible exact LeO.none _)
   | (with_reducible refine LeO.ite ?_ ?_)
   | (with_reducible refine LeO.bind ?_ (fun _ => ?_))
   | exact ih0 _ _ _ _
   | exact ih1 _ _ _
   | exact ih2 _ _ _ _
   | exact ih3 _ _ _ _
   | exact ih4 _ _ _
   | exact chiselref14_digits.mono _ _ _
   | exact LeO.none _
   | refine LeO.ite ?_ ?_
   | refine LeO.bind ?_ (fun _ => ?_)
theorem chiselref14_number.mono : ∀ a0 a1 k, LeO (chiselref14_number.f k a0 a1) (chiselref14_number.f (k + 1) a0 a1) := by
 intro a0 a1 k; obtain ⟨ih0, ih1, ih2, ih3, ih4⟩ := chiselref14_number.mono_l k; unfold chiselref14_number.f
 repeat' first
   | (with_reducible exact ih0 _ _ _ _)
   | (with_reducible exact ih1 _ _ _)
   | (with_reducible exact ih2 _ _ _ _)
   | (with_reducible exact ih3 _ _ _ _)
   | (with_reducible exact ih4 _ _ _)
   | (with_reducible exact chiselref14_digits.mono _ _ _)
   | (with_reducible exact LeO.refl _)
   | (with_reducible exact LeO.none _)
   | (with_reducible refine LeO.ite ?_ ?_)
   | (with_reducible refine LeO.bind ?_ (fun _ => ?_))
   | exact ih0 _ _ _ _
   | exact ih1 _ _ _
   | exact ih2 _ _ _ _
   | exact ih3 _ _ _ _
   | exact ih4 _ _ _
   | exact chiselref14_digits.mono _ _ _
   | exact LeO.none _
   | refine LeO.ite ?_ ?_
   | refine LeO.bind ?_ (fun _ => ?_)
def chiselref01_letter.f (a0 : Int) : Option (Bool) := if a0 ≥ 65 then (if a0 ≤ 90 then (some true) else (if a0 ≥ 97 then (if a0 ≤ 122 then (some true) else (if a0 = 95 then (some true) else (if a0 ≥ 192 then (if a0 = 215 then (some false) else (some (a0 != 247))) else (some false)))) else (if a0 = 95 then (some true) else (if a0 ≥ 192 then (if a0 = 215 then (some false) else (some (a0 != 247))) else (some false))))) else (if a0 ≥ 97 then (if a0 ≤ 122 then (some true) else (if a0 = 95 then (some true) else (if a0 ≥ 192 then (if a0 = 215 then (some false) else (some (a0 != 247))) else (some false)))) else (if a0 = 95 then (some true) else (if a0 ≥ 192 then (if a0 = 215 then (some false) else (some (a0 != 247))) else (some false))))
def chiselref01_inName.f (a0 : Int) : Option (Bool) := (chiselref01_letter.f a0).bind fun t168 => (if t168 = true then (some true) else (if a0 ≥ 48 then (if a0 ≤ 57 then (some true) else (if a0 = 45 then (some true) else (if a0 = 46 then (some true) else (some (a0 == 183))))) else (if a0 = 45 then (some true) else (if a0 = 46 then (some true) else (some (a0 == 183))))))
end Go.Proofs.YtmpenkinheneoaaDoor.Q
namespace Go.Proofs.YtmpenkinheneoaaDoor.Q
open Go.RowKit Go.Proofs.YtmpenkinheneoaaDoorW.PrintWords Go.Proofs.YtmpenkinheneoaaDoorW.PrintLast Go.Proofs.YtmpenkinheneoaaDoorW.PrintMore
attribute [local go_sem] max2_int min2_int max_two min_two max_three min_three max_four min_four   -- for this text's walks alone
set_option linter.unusedVariables false
set_option linter.unusedSimpArgs false
mutual
def chiselref01_IsName.j0 : Nat → List Int → Bool → Option (Bool)
 | 0, _, _ => none
 | k + 1, x3, x24 => if x24 = true then (some false) else (chiselref01_IsName.l0 k x3 0 true 0)
def chiselref01_IsName.l0 : Nat → List Int → Int → Bool → Int → Option (Bool)
 | 0, _, _, _, _ => none
 | k + 1, x3, x5, x6, x7 => if x7 < (x3.length : Int) then (if 0 ≤ x7 then (if (rd x3 x7) = 58 then (chiselref01_IsName.j2 k x3 x5 x6 x7 (!x6)) else (chiselref01_IsName.j2 k x3 x5 x6 x7 false)) else (none)) else (if x6 = true then (some false) else (some (decide (x5 ≤ 1))))
def chiselref01_IsName.j2 : Nat → List Int → Int → Bool → Int → Bool → Option (Bool)
 | 0, _, _, _, _, _ => none
 | k + 1, x3, x5, x6, x7, x39 => if x39 = true then (chiselref01_IsName.l0 k x3 (wrap64 (x5 + 1)) true (wrap64 (x7 + 1))) else (if x6 = true then (if 0 ≤ x7 then (if x7 < (x3.length : Int) then ((chiselref01_letter.f (rd x3 x7)).bind fun t175 => (if t175 = true then (chiselref01_IsName.l0 k x3 x5 false (wrap64 (x7 + 1))) else (some false))) else (none)) else (none)) else (if 0 ≤ x7 then (if x7 < (x3.length : Int) then ((chiselref01_inName.f (rd x3 x7)).bind fun t177 => (if t177 = true then (chiselref01_IsName.l0 k x3 x5 false (wrap64 (x7 + 1))) else (some false))) else (none)) else (none)))
end
def chiselref01_IsName.f (k : Nat) (a0 : ByteArray) : Option (Bool) := (chiselref01_Points.f k a0).bind fun bt169 => (if bt169.2 = 0 then (if (bt169.1.length : Int) < 1 then (chiselref01_IsName.j0 k bt169.1 true) else (chiselref01_IsName.j0 k bt169.1 (decide ((bt169.1.length : Int) > 100)))) else (chiselref01_IsName.j0 k bt169.1 true))
theorem chiselref01_IsName.mono_l : ∀ k, (∀ y0 y1, LeO (chiselref01_IsName.j0 k y0 y1) (chiselref01_IsName.j0 (k + 1) y0 y1)) ∧ (∀ y0 y1 y2 y3, LeO (chiselref01_IsName.l0 k y0 y1 y2 y3) (chiselref01_IsName.l0 (k + 1) y0 y1 y2 y3)) ∧ (∀ y0 y1 y2 y3 y4, LeO (chiselref01_IsName.j2 k y0 y1 y2 y3 y4) (chiselref01_IsName.j2 (k + 1) y0 y1 y2 y3 y4))
 | 0 => ⟨fun _ _ r h => by simp [chiselref01_IsName.j0] at h, fun _ _ _ _ r h => by simp [chiselref01_IsName.l0] at h, fun _ _ _ _ _ r h => by simp [chiselref01_IsName.j2] at h⟩
 | k + 1 => by
  obtain ⟨ih0, ih1, ih2⟩ := chiselref01_IsName.mono_l k
  refine ⟨?_, ?_, ?_⟩
  ·intro y0 y1
   unfold chiselref01_IsName.j0
   repeat' first
   | (with_reducible exact ih0 _ _)
   | (with_reducible exact ih1 _ _ _ _)
   | (with_reducible exact ih2 _ _ _ _ _)
   | (with_reducible exact chiselref01_Points.mono _ _)
   | (with_reducible exact LeO.refl _)
   | (with_reducible exact LeO.none _)
   | (with_reducible refine LeO.ite ?_ ?_)
   | (with_reducible refine LeO.bind ?_ (fun _ => ?_))
   | exact ih0 _ _
   | exact ih1 _ _ _ _
   | exact ih2 _ _ _ _ _
   | exact chiselref01_Points.mono _ _
   | exact LeO.none _
   | refine LeO.ite ?_ ?_
   | refine LeO.bind ?_ (fun _ => ?_)
  ·intro y0 y1 y2 y3
   unfold chiselref01_IsName.l0
   repeat' first
   | (with_reducible exact ih0 _ _)
   | (with_reducible exact ih1 _ _ _ _)
   | (with_reducible exact ih2 _ _ _ _ _)
   | (with_reducible exact chiselref01_Points.mono _ _)
   | (with_reducible exact LeO.refl _)
   | (with_reducible exact LeO.none _)
   | (with_reducible refine LeO.ite ?_ ?_)
   | (with_reducible refine LeO.bind ?_ (fun _ => ?_))
   | exact ih0 _ _
   | exact ih1 _ _ _ _
   | exact ih2 _ _ _ _ _
   | exact chiselref01_Points.mono _ _
   | exact LeO.none _
   | refine LeO.ite ?_ ?_
   | refine LeO.bind ?_ (fun _ => ?_)
  ·intro y0 y1 y2 y3 y4
   unfold chiselref01_IsName.j2
   repeat' first
   | (with_reducible exact ih0 _ _)
   | (with_reducible exact ih1 _ _ _ _)
   | (with_reducible exact ih2 _ _ _ _ _)
   | (with_reducible exact chiselref01_Points.mono _ _)
   | (with_reducible exact LeO.refl _)
   | (with_reducible exact LeO.none _)
   | (with_reducible refine LeO.ite ?_ ?_)
   | (with_reducible refine LeO.bind ?_ (fun _ => ?_))
   | exact ih0 _ _
   | exact ih1 _ _ _ _
   | exact ih2 _ _ _ _ _
   | exact chiselref01_Points.mono _ _
   | exact LeO.none _
   | refine LeO.ite ?_ ?_
   | refine LeO.bind ?_ (fun _ => ?_)
theorem chiselref01_IsName.mono : ∀ a0 k, LeO (chiselref01_IsName.f k a0) (chiselref01_IsName.f (k + 1) a0) := by
 intro a0 k; obtain ⟨ih0, ih1, ih2⟩ := chiselref01_IsName.mono_l k; unfold chiselref01_IsName.f
 repeat' first
   | (with_reducible exact ih0 _ _)
   | (with_reducible exact ih1 _ _ _ _)
   | (with_reducible exact ih2 _ _ _ _ _)
   | (with_reducible exact chiselref01_Points.mono _ _)
   | (with_reducible exact LeO.refl _)
   | (with_reducible exact LeO.none _)
   | (with_reducible refine LeO.ite ?_ ?_)
   | (with_reducible refine LeO.bind ?_ (fun _ => ?_))
   | exact ih0 _ _
   | exact ih1 _ _ _ _
   | exact ih2 _ _ _ _ _
   | exact chiselref01_Points.mono _ _
   | exact LeO.none _
   | refine LeO.ite ?_ ?_
   | refine LeO.bind ?_ (fun _ => ?_)
def chiselref14_starts.f (k : Nat) (a0 : ByteArray) : Option (Bool) := (chiselref01_IsName.f k a0).bind fun t178 => (some t178)
theorem chiselref14_starts.mono : ∀ a0 k, LeO (chiselref14_starts.f k a0) (chiselref14_starts.f (k + 1) a0) := by
 intro a0 k; unfold chiselref14_starts.f
 repeat' first
   | (with_reducible exact chiselref01_IsName.mono _ _)
   | (with_reducible exact LeO.refl _)
   | (with_reducible exact LeO.none _)
   | (with_reducible refine LeO.ite ?_ ?_)
   | (with_reducible refine LeO.bind ?_ (fun _ => ?_))
   | exact chiselref01_IsName.mono _ _
   | exact LeO.none _
   | refine LeO.ite ?_ ?_
   | refine LeO.bind ?_ (fun _ => ?_)
def chiselref14_char.l0 : Nat → ByteArray → Int → Int → Option (ByteArray)
 | 0, _, _, _ => none
 | k + 1, x0, x1, x5 => if (wrap64 (x1 + x5)) < (x0.size : Int) then (if 0 ≤ (wrap64 (x1 + x5)) then (if (bt x0 (wrap64 (x1 + x5))) ≥ 128 then (if (bt x0 (wrap64 (x1 + x5))) < 192 then (chiselref14_char.l0 k x0 x1 (wrap64 (x5 + 1))) else (if 0 ≤ x1 then (if x1 ≤ (wrap64 (x1 + x5)) then (if (wrap64 (x1 + x5)) ≤ (x0.size : Int) then (some (x0.extract (x1 : Int).toNat ((wrap64 (x1 + x5)) : Int).toNat)) else (none)) else (none)) else (none))) else (if 0 ≤ x1 then (if x1 ≤ (wrap64 (x1 + x5)) then (if (wrap64 (x1 + x5)) ≤ (x0.size : Int) then (some (x0.extract (x1 : Int).toNat ((wrap64 (x1 + x5)) : Int).toNat)) else (none)) else (none)) else (none))) else (none)) else (if 0 ≤ x1 then (if x1 ≤ (wrap64 (x1 + x5)) then (if (wrap64 (x1 + x5)) ≤ (x0.size : Int) then (some (x0.extract (x1 : Int).toNat ((wrap64 (x1 + x5)) : Int).toNat)) else (none)) else (none)) else (none))
def chiselref14_char.f (k : Nat) (a0 : ByteArray) (a1 : Int) : Option (ByteArray) := if a1 ≥ (a0.size : Int) then (some (⟨#[]⟩ : ByteArray)) else (chiselref14_char.l0 k a0 a1 1)
theorem chiselref14_char.mono_l : ∀ k, (∀ y0 y1 y2, LeO (chiselref14_char.l0 k y0 y1 y2) (chiselref14_char.l0 (k + 1) y0 y1 y2))
 | 0 => fun _ _ _ r h => by simp [chiselref14_char.l0] at h
 | k + 1 => by
  have ih0 := chiselref14_char.mono_l k
  ·intro y0 y1 y2
   unfold chiselref14_char.l0
   repeat' first
   | (with_reducible exact ih0 _ _ _)
   | (with_reducible exact LeO.refl _)
   | (with_reducible exact LeO.none _)
   | (with_reducible refine LeO.ite ?_ ?_)
   | (with_reducible refine LeO.bind ?_ (fun _ => ?_))
   | exact ih0 _ _ _
   | exact LeO.none _
   | refine LeO.ite ?_ ?_
   | refine LeO.bind ?_ (fun _ => ?_)
theorem chiselref14_char.mono : ∀ a0 a1 k, LeO (chiselref14_char.f k a0 a1) (chiselref14_char.f (k + 1) a0 a1) := by
 intro a0 a1 k; have ih0 := chiselref14_char.mono_l k; unfold chiselref14_char.f
 repeat' first
   | (with_reducible exact ih0 _ _ _)
   | (with_reducible exact LeO.refl _)
   | (with_reducible exact LeO.none _)
   | (with_reducible refine LeO.ite ?_ ?_)
   | (with_reducible refine LeO.bind ?_ (fun _ => ?_))
   | exact ih0 _ _ _
   | exact LeO.none _
   | refine LeO.ite ?_ ?_
   | refine LeO.bind ?_ (fun _ => ?_)
def chiselref14_continues.f (k : Nat) (a0 : ByteArray) : Option (Bool) := if a0.toList = ([] : List UInt8) then (some false) else (if 1 + a0.size ≤ 9223372036854775807 then ((chiselref01_IsName.f k ((⟨#[97]⟩ : ByteArray) ++ a0)).bind fun t179 => (some t179)) else (none))
theorem chiselref14_continues.mono : ∀ a0 k, LeO (chiselref14_continues.f k a0) (chiselref14_continues.f (k + 1) a0) := by
 intro a0 k; unfold chiselref14_continues.f
 repeat' first
   | (with_reducible exact chiselref01_IsName.mono _ _)
   | (with_reducible exact LeO.refl _)
   | (with_reducible exact LeO.none _)
   | (with_reducible refine LeO.ite ?_ ?_)
   | (with_reducible refine LeO.bind ?_ (fun _ => ?_))
   | exact chiselref01_IsName.mono _ _
   | exact LeO.none _
   | refine LeO.ite ?_ ?_
   | refine LeO.bind ?_ (fun _ => ?_)
end Go.Proofs.YtmpenkinheneoaaDoor.Q
