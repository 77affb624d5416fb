/- Texts of the claim: Qx25, Qx26. -/
import Derived.Test.YtmpenkinheneoaaDoorKQx0
import Derived.Test.YtmpenkinheneoaaDoorKQx21
import Derived.Test.YtmpenkinheneoaaDoorKQx22
namespace Go.Proofs.YtmpenkinheneoaaDoor.Q
open Go.RowKit Go.Proofs.YtmpenkinheneoaaDoorW.PrintWords Go.Proofs.YtmpenkinheneoaaDoorW.PrintLast Go.Proofs.YtmpenkinheneoaaDoorW.PrintMore
attribute [local go_sem] max2_int min2_int max_two min_two max_three min_three max_four min_four   -- for this text's walks alone
set_option linter.unusedVariables false
set_option linter.unusedSimpArgs false
def chiselref14_name.l0 : Nat → ByteArray → Bool → Int → Int → Option (Int × Int)
 | 0, _, _, _, _ => none
 | k + 1, x0, x6, x7, x8 => (chiselref14_char.f k x0 x7).bind fun t182 => ((chiselref14_continues.f k t182).bind fun t183 => (if t183 = true then (chiselref14_name.l0 k x0 x6 (wrap64 (x7 + (t182.size : Int))) (wrap64 (x8 + 1))) else (if t182.toList = ([58] : List UInt8) then (if x6 = true then (some (x7, x8)) else ((chiselref14_char.f k x0 (wrap64 (x7 + 1))).bind fun t184 => ((chiselref14_starts.f k t184).bind fun t185 => (if t185 = true then (chiselref14_name.l0 k x0 true (wrap64 (x7 + 1)) (wrap64 (x8 + 1))) else (some (x7, x8)))))) else (some (x7, x8)))))
def chiselref14_name.f (k : Nat) (a0 : ByteArray) (a1 : Int) : Option (Int × Int) := (chiselref14_char.f k a0 a1).bind fun t180 => ((chiselref14_starts.f k t180).bind fun t181 => (if t181 = true then (chiselref14_name.l0 k a0 false a1 0) else (some (a1, 0))))
theorem chiselref14_name.mono_l : ∀ k, (∀ y0 y1 y2 y3, LeO (chiselref14_name.l0 k y0 y1 y2 y3) (chiselref14_name.l0 (k + 1) y0 y1 y2 y3))
 | 0 => fun _ _ _ _ r h => by simp [chiselref14_name.l0] at h
 | k + 1 => by
  have ih0 := chiselref14_name.mono_l k
  ·intro y0 y1 y2 y3
   unfold chiselref14_name.l0
   repeat' first
   | (with_reducible exact ih0 _ _ _ _)
   | (with_reducible exact chiselref14_char.mono _ _ _)
   | (with_reducible exact chiselref14_continues.mono _ _)
   | (with_reducible exact chiselref14_starts.mono _ _)
   | (with_reducible exact LeO.refl _)
   | (with_reducible exact LeO.none _)
   | (with_reducible refine LeO.ite ?_ ?_)
   | (with_reducible refine LeO.bind ?_ (fun _ => ?_))
   | exact ih0 _ _ _ _
   | exact chiselref14_char.mono _ _ _
   | exact chiselref14_continues.mono _ _
   | exact chiselref14_starts.mono _ _
   | exact LeO.none _
   | refine LeO.ite ?_ ?_
   | refine LeO.bind ?_ (fun _ => ?_)
theorem chiselref14_name.mono : ∀ a0 a1 k, LeO (chiselref14_name.f k a0 a1) (chiselref14_name.f (k + 1) a0 a1) := by
 intro a0 a1 k; have ih0 := chiselref14_name.mono_l k; unfold chiselref14_name.f
 repeat' first
   | (with_reducible exact ih0 _ _ _ _)
   | (with_reducible exact chiselref14_char.mono _ _ _)
   | (with_reducible exact chiselref14_continues.mono _ _)
   | (with_reducible exact chiselref14_starts.mono _ _)
   | (with_reducible exact LeO.refl _)
   | (with_reducible exact LeO.none _)
   | (with_reducible refine LeO.ite ?_ ?_)
   | (with_reducible refine LeO.bind ?_ (fun _ => ?_))
   | exact ih0 _ _ _ _
   | exact chiselref14_char.mono _ _ _
   | exact chiselref14_continues.mono _ _
   | exact chiselref14_starts.mono _ _
   | exact LeO.none _
   | refine LeO.ite ?_ ?_
   | refine LeO.bind ?_ (fun _ => ?_)
def chiselref14_sign.l0 : Nat → ByteArray → Int → List ByteArray → Int → Option (ByteArray)
 | 0, _, _, _, _ => none
 | k + 1, x0, x1, x5, x6 => if x6 < (x5.length : Int) then (if 0 ≤ x6 then ((chiselref14_begins.f x0 x1 (rdOf ByteArray.empty x5 x6)).bind fun t190 => (if t190 = true then (some (rdOf ByteArray.empty x5 x6)) else (chiselref14_sign.l0 k x0 x1 x5 (wrap64 (x6 + 1))))) else (none)) else (some (⟨#[]⟩ : ByteArray))
def chiselref14_sign.f (k : Nat) (a0 : ByteArray) (a1 : Int) : Option (ByteArray) := chiselref14_sign.l0 k a0 a1 (([(⟨#[46, 46]⟩ : ByteArray), (⟨#[47, 47]⟩ : ByteArray), (⟨#[124, 124]⟩ : ByteArray), (⟨#[33, 61]⟩ : ByteArray), (⟨#[60, 61]⟩ : ByteArray), (⟨#[60, 60]⟩ : ByteArray), (⟨#[62, 61]⟩ : ByteArray), (⟨#[62, 62]⟩ : ByteArray), (⟨#[58, 61]⟩ : ByteArray), (⟨#[58, 58]⟩ : ByteArray), (⟨#[61, 62]⟩ : ByteArray), (⟨#[40]⟩ : ByteArray), (⟨#[41]⟩ : ByteArray), (⟨#[91]⟩ : ByteArray), (⟨#[93]⟩ : ByteArray), (⟨#[123]⟩ : ByteArray), (⟨#[125]⟩ : ByteArray), (⟨#[44]⟩ : ByteArray), (⟨#[46]⟩ : ByteArray), (⟨#[64]⟩ : ByteArray), (⟨#[47]⟩ : ByteArray), (⟨#[124]⟩ : ByteArray), (⟨#[43]⟩ : ByteArray), (⟨#[45]⟩ : ByteArray), (⟨#[42]⟩ : ByteArray), (⟨#[61]⟩ : ByteArray), (⟨#[60]⟩ : ByteArray), (⟨#[62]⟩ : ByteArray), (⟨#[58]⟩ : ByteArray), (⟨#[33]⟩ : ByteArray), (⟨#[63]⟩ : ByteArray), (⟨#[35]⟩ : ByteArray), (⟨#[36]⟩ : ByteArray)] : List ByteArray)) 0
theorem chiselref14_sign.mono_l : ∀ k, (∀ y0 y1 y2 y3, LeO (chiselref14_sign.l0 k y0 y1 y2 y3) (chiselref14_sign.l0 (k + 1) y0 y1 y2 y3))
 | 0 => fun _ _ _ _ r h => by simp [chiselref14_sign.l0] at h
 | k + 1 => by
  have ih0 := chiselref14_sign.mono_l k
  ·intro y0 y1 y2 y3
   unfold chiselref14_sign.l0
   repeat' first
   | (with_reducible exact ih0 _ _ _ _)
   | (with_reducible exact LeO.refl _)
   | (with_reducible exact LeO.none _)
   | (with_reducible refine LeO.ite ?_ ?_)
   | (with_reducible refine LeO.bind ?_ (fun _ => ?_))
   | exact ih0 _ _ _ _
   | exact LeO.none _
   | refine LeO.ite ?_ ?_
   | refine LeO.bind ?_ (fun _ => ?_)
theorem chiselref14_sign.mono : ∀ a0 a1 k, LeO (chiselref14_sign.f k a0 a1) (chiselref14_sign.f (k + 1) a0 a1) := by
 intro a0 a1 k; have ih0 := chiselref14_sign.mono_l k; unfold chiselref14_sign.f
 repeat' first
   | (with_reducible exact ih0 _ _ _ _)
   | (with_reducible exact LeO.refl _)
   | (with_reducible exact LeO.none _)
   | (with_reducible refine LeO.ite ?_ ?_)
   | (with_reducible refine LeO.bind ?_ (fun _ => ?_))
   | exact ih0 _ _ _ _
   | exact LeO.none _
   | refine LeO.ite ?_ ?_
   | refine LeO.bind ?_ (fun _ => ?_)
def chiselref14_token.j0 : Nat → ByteArray → Int → Bool → Option (Int × ByteArray × Int × Int × Int)
 | 0, _, _, _ => none
 | k + 1, x0, x1, x21 => if x21 = true then ((chiselref14_quoted.f k x0 x1).bind fun bt193 => (if bt193.2 < 0 then (some (0, (⟨#[]⟩ : ByteArray), 0, x1, 5)) else (some (2, bt193.1, x1, bt193.2, 0)))) else ((chiselref14_number.f k x0 x1).bind fun t195 => (if t195 > x1 then (if 0 ≤ x1 then (if x1 ≤ t195 then (if t195 ≤ (x0.size : Int) then (some (1, x0.extract (x1 : Int).toNat (t195 : Int).toNat, x1, t195, 0)) else (none)) else (none)) else (none)) else ((chiselref14_name.f k x0 x1).bind fun bt196 => (if bt196.2 > 100 then (some (0, (⟨#[]⟩ : ByteArray), 0, x1, 2)) else (if bt196.2 > 0 then (if 0 ≤ x1 then (if x1 ≤ bt196.1 then (if bt196.1 ≤ (x0.size : Int) then (some (0, x0.extract (x1 : Int).toNat (bt196.1 : Int).toNat, x1, bt196.1, 0)) else (none)) else (none)) else (none)) else ((chiselref14_sign.f k x0 x1).bind fun t198 => (if t198.toList = ([] : List UInt8) then (some (0, (⟨#[]⟩ : ByteArray), 0, x1, 5)) else (some (3, t198, x1, wrap64 (x1 + (t198.size : Int)), 0)))))))))
def chiselref14_token.f (k : Nat) (a0 : ByteArray) (a1 : Int) : Option (Int × ByteArray × Int × Int × Int) := if 0 ≤ a1 then (if a1 < (a0.size : Int) then (if (bt a0 a1) = 34 then (chiselref14_token.j0 k a0 a1 true) else (chiselref14_token.j0 k a0 a1 ((bt a0 a1) == 39))) else (none)) else (none)
theorem chiselref14_token.mono_l : ∀ k, (∀ y0 y1 y2, LeO (chiselref14_token.j0 k y0 y1 y2) (chiselref14_token.j0 (k + 1) y0 y1 y2))
 | 0 => fun _ _ _ r h => by simp [chiselref14_token.j0] at h
 | k + 1 => by
  have ih0 := chiselref14_token.mono_l k
  ·intro y0 y1 y2
   unfold chiselref14_token.j0
   repeat' first
   | (with_reducible exact ih0 _ _ _)
   | (with_reducible exact chiselref14_name.mono _ _ _)
   | (with_reducible exact chiselref14_number.mono _ _ _)
   | (with_reducible exact chiselref14_quoted.mono _ _ _)
   | (with_reducible exact chiselref14_sign.mono _ _ _)
   | (with_reducible exact LeO.refl _)
   | (with_reducible exact LeO.none _)
   | (with_reducible refine LeO.ite ?_ ?_)
   | (with_reducible refine LeO.bind ?_ (fun _ => ?_))
   | exact ih0 _ _ _
   | exact chiselref14_name.mono _ _ _
   | exact chiselref14_number.mono _ _ _
   | exact chiselref14_quoted.mono _ _ _
   | exact chiselref14_sign.mono _ _ _
   | exact LeO.none _
   | refine LeO.ite ?_ ?_
   | refine LeO.bind ?_ (fun _ => ?_)
theorem chiselref14_token.mono : ∀ a0 a1 k, LeO (chiselref14_token.f k a0 a1) (chiselref14_token.f (k + 1) a0 a1) := by
 intro a0 a1 k; have ih0 := chiselref14_token.mono_l k; unfold chiselref14_token.f
 repeat' first
   | (with_reducible exact ih0 _ _ _)
   | (with_reducible exact chiselref14_name.mono _ _ _)
   | (with_reducible exact chiselref14_number.mono _ _ _)
   | (with_reducible exact chiselref14_quoted.mono _ _ _)
   | (with_reducible exact chiselref14_sign.mono _ _ _)
   | (with_reducible exact LeO.refl _)
   | (with_reducible exact LeO.none _)
   | (with_reducible refine LeO.ite ?_ ?_)
   | (with_reducible refine LeO.bind ?_ (fun _ => ?_))
   | exact ih0 _ _ _
   | exact chiselref14_name.mono _ _ _
   | exact chiselref14_number.mono _ _ _
   | exact chiselref14_quoted.mono _ _ _
   | exact chiselref14_sign.mono _ _ _
   | exact LeO.none _
   | refine LeO.ite ?_ ?_
   | refine LeO.bind ?_ (fun _ => ?_)
end Go.Proofs.YtmpenkinheneoaaDoor.Q
namespace Go.Proofs.YtmpenkinheneoaaDoor.Q
open Go.RowKit Go.Proofs.YtmpenkinheneoaaDoorW.PrintWords Go.Proofs.YtmpenkinheneoaaDoorW.PrintLast Go.Proofs.YtmpenkinheneoaaDoorW.PrintMore
attribute [local go_sem] max2_int min2_int max_two min_two max_three min_three max_four min_four   -- for this text's walks alone
set_option linter.unusedVariables false
set_option linter.unusedSimpArgs false
mutual
def chiselref14_Tokens.l0 : Nat → ByteArray → List (S41) → Int → Option ((List (S41)) × Int × Int)
 | 0, _, _, _ => none
 | k + 1, x0, x5, x6 => if x6 < (x0.size : Int) then (if 0 ≤ x6 then (if (bt x0 x6) = 9 then (chiselref14_Tokens.j1 k x0 x5 x6 true) else (if (bt x0 x6) = 10 then (chiselref14_Tokens.j1 k x0 x5 x6 true) else (if (bt x0 x6) = 13 then (chiselref14_Tokens.j1 k x0 x5 x6 true) else (chiselref14_Tokens.j1 k x0 x5 x6 ((bt x0 x6) == 32))))) else (none)) else (some (x5, 0, 0))
def chiselref14_Tokens.j1 : Nat → ByteArray → List (S41) → Int → Bool → Option ((List (S41)) × Int × Int)
 | 0, _, _, _, _ => none
 | k + 1, x0, x5, x6, x42 => if x42 = true then (chiselref14_Tokens.l0 k x0 x5 (wrap64 (x6 + 1))) else ((chiselref14_begins.f x0 x6 (⟨#[40, 58]⟩ : ByteArray)).bind fun t200 => (if t200 = true then ((chiselref14_comment.f k x0 x6).bind fun t201 => (if t201 < 0 then (some (([] : List (S41)), x6, 5)) else (chiselref14_Tokens.l0 k x0 x5 t201))) else ((chiselref14_token.f k x0 x6).bind fun bt202 => (if bt202.2.2.2.2 = 0 then (if bt202.1 = 1 then ((chiselref14_char.f k x0 bt202.2.2.2.1).bind fun t208 => ((chiselref14_starts.f k t208).bind fun t209 => (if t209 = true then (some (([] : List (S41)), bt202.2.2.2.1, 5)) else (if x5.length < 4398046511104 then (chiselref14_Tokens.l0 k x0 (x5 ++ [(⟨bt202.1, bt202.2.1, bt202.2.2.1⟩ : S41)]) bt202.2.2.2.1) else (none))))) else (if x5.length < 4398046511104 then (chiselref14_Tokens.l0 k x0 (x5 ++ [(⟨bt202.1, bt202.2.1, bt202.2.2.1⟩ : S41)]) bt202.2.2.2.1) else (none))) else (some (([] : List (S41)), x6, bt202.2.2.2.2))))))
end
def chiselref14_Tokens.f (k : Nat) (a0 : ByteArray) : Option ((List (S41)) × Int × Int) := (chiselref01_IsText.f k a0).bind fun t199 => (if t199 = true then (if (a0.size : Int) > 1048576 then (some (([] : List (S41)), 0, 2)) else (chiselref14_Tokens.l0 k a0 ([] : List (S41)) 0)) else (some (([] : List (S41)), 0, 10)))
theorem chiselref14_Tokens.mono_l : ∀ k, (∀ y0 y1 y2, LeO (chiselref14_Tokens.l0 k y0 y1 y2) (chiselref14_Tokens.l0 (k + 1) y0 y1 y2)) ∧ (∀ y0 y1 y2 y3, LeO (chiselref14_Tokens.j1 k y0 y1 y2 y3) (chiselref14_Tokens.j1 (k + 1) y0 y1 y2 y3))
 | 0 => ⟨fun _ _ _ r h => by simp [chiselref14_Tokens.l0] at h, fun _ _ _ _ r h => by simp [chiselref14_Tokens.j1] at h⟩
 | k + 1 => by
  obtain ⟨ih0, ih1⟩ := chiselref14_Tokens.mono_l k
  refine ⟨?_, ?_⟩
  ·intro y0 y1 y2
   unfold chiselref14_Tokens.l0
   repeat' first
   | (with_reducible exact ih0 _ _ _)
   | (with_reducible exact ih1 _ _ _ _)
   | (with_reducible exact chiselref01_IsText.mono _ _)
   | (with_reducible exact chiselref14_char.mono _ _ _)
   | (with_reducible exact chiselref14_comment.mono _ _ _)
   | (with_reducible exact chiselref14_starts.mono _ _)
   | (with_reducible exact chiselref14_token.mono _ _ _)
   | (with_reducible exact LeO.refl _)
   | (with_reducible exact LeO.none _)
   | (with_reducible refine LeO.ite ?_ ?_)
   | (with_reducible refine LeO.bind ?_ (fun _ => ?_))
   | exact ih0 _ _ _
   | exact ih1 _ _ _ _
   | exact chiselref01_IsText.mono _ _
   | exact chiselref14_char.mono _ _ _
   | exact chiselref14_comment.mono _ _ _
   | exact chiselref14_starts.mono _ _
   | exact chiselref14_token.mono _ _ _
   | exact LeO.none _
   | refine LeO.ite ?_ ?_
   | refine LeO.bind ?_ (fun _ => ?_)
  ·intro y0 y1 y2 y3
   unfold chiselref14_Tokens.j1
   repeat' first
   | (with_reducible exact ih0 _ _ _)
   | (with_reducible exact ih1 _ _ _ _)
   | (with_reducible exact chiselref01_IsText.mono _ _)
   | (with_reducible exact chiselref14_char.mono _ _ _)
   | (with_reducible exact chiselref14_comment.mono _ _ _)
   | (with_reducible exact chiselref14_starts.mono _ _)
   | (with_reducible exact chiselref14_token.mono _ _ _)
   | (with_reducible exact LeO.refl _)
   | (with_reducible exact LeO.none _)
   | (with_reducible refine LeO.ite ?_ ?_)
   | (with_reducible refine LeO.bind ?_ (fun _ => ?_))
   | exact ih0 _ _ _
   | exact ih1 _ _ _ _
   | exact chiselref01_IsText.mono _ _
   | exact chiselref14_char.mono _ _ _
   | exact chiselref14_comment.mono _ _ _
   | exact chiselref14_starts.mono _ _
   | exact chiselref14_token.mono _ _ _
   | exact LeO.none _
   | refine LeO.ite ?_ ?_
   | refine LeO.bind ?_ (fun _ => ?_)
theorem chiselref14_Tokens.mono : ∀ a0 k, LeO (chiselref14_Tokens.f k a0) (chiselref14_Tokens.f (k + 1) a0) := by
 intro a0 k; obtain ⟨ih0, ih1⟩ := chiselref14_Tokens.mono_l k; unfold chiselref14_Tokens.f
 repeat' first
   | (with_reducible exact ih0 _ _ _)
   | (with_reducible exact ih1 _ _ _ _)
   | (with_reducible exact chiselref01_IsText.mono _ _)
   | (with_reducible exact chiselref14_char.mono _ _ _)
   | (with_reducible exact chiselref14_comment.mono _ _ _)
   | (with_reducible exact chiselref14_starts.mono _ _)
   | (with_reducible exact chiselref14_token.mono _ _ _)
   | (with_reducible exact LeO.refl _)
   | (with_reducible exact LeO.none _)
   | (with_reducible refine LeO.ite ?_ ?_)
   | (with_reducible refine LeO.bind ?_ (fun _ => ?_))
   | exact ih0 _ _ _
   | exact ih1 _ _ _ _
   | exact chiselref01_IsText.mono _ _
   | exact chiselref14_char.mono _ _ _
   | exact chiselref14_comment.mono _ _ _
   | exact chiselref14_starts.mono _ _
   | exact chiselref14_token.mono _ _ _
   | exact LeO.none _
   | refine LeO.ite ?_ ?_
   | refine LeO.bind ?_ (fun _ => ?_)
end Go.Proofs.YtmpenkinheneoaaDoor.Q
