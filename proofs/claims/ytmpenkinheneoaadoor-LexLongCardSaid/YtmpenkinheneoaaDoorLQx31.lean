/- Texts of the claim: Qx31. -/
import Derived.Test.YtmpenkinheneoaaDoorLQx0
namespace Go.Proofs.YtmpenkinheneoaaDoor.Q
open Go.RowKit Go.Proofs.YtmpenkinheneoaaDoorW.PrintWords Go.Proofs.YtmpenkinheneoaaDoorW.PrintLast Go.Proofs.YtmpenkinheneoaaDoorW.PrintMore
attribute [local go_sem] max2_int min2_int max_two min_two max_three min_three max_four min_four   -- for this text's walks alone
set_option linter.unusedVariables false
set_option linter.unusedSimpArgs false
def chiselref14_Quote.l0 : Nat → ByteArray → ByteArray → Int → Option (ByteArray)
 | 0, _, _, _ => none
 | k + 1, x0, x3, x4 => if x4 < (x0.size : Int) then (if 0 ≤ x4 then (if (bt x0 x4) = 34 then (if x3.size + 1 ≤ 9223372036854775807 then (if x4 ≤ (wrap64 (x4 + 1)) then (if (wrap64 (x4 + 1)) ≤ (x0.size : Int) then (if (x3 ++ (⟨#[34]⟩ : ByteArray)).size + (x0.extract (x4 : Int).toNat ((wrap64 (x4 + 1)) : Int).toNat).size ≤ 9223372036854775807 then (chiselref14_Quote.l0 k x0 ((x3 ++ (⟨#[34]⟩ : ByteArray)) ++ (x0.extract (x4 : Int).toNat ((wrap64 (x4 + 1)) : Int).toNat)) (wrap64 (x4 + 1))) else (none)) else (none)) else (none)) else (none)) else (if x4 ≤ (wrap64 (x4 + 1)) then (if (wrap64 (x4 + 1)) ≤ (x0.size : Int) then (if x3.size + (x0.extract (x4 : Int).toNat ((wrap64 (x4 + 1)) : Int).toNat).size ≤ 9223372036854775807 then (chiselref14_Quote.l0 k x0 (x3 ++ (x0.extract (x4 : Int).toNat ((wrap64 (x4 + 1)) : Int).toNat)) (wrap64 (x4 + 1))) else (none)) else (none)) else (none))) else (none)) else (if x3.size + 1 ≤ 9223372036854775807 then (some (x3 ++ (⟨#[34]⟩ : ByteArray))) else (none))
def chiselref14_Quote.f (k : Nat) (a0 : ByteArray) : Option (ByteArray) := chiselref14_Quote.l0 k a0 (⟨#[34]⟩ : ByteArray) 0
theorem chiselref14_Quote.mono_l : ∀ k, (∀ y0 y1 y2, LeO (chiselref14_Quote.l0 k y0 y1 y2) (chiselref14_Quote.l0 (k + 1) y0 y1 y2))
 | 0 => fun _ _ _ r h => by simp [chiselref14_Quote.l0] at h
 | k + 1 => by
  have ih0 := chiselref14_Quote.mono_l k
  ·intro y0 y1 y2
   unfold chiselref14_Quote.l0
   repeat' first
   | (with_reducible exact ih0 _ _ _)
   | (with_reducible exact LeO.refl _)
   | (with_reducible exact LeO.none _)
   | (with_reducible refine LeO.ite ?_ ?_)
   | (with_reducible refine LeO.bind ?_ (fun _ => ?_))
   | exact ih0 _ _ _
   | exact LeO.none _
   | refine LeO.ite ?_ ?_
   | refine LeO.bind ?_ (fun _ => ?_)
theorem chiselref14_Quote.mono : ∀ a0 k, LeO (chiselref14_Quote.f k a0) (chiselref14_Quote.f (k + 1) a0) := by
 intro a0 k; have ih0 := chiselref14_Quote.mono_l k; unfold chiselref14_Quote.f
 repeat' first
   | (with_reducible exact ih0 _ _ _)
   | (with_reducible exact LeO.refl _)
   | (with_reducible exact LeO.none _)
   | (with_reducible refine LeO.ite ?_ ?_)
   | (with_reducible refine LeO.bind ?_ (fun _ => ?_))
   | exact ih0 _ _ _
   | exact LeO.none _
   | refine LeO.ite ?_ ?_
   | refine LeO.bind ?_ (fun _ => ?_)
def chisellaw14_written.l0 : Nat → List (S34) → ByteArray → ByteArray → Int → Option (ByteArray)
 | 0, _, _, _, _ => none
 | k + 1, x0, x1, x5, x6 => if x6 < (x0.length : Int) then (if x6 > 0 then (if x5.size + x1.size ≤ 9223372036854775807 then (if 0 ≤ x6 then (if ((rd_T34 x0 x6).f0) = 2 then ((chiselref14_Quote.f k ((rd_T34 x0 x6).f1)).bind fun t259 => (if (x5 ++ x1).size + t259.size ≤ 9223372036854775807 then (chisellaw14_written.l0 k x0 x1 ((x5 ++ x1) ++ t259) (wrap64 (x6 + 1))) else (none))) else (if (x5 ++ x1).size + ((rd_T34 x0 x6).f1).size ≤ 9223372036854775807 then (chisellaw14_written.l0 k x0 x1 ((x5 ++ x1) ++ ((rd_T34 x0 x6).f1)) (wrap64 (x6 + 1))) else (none))) else (none)) else (none)) else (if 0 ≤ x6 then (if ((rd_T34 x0 x6).f0) = 2 then ((chiselref14_Quote.f k ((rd_T34 x0 x6).f1)).bind fun t263 => (if x5.size + t263.size ≤ 9223372036854775807 then (chisellaw14_written.l0 k x0 x1 (x5 ++ t263) (wrap64 (x6 + 1))) else (none))) else (if x5.size + ((rd_T34 x0 x6).f1).size ≤ 9223372036854775807 then (chisellaw14_written.l0 k x0 x1 (x5 ++ ((rd_T34 x0 x6).f1)) (wrap64 (x6 + 1))) else (none))) else (none))) else (some x5)
def chisellaw14_written.f (k : Nat) (l0 : List (S34)) (a1 : ByteArray) : Option (ByteArray) := chisellaw14_written.l0 k l0 a1 (⟨#[]⟩ : ByteArray) 0
theorem chisellaw14_written.mono_l : ∀ k, (∀ y0 y1 y2 y3, LeO (chisellaw14_written.l0 k y0 y1 y2 y3) (chisellaw14_written.l0 (k + 1) y0 y1 y2 y3))
 | 0 => fun _ _ _ _ r h => by simp [chisellaw14_written.l0] at h
 | k + 1 => by
  have ih0 := chisellaw14_written.mono_l k
  ·intro y0 y1 y2 y3
   unfold chisellaw14_written.l0
   repeat' first
   | (with_reducible exact ih0 _ _ _ _)
   | (with_reducible exact chiselref14_Quote.mono _ _)
   | (with_reducible exact LeO.refl _)
   | (with_reducible exact LeO.none _)
   | (with_reducible refine LeO.ite ?_ ?_)
   | (with_reducible refine LeO.bind ?_ (fun _ => ?_))
   | exact ih0 _ _ _ _
   | exact chiselref14_Quote.mono _ _
   | exact LeO.none _
   | refine LeO.ite ?_ ?_
   | refine LeO.bind ?_ (fun _ => ?_)
theorem chisellaw14_written.mono : ∀ a0 a1 k, LeO (chisellaw14_written.f k a0 a1) (chisellaw14_written.f (k + 1) a0 a1) := by
 intro a0 a1 k; have ih0 := chisellaw14_written.mono_l k; unfold chisellaw14_written.f
 repeat' first
   | (with_reducible exact ih0 _ _ _ _)
   | (with_reducible exact chiselref14_Quote.mono _ _)
   | (with_reducible exact LeO.refl _)
   | (with_reducible exact LeO.none _)
   | (with_reducible refine LeO.ite ?_ ?_)
   | (with_reducible refine LeO.bind ?_ (fun _ => ?_))
   | exact ih0 _ _ _ _
   | exact chiselref14_Quote.mono _ _
   | exact LeO.none _
   | refine LeO.ite ?_ ?_
   | refine LeO.bind ?_ (fun _ => ?_)
end Go.Proofs.YtmpenkinheneoaaDoor.Q
