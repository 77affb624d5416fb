/- The examples that every statement of chapter 1 ends with. -/
import Derived.KernelRfl
import Derived.Lib.Strings
import Derived.Test.YtjhnmclancbilaaQx14
namespace Go.Proofs.Ytjhnmclancbilaa.Plain
set_option linter.unusedVariables false
open Go Go.Lib Go.RowKit Go.Proofs.Ytjhnmclancbilaa.HPure Go.Proofs.Ytjhnmclancbilaa.Q Go.Proofs.YtjhnmclancbilaaW.PrintWords Go.Proofs.YtjhnmclancbilaaW.PrintLast Go.Proofs.YtjhnmclancbilaaW.PrintMore

theorem works_a : chars_Points.f ⟨#[97, 195, 169]⟩ = some ([97, 233], 0) := by kernel_rfl
theorem works_b : chars_From.f [97, 233] = some (⟨#[97, 195, 169]⟩, 0) := by kernel_rfl
theorem works_c : chars_IsText.f ⟨#[97, 195, 169]⟩ = some true := by kernel_rfl
theorem works_d : chars_IsText.f ⟨#[255]⟩ = some false := by kernel_rfl
theorem works_e (m : Nat) : chars_IsName.f (m + 1) ⟨#[120, 58, 121]⟩ = some true := by kernel_rfl
theorem works_f (m : Nat) : chars_IsName.f (m + 1) ⟨#[97, 58]⟩ = some false := by kernel_rfl
theorem works_g : chars_Norm.f ⟨#[32, 32, 97, 10, 9, 98, 32]⟩ = some ⟨#[97, 32, 98]⟩ := by kernel_rfl
theorem works_h : chars_Len.f ⟨#[97, 195, 169]⟩ = some 2 := by kernel_rfl
theorem works_i : chars_Cut.f ⟨#[97, 195, 169, 98]⟩ 1 2 = some ⟨#[195, 169]⟩ := by kernel_rfl
theorem works_ok (k : Nat) (hk : 1 ≤ k) : chisellaw01_works.f k = some true := by
  obtain ⟨m, rfl⟩ : ∃ m, k = m + 1 := ⟨k - 1, by omega⟩
  unfold chisellaw01_works.f
  simp only [works_a, works_b, works_c, works_d, works_e, works_f, works_g, works_h, works_i, Option.bind_some, toList_data]
  decide +kernel
end Go.Proofs.Ytjhnmclancbilaa.Plain
