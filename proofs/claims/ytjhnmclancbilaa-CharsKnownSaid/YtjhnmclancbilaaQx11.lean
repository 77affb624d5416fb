/- Walks of functions, each against a plain Lean function: written by this session's program wip/hand.py, which runs the kit's print with this session's own contracts put in. -/
import Derived.Test.YtjhnmclancbilaaQx0
namespace Go.Proofs.Ytjhnmclancbilaa.Q
open Go.RowKit Go.Proofs.YtjhnmclancbilaaW.PrintWords Go.Proofs.YtjhnmclancbilaaW.PrintLast Go.Proofs.YtjhnmclancbilaaW.PrintMore
attribute [local go_sem] max2_int min2_int max_two min_two max_three min_three max_four min_four   -- for this text's walks alone
set_option linter.unusedVariables false
set_option linter.unusedSimpArgs false

-- HAND: function 65, by this session's own text
theorem one_byte (a : ByteArray) (h : a.size = 1) : a = ⟨#[a.get! 0]⟩ := by
  obtain ⟨⟨l⟩⟩ := a
  match l, h with
  | [x], _ => rfl
def stringslite_Index.f (a0 : ByteArray) (a1 : ByteArray) : Option (Int) := if a1.size = 1 then some (Lib.indexByte a0.data.toList (a1.get! 0)) else none
theorem stringslite_Index.calls (a0 : ByteArray) (a1 : ByteArray) (r : Int) (w : World) (h : stringslite_Index.f a0 a1 = some r) :
    Calls Try.prog 65 #[.string a0, .string a1] w fun e w' => e = .returned (.int .i64 r) ∧ Below w.heap.size w w' := by
  unfold stringslite_Index.f at h
  split at h
  · rename_i hs
    obtain rfl := Option.some.inj h
    have hc := Try.stringslite_Index_one a0 (a1.get! 0) w
    rw [← one_byte a1 hs] at hc
    refine hc.mono ?_
    rintro e w' ⟨he, rfl⟩
    exact ⟨he, Below.refl _ _⟩
  · cases h


end Go.Proofs.Ytjhnmclancbilaa.Q
