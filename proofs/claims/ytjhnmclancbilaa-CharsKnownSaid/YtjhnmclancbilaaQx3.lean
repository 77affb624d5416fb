/- Walks of functions, each against a plain Lean function: written by this session's program wip/hand.py, which runs the kit's print with this session's own contracts put in. -/
import Derived.Test.YtjhnmclancbilaaQx0
import Derived.Test.YtjhnmclancbilaaQx2
namespace Go.Proofs.Ytjhnmclancbilaa.Q
open Go.RowKit Go.Proofs.YtjhnmclancbilaaW.PrintWords Go.Proofs.YtjhnmclancbilaaW.PrintLast Go.Proofs.YtjhnmclancbilaaW.PrintMore
attribute [local go_sem] max2_int min2_int max_two min_two max_three min_three max_four min_four   -- for this text's walks alone
set_option linter.unusedVariables false
set_option linter.unusedSimpArgs false

-- HAND: function 14, by this session's own text
theorem own_cells_str {w : World} {B e A n : Nat} {xs : List ByteArray} (h : w.ownsRow B e 1 (.slice (some ⟨A, 0, none⟩) n n) n (xs.map Value.string)) : ∀ (j : Nat) x, xs[j]? = some x → w.cell? ⟨A, 0 + j, none⟩ = some (.string x) := by
  intro j x hj
  have hc := h.cells (g := A) rfl j (.string x) (by simp [hj])
  have ha : (⟨A, 0, none⟩ : Addr).add j = ⟨A, 0 + j, none⟩ := by unfold Addr.add; split <;> simp_all
  rwa [ha] at hc
def chars_Norm.f (a0 : ByteArray) : Option (ByteArray) := if a0.size ≤ 4294967296 ∧ (HPure.norm a0).size ≤ 140737488355328 ∧ (Lib.goFieldsP HPure.sp a0).length ≤ 140737488355328 then some (HPure.norm a0) else none
set_option maxHeartbeats 400000 in
theorem chars_Norm.calls (a0 : ByteArray) (r : ByteArray) (w : World) (h : chars_Norm.f a0 = some r) :
    Calls Try.prog 14 #[.string a0] w fun e w' => e = .returned (.string r) ∧ Below w.heap.size w w' := by
  unfold chars_Norm.f at h
  split at h
  · rename_i hs
    obtain ⟨h0, h1, h2⟩ := hs
    obtain rfl := Option.some.inj h
    clear h
    have hC := Try.strings_FieldsFunc_runes 38 #[] (enters_of Try.func38 (by kernel_rfl) rfl) _ a0 w h0 (space_pays w)
    unfold HPure.norm at h1 ⊢
    generalize Lib.goFieldsP HPure.sp a0 = xs at hC h1 h2
    go_enter Try.func14, Try.ntmps14
    go_wp2_with (go_at_call 37; refine hC.mono ?_; rintro e w1 ⟨A, rfl, hA, hown, hb⟩)
    have hlt : A < w1.heap.size := own_lt hown A rfl
    have hJ := Try.strings_Join A 0 xs.length xs ⟨#[32]⟩ w1 (own_cells_str hown) hlt h2 (Nat.le_refl _) (by simpa [ByteArray.size] using h1)
    clear hown
    go_wp2_with (go_at_call 36; refine hJ.mono ?_; rintro e w2 ⟨rfl, hb2⟩)
    go_ret
    exact ⟨by simp, hb.trans (hb2.mono hb.size)⟩
  · cases h



end Go.Proofs.Ytjhnmclancbilaa.Q
