/- Texts of the claim: Nz. -/
import Derived.Test.YtldhiaiaildnlaaGreatDoorSNw
namespace Go.Proofs.YtldhiaiaildnlaaGreatDoor.Nm
set_option linter.unusedVariables false
open Go Go.RowKit Go.Proofs.YtldhiaiaildnlaaGreatDoor.Q Go.Proofs.YtldhiaiaildnlaaGreatDoorW.PrintWords Go.Proofs.YtldhiaiaildnlaaGreatDoorW.PrintLast Go.Proofs.YtldhiaiaildnlaaGreatDoorW.PrintMore
theorem Y.any {g : Nat → Option Bool} (h : Y g (fun r => r = true)) : ∃ k, g k = some true := by
 obtain ⟨K, r, rfl, hr⟩ := h
 exact ⟨K, hr K (Nat.le_refl _)⟩
theorem Y.pos {α : Type} {c : Prop} [Decidable c] {g1 g2 : Nat → Option α} {Q : α → Prop} (hc : c) (h : Y g1 Q) : Y (fun k => if c then g1 k else g2 k) Q := Y.ite (fun _ => h) (fun h => absurd hc h)
theorem Y.neg {α : Type} {c : Prop} [Decidable c] {g1 g2 : Nat → Option α} {Q : α → Prop} (hc : ¬ c) (h : Y g2 Q) : Y (fun k => if c then g1 k else g2 k) Q := Y.ite (fun h => absurd h hc) (fun _ => h)
theorem Ans.same {r s : ByteArray × Int} {x : List UInt8 × Int} (h1 : Ans r x) (h2 : Ans s x) : r.1.toList = s.1.toList ∧ r.2 = s.2 := by
 rw [xq, xq, h1.1, h2.1, h1.2, h2.2]; exact ⟨rfl, rfl⟩
theorem Ans.is {r : ByteArray × Int} {x : List UInt8 × Int} {l : List UInt8} {e : Int} (h1 : Ans r x) (h2 : x = (l, e)) : r.1.toList = l ∧ r.2 = e := by
 subst h2
 rw [xq, h1.1, h1.2]; exact ⟨rfl, rfl⟩
theorem Ans.size {r : ByteArray × Int} {x : List UInt8 × Int} (h1 : Ans r x) (hg : Good x) : r.1.size ≤ 100 := by
 rw [← yQ, h1.1]
 rcases hg with ⟨_, h⟩ | ⟨_, y, hy, h⟩
 ·rw [h]; exact Nat.zero_le _
 ·rw [h]; exact Nat.le_trans (tx_len hy.1) (by decide)
theorem works_y : Y (fun k => zV.f k) (fun r => r = true) := by
 unfold zV.f
 refine Y.bind (Parse_y (by decide)) fun r1 h1 => Y.bind (Div_y (by decide) (by decide)) fun r2 h2 => Y.bind (Mod_y (by decide) (by decide)) fun r3 h3 => Y.bind (zc7 half_t (by decide)) fun r4 h4 => ?_
 have e1 := h1.is (l := [55, 46, 53]) (e := 0) (by decide +kernel)
 have e2 := h2.is (l := [48, 46, 54, 54, 54, 54, 54, 54, 54, 54, 54, 54, 54, 54, 54, 54, 54, 54, 54, 54, 54, 55]) (e := 0) (by decide +kernel)
 have e3 := h3.is (l := [49, 46, 53]) (e := 0) (by decide +kernel)
 have e4 := h4.is (l := [45, 50]) (e := 0) (by decide +kernel)
 exact Y.pos e1.2 (Y.pos e1.1 (Y.pos e2.2 (Y.pos e2.1 (Y.pos e3.2 (Y.pos e3.1 (Y.pos e4.2 (Y.pure (by rw [e4.1]; rfl))))))))
theorem zd4 : Y (fun k => (zV.f k).bind fun t => some t) (fun r => r = true) := works_y.bind fun r hr => Y.pure hr
end Go.Proofs.YtldhiaiaildnlaaGreatDoor.Nm
