/- Texts of the claim: LxLaid. -/
import Derived.Test.YtmpenkinheneoaaDoorCards
import Derived.Test.YtmpenkinheneoaaDoorTie
import Derived.Test.YtmpenkinheneoaaDoorKQx19
import Derived.Lib.LaidU8T
import Derived.SliceStrings
import Derived.WalkKit
import Derived.ProofKit
import Derived.OpenShut
import Derived.ShutString
import Derived.ChangeOld
import Derived.Below
import Derived.SizedLaws
import Derived.LaidMore
import Derived.Lay
import Derived.SevenTiedAt
import Derived.Stop.Joined
namespace Go.Proofs.YtmpenkinheneoaaDoor
open Go Go.Shelf Go.ChangeShapes Go.WideShapes Go.ChangeAt Go.RowKit
set_option linter.unusedVariables false
abbrev listed : List (String × DataW Unit) := [("unicode/utf8.acceptRanges", Rows.laid_unicode_utf8_acceptRanges), ("chisel/lex.signs", Rows.laid_chisel_lex_signs), ("unicode/utf8.first", Rows.laid_unicode_utf8_first)]
def ren : Ren := ⟨fun x => x, fun t => if t = 119 then 95 else if t = 138 then 97 else if t = 139 then 98 else t, fun g => if g = 3 then 2 else if g = 4 then 3 else g⟩
theorem u8types : U8Types Tryd.prog ren := ⟨by kernel_rfl, by kernel_rfl, by kernel_rfl, by kernel_rfl⟩
theorem u8extra : U8Extra Tryd.prog ren := ⟨by kernel_rfl, by kernel_rfl, by kernel_rfl, by kernel_rfl, by kernel_rfl, by kernel_rfl, by kernel_rfl⟩
theorem first_is : Rows.laid_unicode_utf8_first = Lib.firstData := by kernel_rfl
theorem accept_is : (Rows.laid_unicode_utf8_acceptRanges : DataW Unit) = Lib.acceptData := by kernel_rfl
theorem signs_is : (Rows.laid_chisel_lex_signs : DataW Unit) = .slice (strs Q.signsB) [] := by kernel_rfl
theorem strs_get (ss tt : List ByteArray) (h : (strs ss : List (DataW Unit)) = strs tt) : ss = tt := by
  have e : ∀ l : List ByteArray, (strs l : List (DataW Unit)).map (fun d => strOf (d, [])) = l := by
    intro l
    induction l with
    | nil => rfl
    | cons a l ih =>
      have := strOf_mk (H := Unit) a []
      simp only [strs, List.map_cons] at ih ⊢
      rw [ih, this]
  rw [← e ss, ← e tt, h]
theorem laid_of {w : World} (h : laidMetH Tryd.prog listed w) : Q.Laid w := by
  rw [MakeChecks.laidMetH_plain _ _ _ (by kernel_rfl)] at h
  have ha : Lib.VarReads Tryd.prog w "unicode/utf8.acceptRanges" Lib.acceptData := by rw [← accept_is]; exact Lib.laidMet.reads h (.head _)
  have hs := Lib.laidMet.reads h (.tail _ (.head _))
  have hf : Lib.VarReads Tryd.prog w "unicode/utf8.first" Lib.firstData := by rw [← first_is]; exact Lib.laidMet.reads h (.tail _ (.tail _ (.head _)))
  refine ⟨utf8Tabs_of_readsT u8types u8extra hf ha, ?_⟩
  obtain ⟨g, t, cs, fuel, p, hg, hty, hvar, hd⟩ := hs
  obtain rfl := Option.some.inj ((show Tryd.prog.globalNamed "chisel/lex.signs" = some 0 by kernel_rfl).symm.trans hg)
  obtain rfl := Option.some.inj ((show (Tryd.prog.globals[0]?).map (·.type) = some 38 by kernel_rfl).symm.trans hty)
  rw [signs_is] at hd
  rcases open_strings (P := Tryd.prog) (t := 38) (e := 9) (by kernel_rfl) (by kernel_rfl) (by kernel_rfl) hd with ⟨_, hx⟩ | ⟨a, len, cap, ss, hcs, _, hl, hm, hz, hx, hcell, _⟩
  · cases hx
  · simp only [Prod.mk.injEq, DataW.slice.injEq] at hx
    obtain ⟨⟨h1, h2⟩, _⟩ := hx
    have ht := strs_get _ _ h1
    have hlen : (ss.take len).length = 33 := by rw [← ht]; rfl
    have hd0 : ss.drop len = [] := by
      cases hd : ss.drop len with
      | nil => rfl
      | cons x r => rw [hd] at h2; cases h2
    have hss : ss = Q.signsB := by
      have := List.take_append_drop len ss
      rw [hd0, List.append_nil, ← ht] at this
      exact this.symm
    subst hss
    have h33 : (Q.signsB : List ByteArray).length = 33 := rfl
    have hle : len = 33 := by
      have h4 := congrArg List.length hd0
      rw [List.length_drop, h33, List.length_nil] at h4
      rw [List.length_take, h33] at hlen
      rw [h33] at hz
      simp only [if_true] at hz
      omega
    subst hle
    obtain ⟨b, o, sp⟩ := a
    have hsp : sp = none := by
      have h0 := hcell 0 (by omega)
      have e0 : Addr.add ⟨b, o, sp⟩ 0 = ⟨b, o, sp⟩ := if_pos rfl
      rw [e0] at h0
      unfold World.cell? at h0
      cases sp with
      | none => rfl
      | some x =>
        exfalso
        simp only [Option.isSome_some, if_true] at h0
        split at h0 <;> cases h0
    subst hsp
    refine ⟨b, o, cap, hl, ?_, ?_⟩
    · rw [World.var?_cell hg hvar 0, ← Array.getElem?_toList, hcs]; rfl
    · intro i hi
      have h0 := hcell i (by omega)
      have e0 : Addr.add ⟨b, o, none⟩ i = ⟨b, o + i, none⟩ := by
        unfold Addr.add
        by_cases hi0 : i = 0
        · subst hi0; rw [if_pos rfl, Nat.add_zero]
        · rw [if_neg hi0]
      rw [e0] at h0
      exact h0
end Go.Proofs.YtmpenkinheneoaaDoor
