/- Texts of the claim: PureLexAgain. -/
import Derived.Test.YtmpenkinheneoaaDoorAQx32
import Derived.Test.YtmpenkinheneoaaDoorALxT
namespace Go.Proofs.YtmpenkinheneoaaDoor.Pure
set_option linter.unusedVariables false
open Go Go.RowKit Go.Proofs.YtmpenkinheneoaaDoor.Plain Go.Proofs.YtmpenkinheneoaaDoor.Lx Go.Proofs.YtmpenkinheneoaaDoor.HPure Go.Proofs.YtmpenkinheneoaaDoor.Q Go.Proofs.YtmpenkinheneoaaDoorW.PrintWords Go.Proofs.YtmpenkinheneoaaDoorW.PrintLast
theorem LexAgain : chisellaw14_LexAgain.Pure := by
  intro s hs
  refine ⟨3000000, ?_⟩
  unfold chisellaw14_LexAgain.f
  rw [works_f 3000000 (by omega), Option.bind_some]
  by_cases hz : (s.size : Int) > 2000
  · rw [if_pos hz]
  · rw [if_neg hz, tokens_f s (by omega), Option.bind_some]
    rcases ans_ways s (by omega) with ⟨_, e⟩ | ⟨_, u, er, hl, e⟩ | ⟨ht, T, hl, e⟩
    · rw [e]; simp only; rw [if_neg (by decide)]
    · rw [e]; simp only
      have := lx_errno _ _ u er (Nat.le_refl _) hl
      rw [if_neg (by omega)]
    · rw [e]; simp only
      obtain ⟨hc, _⟩ := chars_of_text s ht
      have hpl := points_le s
      obtain ⟨p1, p2, p3⟩ := lx_parts T.length (points s) T (Nat.le_refl _) hl
      have hall : ∀ t ∈ T, t.2.1.all isChar = true := fun t htt => by
        rw [List.all_eq_true]; intro c hcc
        exact List.all_eq_true.mp hc c (p1 t htt c hcc)
      have hlen : ∀ t ∈ T, t.2.1.length ≤ 2000 := fun t htt => by
        have : t.2.1.length ≤ (T.map fun t => t.2.1.length).sum := mem_sum _ _ (List.mem_map.mpr ⟨t, htt, rfl⟩)
        omega
      obtain ⟨U, u1, u2⟩ := wrs_lx T (lx_again T.length (points s) T (Nat.le_refl _) hl)
      obtain ⟨w1, w2⟩ := wrs_chars T hall
      have hsz : ∀ t ∈ T.map (fun t => tkP s t.1 t.2.1 t.2.2), t.f1.size ≤ 1000000 := fun y hy => by
        obtain ⟨t, htt, rfl⟩ := List.mem_map.mp hy
        have h1 := hlen t htt
        have h2 := (flat_len t.2.1).2
        show (encode t.2.1).size ≤ 1000000
        rw [encode_flat, mk_size]; omega
      have hw := written_f (T.map fun t => tkP s t.1 t.2.1 t.2.2) [32] 3000000 (by decide) hsz (by simp; omega) (by omega)
      rw [(wl_tk s T hall).1] at hw
      have e32 : (⟨#[32]⟩ : ByteArray) = mk [32] := rfl
      obtain ⟨x1, x2⟩ := text_of_chars (wrs T) w1
      have hwz : (encode (wrs T)).size ≤ 1000000 := by
        have := (flat_len (wrs T)).2
        rw [encode_flat, mk_size]; omega
      rw [if_pos trivial, e32, hw, Option.bind_some, ← encode_flat, tokens_f _ (by omega), Option.bind_some]
      rcases ans_ways (encode (wrs T)) hwz with ⟨y, _⟩ | ⟨_, v, er, y, _⟩ | ⟨_, U', y, e'⟩
      · rw [x1] at y; cases y
      · rw [x2, u1] at y; cases y
      · rw [x2, u1] at y
        obtain rfl := Except.ok.inj y
        have hUl : U.length = T.length := by have := congrArg List.length u2; simpa using this
        rw [e']; simp only
        have hkey : ((T.map fun t => tkP s t.1 t.2.1 t.2.2).map g34).map key = ((U.map fun t => tkP (encode (wrs T)) t.1 t.2.1 t.2.2).map g34).map key := by
          have := congrArg (List.map fun p : Int × List Int => (p.1, encode p.2)) u2
          simp only [List.map_map] at this ⊢
          exact this.symm
        rw [if_pos trivial, given_f _ _ (by simp; omega) (by simp; omega), Option.bind_some, given_f _ _ (by simp; omega) (by simp; omega), Option.bind_some, same_f _ _ _ hkey (by simp; omega) (by simp; omega), Option.bind_some, if_pos rfl]
end Go.Proofs.YtmpenkinheneoaaDoor.Pure
