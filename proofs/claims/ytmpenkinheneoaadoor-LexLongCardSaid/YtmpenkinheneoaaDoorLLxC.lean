/- Texts of the claim: LxC. -/
import Derived.Test.YtmpenkinheneoaaDoorLLxB
namespace Go.Proofs.YtmpenkinheneoaaDoor.Lx
set_option linter.unusedVariables false
def Sep (w : List Int) : Prop := w = [] ∨ ∃ c t, w = c :: t ∧ sepc c = true
theorem Sep.like {w : List Int} (h : Sep w) (r : List Int) : Like r (r ++ w) := by
  rcases h with rfl | ⟨c, t, rfl, hc⟩
  · exact ⟨r, [], by simp, .inl (by simp)⟩
  · exact ⟨r, [], by simp, .inr ⟨c, t, rfl, hc⟩⟩
theorem pre_ok {A T : List Tk} {e : Except (List Int × Int) (List Tk)} (h : pre A e = .ok T) : ∃ U, e = .ok U ∧ T = A ++ U := by
  cases e with
  | error x => cases h
  | ok U => simp only [pre, Except.ok.injEq] at h; exact ⟨U, rfl, h.symm⟩
theorem lx_first : ∀ (n : Nat) (l : List Int) (k : Int) (x u : List Int) (T : List Tk), l.length ≤ n → lx l = .ok ((k, x, u) :: T) → ∃ p raw r, l = p ++ u ∧ u = raw ++ r ∧ lx p = .ok [] ∧ Front k x raw r ∧ lx r = .ok T := by
  intro n
  induction n with
  | zero =>
    intro l k x u T hl h
    cases l with
    | cons c l => simp at hl
    | nil => cases h
  | succ n ih =>
    intro l k x u T hl h
    by_cases hne : l = []
    · subst hne; cases h
    rcases lx_ways l hne with ⟨c, r, rfl, hb, e⟩ | ⟨q, u', rfl, hq, e⟩ | ⟨k', x', raw, r, hl', hf, e⟩ | ⟨y, e⟩ | ⟨t, r, _, _, _, _, e⟩
    · obtain ⟨p, raw, r', e1, e2, e3, e4, e5⟩ := ih r k x u T (by simp at hl; omega) (by rw [← e]; exact h)
      exact ⟨c :: p, raw, r', by rw [e1]; rfl, e2, by rw [lx_blank _ hb]; exact e3, e4, e5⟩
    · obtain ⟨p, raw, r', e1, e2, e3, e4, e5⟩ := ih u' k x u T (by simp at hl; omega) (by rw [← e]; exact h)
      exact ⟨40 :: 58 :: (q ++ p), raw, r', by rw [e1]; simp, e2, by rw [lx_comm (hq p)]; exact e3, e4, e5⟩
    · rw [e] at h
      obtain ⟨U, hU, h⟩ := pre_ok h
      simp only [List.cons_append, List.nil_append, List.cons.injEq, Prod.mk.injEq] at h
      obtain ⟨⟨rfl, rfl, rfl⟩, rfl⟩ := h
      exact ⟨[], raw, r, rfl, hl', rfl, hf, hU⟩
    · rw [e] at h; cases h
    · rw [e] at h; cases h
def wr (k : Int) (x : List Int) : List Int := if k = 2 then 34 :: (esc 34 x ++ [34]) else x
theorem esc_sub (m : Int) : ∀ (x : List Int) (c : Int), c ∈ x → c ∈ esc m x := by
  intro x
  induction x with
  | nil => intro c h; cases h
  | cons a x ih =>
    intro c h
    simp only [esc]
    rcases List.mem_cons.mp h with h | h
    · split
      · rename_i e; rw [h, e]; exact List.mem_cons_self
      · rw [h]; exact List.mem_cons_self
    · split
      · exact List.mem_cons_of_mem _ (List.mem_cons_of_mem _ (ih c h))
      · exact List.mem_cons_of_mem _ (ih c h)
theorem esc_len (m : Int) : ∀ (x : List Int), (esc m x).length ≤ 2 * x.length ∧ x.length ≤ (esc m x).length := by
  intro x
  induction x with
  | nil => exact ⟨Nat.le_refl _, Nat.le_refl _⟩
  | cons a x ih =>
    simp only [esc]
    split <;> simp <;> omega
theorem front_mem {k : Int} {x raw r : List Int} (h : Front k x raw r) : (∀ c ∈ x, c ∈ raw) ∧ x.length ≤ raw.length := by
  by_cases hk : k = 2
  · obtain ⟨m, _, e⟩ := h.quoted hk
    rw [e]
    refine ⟨fun c hc => List.mem_cons_of_mem _ (List.mem_append_left _ (esc_sub m x c hc)), ?_⟩
    have := (esc_len m x).2
    simp; omega
  · rw [h.plain hk]; exact ⟨fun c hc => hc, Nat.le_refl _⟩
theorem lx_parts : ∀ (n : Nat) (l : List Int) (T : List Tk), T.length ≤ n → lx l = .ok T → (∀ t ∈ T, ∀ c ∈ t.2.1, c ∈ l) ∧ (T.map fun t => t.2.1.length).sum ≤ l.length ∧ T.length ≤ l.length := by
  intro n
  induction n with
  | zero =>
    intro l T hl h
    cases T with
    | nil => exact ⟨fun t ht => (by cases ht), by simp, by simp⟩
    | cons a T => simp at hl
  | succ n ih =>
    intro l T hl h
    cases T with
    | nil => exact ⟨fun t ht => (by cases ht), by simp, by simp⟩
    | cons a T =>
      obtain ⟨k, x, u⟩ := a
      obtain ⟨p, raw, r, rfl, rfl, e3, e4, e5⟩ := lx_first l.length l k x u T (Nat.le_refl _) h
      obtain ⟨i1, i2, i3⟩ := ih r T (by simp at hl; omega) e5
      obtain ⟨m1, m2⟩ := front_mem e4
      have hpos := List.length_pos_iff.mpr e4.ne
      refine ⟨fun t ht c hc => ?_, ?_, ?_⟩
      · rcases List.mem_cons.mp ht with rfl | ht
        · exact List.mem_append_right _ (List.mem_append_left _ (m1 c hc))
        · exact List.mem_append_right _ (List.mem_append_right _ (i1 t ht c hc))
      · simp; omega
      · simp; omega
end Go.Proofs.YtmpenkinheneoaaDoor.Lx
