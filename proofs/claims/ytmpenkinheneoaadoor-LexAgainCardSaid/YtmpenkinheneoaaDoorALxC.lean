/- Texts of the claim: LxC. -/
import Derived.Test.YtmpenkinheneoaaDoorALxB
namespace Go.Proofs.YtmpenkinheneoaaDoor.Lx
set_option linter.unusedVariables false
def Sep (w : List Int) : Prop := w = [] ∨ ∃ c t, w = c :: t ∧ sepc c = true
theorem Sep.like {w : List Int} (h : Sep w) (r : List Int) : Like r (r ++ w) := by
  rcases h with rfl | ⟨c, t, rfl, hc⟩
  · exact ⟨r, [], by simp, .inl (by simp)⟩
  · exact ⟨r, [], by simp, .inr ⟨c, t, rfl, hc⟩⟩
theorem Sep.like0 {w : List Int} (h : Sep w) (r : List Int) : Like r w := by
  rcases h with rfl | ⟨c, t, rfl, hc⟩
  · exact Like.nil _
  · exact Like.sep _ _ hc
def sh (w : List Int) (T : List Tk) : List Tk := T.map fun t => (t.1, t.2.1, t.2.2 ++ w)
theorem sh_nil (w : List Int) : sh w [] = [] := rfl
theorem pre_nil (e : Except (List Int × Int) (List Tk)) : pre [] e = e := by cases e <;> rfl
theorem pre_pre (A B : List Tk) (e : Except (List Int × Int) (List Tk)) : pre A (pre B e) = pre (A ++ B) e := by cases e <;> simp [pre]
theorem pre_ok {A T : List Tk} {e : Except (List Int × Int) (List Tk)} (h : pre A e = .ok T) : ∃ U, e = .ok U ∧ T = A ++ U := by
  cases e with
  | error x => cases h
  | ok U => simp only [pre, Except.ok.injEq] at h; exact ⟨U, rfl, h.symm⟩
theorem pre_err {A : List Tk} {x : List Int × Int} {e : Except (List Int × Int) (List Tk)} (h : pre A e = .error x) : e = .error x := by
  cases e with
  | error y => simpa [pre] using h
  | ok U => cases h
theorem lx_append : ∀ (n : Nat) (l : List Int) (T : List Tk) (w : List Int), l.length ≤ n → lx l = .ok T → Sep w → lx (l ++ w) = pre (sh w T) (lx w) := by
  intro n
  induction n with
  | zero =>
    intro l T w hl h hw
    cases l with
    | cons c l => simp at hl
    | nil => cases h; simp [sh_nil, pre_nil]
  | succ n ih =>
    intro l T w hl h hw
    by_cases hne : l = []
    · subst hne; cases h; simp [sh_nil, pre_nil]
    rcases lx_ways l hne with ⟨c, r, rfl, hb, e⟩ | ⟨q, u, rfl, hq, e⟩ | ⟨k, x, raw, r, rfl, hf, e⟩ | ⟨y, e⟩ | ⟨t, r, _, _, _, _, e⟩
    · rw [List.cons_append, lx_blank _ hb]
      exact ih r T w (by simp at hl; omega) (by rw [← e]; exact h) hw
    · have hc : comm 1 ((q ++ u) ++ w) = some (u ++ w) := by rw [List.append_assoc]; exact hq _
      simp only [List.cons_append]
      rw [lx_comm hc]
      exact ih u T w (by simp at hl; omega) (by rw [← e]; exact h) hw
    · rw [e] at h
      obtain ⟨U, hU, rfl⟩ := pre_ok h
      have hpos := List.length_pos_iff.mpr hf.ne
      rw [List.append_assoc, hf.lx (hw.like r), ih r U w (by simp at hl; omega) hU hw, pre_pre]
      simp [sh]
    · rw [e] at h; cases h
    · rw [e] at h; cases h
theorem lx_first : ∀ (n : Nat) (l : List Int) (k : Int) (x u : List Int) (T : List Tk), l.length ≤ n → lx l = .ok ((k, x, u) :: T) → ∃ p raw r, l = p ++ u ∧ u = raw ++ r ∧ lx p = .ok [] ∧ Front k x raw r ∧ lx r = .ok T := by
  intro n
  induction n with
  | zero =>
    intro l k x u T hl h
    cases l with
    | cons c l => simp at hl
    | nil => cases h
  | succ n ih =>
    intro l k x u T hl h
    by_cases hne : l = []
    · subst hne; cases h
    rcases lx_ways l hne with ⟨c, r, rfl, hb, e⟩ | ⟨q, u', rfl, hq, e⟩ | ⟨k', x', raw, r, hl', hf, e⟩ | ⟨y, e⟩ | ⟨t, r, _, _, _, _, e⟩
    · obtain ⟨p, raw, r', e1, e2, e3, e4, e5⟩ := ih r k x u T (by simp at hl; omega) (by rw [← e]; exact h)
      exact ⟨c :: p, raw, r', by rw [e1]; rfl, e2, by rw [lx_blank _ hb]; exact e3, e4, e5⟩
    · obtain ⟨p, raw, r', e1, e2, e3, e4, e5⟩ := ih u' k x u T (by simp at hl; omega) (by rw [← e]; exact h)
      exact ⟨40 :: 58 :: (q ++ p), raw, r', by rw [e1]; simp, e2, by rw [lx_comm (hq p)]; exact e3, e4, e5⟩
    · rw [e] at h
      obtain ⟨U, hU, h⟩ := pre_ok h
      simp only [List.cons_append, List.nil_append, List.cons.injEq, Prod.mk.injEq] at h
      obtain ⟨⟨rfl, rfl, rfl⟩, rfl⟩ := h
      exact ⟨[], raw, r, rfl, hl', rfl, hf, hU⟩
    · rw [e] at h; cases h
    · rw [e] at h; cases h
theorem lx_wrong : ∀ (n : Nat) (l u : List Int) (e : Int), l.length ≤ n → lx l = .error (u, e) → ∃ p T, l = p ++ u ∧ u ≠ [] ∧ lx p = .ok T := by
  intro n
  induction n with
  | zero =>
    intro l u y hl h
    cases l with
    | cons c l => simp at hl
    | nil => cases h
  | succ n ih =>
    intro l u y hl h
    by_cases hne : l = []
    · subst hne; cases h
    rcases lx_ways l hne with ⟨c, r, rfl, hb, e⟩ | ⟨q, u', rfl, hq, e⟩ | ⟨k', x', raw, r, hl', hf, e⟩ | ⟨y', e⟩ | ⟨t, r, hl', h1, h2, hf, e⟩
    · obtain ⟨p, T, e1, e2, e3⟩ := ih r u y (by simp at hl; omega) (by rw [← e]; exact h)
      exact ⟨c :: p, T, by rw [List.cons_append, ← e1], e2, by rw [lx_blank _ hb]; exact e3⟩
    · obtain ⟨p, T, e1, e2, e3⟩ := ih u' u y (by simp at hl; omega) (by rw [← e]; exact h)
      exact ⟨40 :: 58 :: (q ++ p), T, by simp only [List.cons_append, List.append_assoc]; rw [← e1], e2, by rw [lx_comm (hq p)]; exact e3⟩
    · rw [e] at h
      have h := pre_err h
      have hpos := List.length_pos_iff.mpr hf.ne
      obtain ⟨p, T, e1, e2, e3⟩ := ih r u y (by rw [hl'] at hl; simp at hl; omega) h
      exact ⟨raw ++ p, (k', x', raw ++ p) :: T, by rw [List.append_assoc, ← e1]; exact hl', e2, by rw [hf.lx (Like.pre e1), e3]; rfl⟩
    · rw [e] at h
      simp only [Except.error.injEq, Prod.mk.injEq] at h
      exact ⟨[], [], h.1, by rw [← h.1]; exact hne, rfl⟩
    · rw [e] at h
      simp only [Except.error.injEq, Prod.mk.injEq] at h
      refine ⟨t, [(1, t, t)], by rw [← h.1]; exact hl', by rw [← h.1]; exact h2, ?_⟩
      have := hf.lx (Like.refl [])
      rw [List.append_nil] at this
      rw [this, lx_nil]; rfl
def wr (k : Int) (x : List Int) : List Int := if k = 2 then 34 :: (esc 34 x ++ [34]) else x
theorem front_wr {k : Int} {x raw r : List Int} (h : Front k x raw r) {w : List Int} (hw : Sep w) : lx (wr k x ++ w) = pre [(k, x, wr k x ++ w)] (lx w) ∧ wr k x ≠ [] := by
  by_cases hk : k = 2
  · subst hk
    have e : wr 2 x = 34 :: (esc 34 x ++ [34]) := rfl
    rw [e]
    refine ⟨?_, by simp⟩
    have ht : tok (34 :: (esc 34 x ++ ([34] ++ w))) = .ok (2, x, w) := by
      rw [tok_cons, if_pos (.inl rfl)]
      simp only [List.cons_append, List.nil_append]
      rw [quo_esc 34 x w]
      intro c t hc
      rcases hw with rfl | ⟨c', t', rfl, hc'⟩
      · cases hc
      · simp only [List.cons.injEq] at hc
        rw [← hc.1]
        exact mark_sep 34 (.inl rfl) c' hc'
    simp only [List.cons_append, List.append_assoc]
    exact lx_tok (by decide) (by cases esc 34 x <;> rfl) ht
  · have e : wr k x = x := if_neg hk
    rw [e, ← h.plain hk]
    refine ⟨?_, h.ne⟩
    have := h.lx (hw.like0 r)
    rw [← h.plain hk] at this
    exact this
theorem lx_again : ∀ (n : Nat) (l : List Int) (T : List Tk), T.length ≤ n → lx l = .ok T → ∀ t ∈ T, ∃ raw r, Front t.1 t.2.1 raw r := by
  intro n
  induction n with
  | zero =>
    intro l T hl h t ht
    cases T with
    | nil => cases ht
    | cons a T => simp at hl
  | succ n ih =>
    intro l T hl h t ht
    cases T with
    | nil => cases ht
    | cons a T =>
      obtain ⟨k, x, u⟩ := a
      obtain ⟨p, raw, r, e1, e2, e3, e4, e5⟩ := lx_first l.length l k x u T (Nat.le_refl _) h
      rcases List.mem_cons.mp ht with rfl | ht
      · exact ⟨raw, r, e4⟩
      · exact ih r T (by simp at hl; omega) e5 t ht
def wrs : List Tk → List Int
  | [] => []
  | [t] => wr t.1 t.2.1
  | t :: T => wr t.1 t.2.1 ++ 32 :: wrs T
theorem wrs_lx : ∀ (T : List Tk), (∀ t ∈ T, ∃ raw r, Front t.1 t.2.1 raw r) → ∃ U, lx (wrs T) = .ok U ∧ U.map (fun t => (t.1, t.2.1)) = T.map (fun t => (t.1, t.2.1)) := by
  intro T
  induction T with
  | nil => intro _; exact ⟨[], rfl, rfl⟩
  | cons t T ih =>
    intro h
    obtain ⟨raw, r, hf⟩ := h t List.mem_cons_self
    obtain ⟨U, h1, h2⟩ := ih (fun x hx => h x (List.mem_cons_of_mem _ hx))
    cases T with
    | nil =>
      have := (front_wr hf (w := []) (.inl rfl)).1
      rw [List.append_nil, lx_nil] at this
      refine ⟨[(t.1, t.2.1, wr t.1 t.2.1)], this, rfl⟩
    | cons t2 T =>
      have := (front_wr hf (w := 32 :: wrs (t2 :: T)) (.inr ⟨_, _, rfl, rfl⟩)).1
      rw [lx_blank _ rfl, h1] at this
      exact ⟨_, this, by simp only [List.singleton_append, List.map_cons]; rw [h2]; rfl⟩
theorem esc_mem (m : Int) : ∀ (x : List Int) (c : Int), c ∈ esc m x → c = m ∨ c ∈ x := by
  intro x
  induction x with
  | nil => intro c h; cases h
  | cons a x ih =>
    intro c h
    simp only [esc] at h
    split at h
    · rcases List.mem_cons.mp h with h | h
      · exact .inl h
      · rcases List.mem_cons.mp h with h | h
        · exact .inl h
        · rcases ih c h with h | h
          · exact .inl h
          · exact .inr (List.mem_cons_of_mem _ h)
    · rcases List.mem_cons.mp h with h | h
      · exact .inr (by rw [h]; exact List.mem_cons_self)
      · rcases ih c h with h | h
        · exact .inl h
        · exact .inr (List.mem_cons_of_mem _ h)
theorem esc_sub (m : Int) : ∀ (x : List Int) (c : Int), c ∈ x → c ∈ esc m x := by
  intro x
  induction x with
  | nil => intro c h; cases h
  | cons a x ih =>
    intro c h
    simp only [esc]
    rcases List.mem_cons.mp h with h | h
    · split
      · rename_i e; rw [h, e]; exact List.mem_cons_self
      · rw [h]; exact List.mem_cons_self
    · split
      · exact List.mem_cons_of_mem _ (List.mem_cons_of_mem _ (ih c h))
      · exact List.mem_cons_of_mem _ (ih c h)
theorem esc_len (m : Int) : ∀ (x : List Int), (esc m x).length ≤ 2 * x.length ∧ x.length ≤ (esc m x).length := by
  intro x
  induction x with
  | nil => exact ⟨Nat.le_refl _, Nat.le_refl _⟩
  | cons a x ih =>
    simp only [esc]
    split <;> simp <;> omega
theorem front_mem {k : Int} {x raw r : List Int} (h : Front k x raw r) : (∀ c ∈ x, c ∈ raw) ∧ x.length ≤ raw.length := by
  by_cases hk : k = 2
  · obtain ⟨m, _, e⟩ := h.quoted hk
    rw [e]
    refine ⟨fun c hc => List.mem_cons_of_mem _ (List.mem_append_left _ (esc_sub m x c hc)), ?_⟩
    have := (esc_len m x).2
    simp; omega
  · rw [h.plain hk]; exact ⟨fun c hc => hc, Nat.le_refl _⟩
theorem lx_parts : ∀ (n : Nat) (l : List Int) (T : List Tk), T.length ≤ n → lx l = .ok T → (∀ t ∈ T, ∀ c ∈ t.2.1, c ∈ l) ∧ (T.map fun t => t.2.1.length).sum ≤ l.length ∧ T.length ≤ l.length := by
  intro n
  induction n with
  | zero =>
    intro l T hl h
    cases T with
    | nil => exact ⟨fun t ht => (by cases ht), by simp, by simp⟩
    | cons a T => simp at hl
  | succ n ih =>
    intro l T hl h
    cases T with
    | nil => exact ⟨fun t ht => (by cases ht), by simp, by simp⟩
    | cons a T =>
      obtain ⟨k, x, u⟩ := a
      obtain ⟨p, raw, r, rfl, rfl, e3, e4, e5⟩ := lx_first l.length l k x u T (Nat.le_refl _) h
      obtain ⟨i1, i2, i3⟩ := ih r T (by simp at hl; omega) e5
      obtain ⟨m1, m2⟩ := front_mem e4
      have hpos := List.length_pos_iff.mpr e4.ne
      refine ⟨fun t ht c hc => ?_, ?_, ?_⟩
      · rcases List.mem_cons.mp ht with rfl | ht
        · exact List.mem_append_right _ (List.mem_append_left _ (m1 c hc))
        · exact List.mem_append_right _ (List.mem_append_right _ (i1 t ht c hc))
      · simp; omega
      · simp; omega
end Go.Proofs.YtmpenkinheneoaaDoor.Lx
