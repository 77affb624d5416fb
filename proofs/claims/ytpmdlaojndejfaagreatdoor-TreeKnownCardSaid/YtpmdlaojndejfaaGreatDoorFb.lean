/- strings.Builder's copy check as the evaluator takes it. -/
import Derived.Test.YtpmdlaojndejfaaGreatDoorEq
set_option linter.unusedVariables false
set_option linter.unusedSimpArgs false
namespace Go.Proofs.YtpmdlaojndejfaaGreatDoor.E
open Go

/-- The copy check of a builder that is a variable of its own; t is the builder's type. -/
def ccE (t : TypeId) : List V → Heap → Option (V × Heap)
  | [.ptr id ver 0 0], H =>
    match H[id]? with
    | some (.rows sz ver' [[c0, c1]]) => if ver' = ver ∧ sz = 2 ∧ ver / TAG = 2 * t + 1 then
        match c0 with
        | .lit (.pointer none) => some (.tup [], H.set id (.rows sz ver [[.ptr id ver 0 0, c1]]))
        | .ptr id2 ver2 0 0 => if id2 = id ∧ ver2 = ver then some (.tup [], H) else none
        | _ => none
      else none
    | _ => none
  | _, _ => none

theorem ccE_fill (t : TypeId) : FillCall (fun _ args H => ccE t args H) := by
  intro f args H v H' p b h hp
  simp only at h ⊢
  unfold ccE at h ⊢
  split at h
  case h_2 => cases h
  split at h
  case h_2 => cases h
  rename_i hid
  simp only [get_fill hp hid (by simp)]
  split at h
  case isFalse => cases h
  rename_i hc
  rw [if_pos hc]
  split at h
  · simp only [Option.some.injEq, Prod.mk.injEq] at h ⊢
    obtain ⟨rfl, rfl⟩ := h
    exact ⟨⟨rfl, by rw [set_swap (ne_free hp hid (by simp))]⟩, set_free hp (ne_free hp hid (by simp))⟩
  · split at h
    · rename_i hc2
      rw [if_pos hc2]
      simp only [Option.some.injEq, Prod.mk.injEq] at h ⊢
      obtain ⟨rfl, rfl⟩ := h
      exact ⟨⟨rfl, rfl⟩, hp⟩
    · cases h
  · cases h

theorem ccE_sound {E : Env} {f0 : FuncId} {t : TypeId}
    (hfresh : ∀ (b : Nat) (w : World), w.cell? ⟨b, 0, none⟩ = some (.pointer none) → w.shape? b = some (t, 2) → w.frozen? ⟨b, 0, none⟩ = false →
      Calls E.P f0 #[.pointer (some ⟨b, 0, none⟩)] w fun e w' => e = .returned (.tuple #[]) ∧ w' = w.setCell ⟨b, 0, none⟩ (.pointer (some ⟨b, 0, none⟩)))
    (hused : ∀ (b : Nat) (w : World), w.cell? ⟨b, 0, none⟩ = some (.pointer (some ⟨b, 0, none⟩)) → Calls E.P f0 #[.pointer (some ⟨b, 0, none⟩)] w fun e w' => e = .returned (.tuple #[]) ∧ w' = w) :
    Sound E (fun g args H => if g = f0 then ccE t args H else none) := by
  intro f args H v H' h N A ι w cargs hs hg ht
  simp only at h
  split at h
  case isFalse => cases h
  rename_i hf
  subst hf
  unfold ccE at h
  split at h
  case h_2 => cases h
  rename_i id ver
  split at h
  case h_2 => cases h
  rename_i sz ver' c0 c1 hid
  split at h
  case isFalse => cases h
  rename_i hc
  obtain ⟨rfl, rfl, hv⟩ := hc
  obtain ⟨cs, e, b1, b2, b3, b4, b5, b6⟩ := hs.live id _ hid
  obtain ⟨rfl, ho, hn⟩ := b6.1 t hv
  have hargs : cargs = #[.pointer (some ⟨(ι id).b, 0, none⟩)] := by
    have h1 : cargs.size = 1 := by rw [← ht.1]; rfl
    have h2 := ht.2 0 (.ptr id ver' 0 0) (cargs[0]'(by omega)) (by simp) (by simp)
    generalize hx : cargs[0]'(by omega) = x at h2
    cases h2 with
    | ptr _ _ _ _ a blk hid' hf hh =>
      rw [hid] at hid'; cases hid'
      rcases hh _ _ _ rfl with hq | ⟨_, rfl⟩
      · omega
      apply Array.ext
      · simp [h1]
      · intro i hi1 hi2
        have : i = 0 := by omega
        subst this
        rw [hx]; simp [ho]
  subst hargs
  have hsz : cs.size = 2 := by rw [b2, hn]; simp
  obtain ⟨v0, p0, q0⟩ := b5 0 0 [c0, c1] c0 (by simp) (by simp)
  obtain ⟨v1, p1, q1⟩ := b5 0 1 [c0, c1] c1 (by simp) (by simp)
  simp only [ho, Nat.zero_mul, Nat.zero_add, Nat.add_zero] at p0 p1
  have hcell : w.cell? ⟨(ι id).b, 0, none⟩ = some v0 := by simp only [World.cell?, b1]; simpa using p0
  split at h
  · simp only [Option.some.injEq, Prod.mk.injEq] at h
    obtain ⟨rfl, rfl⟩ := h
    cases q0
    refine (hfresh (ι id).b w hcell (by simp [World.shape?, b1, hsz]) (by simp [World.frozen?, b1])).mono ?_
    rintro e' w' ⟨rfl, rfl⟩
    refine ⟨_, N, A, upd ι id (ι id), rfl, Ext.turn hs hid trivial (L := ι id) (.inl rfl) (fun k _ hk => ?_) ?_ ?_ ?_ ?_ (by simp [Later, upd_same]) fun keep => ?_, .tup _ _ rfl fun i c cv a => by simp at a⟩
    · simp [World.setCell, Array.getElem?_modify, Ne.symm hk]
    · simp [World.setCell]
    · rfl
    · rfl
    · rfl
    · refine ⟨cs.setIfInBounds 0 (.pointer (some ⟨(ι id).b, 0, none⟩)), e, ?_, by rw [upd_same]; simp [b2], fun i r a => ?_, by rw [upd_same]; simpa using b4, fun i j r c a a' => ?_, by rw [upd_same]; simpa using b6⟩
      · rw [upd_same]
        simp [World.setCell, Array.getElem?_modify, b1]
      · cases i with
        | zero => simp at a; subst a; rfl
        | succ i => simp at a
      · rw [upd_same]
        cases i with
        | succ i => simp at a
        | zero =>
          simp at a; subst a
          cases j with
          | zero =>
            simp at a'; subst a'
            refine ⟨_, by simp [ho, hsz]; rfl, ?_⟩
            refine .ptr _ _ _ _ _ (.rows 2 ver' [[.ptr id ver' 0 0, c1]]) (by simp [(List.getElem?_eq_some_iff.1 hid).1]) (by simp) fun s v r e' => ?_
            cases e'
            exact .inr ⟨rfl, by simp [upd_same, ho]⟩
          | succ j =>
            cases j with
            | zero =>
              simp at a'; subst a'
              exact ⟨v1, by simp [ho]; simpa using p1, keep _ _ q1⟩
            | succ j => simp at a'
  · rename_i id2 ver2
    split at h
    case isFalse => cases h
    rename_i hc2
    obtain ⟨rfl, rfl⟩ := hc2
    simp only [Option.some.injEq, Prod.mk.injEq] at h
    obtain ⟨rfl, rfl⟩ := h
    have hv0 : v0 = .pointer (some ⟨(ι id2).b, 0, none⟩) := by
      cases q0 with
      | ptr _ _ _ _ a blk hid' hf hh =>
        rw [hid] at hid'; cases hid'
        rcases hh _ _ _ rfl with hq | ⟨_, rfl⟩
        · omega
        simp [ho]
    refine (hused (ι id2).b w (by rw [hcell, hv0])).mono ?_
    rintro e' w' ⟨rfl, rfl⟩
    exact ⟨_, N, A, ι, rfl, Ext.refl hs, .tup _ _ rfl fun i c cv a => by simp at a⟩
  · cases h
end Go.Proofs.YtpmdlaojndejfaaGreatDoor.E
