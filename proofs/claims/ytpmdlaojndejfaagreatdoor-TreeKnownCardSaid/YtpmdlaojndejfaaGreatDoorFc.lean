/- The evaluator's answers are the program's. -/
import Derived.Test.YtpmdlaojndejfaaGreatDoorFe
import Derived.Test.YtpmdlaojndejfaaGreatDoorFs
set_option linter.unusedVariables false
set_option linter.unusedSimpArgs false
namespace Go.Proofs.YtpmdlaojndejfaaGreatDoor.E
open Go Go.RowKit

theorem Ext.below {N A : Nat → Prop} {ι : Nat → Lk} {H : Heap} {w w' : World} (hs : SR N A ι H w) (hb : Below w.heap.size w w') : Ext N A ι H w N A ι H w' := by
  have kk : ∀ b, N b → w'.heap[b]? = w.heap[b]? := fun b h => hb.block b (hs.lt b h)
  have k : Keeps A A ι ι H H w w' := ⟨fun _ h => h, fun b h => kk b (hs.an b h), fun id blk a b => ⟨blk, a, .same rfl blk⟩⟩
  have keep : ∀ v cv, VR A ι H w v cv → VR A ι H w' v cv := fun v cv x => x.keep k
  exact ⟨⟨fun id b hid => BR.keep keep rfl (fun ha => hb.block _ ((hs.live id b hid).lt ha)) (hs.live id b hid), hs.inj, hs.apart, hs.an, fun b h => Nat.lt_of_lt_of_le (hs.lt b h) hb.size⟩, keep,
    fun b h => ⟨h, kk b h⟩, fun b h => .inl h, fun b h => h, hb.size, hb.os, hb.tape, hb.output⟩

theorem lit_args1 {A : Nat → Prop} {ι : Nat → Lk} {H : Heap} {w : World} {x : Value} {cargs : Array Value} (h : TR A ι H w [.lit x] cargs) : cargs = #[x] :=
  values_eq (args := [.lit x]) (xs := [x]) rfl h
theorem lit_args2 {A : Nat → Prop} {ι : Nat → Lk} {H : Heap} {w : World} {x y : Value} {cargs : Array Value} (h : TR A ι H w [.lit x, .lit y] cargs) : cargs = #[x, y] :=
  values_eq (args := [.lit x, .lit y]) (xs := [x, y]) rfl h

theorem env_sound (m : Int) : PrimSound (env m) := by
  intro f p hp
  simp only [env] at hp
  split at hp
  · rename_i hf
    subst hf
    simp only [Option.some.injEq] at hp
    subst hp
    exact ccE_sound (E := env m) (f0 := 90) (t := 82) (fun b w h1 h2 h3 => Any.Builder_copyCheck_fresh Tryz.lays240 Tryz.Builder_X72_240 b w h1 h2 h3) (fun b w h => Any.Builder_copyCheck_used Tryz.lays240 Tryz.Builder_X72_240 b w h)
  split at hp
  · rename_i hf
    subst hf
    simp only [Option.some.injEq] at hp
    subst hp
    intro f args H v H' h N A ι w cargs hs hg ht
    simp only at h
    split at h
    case isFalse => cases h
    rename_i hf
    subst hf
    unfold containsE at h
    split at h
    case h_2 => cases h
    split at h
    case isFalse => cases h
    rename_i s x hsz
    simp only [Option.some.injEq, Prod.mk.injEq] at h
    obtain ⟨rfl, rfl⟩ := h
    rw [lit_args2 ht]
    have hm : w.cell? ⟨0, 0, none⟩ = some (.int .i64 m) := by
      obtain ⟨_, h2⟩ := hg 0 [.lit (.int .i64 m)] rfl
      obtain ⟨cv, p, q⟩ := h2 0 _ rfl
      cases q
      exact p
    refine (Tryz.strings_Contains s x m w hsz hm).mono ?_
    rintro e w' ⟨rfl, rfl⟩
    exact ⟨_, N, A, ι, rfl, Ext.refl hs, .lit _⟩
  split at hp
  case isFalse => cases hp
  rename_i hf
  subst hf
  simp only [Option.some.injEq] at hp
  subst hp
  intro f args H v H' h N A ι w cargs hs hg ht
  simp only at h
  split at h
  case isFalse => cases h
  rename_i hf
  subst hf
  unfold lowerE at h
  split at h
  case h_2 => cases h
  split at h
  case isFalse => cases h
  rename_i s hsz
  simp only [Option.some.injEq, Prod.mk.injEq] at h
  obtain ⟨rfl, rfl⟩ := h
  rw [lit_args1 ht]
  refine (Tryz.strings_ToLower_ascii s w hsz.1 (fun j b hj => ?_)).mono ?_
  · have := List.all_eq_true.1 hsz.2 b (List.mem_of_getElem? hj)
    simpa using this
  rintro e w' ⟨rfl, hb⟩
  exact ⟨_, N, A, ι, rfl, Ext.below hs hb, .lit _⟩

theorem env_fill (m : Int) : PrimFill (env m) := by
  intro f p hp
  simp only [env] at hp
  split at hp
  · simp only [Option.some.injEq] at hp
    subst hp
    exact ccE_fill 82
  split at hp
  · simp only [Option.some.injEq] at hp
    subst hp
    intro f args H v H' p b h hp
    simp only at h ⊢
    unfold containsE at h ⊢
    split at h
    case h_2 => cases h
    split at h
    case isFalse => cases h
    rename_i hc
    rw [if_pos hc]
    simp only [Option.some.injEq, Prod.mk.injEq] at h ⊢
    obtain ⟨rfl, rfl⟩ := h
    exact ⟨⟨rfl, rfl⟩, hp⟩
  split at hp
  case isFalse => cases hp
  simp only [Option.some.injEq] at hp
  subst hp
  intro f args H v H' p b h hp
  simp only at h ⊢
  unfold lowerE at h ⊢
  split at h
  case h_2 => cases h
  split at h
  case isFalse => cases h
  rename_i hc
  rw [if_pos hc]
  simp only [Option.some.injEq, Prod.mk.injEq] at h ⊢
  obtain ⟨rfl, rfl⟩ := h
  exact ⟨⟨rfl, rfl⟩, hp⟩

theorem start_sr {w : World} {m : Int} (hm : w.cell? ⟨0, 0, none⟩ = some (.int .i64 m)) : SR (· < w.heap.size) (· < w.heap.size) (fun _ => (⟨0, 0, 0⟩ : Lk)) [] w ∧ GR (env m) (· < w.heap.size) (fun _ => (⟨0, 0, 0⟩ : Lk)) [] w := by
  have h0 : 0 < w.heap.size := by
    rcases Nat.eq_zero_or_pos w.heap.size with h | h
    · simp [World.cell?, Array.getElem?_eq_none (show w.heap.size ≤ 0 by omega)] at hm
    · exact h
  refine ⟨⟨fun id b h => by simp at h, fun i j bi bj h => by simp at h, fun i bi h => by simp at h, fun b h => h, fun b h => h⟩, fun g cs h => ?_⟩
  simp only [env] at h
  split at h
  case isFalse => cases h
  rename_i hg
  subst hg
  simp only [Option.some.injEq] at h
  subst h
  refine ⟨h0, fun j c hc => ?_⟩
  cases j with
  | zero => simp at hc; subst hc; exact ⟨_, hm, .lit _⟩
  | succ j => simp at hc

/-- What the evaluator answers on an empty memory the program answers; what was there stays as it was. -/
theorem call_sound {m : Int} {k : Nat} {f : FuncId} {args : List V} {v : V} {H' : Heap} (h : (run (env m) k).call f args [] = some (v, H')) {cargs : Array Value} {w : World} (hm : w.cell? ⟨0, 0, none⟩ = some (.int .i64 m))
    (ht : TR (· < w.heap.size) (fun _ => ⟨0, 0, 0⟩) [] w args cargs) :
    Calls Tryz.prog f cargs w fun e w' => ∃ cv A' ι', e = .returned cv ∧ Below w.heap.size w w' ∧ VR A' ι' H' w' v cv := by
  obtain ⟨hs, hg⟩ := start_sr hm
  refine ((run_sound (env_sound m) (env_fill m) k).1 f args [] v H' h _ _ _ w cargs hs hg ht).mono ?_
  rintro e w' ⟨cv, N', A', ι', he, hx, hv⟩
  exact ⟨cv, A', ι', he, ⟨hx.os, hx.tape, hx.output, hx.size, fun k hk => (hx.nn k hk).2⟩, hv⟩
theorem lit_VR {A : Nat → Prop} {ι : Nat → Lk} {H : Heap} {w : World} {x cv : Value} (h : VR A ι H w (.lit x) cv) : cv = x := litOf_eq (v := .lit x) rfl h
/-- A law without arguments that the evaluator answers with true. -/
theorem okB_sound {m : Int} {k : Nat} {f : FuncId} (h : okB ((run (env m) k).call f [] []) = true) {w : World} (hm : w.cell? ⟨0, 0, none⟩ = some (.int .i64 m)) :
    Calls Tryz.prog f #[] w fun e w' => e = .returned (.bool true) ∧ Below w.heap.size w w' := by
  cases hr : (run (env m) k).call f [] [] with
  | none => rw [hr] at h; cases h
  | some r =>
    obtain ⟨v, H'⟩ := r
    rw [hr] at h
    have hv : v = .lit (.bool true) := by
      unfold okB at h
      split at h
      · rename_i heq; cases heq; rfl
      · cases h
    subst hv
    refine (call_sound hr hm ⟨rfl, fun i x cv a => by simp at a⟩).mono ?_
    rintro e w' ⟨cv, A', ι', rfl, hb, hv⟩
    exact ⟨by rw [lit_VR hv], hb⟩
end Go.Proofs.YtpmdlaojndejfaaGreatDoor.E
