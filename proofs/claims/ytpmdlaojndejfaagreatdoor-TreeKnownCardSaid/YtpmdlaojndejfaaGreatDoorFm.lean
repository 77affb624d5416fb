/- Answers that have been reckoned once are kept. -/
import Derived.Test.YtpmdlaojndejfaaGreatDoorEq
set_option linter.unusedVariables false
set_option linter.unusedSimpArgs false
namespace Go.Proofs.YtpmdlaojndejfaaGreatDoor.E
open Go

def eqVal : Value → Value → Bool
  | .int k n, .int k' n' => decide (k = k') && decide (n = n')
  | .string s, .string s' => decide (s.data.toList = s'.data.toList)
  | .bool a, .bool b => a == b
  | .slice none 0 0, .slice none 0 0 => true
  | _, _ => false
theorem eqVal_eq : ∀ {a b : Value}, eqVal a b = true → a = b := by
  intro a b h
  unfold eqVal at h
  split at h
  · simp only [Bool.and_eq_true, decide_eq_true_eq] at h; rw [h.1, h.2]
  · simp only [decide_eq_true_eq] at h
    congr 1
    exact ByteArray.ext (Array.toList_inj.1 h)
  · simp at h; rw [h]
  · rfl
  · cases h
mutual
def eqV : V → V → Bool
  | .lit a, .lit b => eqVal a b
  | .arr a, .arr b => eqVss a b
  | .row a, .row b => eqVs a b
  | .agg a, .agg b => eqVs a b
  | _, _ => false
def eqVs : List V → List V → Bool
  | [], [] => true
  | a :: as, b :: bs => eqV a b && eqVs as bs
  | _, _ => false
def eqVss : List (List V) → List (List V) → Bool
  | [], [] => true
  | a :: as, b :: bs => eqVs a b && eqVss as bs
  | _, _ => false
end
mutual
theorem eqV_eq : ∀ (a b : V), eqV a b = true → a = b
  | .lit a, b, h => by cases b <;> simp [eqV] at h; rw [eqVal_eq h]
  | .arr a, b, h => by cases b <;> simp [eqV] at h; rw [eqVss_eq _ _ h]
  | .row a, b, h => by cases b <;> simp [eqV] at h; rw [eqVs_eq _ _ h]
  | .agg a, b, h => by cases b <;> simp [eqV] at h; rw [eqVs_eq _ _ h]
  | .tup a, b, h => by simp [eqV] at h
  | .own _ _ _ _, b, h => by simp [eqV] at h
  | .ptr _ _ _ _, b, h => by simp [eqV] at h
  | .fn _ _, b, h => by simp [eqV] at h
  | .yld _, b, h => by simp [eqV] at h
  | .mp _, b, h => by simp [eqV] at h
  | .it _, b, h => by simp [eqV] at h
theorem eqVs_eq : ∀ (a b : List V), eqVs a b = true → a = b
  | [], b, h => by cases b <;> simp [eqVs] at h; rfl
  | a :: as, b, h => by
    cases b with
    | nil => simp [eqVs] at h
    | cons b bs =>
      simp only [eqVs, Bool.and_eq_true] at h
      rw [eqV_eq a b h.1, eqVs_eq as bs h.2]
theorem eqVss_eq : ∀ (a b : List (List V)), eqVss a b = true → a = b
  | [], b, h => by cases b <;> simp [eqVss] at h; rfl
  | a :: as, b, h => by
    cases b with
    | nil => simp [eqVss] at h
    | cons b bs =>
      simp only [eqVss, Bool.and_eq_true] at h
      rw [eqVs_eq a b h.1, eqVss_eq as bs h.2]
end

abbrev Tab := FuncId → List V → Option (V × Heap)
def memo (tab : Tab) (self : Self) : Self :=
  ⟨fun f args H => match H with
    | [] => match tab f args with
      | some r => some r
      | none => self.call f args []
    | b :: H => self.call f args (b :: H), self.code⟩
def runM (tab : Tab) (E : Env) : Nat → Self
  | 0 => ⟨fun _ _ _ => none, fun _ _ _ => none⟩
  | k + 1 => memo tab ⟨bodyE E (runM tab E k), codeE E (runM tab E k)⟩

def TabSound (E : Env) (tab : Tab) : Prop := ∀ (f : FuncId) (args : List V) (r : V × Heap), tab f args = some r → ∀ (N A : Nat → Prop) (ι : Nat → Lk) (w : World) (cargs : Array Value),
  SR N A ι [] w → GR E A ι [] w → TR A ι [] w args cargs → Calls E.P f cargs w (Res N A ι [] w r.1 r.2)

theorem memo_sound {E : Env} {tab : Tab} {self : Self} (ht : TabSound E tab) (h : Sound E self.call) : Sound E (memo tab self).call := by
  intro f args H v H' hr N A ι w cargs hs hg ha
  simp only [memo] at hr
  split at hr
  · split at hr
    · rename_i r hq
      simp only [Option.some.injEq] at hr
      subst hr
      exact ht f args _ hq N A ι w cargs hs hg ha
    · exact h f args [] v H' hr N A ι w cargs hs hg ha
  · exact h f args _ v H' hr N A ι w cargs hs hg ha
theorem memo_fill {tab : Tab} {self : Self} (h : FillCall self.call) : FillCall (memo tab self).call := by
  intro f args H v H' p b hr hp
  cases H with
  | nil => simp at hp
  | cons x H =>
    have hr' : self.call f args (x :: H) = some (v, H') := hr
    have := h f args (x :: H) v H' p b hr' hp
    refine ⟨?_, this.2⟩
    cases p with
    | zero => simpa [memo] using this.1
    | succ p => simpa [memo] using this.1

theorem runM_fill {tab : Tab} {E : Env} (hq : PrimFill E) : ∀ k, FillCall (runM tab E k).call ∧ FillCode (runM tab E k).code
  | 0 => ⟨fun f args H v H' p b h => by simp [runM] at h, fun ro c s x s' p b h => by simp [runM] at h⟩
  | k + 1 => by
    obtain ⟨h1, h2⟩ := runM_fill (tab := tab) hq k
    exact ⟨memo_fill (bodyE_fill h2 h1 hq), codeE_fill h1 h2 hq⟩
theorem runM_sound {tab : Tab} {E : Env} (hprim : PrimSound E) (fprim : PrimFill E) (ht : TabSound E tab) : ∀ k, Sound E (runM tab E k).call ∧ CodeSound E (runM tab E k).code
  | 0 => ⟨fun f args H v H' h => by simp [runM] at h, fun ro c s x s' h => by simp [runM] at h⟩
  | k + 1 => by
    obtain ⟨h1, h2⟩ := runM_sound hprim fprim ht k
    obtain ⟨f1, f2⟩ := runM_fill (tab := tab) fprim k
    exact ⟨memo_sound ht (bodyE_sound h1 h2 hprim f1 f2 fprim), codeE_sound h1 h2 hprim f1 f2 fprim⟩

/-- One more answer. -/
def Tab.add (tab : Tab) (f0 : FuncId) (a0 : List V) (v0 : V) : Tab := fun f args => if f = f0 then (if eqVs args a0 then some (v0, []) else tab f args) else tab f args
def ansV : Option (V × Heap) → V → Bool
  | some (v, _), v0 => eqV v v0 && noOwn v0
  | none, _ => false
theorem TabSound.none (E : Env) : TabSound E (fun _ _ => .none) := fun f args r h => by cases h
theorem Res.bare {N A : Nat → Prop} {ι : Nat → Lk} {w : World} {v : V} {H' : Heap} (hn : noOwn v = true) {e : Ending} {w' : World} (hs : SR N A ι [] w) (h : Res N A ι [] w v H' e w') : Res N A ι [] w v [] e w' := by
  obtain ⟨cv, N', A', ι', he, ex, hv⟩ := h
  refine ⟨cv, N', A', ι', he, ⟨⟨fun id blk h => by simp at h, fun i j bi bj h => by simp at h, fun i bi h => by simp at h, ex.sr.an, ex.sr.lt⟩, fun v cv x => ?_, ex.nn, ex.aa, ex.sub, ex.size, ex.os, ex.tape, ex.output⟩, noOwn_pure ι' hn hv⟩
  exact x.keep ⟨ex.sub, fun b hb => (ex.nn b (hs.an b hb)).2, fun id blk h => by simp at h⟩
theorem TabSound.add {E : Env} {tab : Tab} (hprim : PrimSound E) (fprim : PrimFill E) (ht : TabSound E tab) {k : Nat} {f0 : FuncId} {a0 : List V} {v0 : V} (h : ansV ((runM tab E k).call f0 a0 []) v0 = true) : TabSound E (tab.add f0 a0 v0) := by
  intro f args r hr N A ι w cargs hs hg ha
  unfold Tab.add at hr
  split at hr
  · rename_i hf
    split at hr
    · rename_i he
      have := eqVs_eq _ _ he
      subst this; subst hf
      simp only [Option.some.injEq] at hr
      subst hr
      cases hq : (runM tab E k).call f args [] with
      | none => rw [hq] at h; cases h
      | some q =>
        obtain ⟨v, H'⟩ := q
        rw [hq] at h
        simp only [ansV, Bool.and_eq_true] at h
        have := eqV_eq _ _ h.1
        subst this
        exact ((runM_sound hprim fprim ht k).1 f args [] v H' hq N A ι w cargs hs hg ha).mono fun e w' x => Res.bare h.2 hs x
    · exact ht f args r hr N A ι w cargs hs hg ha
  · exact ht f args r hr N A ι w cargs hs hg ha
end Go.Proofs.YtpmdlaojndejfaaGreatDoor.E
