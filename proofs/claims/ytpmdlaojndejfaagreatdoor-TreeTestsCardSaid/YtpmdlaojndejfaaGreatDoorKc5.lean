/- Answers that have been reckoned once are kept. -/
import Derived.Test.YtpmdlaojndejfaaGreatDoorKc4
import Derived.Test.YtpmdlaojndejfaaGreatDoorKc0
set_option linter.unusedVariables false
set_option linter.unusedSimpArgs false
namespace Go.Proofs.YtpmdlaojndejfaaGreatDoor.E
open Go

def eqVal : Value → Value → Bool
  | .int k n, .int k' n' => decide (k = k') && decide (n = n')
  | .string s, .string s' => decide (s.data.toList = s'.data.toList)
  | .bool a, .bool b => a == b
  | .slice none 0 0, .slice none 0 0 => true
  | _, _ => false
theorem eqVal_eq : ∀ {a b : Value}, eqVal a b = true → a = b := by
  intro a b h
  unfold eqVal at h
  split at h
  · simp only [Bool.and_eq_true, decide_eq_true_eq] at h; rw [h.1, h.2]
  · simp only [decide_eq_true_eq] at h
    congr 1
    exact ByteArray.ext (Array.toList_inj.1 h)
  · simp at h; rw [h]
  · rfl
  · cases h
mutual
def eqV : V → V → Bool
  | .lit a, .lit b => eqVal a b
  | .arr a, .arr b => eqVss a b
  | .row a, .row b => eqVs a b
  | .agg a, .agg b => eqVs a b
  | _, _ => false
def eqVs : List V → List V → Bool
  | [], [] => true
  | a :: as, b :: bs => eqV a b && eqVs as bs
  | _, _ => false
def eqVss : List (List V) → List (List V) → Bool
  | [], [] => true
  | a :: as, b :: bs => eqVs a b && eqVss as bs
  | _, _ => false
end
mutual
theorem eqV_eq : ∀ (a b : V), eqV a b = true → a = b
  | .lit a, b, h => by cases b <;> simp [eqV] at h; rw [eqVal_eq h]
  | .arr a, b, h => by cases b <;> simp [eqV] at h; rw [eqVss_eq _ _ h]
  | .row a, b, h => by cases b <;> simp [eqV] at h; rw [eqVs_eq _ _ h]
  | .agg a, b, h => by cases b <;> simp [eqV] at h; rw [eqVs_eq _ _ h]
  | .tup a, b, h => by simp [eqV] at h
  | .own _ _ _ _, b, h => by simp [eqV] at h
  | .ptr _ _ _ _, b, h => by simp [eqV] at h
  | .fn _ _, b, h => by simp [eqV] at h
  | .yld _, b, h => by simp [eqV] at h
  | .mp _, b, h => by simp [eqV] at h
  | .it _, b, h => by simp [eqV] at h
theorem eqVs_eq : ∀ (a b : List V), eqVs a b = true → a = b
  | [], b, h => by cases b <;> simp [eqVs] at h; rfl
  | a :: as, b, h => by
    cases b with
    | nil => simp [eqVs] at h
    | cons b bs =>
      simp only [eqVs, Bool.and_eq_true] at h
      rw [eqV_eq a b h.1, eqVs_eq as bs h.2]
theorem eqVss_eq : ∀ (a b : List (List V)), eqVss a b = true → a = b
  | [], b, h => by cases b <;> simp [eqVss] at h; rfl
  | a :: as, b, h => by
    cases b with
    | nil => simp [eqVss] at h
    | cons b bs =>
      simp only [eqVss, Bool.and_eq_true] at h
      rw [eqVs_eq a b h.1, eqVss_eq as bs h.2]
end

abbrev Tab := FuncId → List V → Option (V × Heap)
def memo (tab : Tab) (self : Self) : Self :=
  ⟨fun f args H => match H with
    | [] => match tab f args with
      | some r => some (.ret r.1, r.2)
      | none => self.callX f args []
    | b :: H => self.callX f args (b :: H), self.code⟩
def runM (tab : Tab) (E : Env) : Nat → Self
  | 0 => ⟨fun _ _ _ => none, fun _ _ _ => none⟩
  | k + 1 => memo tab ⟨bodyE E (runM tab E k), codeE E (runM tab E k)⟩

def TabSound (E : Env) (tab : Tab) : Prop := ∀ (f : FuncId) (args : List V) (r : V × Heap), tab f args = some r → ∀ (N A : Nat → Prop) (ι : Nat → Lk) (w : World) (cargs : Array Value),
  SR N A ι [] w → GR E A ι [] w → TR A ι [] w args cargs → Calls E.P f cargs w (Res N A ι [] w r.1 r.2)

theorem memo_sound {E : Env} {tab : Tab} {self : Self} (ht : TabSound E tab) (h : SoundX E self.callX) : SoundX E (memo tab self).callX := by
  intro f args H o H' hr N A ι w cargs hs hg ha
  simp only [memo] at hr
  split at hr
  · split at hr
    · rename_i r hq
      simp only [Option.some.injEq, Prod.mk.injEq] at hr
      obtain ⟨rfl, rfl⟩ := hr
      exact ht f args _ hq N A ι w cargs hs hg ha
    · exact h f args [] o H' hr N A ι w cargs hs hg ha
  · exact h f args _ o H' hr N A ι w cargs hs hg ha
theorem memo_fill {tab : Tab} {self : Self} (h : FillX self.callX) : FillX (memo tab self).callX := by
  intro f args H o H' p b hr hp
  cases H with
  | nil => simp at hp
  | cons x H =>
    have hr' : self.callX f args (x :: H) = some (o, H') := hr
    have := h f args (x :: H) o H' p b hr' hp
    refine ⟨?_, this.2⟩
    cases p with
    | zero => simpa [memo] using this.1
    | succ p => simpa [memo] using this.1

theorem runM_fill {tab : Tab} {E : Env} (hq : PrimFill E) : ∀ k, FillX (runM tab E k).callX ∧ FillCode (runM tab E k).code
  | 0 => ⟨fun f args H v H' p b h => by simp [runM] at h, fun ro c s x s' p b h => by simp [runM] at h⟩
  | k + 1 => by
    obtain ⟨h1, h2⟩ := runM_fill (tab := tab) hq k
    exact ⟨memo_fill (bodyE_fill h2 h1 hq), codeE_fill h1 h2 hq⟩
theorem runM_sound {tab : Tab} {E : Env} (hprim : PrimSound E) (fprim : PrimFill E) (ht : TabSound E tab) : ∀ k, SoundX E (runM tab E k).callX ∧ CodeSound E (runM tab E k).code
  | 0 => ⟨fun f args H v H' h => by simp [runM] at h, fun ro c s x s' h => by simp [runM] at h⟩
  | k + 1 => by
    obtain ⟨h1, h2⟩ := runM_sound hprim fprim ht k
    obtain ⟨f1, f2⟩ := runM_fill (tab := tab) fprim k
    exact ⟨memo_sound ht (bodyE_sound h1 h2 hprim f1.call f2 fprim), codeE_sound h1 h2 hprim f1.call f2 fprim⟩

/-- One more answer. -/
def Tab.add (tab : Tab) (f0 : FuncId) (a0 : List V) (v0 : V) : Tab := fun f args => if f = f0 then (if eqVs args a0 then some (v0, []) else tab f args) else tab f args
def ansV : Option (V × Heap) → V → Bool
  | some (v, _), v0 => eqV v v0 && noOwn v0
  | none, _ => false
theorem TabSound.none (E : Env) : TabSound E (fun _ _ => .none) := fun f args r h => by cases h
theorem Res.bare {N A : Nat → Prop} {ι : Nat → Lk} {w : World} {v : V} {H' : Heap} (hn : noOwn v = true) {e : Ending} {w' : World} (hs : SR N A ι [] w) (h : Res N A ι [] w v H' e w') : Res N A ι [] w v [] e w' := by
  obtain ⟨cv, N', A', ι', he, ex, hv⟩ := h
  refine ⟨cv, N', A', ι', he, ⟨⟨fun id blk h => by simp at h, fun i j bi bj h => by simp at h, fun i bi h => by simp at h, ex.sr.an, ex.sr.lt⟩, fun v cv x => ?_, ex.nn, ex.aa, ex.sub, ex.size, ex.os, ex.tape, ex.output⟩, noOwn_pure ι' hn hv⟩
  exact x.keep ⟨ex.sub, fun b hb => (ex.nn b (hs.an b hb)).2, fun id blk h => by simp at h⟩
theorem TabSound.add {E : Env} {tab : Tab} (hprim : PrimSound E) (fprim : PrimFill E) (ht : TabSound E tab) {k : Nat} {f0 : FuncId} {a0 : List V} {v0 : V} (h : ansV ((runM tab E k).call f0 a0 []) v0 = true) : TabSound E (tab.add f0 a0 v0) := by
  intro f args r hr N A ι w cargs hs hg ha
  unfold Tab.add at hr
  split at hr
  · rename_i hf
    split at hr
    · rename_i he
      have := eqVs_eq _ _ he
      subst this; subst hf
      simp only [Option.some.injEq] at hr
      subst hr
      cases hq : (runM tab E k).call f args [] with
      | none => rw [hq] at h; cases h
      | some q =>
        obtain ⟨v, H'⟩ := q
        rw [hq] at h
        simp only [ansV, Bool.and_eq_true] at h
        have := eqV_eq _ _ h.1
        subst this
        exact ((runM_sound hprim fprim ht k).1.call f args [] v H' hq N A ι w cargs hs hg ha).mono fun e w' x => Res.bare h.2 hs x
    · exact ht f args r hr N A ι w cargs hs hg ha
  · exact ht f args r hr N A ι w cargs hs hg ha
end Go.Proofs.YtpmdlaojndejfaaGreatDoor.E

/- More rounds answer no less. -/
set_option linter.unusedVariables false
set_option linter.unusedSimpArgs false
namespace Go.Proofs.YtpmdlaojndejfaaGreatDoor.E
open Go

def LeCall (c c' : FuncId → List V → Heap → Option (V × Heap)) : Prop := ∀ f a H r, c f a H = some r → c' f a H = some r
def LeCode (c c' : Option Nat → Code → St → Option (X × St)) : Prop := ∀ ro b s r, c ro b s = some r → c' ro b s = some r

variable {E : Env} {self self' : Self}

theorem bind_le {α β : Type} {a a' : Option α} {f f' : α → Option β} {r : β} (h1 : ∀ x, a = some x → a' = some x) (h2 : ∀ x y, f x = some y → f' x = some y) (h : a.bind f = some r) : a'.bind f' = some r := by
  obtain ⟨x, p, q⟩ := Option.bind_eq_some_iff.1 h
  exact Option.bind_eq_some_iff.2 ⟨x, h1 x p, h2 x r q⟩

theorem callE_le (hl : LeCall self.call self'.call) {f : FuncId} {args : List V} {nid : Nat} {H : Heap} {r : V × Heap} (h : callE E self f args nid H = some r) : callE E self' f args nid H = some r := by
  unfold callE pcall at h ⊢
  split
  · rename_i hg; rw [if_pos hg] at h; exact h
  rename_i hg; rw [if_neg hg] at h
  split
  · rename_i p hp
    simp only [hp] at h
    exact h
  rename_i hp
  simp only [hp] at h
  split
  · rename_i hb; rw [if_pos hb] at h; exact h
  rename_i hb; rw [if_neg hb] at h
  split
  · rename_i hh; rw [if_pos hh] at h; exact hl _ _ _ _ h
  rename_i hh; rw [if_neg hh] at h
  exact bind_le (fun _ e => e) (fun a y e => bind_le (fun x e' => bind_le (fun z e2 => hl _ _ _ _ e2) (fun _ _ e2 => e2) e') (fun _ _ e2 => e2) e) h

theorem yieldE_le (hl : LeCode self.code self'.code) {l : Nat} {args : List V} {H : Heap} {r : V × Heap} (h : yieldE self l args H = some r) : yieldE self' l args H = some r := by
  unfold yieldE at h ⊢
  split at h
  case h_2 => cases h
  split at h
  case isFalse => cases h
  rename_i hlen
  rw [if_pos hlen]
  refine bind_le (fun x e => hl _ _ _ _ e) (fun x y e => ?_) h
  split at e
  case h_2 => cases e
  split at e
  · cases e
  rename_i hds
  simp only [hds, if_false]
  refine bind_le (fun x e => e) (fun x y e => ?_) e
  exact bind_le (fun x e => hl _ _ _ _ e) (fun x y e => e) e

theorem stepE_le (h1 : LeCall self.call self'.call) (h2 : LeCode self.code self'.code) {tmps : List V} {nid : Nat} {H : Heap} {o : Oper} {r : V × Heap} (h : stepE E self tmps nid H o = some r) : stepE E self' tmps nid H o = some r := by
  unfold stepE at h ⊢
  split at h
  · split at h
    · exact callE_le h1 h
    · exact yieldE_le h2 h
    · cases h
  · exact h

def LeX (c c' : FuncId → List V → Heap → Option (Oc × Heap)) : Prop := ∀ f a H r, c f a H = some r → c' f a H = some r
theorem LeX.call (h : LeX self.callX self'.callX) : LeCall self.call self'.call := by
  intro f a H r hr
  obtain ⟨v, H'⟩ := r
  unfold Self.call
  rw [h f a H _ (call_some hr)]
  rfl
theorem regionE_le (hx : LeX self.callX self'.callX) (h2 : LeCode self.code self'.code) {ro : Option Nat} {ops : Array Oper} : ∀ {os : List Oper} {s : St} {r : X × St}, regionE E self ro ops os s = some r → regionE E self' ro ops os s = some r
  | [], s, r, h => h
  | o :: os, s, r, h => by
    unfold regionE at h ⊢
    split at h
    · rename_i hw
      rw [if_pos hw]
      split at h
      · rename_i hd
        rw [if_pos hd]
        split at h
        · cases h
        rename_i hr
        rw [if_neg hr]
        exact bind_le (fun x e => e) (fun x y e => regionE_le hx h2 e) h
      rename_i hd
      rw [if_neg hd]
      split at h
      · rename_i y hy
        exact h
      rename_i hy
      split at h
      · rename_i f args hp
        refine bind_le (fun x e => hx _ _ _ _ e) (fun x y e => ?_) h
        obtain ⟨o1, H1⟩ := x
        cases o1 with
        | ret v => exact regionE_le hx h2 e
        | pan z => exact e
      exact bind_le (fun x e => stepE_le hx.call h2 e) (fun x y e => regionE_le hx h2 e) h
    · rename_i hw
      rw [if_neg hw]
      exact regionE_le hx h2 h

theorem stepI_le (h1 : LeCall self.call self'.call) (h2 : LeCode self.code self'.code) {ops : Array Oper} {r : DRun} {it : DItem} {s s' : St} (h : stepI E self ops r it s = some s') : stepI E self' ops r it s = some s' := by
  unfold stepI at h ⊢
  split at h
  · rename_i hw
    rw [if_pos hw]
    split at h
    case isFalse => cases h
    rename_i ho
    rw [if_pos ho]
    exact bind_le (fun x e => stepE_le h1 h2 e) (fun x y e => e) h
  · rename_i hw
    rw [if_neg hw]; exact h
theorem runI_le (h1 : LeCall self.call self'.call) (h2 : LeCode self.code self'.code) {ops : Array Oper} {r : DRun} : ∀ {is : List DItem} {s s' : St}, runI E self ops r is s = some s' → runI E self' ops r is s = some s'
  | [], s, s', h => h
  | it :: is, s, s', h => by
    unfold runI at h ⊢
    exact bind_le (fun x e => stepI_le h1 h2 e) (fun x y e => runI_le h1 h2 e) h
theorem runP_le (h1 : LeCall self.call self'.call) (h2 : LeCode self.code self'.code) {ops : Array Oper} {r : DRun} : ∀ {is : List DItem} {s s' : St}, runP E self ops r is s = some s' → runP E self' ops r is s = some s'
  | [], s, s', h => h
  | it :: is, s, s', h => by
    unfold runP at h ⊢
    split at h
    · rename_i hw
      rw [if_pos hw]
      exact bind_le (fun x e => stepE_le h1 h2 e) (fun x y e => runP_le h1 h2 e) h
    · rename_i hw
      rw [if_neg hw]
      exact runP_le h1 h2 h
theorem regionD_le (h1 : LeCall self.call self'.call) (h2 : LeCode self.code self'.code) {ops : Array Oper} {s s' : St} (h : regionD E self ops s = some s') : regionD E self' ops s = some s' := by
  unfold regionD at h ⊢
  split at h
  · cases h
  rename_i hm
  rw [if_neg hm]
  simp only [Option.map_eq_some_iff] at h ⊢
  obtain ⟨a, h, rfl⟩ := h
  refine ⟨a, ?_, rfl⟩
  split at h
  · rename_i hn
    rw [if_pos hn]
    exact bind_le (fun x e => e) (fun x y e => bind_le (fun x e => runP_le h1 h2 e) (fun x y e => runI_le h1 h2 e) e) h
  · rename_i hn
    rw [if_neg hn]
    exact bind_le (fun x e => e) (fun x y e => runI_le h1 h2 e) h

theorem codeE_le (hx : LeX self.callX self'.callX) (h2 : LeCode self.code self'.code) : LeCode (codeE E self) (codeE E self') := by
  have h1 := hx.call
  intro ro c
  induction c with
  | skip => exact fun s r h => h
  | exit id => exact fun s r h => h
  | ret => exact fun s r h => h
  | region k ops draw =>
    intro s r h
    unfold codeE at h ⊢
    cases draw
    · simp only [Bool.false_eq_true, if_false] at h ⊢
      exact regionE_le hx h2 h
    · simp only [if_true, Option.map_eq_some_iff] at h ⊢
      obtain ⟨a, h, rfl⟩ := h
      exact ⟨a, regionD_le h1 h2 h, rfl⟩
  | seq a b iha ihb =>
    intro s r h
    unfold codeE at h ⊢
    refine bind_le (fun x e => iha _ _ e) (fun x y e => ?_) h
    split at e
    · exact ihb _ _ e
    · exact e
  | cond c a b iha ihb =>
    intro s r h
    unfold codeE at h ⊢
    split at h
    · rename_i t ht
      cases t
      · exact ihb _ _ h
      · exact iha _ _ h
    · cases h
  | block id b ihb =>
    intro s r h
    unfold codeE at h ⊢
    exact bind_le (fun x e => ihb _ _ e) (fun x y e => e) h
  | loop b ihb =>
    intro s r h
    unfold codeE at h ⊢
    refine bind_le (fun x e => ihb _ _ e) (fun x y e => ?_) h
    split at e
    · exact h2 _ _ _ _ e
    · exact e
  | rangeFunc g ps assign body iha ihb =>
    intro s r h
    unfold codeE at h ⊢
    split at h
    case h_2 => cases h
    split at h
    · cases h
    rename_i hg
    rw [if_neg hg]
    exact bind_le (fun x e => e) (fun x y e => bind_le (fun x e => h1 _ _ _ _ e) (fun x y e => e) e) h
  | _ => intro s r h; unfold codeE at h ⊢; first | exact h | cases h

theorem codeR_le (hx : LeX self.callX self'.callX) (h2 : LeCode self.code self'.code) : ∀ {c : Code} {m : Md} {s : St} {r : X × Md × St}, codeR E self c m s = some r → codeR E self' c m s = some r := by
  have other : ∀ {c : Code} {m : Md} {s : St} {r : X × Md × St}, (codeE E self none c s).map (fun (x, s') => (x, m, s')) = some r → (codeE E self' none c s).map (fun (x, s') => (x, m, s')) = some r := by
    intro c m s r h
    simp only [Option.map_eq_some_iff] at h ⊢
    obtain ⟨a, h, rfl⟩ := h
    exact ⟨a, codeE_le hx h2 _ _ _ _ h, rfl⟩
  intro c
  induction c with
  | seq a b iha ihb =>
    intro m s r h
    simp only [codeR] at h ⊢
    refine bind_le (fun x e => iha e) (fun x y e => ?_) h
    obtain ⟨x1, m1, s1⟩ := x
    cases x1 with
    | normal => exact ihb e
    | _ => exact e
  | region id ops draw =>
    intro m s r h
    simp only [codeR] at h ⊢
    split at h
    · rename_i hr
      rw [if_pos hr]; exact h
    · rename_i hr
      rw [if_neg hr]; exact other h
  | _ => intro m s r h; simp only [codeR] at h ⊢; exact other h
theorem bodyR_le (hx : LeX self.callX self'.callX) (h2 : LeCode self.code self'.code) {f : FuncId} {args : List V} {m : Md} {H : Heap} {r : Md × Heap} (h : bodyR E self f args m H = some r) : bodyR E self' f args m H = some r := by
  unfold bodyR at h ⊢
  refine bind_le (fun x e => e) (fun x y e => bind_le (fun x e => e) (fun c y e => ?_) e) h
  split at e
  · cases e
  rename_i hz
  rw [if_neg hz]
  exact bind_le (fun x e => codeR_le hx h2 e) (fun x y e => e) e
theorem leaveE_le (hx : LeX self.callX self'.callX) (h2 : LeCode self.code self'.code) : ∀ {ds : List Dr} {m : Md} {H : Heap} {r : Md × Heap}, leaveE E self m H ds = some r → leaveE E self' m H ds = some r
  | [], m, H, r, h => h
  | .mark d :: ds, m, H, r, h => by
    simp only [leaveE] at h ⊢
    split at h
    case h_2 => cases h
    exact leaveE_le hx h2 h
  | .fn f args :: ds, m, H, r, h => by
    simp only [leaveE] at h ⊢
    split at h
    · cases h
    rename_i hg
    rw [if_neg hg]
    exact bind_le (fun x e => bodyR_le hx h2 e) (fun x y e => leaveE_le hx h2 e) h
theorem bodyE_le (h2 : LeCode self.code self'.code) (hx : LeX self.callX self'.callX) : LeX (bodyE E self) (bodyE E self') := by
  intro f args H r h
  unfold bodyE at h ⊢
  exact bind_le (fun x e => e) (fun x y e => bind_le (fun x e => e) (fun c y e => bind_le (fun x e => codeE_le hx h2 _ _ _ _ e) (fun x y e => bind_le (fun x e => e) (fun x y e => bind_le (fun x e => leaveE_le hx h2 e) (fun x y e => e) e) e) e) e) h
theorem run_le (E : Env) : ∀ k, LeX (run E k).callX (run E (k + 1)).callX ∧ LeCode (run E k).code (run E (k + 1)).code
  | 0 => ⟨fun f a H r h => by simp [run] at h, fun ro c s r h => by simp [run] at h⟩
  | k + 1 => ⟨bodyE_le (run_le E k).2 (run_le E k).1, codeE_le (run_le E k).1 (run_le E k).2⟩
theorem run_mono (E : Env) {k k' : Nat} (hk : k ≤ k') : LeX (run E k).callX (run E k').callX ∧ LeCode (run E k).code (run E k').code := by
  induction hk with
  | refl => exact ⟨fun f a H r h => h, fun ro c s r h => h⟩
  | step _ ih => exact ⟨fun f a H r h => (run_le E _).1 _ _ _ _ (ih.1 _ _ _ _ h), fun f a H r h => (run_le E _).2 _ _ _ _ (ih.2 _ _ _ _ h)⟩
end Go.Proofs.YtpmdlaojndejfaaGreatDoor.E

/- The evaluator without a bound on its rounds. -/
set_option linter.unusedVariables false
set_option linter.unusedSimpArgs false
namespace Go.Proofs.YtpmdlaojndejfaaGreatDoor.E
open Go

def Evt (p : Nat → Prop) : Prop := ∃ k, ∀ k', k ≤ k' → p k'
theorem Evt.of {p : Nat → Prop} (h : ∀ k, p k) : Evt p := ⟨0, fun k _ => h k⟩
theorem Evt.mp {p q : Nat → Prop} (h : Evt p) (hq : ∀ k, p k → q k) : Evt q := let ⟨k, hk⟩ := h; ⟨k, fun k' hk' => hq k' (hk k' hk')⟩
theorem bind_evt {α β : Type} {a : Option α} {a' : Nat → Option α} {f : α → Option β} {f' : Nat → α → Option β} {r : β} (h1 : ∀ x, a = some x → Evt fun k => a' k = some x) (h2 : ∀ x y, f x = some y → Evt fun k => f' k x = some y) (h : a.bind f = some r) :
    Evt fun k => (a' k).bind (f' k) = some r := by
  obtain ⟨x, p, q⟩ := Option.bind_eq_some_iff.1 h
  obtain ⟨k1, e1⟩ := h1 x p
  obtain ⟨k2, e2⟩ := h2 x r q
  refine ⟨max k1 k2, fun k hk => ?_⟩
  have g1 : a' k = some x := e1 k (by omega)
  have g2 : f' k x = some r := e2 k (by omega)
  show (a' k).bind (f' k) = some r
  rw [g1, Option.bind_some]; exact g2
theorem map_evt {α β : Type} {a : Option α} {a' : Nat → Option α} {f : α → β} {r : β} (h1 : ∀ x, a = some x → Evt fun k => a' k = some x) (h : a.map f = some r) : Evt fun k => (a' k).map f = some r := by
  obtain ⟨x, p, q⟩ := Option.map_eq_some_iff.1 h
  exact (h1 x p).mp fun k e => by rw [e]; simp [q]

structure MonoS (S : Nat → Self) : Prop where
  x : ∀ {k k' : Nat}, k ≤ k' → LeX (S k).callX (S k').callX
  c : ∀ {k k' : Nat}, k ≤ k' → LeCode (S k).code (S k').code

open Classical in
noncomputable def lim (S : Nat → Self) : Self :=
  ⟨fun f a H => if h : ∃ r, ∃ k, (S k).callX f a H = some r then some h.choose else none, fun ro c s => if h : ∃ r, ∃ k, (S k).code ro c s = some r then some h.choose else none⟩

variable {S : Nat → Self} {E : Env}
theorem lim_x (hm : MonoS S) {f : FuncId} {a : List V} {H : Heap} {r : Oc × Heap} : (lim S).callX f a H = some r ↔ ∃ k, (S k).callX f a H = some r := by
  unfold lim
  simp only
  constructor
  · intro h
    split at h
    · rename_i hex
      simp only [Option.some.injEq] at h
      rw [← h]; exact hex.choose_spec
    · cases h
  · rintro ⟨k, hk⟩
    have hex : ∃ r, ∃ k, (S k).callX f a H = some r := ⟨r, k, hk⟩
    rw [dif_pos hex]
    obtain ⟨k', hk'⟩ := hex.choose_spec
    have h1 := hm.x (Nat.le_max_left k k') _ _ _ _ hk
    have h2 := hm.x (Nat.le_max_right k k') _ _ _ _ hk'
    rw [h1] at h2
    exact h2.symm
theorem lim_c (hm : MonoS S) {ro : Option Nat} {c : Code} {s : St} {r : X × St} : (lim S).code ro c s = some r ↔ ∃ k, (S k).code ro c s = some r := by
  unfold lim
  simp only
  constructor
  · intro h
    split at h
    · rename_i hex
      simp only [Option.some.injEq] at h
      rw [← h]; exact hex.choose_spec
    · cases h
  · rintro ⟨k, hk⟩
    have hex : ∃ r, ∃ k, (S k).code ro c s = some r := ⟨r, k, hk⟩
    rw [dif_pos hex]
    obtain ⟨k', hk'⟩ := hex.choose_spec
    have h1 := hm.c (Nat.le_max_left k k') _ _ _ _ hk
    have h2 := hm.c (Nat.le_max_right k k') _ _ _ _ hk'
    rw [h1] at h2
    exact h2.symm
theorem lim_xe (hm : MonoS S) {f : FuncId} {a : List V} {H : Heap} {r : Oc × Heap} (h : (lim S).callX f a H = some r) : Evt fun k => (S k).callX f a H = some r := by
  obtain ⟨k, hk⟩ := (lim_x hm).1 h
  exact ⟨k, fun k' h' => hm.x h' _ _ _ _ hk⟩
theorem lim_ce (hm : MonoS S) {ro : Option Nat} {c : Code} {s : St} {r : X × St} (h : (lim S).code ro c s = some r) : Evt fun k => (S k).code ro c s = some r := by
  obtain ⟨k, hk⟩ := (lim_c hm).1 h
  exact ⟨k, fun k' h' => hm.c h' _ _ _ _ hk⟩
theorem lim_call (hm : MonoS S) {f : FuncId} {a : List V} {H : Heap} {r : V × Heap} (h : (lim S).call f a H = some r) : Evt fun k => (S k).call f a H = some r := by
  obtain ⟨v, H'⟩ := r
  exact (lim_xe hm (call_some h)).mp fun k e => by unfold Self.call; rw [e]; rfl

theorem callE_lim (hm : MonoS S) {f : FuncId} {args : List V} {nid : Nat} {H : Heap} {r : V × Heap} (h : callE E (lim S) f args nid H = some r) : Evt fun k => callE E (S k) f args nid H = some r := by
  unfold callE pcall at h ⊢
  split at h
  · cases h
  rename_i hg
  simp only [if_neg hg]
  split at h
  · rename_i p hp
    exact .of fun k => h
  rename_i hp
  split at h
  · rename_i hb
    simp only [if_pos hb]
    exact .of fun k => h
  rename_i hb
  simp only [if_neg hb]
  split at h
  · rename_i hh
    simp only [if_pos hh]
    exact lim_call hm h
  rename_i hh
  simp only [if_neg hh]
  exact bind_evt (fun _ e => .of fun _ => e) (fun a y e => bind_evt (fun x e' => bind_evt (fun z e2 => lim_call hm e2) (fun _ _ e2 => .of fun _ => e2) e') (fun _ _ e2 => .of fun _ => e2) e) h

theorem yieldE_lim (hm : MonoS S) {l : Nat} {args : List V} {H : Heap} {r : V × Heap} (h : yieldE (lim S) l args H = some r) : Evt fun k => yieldE (S k) l args H = some r := by
  unfold yieldE at h ⊢
  split at h
  case h_2 => cases h
  split at h
  case isFalse => cases h
  rename_i hlen
  simp only [if_pos hlen]
  refine bind_evt (fun x e => lim_ce hm e) (fun x y e => ?_) h
  split at e
  case h_2 => cases e
  split at e
  · cases e
  rename_i hds
  simp only [hds, if_false]
  refine bind_evt (fun x e => .of fun _ => e) (fun x y e => ?_) e
  exact bind_evt (fun x e => lim_ce hm e) (fun x y e => .of fun _ => e) e

theorem stepE_lim (hm : MonoS S) {tmps : List V} {nid : Nat} {H : Heap} {o : Oper} {r : V × Heap} (h : stepE E (lim S) tmps nid H o = some r) : Evt fun k => stepE E (S k) tmps nid H o = some r := by
  unfold stepE at h ⊢
  split at h
  · split at h
    · exact callE_lim hm h
    · exact yieldE_lim hm h
    · cases h
  · exact .of fun k => h

theorem regionE_lim (hm : MonoS S) {ro : Option Nat} {ops : Array Oper} : ∀ {os : List Oper} {s : St} {r : X × St}, regionE E (lim S) ro ops os s = some r → Evt fun k => regionE E (S k) ro ops os s = some r
  | [], s, r, h => .of fun _ => h
  | o :: os, s, r, h => by
    unfold regionE at h ⊢
    split at h
    · rename_i hw
      simp only [if_pos hw]
      split at h
      · rename_i hd
        simp only [if_pos hd]
        split at h
        · cases h
        rename_i hr
        simp only [if_neg hr]
        exact bind_evt (fun x e => .of fun _ => e) (fun x y e => regionE_lim hm e) h
      rename_i hd
      simp only [if_neg hd]
      split at h
      · exact .of fun k => h
      split at h
      · refine bind_evt (fun x e => lim_xe hm e) (fun x y e => ?_) h
        obtain ⟨o1, H1⟩ := x
        cases o1 with
        | ret v => exact regionE_lim hm e
        | pan z => exact .of fun _ => e
      exact bind_evt (fun x e => stepE_lim hm e) (fun x y e => regionE_lim hm e) h
    · rename_i hw
      simp only [if_neg hw]
      exact regionE_lim hm h

theorem stepI_lim (hm : MonoS S) {ops : Array Oper} {r : DRun} {it : DItem} {s s' : St} (h : stepI E (lim S) ops r it s = some s') : Evt fun k => stepI E (S k) ops r it s = some s' := by
  unfold stepI at h ⊢
  split at h
  · rename_i hw
    simp only [if_pos hw]
    split at h
    case isFalse => cases h
    rename_i ho
    simp only [if_pos ho]
    exact bind_evt (fun x e => stepE_lim hm e) (fun x y e => .of fun _ => e) h
  · rename_i hw
    simp only [if_neg hw]; exact .of fun _ => h
theorem runI_lim (hm : MonoS S) {ops : Array Oper} {r : DRun} : ∀ {is : List DItem} {s s' : St}, runI E (lim S) ops r is s = some s' → Evt fun k => runI E (S k) ops r is s = some s'
  | [], s, s', h => .of fun _ => h
  | it :: is, s, s', h => by
    unfold runI at h ⊢
    exact bind_evt (fun x e => stepI_lim hm e) (fun x y e => runI_lim hm e) h
theorem runP_lim (hm : MonoS S) {ops : Array Oper} {r : DRun} : ∀ {is : List DItem} {s s' : St}, runP E (lim S) ops r is s = some s' → Evt fun k => runP E (S k) ops r is s = some s'
  | [], s, s', h => .of fun _ => h
  | it :: is, s, s', h => by
    unfold runP at h ⊢
    split at h
    · rename_i hw
      simp only [if_pos hw]
      exact bind_evt (fun x e => stepE_lim hm e) (fun x y e => runP_lim hm e) h
    · rename_i hw
      simp only [if_neg hw]
      exact runP_lim hm h
theorem regionD_lim (hm : MonoS S) {ops : Array Oper} {s s' : St} (h : regionD E (lim S) ops s = some s') : Evt fun k => regionD E (S k) ops s = some s' := by
  unfold regionD at h ⊢
  split at h
  · cases h
  rename_i hmx
  simp only [if_neg hmx]
  refine map_evt (fun a h => ?_) h
  split at h
  · rename_i hn
    simp only [if_pos hn]
    exact bind_evt (fun x e => .of fun _ => e) (fun x y e => bind_evt (fun x e => runP_lim hm e) (fun x y e => runI_lim hm e) e) h
  · rename_i hn
    simp only [if_neg hn]
    exact bind_evt (fun x e => .of fun _ => e) (fun x y e => runI_lim hm e) h

theorem codeE_lim (hm : MonoS S) : ∀ (ro : Option Nat) (c : Code) (s : St) (r : X × St), codeE E (lim S) ro c s = some r → Evt fun k => codeE E (S k) ro c s = some r := by
  intro ro c
  induction c with
  | skip => exact fun s r h => .of fun _ => h
  | exit id => exact fun s r h => .of fun _ => h
  | ret => exact fun s r h => .of fun _ => h
  | region k ops draw =>
    intro s r h
    unfold codeE at h ⊢
    cases draw
    · simp only [Bool.false_eq_true, if_false] at h ⊢
      exact regionE_lim hm h
    · simp only [if_true] at h ⊢
      exact map_evt (fun a h => regionD_lim hm h) h
  | seq a b iha ihb =>
    intro s r h
    unfold codeE at h ⊢
    refine bind_evt (fun x e => iha _ _ e) (fun x y e => ?_) h
    obtain ⟨x1, s1⟩ := x
    cases x1 with
    | normal => exact ihb _ _ e
    | _ => exact .of fun _ => e
  | cond c a b iha ihb =>
    intro s r h
    unfold codeE at h ⊢
    split at h
    · rename_i t ht
      cases t
      · exact ihb _ _ h
      · exact iha _ _ h
    · cases h
  | block id b ihb =>
    intro s r h
    unfold codeE at h ⊢
    exact bind_evt (fun x e => ihb _ _ e) (fun x y e => .of fun _ => e) h
  | loop b ihb =>
    intro s r h
    unfold codeE at h ⊢
    refine bind_evt (fun x e => ihb _ _ e) (fun x y e => ?_) h
    obtain ⟨x1, s1⟩ := x
    cases x1 with
    | normal => exact lim_ce hm e
    | _ => exact .of fun _ => e
  | rangeFunc g ps assign body iha ihb =>
    intro s r h
    unfold codeE at h ⊢
    split at h
    case h_2 => cases h
    split at h
    · cases h
    rename_i hg
    simp only [if_neg hg]
    exact bind_evt (fun x e => .of fun _ => e) (fun x y e => bind_evt (fun x e => lim_call hm e) (fun x y e => .of fun _ => e) e) h
  | _ => intro s r h; unfold codeE at h ⊢; first | exact .of fun _ => h | cases h

theorem codeR_lim (hm : MonoS S) : ∀ {c : Code} {m : Md} {s : St} {r : X × Md × St}, codeR E (lim S) c m s = some r → Evt fun k => codeR E (S k) c m s = some r := by
  have other : ∀ {c : Code} {m : Md} {s : St} {r : X × Md × St}, (codeE E (lim S) none c s).map (fun (x, s') => (x, m, s')) = some r → Evt fun k => (codeE E (S k) none c s).map (fun (x, s') => (x, m, s')) = some r := by
    intro c m s r h
    exact map_evt (fun a h => codeE_lim hm _ _ _ _ h) h
  intro c
  induction c with
  | seq a b iha ihb =>
    intro m s r h
    simp only [codeR] at h ⊢
    refine bind_evt (fun x e => iha e) (fun x y e => ?_) h
    obtain ⟨x1, m1, s1⟩ := x
    cases x1 with
    | normal => exact ihb e
    | _ => exact .of fun _ => e
  | region id ops draw =>
    intro m s r h
    simp only [codeR] at h ⊢
    split at h
    · rename_i hr
      simp only [if_pos hr]; exact .of fun _ => h
    · rename_i hr
      simp only [if_neg hr]; exact other h
  | _ => intro m s r h; simp only [codeR] at h ⊢; exact other h
theorem bodyR_lim (hm : MonoS S) {f : FuncId} {args : List V} {m : Md} {H : Heap} {r : Md × Heap} (h : bodyR E (lim S) f args m H = some r) : Evt fun k => bodyR E (S k) f args m H = some r := by
  unfold bodyR at h ⊢
  refine bind_evt (fun x e => .of fun _ => e) (fun x y e => bind_evt (fun x e => .of fun _ => e) (fun c y e => ?_) e) h
  split at e
  · cases e
  rename_i hz
  simp only [if_neg hz]
  exact bind_evt (fun x e => codeR_lim hm e) (fun x y e => .of fun _ => e) e
theorem leaveE_lim (hm : MonoS S) : ∀ {ds : List Dr} {m : Md} {H : Heap} {r : Md × Heap}, leaveE E (lim S) m H ds = some r → Evt fun k => leaveE E (S k) m H ds = some r
  | [], m, H, r, h => .of fun _ => h
  | .mark d :: ds, m, H, r, h => by
    simp only [leaveE] at h ⊢
    split at h
    case h_2 => cases h
    exact leaveE_lim hm h
  | .fn f args :: ds, m, H, r, h => by
    simp only [leaveE] at h ⊢
    split at h
    · cases h
    rename_i hg
    simp only [if_neg hg]
    exact bind_evt (fun x e => bodyR_lim hm e) (fun x y e => leaveE_lim hm e) h
theorem bodyE_lim (hm : MonoS S) {f : FuncId} {args : List V} {H : Heap} {r : Oc × Heap} (h : bodyE E (lim S) f args H = some r) : Evt fun k => bodyE E (S k) f args H = some r := by
  unfold bodyE at h ⊢
  exact bind_evt (fun x e => .of fun _ => e) (fun x y e => bind_evt (fun x e => .of fun _ => e) (fun c y e => bind_evt (fun x e => codeE_lim hm _ _ _ _ e) (fun x y e => bind_evt (fun x e => .of fun _ => e) (fun x y e => bind_evt (fun x e => leaveE_lim hm e) (fun x y e => .of fun _ => e) e) e) e) e) h
end Go.Proofs.YtpmdlaojndejfaaGreatDoor.E

/- The evaluator for values that are known in part: what comes after is handed over; each question about what is not known is put at once, and both answers are followed. -/
set_option linter.unusedVariables false
set_option linter.unusedSimpArgs false
namespace Go.Proofs.YtpmdlaojndejfaaGreatDoor.E
open Go

inductive CK where
  | int (k : IntKind)
  | str
  | bool
  | any
def ckOf : V → CK
  | .lit (.int k _) => .int k
  | .lit (.string _) => .str
  | .lit (.bool _) => .bool
  | _ => .any
def cellI : V → Int
  | .lit (.int _ n) => n
  | _ => 0
def cellS : V → ByteArray
  | .lit (.string s) => s
  | _ => ByteArray.empty
def cellB : V → Bool
  | .lit (.bool b) => b
  | _ => false
def typed : CK → V → V
  | .int k, v => .lit (.int k (cellI v))
  | .str, v => .lit (.string (cellS v))
  | .bool, v => .lit (.bool (cellB v))
  | .any, v => v
def ckOk : CK → V → Bool
  | .int k, .lit (.int k' _) => decide (k = k')
  | .str, .lit (.string _) => true
  | .bool, .lit (.bool _) => true
  | .any, _ => true
  | _, _ => false
def rowOk : List CK → List V → Bool
  | [], [] => true
  | c :: sh, v :: r => ckOk c v && rowOk sh r
  | _, _ => false
def typedFrom : List CK → List V → Nat → List V
  | [], _, _ => []
  | c :: sh, r, j => typed c (r.getD j un) :: typedFrom sh r (j + 1)
def shapeOf (P : Program) (e : TypeId) : Option (List CK) := (zeroT P e).map fun z => z.cells.map ckOf
def rowsOk (sh : List CK) (rows : List (List V)) : Bool := rows.all (rowOk sh)

/-! Maps of which the entries are not all known. -/
def keyEq : V → Value → Bool
  | .lit (.int _ a), .int _ b => b == a
  | .lit (.string a), .string b => b == a
  | _, _ => false
def findE (k : Value) : List (V × V) → Nat → Option (Nat × V)
  | [], _ => none
  | e :: es, i => if keyEq e.1 k = true then some (i, e.2) else findE k es (i + 1)
/-- What a map has for a key, or else z; has it something; a map with one more entry. -/
def lookE (es : List (V × V)) (k : Value) (z : V) : V := match findE k es 0 with | some r => r.2 | none => z
def hasE (es : List (V × V)) (k : Value) : Bool := (findE k es 0).isSome
def putE (es : List (V × V)) (k : Value) (v : V) : List (V × V) := match findE k es 0 with | some r => es.set r.1 (.lit k, v) | none => es ++ [(.lit k, v)]
def clockE (es : List (V × V)) (k : Value) (c : Nat) : Nat := match findE k es 0 with | some _ => c | none => c + 1
def keyOk (d : TypeDesc) (k : Value) (x : V) : Bool :=
  match d, k, x with
  | .string, .string _, .lit (.string _) => true
  | .int _, .int a _, .lit (.int b _) => decide (a = b)
  | _, _, _ => false
def keysOk (d : TypeDesc) (k : Value) (es : List (V × V)) : Bool := es.all fun e => keyOk d k e.1

/-- A truth value is asked for at once. -/
def forkW (v : V) (q : V → Prop) : Prop :=
  match v with
  | .lit (.bool b) => if b = true then q (.lit (.bool true)) else q (.lit (.bool false))
  | v => q v

def opD (E : Env) (tmps : List V) (nid : Nat) (H : Heap) (o : Oper) (q : V → Heap → Prop) : Prop :=
  match opE E tmps nid H o with
  | some (v, H') => forkW v fun v => q v H'
  | none => False

def opW (E : Env) (tmps : List V) (nid : Nat) (H : Heap) (o : Oper) (q : V → Heap → Prop) : Prop :=
  match o.op with
  | .indexAddr t x i =>
    match E.P.underlying t, evalO tmps x, evalO tmps i with
    | some (.slice e), .arr rows, .lit (.int _ n) =>
      match shapeOf E.P e with
      | some sh => if sh.length = sizeT E.P e ∧ sizeT E.P e ≠ 0 then
          if rowsOk sh rows = true then if 0 ≤ n then if n.toNat < rows.length then q (.row (typedFrom sh (rows.getD n.toNat []) 0)) H else False else False else False
        else False
      | none => False
    | some (.slice e), .own id ver off len, .lit (.int _ n) =>
      match H[id]? with
      | some (.rows sz ver' _) => if ver' = ver then if sz = sizeT E.P e ∧ sz ≠ 0 then if 0 ≤ n then if n.toNat < len then q (.ptr id ver (off + n.toNat) 0) H else False else False else False else False
      | _ => False
    | _, _, _ => opD E tmps nid H o q
  | .load t a =>
    match evalO tmps a with
    | .ptr id ver r off =>
      if aggT E.P t then opD E tmps nid H o q else
      match H[id]?, zeroT E.P t with
      | some (.rows _ ver' rs), some z => if (E.P.underlying t).isSome = true then if ver' = ver then if r < rs.length then if off < (rs.getD r []).length then
          if ckOk (ckOf z) ((rs.getD r []).getD off un) = true then forkW (typed (ckOf z) ((rs.getD r []).getD off un)) fun v => q v H else False else False else False else False else False
      | _, _ => False
    | _ => opD E tmps nid H o q
  | .store t a x =>
    match evalO tmps a with
    | .ptr id ver r off =>
      match H[id]? with
      | some (.rows sz ver' rs) =>
        if (evalO tmps x).cells.length = sizeT E.P t ∧ sizeT E.P t ≠ 0 ∧ (evalO tmps x).cells.all scalarV = true then
          if ver' = ver then if r < rs.length then
            if sz = 1 ∧ off = 0 ∧ (evalO tmps x).cells.length = 1 then
              if (rs.getD r []).length = 1 then q un (H.set id (.rows sz ver' (rs.set r (evalO tmps x).cells))) else False
            else if off + (evalO tmps x).cells.length ≤ (rs.getD r []).length then
              q un (H.set id (.rows sz ver' (rs.set r ((rs.getD r []).take off ++ (evalO tmps x).cells ++ (rs.getD r []).drop (off + (evalO tmps x).cells.length)))))
            else False
          else False else False
        else False
      | _ => False
    | _ => False
  | .slice t x lo hi none =>
    match E.P.underlying t, evalO tmps x, lo.map (evalO tmps), hi.map (evalO tmps) with
    | some .string, .lit (.string s), some (.lit (.int .i64 l)), none => if 0 ≤ l then if l.toNat ≤ s.size then q (.lit (.string (s.extract l.toNat s.size))) H else False else False
    | some .string, .lit (.string s), none, some (.lit (.int .i64 h)) => if 0 ≤ h then if h.toNat ≤ s.size then q (.lit (.string (s.extract 0 h.toNat))) H else False else False
    | some .string, .lit (.string s), some (.lit (.int .i64 l)), some (.lit (.int .i64 h)) => if 0 ≤ l then if l ≤ h then if h.toNat ≤ s.size then q (.lit (.string (s.extract l.toNat h.toNat))) H else False else False else False
    | some (.slice e), .arr rows, some (.lit (.int _ l)), some (.lit (.int _ h)) =>
      match shapeOf E.P e with
      | some sh => if sh.length = sizeT E.P e ∧ sizeT E.P e ≠ 0 then
          if rowsOk sh rows = true then if 0 ≤ l then if l ≤ h then if h.toNat ≤ rows.length then q (.arr ((rows.drop l.toNat).take (h.toNat - l.toNat))) H else False else False else False else False
        else False
      | none => False
    | _, _, _, _ => opD E tmps nid H o q
  | .makeSlice t l c =>
    match E.P.underlying t, evalO tmps l, evalO tmps c with
    | some (.slice e), .lit (.int _ n), .lit (.int _ m) =>
      match zeroT E.P e with
      | some z => if sizeT E.P e ≠ 0 ∧ E.P.bytesOf e ≤ 1000000 ∧ z.cells.length = sizeT E.P e ∧ z.cells.all scalarV = true then
          if 0 ≤ n then if n = m then if n ≤ 1000000 then
            match place H nid (.rows (sizeT E.P e) 0 (List.replicate n.toNat z.cells)) with
            | some H' => q (.own nid 0 0 n.toNat) H'
            | none => False
          else False else False else False
        else False
      | none => False
    | _, _, _ => opD E tmps nid H o q
  | .call { callee := .builtin .append, args, argTypes } =>
    match args.toList.map (evalO tmps) with
    | [.own id ver off len, x] =>
      match appendArgs E.P argTypes, H[id]?, rowsOfX H x with
      | some e, some (.rows sz ver' rs), some nr =>
        match zeroT E.P e with
        | some z => if (sizeT E.P e ≠ 0 ∧ z.cells.length = sizeT E.P e ∧ z.cells.all scalarV = true ∧ E.P.bytesOf e ≤ 1000000 ∧ nr.length ≤ 1000000 ∧ nr.all (fun r => r.length == sizeT E.P e && r.all scalarV) = true) ∧ nr.length ≠ 0 ∧ sz = sizeT E.P e ∧ off = 0 then
            if ver' = ver then if len = rs.length then if len ≤ 1000000 then if ver / TAG = 2 * e + 2 ∧ (ver + 1) / TAG = 2 * e + 2 then
              q (.own id (ver + 1) 0 (len + nr.length)) (H.set id (.rows sz (ver + 1) (rs ++ nr)))
            else False else False else False else False
          else False
        | none => False
      | _, _, _ => False
    | _ => opD E tmps nid H o q
  | .index t x i =>
    match E.P.underlying t, evalO tmps x, evalO tmps i with
    | some .string, .lit (.string s), .lit (.int _ n) => if 0 ≤ n then if n.toNat < s.size then q (.lit (.int .u8 ((s.data.toList.getD n.toNat 0).toNat))) H else False else False
    | _, _, _ => opD E tmps nid H o q
  | .lookup t m k ok =>
    match E.P.underlying t, evalO tmps m, evalO tmps k with
    | some (.map kt e), .mp id, .lit kv =>
      match keyDesc E.P kt, H[id]?, zeroT E.P e with
      | some d, some (.map es _), some z => if keysOk d kv es = true then if es.all (fun x => ckOk (ckOf z) x.2) = true then
          (if ok = true then q (.tup [typed (ckOf z) (lookE es kv z), .lit (.bool (hasE es kv))]) H else forkW (typed (ckOf z) (lookE es kv z)) fun v => q v H) else False else False
      | _, _, _ => False
    | _, _, _ => opD E tmps nid H o q
  | .mapUpdate t m k x | .insert t m k x =>
    match E.P.underlying t, evalO tmps m, evalO tmps k with
    | some (.map kt _), .mp id, .lit kv =>
      match keyDesc E.P kt, H[id]? with
      | some d, some (.map es c) => if keysOk d kv es = true then q un (H.set id (.map (putE es kv (evalO tmps x)) (clockE es kv c))) else False
      | _, _ => False
    | _, _, _ => opD E tmps nid H o q
  | .next x true =>
    match evalO tmps x with
    | .it id => match H[id]? with
      | some (.iter s pos) =>
        if pos < s.size then q (.tup [.lit (.bool true), .lit (goInt pos), .lit (.int .i32 (Utf8.decode s pos).1)]) (H.set id (.iter s (pos + (Utf8.decode s pos).2)))
        else q (.tup [.lit (.bool false)]) H
      | _ => False
    | _ => False
  | _ => opD E tmps nid H o q

/-- What is known of functions. -/
abbrev Con := FuncId → List V → Nat → Heap → (V → Heap → Prop) → Prop
def ConOK (E : Env) (self : Self) (con : Con) : Prop :=
  ∀ f args nid H q, con f args nid H q → ∃ v H', callE E self f args nid H = some (v, H') ∧ q v H'

def stepW (E : Env) (con : Con) (tmps : List V) (nid : Nat) (H : Heap) (o : Oper) (q : V → Heap → Prop) : Prop :=
  match o.op with
  | .call { callee := .value g, args, .. } =>
    match evalO tmps g with
    | .fn f caps => con f (args.toList.map (evalO tmps) ++ caps) nid H fun v H => forkW v fun v => q v H
    | _ => False
  | _ => opW E tmps nid H o q

def regionW (E : Env) (con : Con) (ops : Array Oper) (q : St → Prop) : List Oper → St → Prop
  | [], s => q s
  | o :: os, s =>
    if Region.wanted o (yieldedV ops s.tmps) = true then
      if isDefer o.op = true then False else
      match panicV s.tmps o.op, panCall E s.tmps o with
      | none, none => stepW E con s.tmps s.H.length s.H o fun v H => regionW E con ops q os ⟨put s.tmps o.dst v, H, s.ds⟩
      | _, _ => False
    else regionW E con ops q os ⟨put s.tmps o.dst un, s.H, s.ds⟩

/-! Regions that draw. -/
def stepIW (E : Env) (con : Con) (ops : Array Oper) (r : DRun) (it : DItem) (s : St) (q : St → Prop) : Prop :=
  if Region.wanted it.o (yieldedV ops s.tmps) = true then
    if okI r it s.tmps s.H.length = true then
      stepW E con s.tmps (posI r it s.H.length) (maskH s.H (hidI r it)) it.o fun v H =>
        if (it.dry || decide (r.base + r.room ≤ H.length)) = true then q ⟨put s.tmps it.o.dst v, unmaskH s.H H (hidI r it), s.ds⟩ else False
    else False
  else q ⟨put s.tmps it.o.dst un, s.H, s.ds⟩
def runIW (E : Env) (con : Con) (ops : Array Oper) (r : DRun) (q : St → Prop) : List DItem → St → Prop
  | [], s => q s
  | it :: is, s => stepIW E con ops r it s fun s' => runIW E con ops r q is s'
def runPW (E : Env) (con : Con) (ops : Array Oper) (r : DRun) (q : St → Prop) : List DItem → St → Prop
  | [], s => q s
  | it :: is, s =>
    if Region.wanted it.o (yieldedV ops s.tmps) = true then
      stepW E con s.tmps (posI r it s.H.length) s.H it.o fun v H => runPW E con ops r q is ⟨put s.tmps it.o.dst v, H, s.ds⟩
    else runPW E con ops r q is ⟨put s.tmps it.o.dst un, s.H, s.ds⟩
def regionDW (E : Env) (con : Con) (ops : Array Oper) (s : St) (q : St → Prop) : Prop :=
  if E.P.follows .mixedOrders = false then False else
  if needSid E ops.toList = true then
    match planS E true ops with
    | some its => runPW E con ops ⟨true, s.H.length, slotsN E ops.toList, []⟩ (fun s1 =>
        runIW E con ops ⟨true, s.H.length, slotsN E ops.toList, ops.toList.map (sidOf s1.tmps)⟩ (fun r => q ⟨r.tmps, trimH s.H.length r.H, r.ds⟩) its (padded E ops s)) its (padded E ops s)
    | none => False
  else
    match planS E false ops with
    | some its => runIW E con ops ⟨false, s.H.length, slotsN E ops.toList, []⟩ (fun r => q ⟨r.tmps, trimH s.H.length r.H, r.ds⟩) its (padded E ops s)
    | none => False

/-- So many rounds of a loop. -/
def loopW (cw : St → (X → St → Prop) → Prop) : Nat → St → (X → St → Prop) → Prop
  | 0, _, _ => False
  | n + 1, s, q => cw s fun
    | .normal, s' => loopW cw n s' q
    | x, s' => q x s'
/-- Code; a loop is followed for u rounds. -/
def codeW (E : Env) (con : Con) (u : Nat) : Code → St → (X → St → Prop) → Prop
  | .skip, s, q => q .normal s
  | .region _ ops draw, s, q => if draw = true then regionDW E con ops s (q .normal) else regionW E con ops (q .normal) ops.toList s
  | .seq a b, s, q => codeW E con u a s fun
    | .normal, s' => codeW E con u b s' q
    | x, s' => q x s'
  | .cond c a b, s, q =>
    match evalO s.tmps c with
    | .lit (.bool t) => if t = true then codeW E con u a s q else codeW E con u b s q
    | _ => False
  | .block id b, s, q => codeW E con u b s fun
    | .exit i, s' => if i = id then q .normal s' else q (.exit i) s'
    | x, s' => q x s'
  | .loop b, s, q => loopW (fun s q => codeW E con u b s q) u s q
  | .exit id, s, q => q (.exit id) s
  | .ret, s, q => q .ret s
  | _, _, _ => False
end Go.Proofs.YtpmdlaojndejfaaGreatDoor.E

/- What is shown of values that are known in part holds of the evaluator. -/
set_option linter.unusedVariables false
set_option linter.unusedSimpArgs false
namespace Go.Proofs.YtpmdlaojndejfaaGreatDoor.E
open Go

theorem typed_eq {c : CK} {v : V} (h : ckOk c v = true) : typed c v = v := by
  unfold ckOk at h
  split at h
  · simp only [decide_eq_true_eq] at h; subst h; rfl
  · rfl
  · rfl
  · rfl
  · cases h
theorem typedFrom_eq : ∀ (sh : List CK) (pre r : List V), rowOk sh r = true → typedFrom sh (pre ++ r) pre.length = r
  | [], pre, [], h => rfl
  | [], pre, v :: r, h => by cases h
  | c :: sh, pre, [], h => by cases h
  | c :: sh, pre, v :: r, h => by
    simp only [rowOk, Bool.and_eq_true] at h
    have e : (pre ++ v :: r).getD pre.length un = v := by simp [List.getD]
    have := typedFrom_eq sh (pre ++ [v]) r h.2
    simp only [List.append_assoc, List.singleton_append, List.length_append, List.length_cons, List.length_nil] at this
    simp only [typedFrom, e, typed_eq h.1, this]
theorem rowOk_len : ∀ {sh : List CK} {r : List V}, rowOk sh r = true → r.length = sh.length
  | [], [], h => rfl
  | [], v :: r, h => by cases h
  | c :: sh, [], h => by cases h
  | c :: sh, v :: r, h => by simp only [rowOk, Bool.and_eq_true] at h; simp [rowOk_len h.2]
theorem forkW_iff {v : V} {q : V → Prop} (h : forkW v q) : q v := by
  unfold forkW at h
  split at h
  · rename_i b
    cases b
    · simpa using h
    · simpa using h
  · exact h
theorem getD_some {α : Type} {l : List α} {n : Nat} {d : α} (h : n < l.length) : l[n]? = some (l.getD n d) := by
  simp [List.getD, h]

section
variable {E : Env} {tmps : List V} {nid : Nat} {H : Heap}
theorem opD_ok {o : Oper} {q : V → Heap → Prop} (h : opD E tmps nid H o q) : ∃ v H', opE E tmps nid H o = some (v, H') ∧ q v H' := by
  unfold opD at h
  split at h
  · rename_i v H' e; exact ⟨v, H', e, forkW_iff h⟩
  · exact h.elim

theorem pureRun_bind {P : Program} {α β : Type} (f : α → Sem β) : ∀ (s : Sem α), pureRun P (s >>= f) = (pureRun P s).bind fun a => pureRun P (f a) := by
  intro s
  show pureRun P (Sem.bind s f) = _
  induction s with
  | pure b => rfl
  | program k ih => simp only [Sem.bind, pureRun]; exact ih _
  | mark m k ih => simp only [Sem.bind, pureRun]; exact ih
  | _ => rfl
theorem pureRun_under {P : Program} {t : TypeId} {d : TypeDesc} (h : P.underlying t = some d) : pureRun P (underlying t) = some d := by
  show pureRun P (Sem.bind program _) = _
  simp only [program, Sem.bind, pureRun, h]
  rfl
theorem pureRun_pure {P : Program} {α : Type} (a : α) : pureRun P (pure a : Sem α) = some a := rfl
theorem pureRun_map {P : Program} {α β : Type} (f : α → β) (s : Sem α) : pureRun P (f <$> s) = (pureRun P s).map f := by
  show pureRun P (Sem.bind s fun a => Sem.pure (f a)) = _
  have := pureRun_bind (P := P) (fun a => (Sem.pure (f a) : Sem β)) s
  rw [show (Sem.bind s fun a => Sem.pure (f a)) = (s >>= fun a => Sem.pure (f a)) from rfl, this]
  cases pureRun P s <;> rfl
theorem bound_ok {P : Program} {n y : Nat} {c : BoundsCode} (h : n ≤ y) : pureRun P (Instr.sliceBound (.int .i64 (n : Int)) y c) = some n := by
  simp only [Instr.sliceBound, asIntOf, pureRun_bind, pureRun_pure, Option.bind_some]
  rw [if_pos (by omega)]
  simp [pureRun_pure]
theorem slice_ok {s : ByteArray} {t : TypeId} {x : Operand} {lo hi : Option Operand} {dst : Option Tmp} {ty : TypeId} {pos : String} {after : Array Edge} {guard : Option (Nat × Bool)} (hu : E.P.underlying t = some .string)
    (hx : evalO tmps x = .lit (.string s)) {l h : Nat} (hlh : l ≤ h) (hh : h ≤ s.size)
    (hlo : (lo = none ∧ l = 0) ∨ ∃ y, lo = some y ∧ evalO tmps y = .lit (.int .i64 l)) (hhi : (hi = none ∧ h = s.size) ∨ ∃ y, hi = some y ∧ evalO tmps y = .lit (.int .i64 h)) :
    opE E tmps nid H { dst := dst, op := .slice t x lo hi none, type := ty, pos := pos, after := after, guard := guard } = some (.lit (.string (s.extract l h)), H) := by
  simp only [opE, hx]
  have key : toOps E.P tmps { dst := dst, op := .slice t x lo hi none, type := ty, pos := pos, after := after, guard := guard } = some (.lit (.string (s.extract l h))) := by
    unfold toOps
    have hops : (noSel (Op.slice t x lo hi none) && (Op.slice t x lo hi none).operands.toList.all fun x => (toValue? (evalO tmps x)).isSome) = true := by
      rcases hlo with ⟨rfl, _⟩ | ⟨y, rfl, hy⟩ <;> rcases hhi with ⟨rfl, _⟩ | ⟨z, rfl, hz⟩ <;> simp [noSel, Op.operands, toValue?, *]
    simp only [hops, if_true]
    have hb : pureRun E.P (Instr.sliceBounds false s.size s.size (lo.map fun y => (toValue? (evalO tmps y)).getD undef) (hi.map fun y => (toValue? (evalO tmps y)).getD undef) none) = some (l, h, s.size) := by
      rcases hlo with ⟨rfl, rfl⟩ | ⟨y, rfl, hy⟩ <;> rcases hhi with ⟨rfl, rfl⟩ | ⟨z, rfl, hz⟩ <;>
        simp [Instr.sliceBounds, pureRun_bind, pureRun_map, pureRun_pure, toValue?, bound_ok, *]
    have hr : pureRun E.P (execOp (fun x => (toValue? (evalO tmps x)).getD undef) { dst := dst, op := .slice t x lo hi none, type := ty, pos := pos, after := after, guard := guard }) = some (.value (.string (s.extract l h))) := by
      have hx' : (toValue? (evalO tmps x)).getD undef = .string s := by rw [hx]; rfl
      simp only [execOp, hx', Option.map_none, Instr.sliceAt, Instr.slice, pureRun_bind, pureRun_under hu, Option.bind_some, hb, pureRun_pure, Option.isSome_none, Bool.false_eq_true, if_false]
    rw [hr]; rfl
  rw [key]; rfl
theorem index_ok {s : ByteArray} {t : TypeId} {x i : Operand} {k : IntKind} {dst : Option Tmp} {ty : TypeId} {pos : String} {after : Array Edge} {guard : Option (Nat × Bool)} (hu : E.P.underlying t = some .string)
    (hx : evalO tmps x = .lit (.string s)) {n : Int} (hi : evalO tmps i = .lit (.int k n)) (h0 : 0 ≤ n) (h1 : n.toNat < s.size) :
    opE E tmps nid H { dst := dst, op := .index t x i, type := ty, pos := pos, after := after, guard := guard } = some (.lit (.int .u8 ((s.data.toList.getD n.toNat 0).toNat)), H) := by
  simp only [opE]
  have hs : s[n.toNat]? = some (s.data.toList.getD n.toNat 0) := by
    have h2 : n.toNat < s.data.toList.length := by simpa using h1
    rw [show s[n.toNat]? = some s[n.toNat] from getElem?_pos s n.toNat h1]
    rw [List.getD, List.getElem?_eq_getElem h2]
    simp only [Option.getD_some, Array.getElem_toList]
    rfl
  have key : toOps E.P tmps { dst := dst, op := .index t x i, type := ty, pos := pos, after := after, guard := guard } = some (.lit (.int .u8 ((s.data.toList.getD n.toNat 0).toNat))) := by
    unfold toOps
    have hops : (noSel (Op.index t x i) && (Op.index t x i).operands.toList.all fun x => (toValue? (evalO tmps x)).isSome) = true := by
      simp [noSel, Op.operands, toValue?, *]
    simp only [hops, if_true]
    have hx' : (toValue? (evalO tmps x)).getD undef = .string s := by rw [hx]; rfl
    have hi' : (toValue? (evalO tmps i)).getD undef = .int k n := by rw [hi]; rfl
    have hr : pureRun E.P (execOp (fun x => (toValue? (evalO tmps x)).getD undef) { dst := dst, op := .index t x i, type := ty, pos := pos, after := after, guard := guard }) = some (.value (.int .u8 ((s.data.toList.getD n.toNat 0).toNat))) := by
      simp only [execOp, hx', hi', Instr.index, asIntOf, pureRun_bind, pureRun_under hu, Option.bind_some, pureRun_pure, if_pos h0, hs]
    rw [hr]; rfl
  rw [key]; rfl

theorem findE_eq {d : TypeDesc} {k : Value} : ∀ (es : List (V × V)) (i : Nat), keysOk d k es = true → findI d k es i = some (findE k es i)
  | [], i, h => rfl
  | (x, v) :: es, i, h => by
    simp only [keysOk, List.all_cons, Bool.and_eq_true] at h
    obtain ⟨h1, h2⟩ := h
    have ih := findE_eq es (i + 1) h2
    unfold keyOk at h1
    split at h1
    · rename_i a b
      simp only [findI, findE, litOf, Option.bind_some, Instr.sameNow, keyEq]
      by_cases hc : (a == b) = true
      · simp only [hc, if_true]
      · rw [Bool.not_eq_true] at hc
        simp only [hc, Bool.false_eq_true, if_false, ih]
    · rename_i kd a n b n'
      simp only [decide_eq_true_eq] at h1; subst h1
      simp only [findI, findE, litOf, Option.bind_some, Instr.sameNow, keyEq, if_true]
      by_cases hc : (n == n') = true
      · simp only [hc, if_true]
      · rw [Bool.not_eq_true] at hc
        simp only [hc, Bool.false_eq_true, if_false, ih]
    · cases h1
theorem findE_mem {k : Value} : ∀ {es : List (V × V)} {i : Nat} {r : Nat × V}, findE k es i = some r → ∃ x, (x, r.2) ∈ es
  | [], i, r, h => by cases h
  | (x, v) :: es, i, r, h => by
    unfold findE at h
    split at h
    · simp only [Option.some.injEq] at h; subst h; exact ⟨x, by simp⟩
    · obtain ⟨y, hy⟩ := findE_mem h; exact ⟨y, by simp [hy]⟩
theorem ckOk_self (z : V) : ckOk (ckOf z) z = true := by
  unfold ckOf
  split <;> simp [ckOk]
theorem opW_ok {o : Oper} {q : V → Heap → Prop} (h : opW E tmps nid H o q) : ∃ v H', opE E tmps nid H o = some (v, H') ∧ q v H' := by
  obtain ⟨dst, op, ty, pos, after, guard⟩ := o
  cases op
  case indexAddr t x i =>
    simp only [opW] at h
    split at h
    · rename_i e rows k n hu hx hi
      split at h
      case h_2 => exact h.elim
      rename_i sh hsh
      split at h
      case isFalse => exact h.elim
      rename_i hsz
      split at h
      case isFalse => exact h.elim
      rename_i hok
      split at h
      case isFalse => exact h.elim
      rename_i hn
      split at h
      case isFalse => exact h.elim
      rename_i hlt
      refine ⟨_, _, ?_, h⟩
      have hr := List.all_eq_true.1 hok (rows.getD n.toNat []) (List.mem_of_getElem? (getD_some hlt))
      have e1 := typedFrom_eq sh [] _ hr
      simp only [List.nil_append, List.length_nil] at e1
      simp only [opE, indexA, hx, hi, intOf, hu, Option.bind_some, getD_some (d := []) hlt]
      rw [if_neg (by omega), e1]
      rw [if_pos ⟨by rw [rowOk_len hr]; exact hsz.1, hsz.2⟩]; rfl
    · rename_i e id ver off len k n hu hx hi
      split at h
      case h_2 => exact h.elim
      rename_i sz ver' rs hid
      split at h
      case isFalse => exact h.elim
      rename_i hv
      split at h
      case isFalse => exact h.elim
      rename_i hsz
      split at h
      case isFalse => exact h.elim
      rename_i hn
      split at h
      case isFalse => exact h.elim
      rename_i hlt
      refine ⟨_, _, ?_, h⟩
      simp only [opE, indexA, hx, hi, intOf, hu, Option.bind_some, hid]
      rw [if_neg (by omega), if_pos hlt, if_pos ⟨hv, hsz.1, hsz.2⟩]; rfl
    · exact opD_ok h
  case load t a =>
    simp only [opW] at h
    split at h
    · rename_i id ver r off ha
      split at h
      · exact opD_ok h
      rename_i hagg
      split at h
      case h_2 => exact h.elim
      rename_i sz ver' rs z hid hz
      split at h
      case isFalse => exact h.elim
      rename_i hsome
      split at h
      case isFalse => exact h.elim
      rename_i hv
      split at h
      case isFalse => exact h.elim
      rename_i hr
      split at h
      case isFalse => exact h.elim
      rename_i hoff
      split at h
      case isFalse => exact h.elim
      rename_i hck
      have h' := forkW_iff h
      rw [typed_eq hck] at h'
      refine ⟨_, _, ?_, h'⟩
      simp only [opE, loadT, ha, hid, if_pos hv, getD_some (d := []) hr, Option.bind_some, partT, if_pos hsome, if_neg hagg]
      rw [getD_some (d := un) hoff]; rfl
    · exact opD_ok h
  case store t a x =>
    simp only [opW] at h
    split at h
    case h_2 => exact h.elim
    rename_i id ver r off ha
    split at h
    case h_2 => exact h.elim
    rename_i sz ver' rs hid
    split at h
    case isFalse => exact h.elim
    rename_i hc
    split at h
    case isFalse => exact h.elim
    rename_i hv
    split at h
    case isFalse => exact h.elim
    rename_i hr
    split at h
    · rename_i h1
      split at h
      case isFalse => exact h.elim
      rename_i hl
      refine ⟨_, _, ?_, h⟩
      obtain ⟨hsz, hoff, hlen⟩ := h1
      subst hoff
      simp only [opE, storeT, ha, hid, getD_some (d := []) hr, Option.bind_some]
      rw [if_pos ⟨hv, hc.1, hc.2.1, hc.2.2⟩, if_pos (by omega)]
      have e1 : (rs.getD r []).take 0 ++ (evalO tmps x).cells ++ (rs.getD r []).drop (0 + (evalO tmps x).cells.length) = (evalO tmps x).cells := by
        rw [List.take_zero, List.nil_append, List.drop_eq_nil_of_le (by omega), List.append_nil]
      rw [e1]; rfl
    · split at h
      case isFalse => exact h.elim
      rename_i hl
      refine ⟨_, _, ?_, h⟩
      simp only [opE, storeT, ha, hid, getD_some (d := []) hr, Option.bind_some]
      rw [if_pos ⟨hv, hc.1, hc.2.1, hc.2.2⟩, if_pos hl]; rfl
  case slice t x lo hi mx =>
    cases mx with
    | some m => exact opD_ok h
    | none =>
      simp only [opW] at h
      split at h
      · rename_i s l hu hx hlo hhi
        split at h
        case isFalse => exact h.elim
        rename_i h0
        split at h
        case isFalse => exact h.elim
        rename_i h1
        refine ⟨_, _, slice_ok (l := l.toNat) (h := s.size) hu hx h1 (Nat.le_refl _) (.inr ?_) (.inl ?_), h⟩
        · cases lo with
          | none => cases hlo
          | some y => simp only [Option.map_some, Option.some.injEq] at hlo; exact ⟨y, rfl, by rw [hlo, Int.toNat_of_nonneg h0]⟩
        · cases hi with
          | none => exact ⟨rfl, rfl⟩
          | some y => cases hhi
      · rename_i s l hu hx hlo hhi
        split at h
        case isFalse => exact h.elim
        rename_i h0
        split at h
        case isFalse => exact h.elim
        rename_i h1
        refine ⟨_, _, slice_ok (l := 0) (h := l.toNat) hu hx (Nat.zero_le _) h1 (.inl ?_) (.inr ?_), h⟩
        · cases lo with
          | none => exact ⟨rfl, rfl⟩
          | some y => cases hlo
        · cases hi with
          | none => cases hhi
          | some y => simp only [Option.map_some, Option.some.injEq] at hhi; exact ⟨y, rfl, by rw [hhi, Int.toNat_of_nonneg h0]⟩
      · rename_i s l m hu hx hlo hhi
        split at h
        case isFalse => exact h.elim
        rename_i h0
        split at h
        case isFalse => exact h.elim
        rename_i h2
        split at h
        case isFalse => exact h.elim
        rename_i h1
        refine ⟨_, _, slice_ok (l := l.toNat) (h := m.toNat) hu hx (by omega) h1 (.inr ?_) (.inr ?_), h⟩
        · cases lo with
          | none => cases hlo
          | some y => simp only [Option.map_some, Option.some.injEq] at hlo; exact ⟨y, rfl, by rw [hlo, Int.toNat_of_nonneg h0]⟩
        · cases hi with
          | none => cases hhi
          | some y => simp only [Option.map_some, Option.some.injEq] at hhi; exact ⟨y, rfl, by rw [hhi, Int.toNat_of_nonneg (by omega)]⟩
      · rename_i e rows k1 l k2 m hu hx hlo hhi
        split at h
        case h_2 => exact h.elim
        rename_i sh hsh
        split at h
        case isFalse => exact h.elim
        rename_i hsz
        split at h
        case isFalse => exact h.elim
        rename_i hok
        split at h
        case isFalse => exact h.elim
        rename_i h0
        split at h
        case isFalse => exact h.elim
        rename_i h1
        split at h
        case isFalse => exact h.elim
        rename_i h2
        refine ⟨_, _, ?_, h⟩
        have hall : rows.all (fun r => r.length == sizeT E.P e) = true := List.all_eq_true.2 fun r hr => by
          have := rowOk_len (List.all_eq_true.1 hok r hr)
          simp [this, hsz.1]
        simp only [opE, hx, sliceV, hu, hlo, hhi, boundOf, intOf, Option.bind_some, if_pos h0, if_pos (show (0 : Int) ≤ m by omega)]
        rw [if_pos ⟨by omega, h2, hsz.2, hall⟩]; rfl
      · exact opD_ok h
  case makeSlice t l c =>
    simp only [opW] at h
    split at h
    · rename_i e k1 n k2 m' hu hl hcc
      split at h
      case h_2 => exact h.elim
      rename_i z hz
      split at h
      case isFalse => exact h.elim
      rename_i hs
      split at h
      case isFalse => exact h.elim
      rename_i h0
      split at h
      case isFalse => exact h.elim
      rename_i h1
      split at h
      case isFalse => exact h.elim
      rename_i h2
      split at h
      case h_2 => exact h.elim
      rename_i H' hp
      refine ⟨_, _, ?_, h⟩
      simp only [opE, hu, hl, hcc, intOf]
      rw [if_pos ⟨h0, h1, h2, hs.1, hs.2.1⟩]
      simp only [hz, Option.bind_some]
      rw [if_neg (by rw [hs.2.2.1, hs.2.2.2]; simp), hp]; rfl
    · exact opD_ok h
  case call c =>
    obtain ⟨callee, args, ats⟩ := c
    cases callee with
    | builtin bb =>
      cases bb
      case append =>
        simp only [opW] at h
        split at h
        · rename_i id ver off len x hargs
          split at h
          case h_2 => exact h.elim
          rename_i e sz ver' rs nr ha hid hnr
          split at h
          case h_2 => exact h.elim
          rename_i z hz
          split at h
          case isFalse => exact h.elim
          rename_i hs
          split at h
          case isFalse => exact h.elim
          rename_i hv
          split at h
          case isFalse => exact h.elim
          rename_i hlen
          split at h
          case isFalse => exact h.elim
          rename_i hm
          split at h
          case isFalse => exact h.elim
          rename_i ht
          refine ⟨_, _, ?_, h⟩
          obtain ⟨hs1, hs2, hs3, hs4⟩ := hs
          subst hs4
          simp only [opE, hargs, appendV, ha, hz, hnr, Option.bind_some]
          rw [if_pos hs1]
          simp only [hid]
          rw [if_pos ⟨hv, hs3, by omega, hm⟩, if_neg hs2, if_neg (by omega), if_pos (.inr ⟨ht.1, ht.2, by trivial⟩)]
          rw [List.drop_zero, hlen, List.take_of_length_le (Nat.le_refl _)]
        · exact opD_ok h
      all_goals exact opD_ok h
    | _ => exact opD_ok h
  case index t x i =>
    simp only [opW] at h
    split at h
    · rename_i s k n hu hx hi
      split at h
      case isFalse => exact h.elim
      rename_i h0
      split at h
      case isFalse => exact h.elim
      rename_i h1
      exact ⟨_, _, index_ok hu hx hi h0 h1, h⟩
    · exact opD_ok h
  case lookup t m k ok =>
    simp only [opW] at h
    split at h
    · rename_i kt e id kv hu hm hk
      split at h
      · rename_i d es c z hd hid hz
        split at h
        case isFalse => exact h.elim
        rename_i hko
        split at h
        case isFalse => exact h.elim
        rename_i hvo
        have hf := findE_eq es 0 hko
        have hty : typed (ckOf z) (lookE es kv z) = lookE es kv z := typed_eq (by
          unfold lookE
          split
          · rename_i r hr
            obtain ⟨x, hx⟩ := findE_mem hr
            exact List.all_eq_true.1 hvo _ hx
          · exact ckOk_self z)
        rw [hty] at h
        have key : lookupV E.P H t (.mp id) (.lit kv) ok = some (if ok then .tup [lookE es kv z, .lit (.bool (hasE es kv))] else lookE es kv z) := by
          simp only [lookupV, hu, hd, litOf, Option.bind_some, hid, hf, hz]
          unfold lookE hasE
          cases hfe : findE kv es 0 with
          | none => rfl
          | some r => rfl
        cases ok with
        | true => exact ⟨_, H, by simp only [opE, hm, hk, key, Option.map_some]; rfl, by simpa using h⟩
        | false => exact ⟨_, H, by simp only [opE, hm, hk, key, Option.map_some]; rfl, forkW_iff (by simpa using h)⟩
      · exact h.elim
    · exact opD_ok h
  case mapUpdate t m k x =>
    simp only [opW] at h
    split at h
    · rename_i kt e id kv hu hm hk
      split at h
      · rename_i d es c hd hid
        split at h
        case isFalse => exact h.elim
        rename_i hko
        have hf := findE_eq es 0 hko
        have key : mapPut E.P H t (.mp id) (.lit kv) (evalO tmps x) = some (H.set id (.map (putE es kv (evalO tmps x)) (clockE es kv c))) := by
          simp only [mapPut, hu, hd, litOf, Option.bind_some, hid, hf]
          unfold putE clockE
          cases findE kv es 0 <;> rfl
        exact ⟨un, _, by simp only [opE, hm, hk, key, Option.map_some], h⟩
      · exact h.elim
    · exact opD_ok h
  case insert t m k x =>
    simp only [opW] at h
    split at h
    · rename_i kt e id kv hu hm hk
      split at h
      · rename_i d es c hd hid
        split at h
        case isFalse => exact h.elim
        rename_i hko
        have hf := findE_eq es 0 hko
        have key : mapPut E.P H t (.mp id) (.lit kv) (evalO tmps x) = some (H.set id (.map (putE es kv (evalO tmps x)) (clockE es kv c))) := by
          simp only [mapPut, hu, hd, litOf, Option.bind_some, hid, hf]
          unfold putE clockE
          cases findE kv es 0 <;> rfl
        exact ⟨un, _, by simp only [opE, hm, hk, key, Option.map_some], h⟩
      · exact h.elim
    · exact opD_ok h
  case next x b =>
    cases b with
    | false => exact opD_ok h
    | true =>
      simp only [opW] at h
      split at h
      case h_2 => exact h.elim
      rename_i id hx
      split at h
      case h_2 => exact h.elim
      rename_i s p hid
      split at h
      · rename_i hp
        refine ⟨_, _, ?_, h⟩
        simp only [opE, hx, hid, if_pos hp]
      · rename_i hp
        refine ⟨_, _, ?_, h⟩
        simp only [opE, hx, hid, if_neg hp]
  all_goals exact opD_ok h
end

section
variable {E : Env} {self : Self} {con : Con}
theorem stepW_ok (hc : ConOK E self con) {tmps : List V} {nid : Nat} {H : Heap} {o : Oper} {q : V → Heap → Prop} (h : stepW E con tmps nid H o q) : ∃ v H', stepE E self tmps nid H o = some (v, H') ∧ q v H' := by
  obtain ⟨dst, op, ty, pos, after, guard⟩ := o
  by_cases hcall : ∃ g args ats, op = .call { callee := .value g, args := args, argTypes := ats }
  · obtain ⟨g, args, ats, rfl⟩ := hcall
    simp only [stepW] at h
    simp only [stepE]
    split at h
    · rename_i f caps e
      obtain ⟨v, H', h1, h2⟩ := hc _ _ _ _ _ h
      exact ⟨v, H', by simp only [e]; exact h1, forkW_iff h2⟩
    · exact h.elim
  · have h' : opW E tmps nid H { dst := dst, op := op, type := ty, pos := pos, after := after, guard := guard } q := by
      cases op with
      | call c =>
        obtain ⟨callee, args, ats⟩ := c
        cases callee with
        | value g => exact absurd ⟨_, _, _, rfl⟩ hcall
        | _ => exact h
      | _ => exact h
    obtain ⟨v, H', h1, h2⟩ := opW_ok h'
    refine ⟨v, H', ?_, h2⟩
    cases op with
    | call c =>
      obtain ⟨callee, args, ats⟩ := c
      cases callee with
      | value g => exact absurd ⟨_, _, _, rfl⟩ hcall
      | _ => exact h1
    | _ => exact h1
theorem put_length (t : List V) (d : Option Tmp) (v : V) : (put t d v).length = t.length := by
  cases d <;> simp [put]
theorem regionW_ok (hc : ConOK E self con) {ro : Option Nat} {ops : Array Oper} {q : St → Prop} : ∀ (os : List Oper) (s : St), regionW E con ops q os s → ∃ s', regionE E self ro ops os s = some (.normal, s') ∧ s'.tmps.length = s.tmps.length ∧ s'.ds = s.ds ∧ q s'
  | [], s, h => ⟨s, rfl, rfl, rfl, h⟩
  | o :: os, s, h => by
    unfold regionW at h
    unfold regionE
    split at h
    · rename_i hw
      rw [if_pos hw]
      split at h
      · exact h.elim
      rename_i hd
      rw [if_neg hd]
      split at h
      case h_2 => exact h.elim
      rename_i hp hpc
      simp only [hp, hpc]
      obtain ⟨v, H', h1, h2⟩ := stepW_ok hc h
      obtain ⟨s', h3, h4, h5, h6⟩ := regionW_ok hc (ro := ro) os _ h2
      exact ⟨s', by rw [h1]; exact h3, by rw [h4]; exact put_length _ _ _, h5, h6⟩
    · rename_i hw
      rw [if_neg hw]
      obtain ⟨s', h3, h4, h5, h6⟩ := regionW_ok hc (ro := ro) os _ h
      exact ⟨s', h3, by rw [h4]; exact put_length _ _ _, h5, h6⟩
theorem stepIW_ok (hc : ConOK E self con) {ops : Array Oper} {r : DRun} {it : DItem} {s : St} {q : St → Prop} (h : stepIW E con ops r it s q) : ∃ s', stepI E self ops r it s = some s' ∧ s'.tmps.length = s.tmps.length ∧ s'.ds = s.ds ∧ q s' := by
  unfold stepIW at h
  unfold stepI
  split at h
  · rename_i hw
    rw [if_pos hw]
    split at h
    case isFalse => exact h.elim
    rename_i ho
    rw [if_pos ho]
    obtain ⟨v, H', h1, h2⟩ := stepW_ok hc h
    split at h2
    case isFalse => exact h2.elim
    rename_i hd
    rw [h1, Option.bind_some]
    simp only [if_pos hd]
    exact ⟨_, rfl, put_length _ _ _, rfl, h2⟩
  · rename_i hw
    rw [if_neg hw]
    exact ⟨_, rfl, put_length _ _ _, rfl, h⟩
theorem runIW_ok (hc : ConOK E self con) {ops : Array Oper} {r : DRun} {q : St → Prop} : ∀ (is : List DItem) (s : St), runIW E con ops r q is s → ∃ s', runI E self ops r is s = some s' ∧ s'.tmps.length = s.tmps.length ∧ s'.ds = s.ds ∧ q s'
  | [], s, h => ⟨s, rfl, rfl, rfl, h⟩
  | it :: is, s, h => by
    unfold runIW at h
    unfold runI
    obtain ⟨s1, h1, l1, d1, h2⟩ := stepIW_ok hc h
    obtain ⟨s', h3, l2, d2, h4⟩ := runIW_ok hc is s1 h2
    exact ⟨s', by rw [h1]; exact h3, l2.trans l1, d2.trans d1, h4⟩
theorem runPW_ok (hc : ConOK E self con) {ops : Array Oper} {r : DRun} {q : St → Prop} : ∀ (is : List DItem) (s : St), runPW E con ops r q is s → ∃ s', runP E self ops r is s = some s' ∧ q s'
  | [], s, h => ⟨s, rfl, h⟩
  | it :: is, s, h => by
    unfold runPW at h
    unfold runP
    split at h
    · rename_i hw
      rw [if_pos hw]
      obtain ⟨v, H', h1, h2⟩ := stepW_ok hc h
      obtain ⟨s', h3, h4⟩ := runPW_ok hc is _ h2
      exact ⟨s', by rw [h1]; exact h3, h4⟩
    · rename_i hw
      rw [if_neg hw]
      exact runPW_ok hc is _ h
theorem regionDW_ok (hc : ConOK E self con) {ops : Array Oper} {s : St} {q : St → Prop} (h : regionDW E con ops s q) : ∃ s', regionD E self ops s = some s' ∧ s'.tmps.length = s.tmps.length ∧ s'.ds = s.ds ∧ q s' := by
  unfold regionDW at h
  unfold regionD
  split at h
  · exact h.elim
  rename_i hm
  rw [if_neg hm]
  split at h
  · rename_i hn
    simp only [if_pos hn]
    split at h
    case h_2 => exact h.elim
    rename_i its hp
    obtain ⟨s1, h1, h2⟩ := runPW_ok hc _ _ h
    obtain ⟨s2, h3, l, d, h4⟩ := runIW_ok hc _ _ h2
    exact ⟨⟨s2.tmps, trimH s.H.length s2.H, s2.ds⟩, by rw [hp, Option.bind_some, h1, Option.bind_some, h3]; rfl, l, d, h4⟩
  · rename_i hn
    simp only [if_neg hn]
    split at h
    case h_2 => exact h.elim
    rename_i its hp
    obtain ⟨s2, h3, l, d, h4⟩ := runIW_ok hc _ _ h
    exact ⟨⟨s2.tmps, trimH s.H.length s2.H, s2.ds⟩, by rw [hp, Option.bind_some, h3]; rfl, l, d, h4⟩
/-- What is shown of code, what stands behind a loop's round knows. -/
def CodeUp (E : Env) (self : Self) : Prop := ∀ ro c s r, codeE E self ro c s = some r → self.code ro c s = some r
theorem loopW_ok {ro : Option Nat} {b : Code} {cw : St → (X → St → Prop) → Prop} (hup : CodeUp E self)
    (hcw : ∀ s q, cw s q → ∃ x s', codeE E self ro b s = some (x, s') ∧ s'.tmps.length = s.tmps.length ∧ s'.ds = s.ds ∧ q x s') : ∀ (n : Nat) (s : St) (q : X → St → Prop), loopW cw n s q →
    ∃ x s', codeE E self ro (.loop b) s = some (x, s') ∧ s'.tmps.length = s.tmps.length ∧ s'.ds = s.ds ∧ q x s'
  | 0, s, q, h => h.elim
  | n + 1, s, q, h => by
    unfold loopW at h
    obtain ⟨x, s1, h1, l1, d1, h2⟩ := hcw _ _ h
    cases x with
    | normal =>
      obtain ⟨x, s', h3, l2, d2, h4⟩ := loopW_ok hup hcw n s1 q h2
      refine ⟨x, s', ?_, l2.trans l1, d2.trans d1, h4⟩
      have := hup _ _ _ _ h3
      simp only [codeE, h1, Option.bind_some]
      exact this
    | _ => exact ⟨_, s1, by simp only [codeE, h1, Option.bind_some], l1, d1, h2⟩
theorem codeW_ok (hc : ConOK E self con) (hup : CodeUp E self) {ro : Option Nat} {u : Nat} : ∀ (c : Code) (s : St) (q : X → St → Prop), codeW E con u c s q → ∃ x s', codeE E self ro c s = some (x, s') ∧ s'.tmps.length = s.tmps.length ∧ s'.ds = s.ds ∧ q x s' := by
  intro c
  induction c with
  | skip => exact fun s q h => ⟨_, _, rfl, rfl, rfl, h⟩
  | exit id => exact fun s q h => ⟨_, _, rfl, rfl, rfl, h⟩
  | ret => exact fun s q h => ⟨_, _, rfl, rfl, rfl, h⟩
  | region id ops draw =>
    intro s q h
    simp only [codeW] at h
    split at h
    · rename_i hd
      obtain ⟨s', h1, h2, h3, h4⟩ := regionDW_ok hc h
      exact ⟨.normal, s', by simp only [codeE, if_pos hd, h1]; rfl, h2, h3, h4⟩
    rename_i hd
    obtain ⟨s', h1, h2, h3, h4⟩ := regionW_ok hc (ro := ro) _ _ h
    exact ⟨.normal, s', by simp only [codeE, if_neg hd]; exact h1, h2, h3, h4⟩
  | seq a b iha ihb =>
    intro s q h
    simp only [codeW] at h
    obtain ⟨x, s1, h1, l1, d1, h2⟩ := iha _ _ h
    cases x with
    | normal =>
      obtain ⟨x, s', h3, l2, d2, h4⟩ := ihb _ _ h2
      exact ⟨x, s', by simp only [codeE, h1, Option.bind_some]; exact h3, l2.trans l1, d2.trans d1, h4⟩
    | _ => exact ⟨_, s1, by simp only [codeE, h1, Option.bind_some], l1, d1, h2⟩
  | cond cc a b iha ihb =>
    intro s q h
    simp only [codeW] at h
    split at h
    case h_2 => exact h.elim
    rename_i t ht
    simp only [codeE, ht]
    cases t
    · exact ihb _ _ (by simpa using h)
    · exact iha _ _ (by simpa using h)
  | block id b ihb =>
    intro s q h
    simp only [codeW] at h
    obtain ⟨x, s1, h1, l1, d1, h2⟩ := ihb _ _ h
    cases x with
    | exit i =>
      simp only at h2
      split at h2
      · rename_i hi
        exact ⟨.normal, s1, by simp only [codeE, h1, Option.bind_some, if_pos hi], l1, d1, h2⟩
      · rename_i hi
        exact ⟨.exit i, s1, by simp only [codeE, h1, Option.bind_some, if_neg hi], l1, d1, h2⟩
    | _ => exact ⟨_, s1, by simp only [codeE, h1, Option.bind_some], l1, d1, h2⟩
  | loop b ihb =>
    intro s q h
    simp only [codeW] at h
    exact loopW_ok hup (fun s q h => ihb s q h) u s q h
  | _ => exact fun s q h => by simp [codeW] at h

/-- A frame of n cells, some of them known, over a memory. -/
structure Fr (s : St) (n : Nat) (H : Heap) (l : List (Nat × V)) : Prop where
  len : s.tmps.length = n
  H : s.H = H
  ds : s.ds = []
  at_ : ∀ p ∈ l, s.tmps.getD p.1 un = p.2
theorem Fr.get {s : St} {n : Nat} {H : Heap} {l : List (Nat × V)} (h : Fr s n H l) (i : Nat) {v : V} (hm : (i, v) ∈ l) : s.tmps.getD i un = v := h.at_ _ hm
theorem lit_list (l : List V) : l = (List.range l.length).map fun i => l.getD i un := by
  apply List.ext_getElem?
  intro i
  by_cases h : i < l.length
  · simp [List.getD, h]
  · simp [h]
theorem Fr.eq {s : St} {n : Nat} {H : Heap} {l : List (Nat × V)} (h : Fr s n H l) : s = ⟨(List.range n).map fun i => s.tmps.getD i un, H, []⟩ := by
  obtain ⟨h1, h2, h3, _⟩ := h
  obtain ⟨t, H1, d⟩ := s
  simp only at h1 h2 h3
  subst h2; subst h3; subst h1
  simp only [St.mk.injEq, and_true]
  exact lit_list t
theorem Fr.sub {s : St} {n : Nat} {H : Heap} {l l' : List (Nat × V)} (h : Fr s n H l) (hl : ∀ p ∈ l', p ∈ l) : Fr s n H l' := ⟨h.len, h.H, h.ds, fun p hp => h.at_ p (hl p hp)⟩
end
end Go.Proofs.YtpmdlaojndejfaaGreatDoor.E

/- The evaluator with kept answers, without a bound on its rounds: a function's body is its call. -/
set_option linter.unusedVariables false
set_option linter.unusedSimpArgs false
namespace Go.Proofs.YtpmdlaojndejfaaGreatDoor.E
open Go

variable {E : Env} {tab : Tab}
theorem memo_le {a b : Self} (h : LeX a.callX b.callX) : LeX (memo tab a).callX (memo tab b).callX := by
  intro f args H r hr
  cases H with
  | nil =>
    simp only [memo] at hr ⊢
    split at hr
    · exact hr
    · exact h _ _ _ _ hr
  | cons x H => exact h _ _ _ _ hr
theorem runM_le : ∀ k, LeX (runM tab E k).callX (runM tab E (k + 1)).callX ∧ LeCode (runM tab E k).code (runM tab E (k + 1)).code
  | 0 => ⟨fun f a H r h => by simp [runM] at h, fun ro c s r h => by simp [runM] at h⟩
  | k + 1 => ⟨memo_le (bodyE_le (runM_le k).2 (runM_le k).1), codeE_le (runM_le k).1 (runM_le k).2⟩
theorem runM_mono : MonoS (runM tab E) := by
  constructor
  · intro k k' hk
    induction hk with
    | refl => exact fun f a H r h => h
    | step _ ih => exact fun f a H r h => (runM_le _).1 _ _ _ _ (ih _ _ _ _ h)
  · intro k k' hk
    induction hk with
    | refl => exact fun ro c s r h => h
    | step _ ih => exact fun ro c s r h => (runM_le _).2 _ _ _ _ (ih _ _ _ _ h)

/-- Without a bound. -/
noncomputable abbrev L (tab : Tab) (E : Env) : Self := lim (runM tab E)
theorem L_body {f : FuncId} {args : List V} {H : Heap} {r : Oc × Heap} (ht : H = [] → tab f args = none) (h : bodyE E (L tab E) f args H = some r) : (L tab E).callX f args H = some r := by
  obtain ⟨k, hk⟩ := bodyE_lim runM_mono h
  refine (lim_x runM_mono).2 ⟨k + 1, ?_⟩
  have := hk k (Nat.le_refl _)
  cases H with
  | nil => simp only [runM, memo, ht rfl]; exact this
  | cons x H => exact this
theorem L_code {ro : Option Nat} {c : Code} {s : St} {r : X × St} (h : codeE E (L tab E) ro c s = some r) : (L tab E).code ro c s = some r := by
  obtain ⟨k, hk⟩ := codeE_lim runM_mono _ _ _ _ h
  exact (lim_c runM_mono).2 ⟨k + 1, hk k (Nat.le_refl _)⟩
theorem L_runs {f : FuncId} {args : List V} {H : Heap} {r : Oc × Heap} (h : (L tab E).callX f args H = some r) : ∃ k, (runM tab E k).callX f args H = some r := (lim_x runM_mono).1 h

/-- A function's call, from its body, where nothing is deferred. -/
theorem L_fn {f : FuncId} {fn : Func} {c : Code} {args : List V} {H : Heap} (hf : E.P.funcs[f]? = some fn) (hb : fn.body = some c) (ht : H = [] → tab f args = none) {x : X} {s : St}
    (h : codeE E (L tab E) none c ⟨args ++ List.replicate (fn.ntmps - args.length) un, H, []⟩ = some (x, s)) (hx : x = .ret ∨ x = .normal) (hd : s.ds = []) {vs : List V} (hr : resE E s.tmps s.H fn.results.toList = some vs) :
    (L tab E).callX f args H = some (.ret (tupV vs), s.H) := by
  refine L_body ht ?_
  simp only [bodyE, hf, hb, Option.bind_some, h]
  rcases hx with rfl | rfl <;> simp [mdOf, hd, leaveE, finE, hr]

/-- One round of a loop that ends it; one that does not. -/
theorem loop_out {self : Self} {ro : Option Nat} {b : Code} {s s' : St} {x : X} (h : codeE E self ro b s = some (x, s')) (hx : x ≠ .normal) : codeE E self ro (.loop b) s = some (x, s') := by
  simp only [codeE, h, Option.bind_some]
  cases x <;> first | rfl | exact absurd rfl hx
theorem loop_more {ro : Option Nat} {b : Code} {s s1 : St} {r : X × St} (h : codeE E (L tab E) ro b s = some (.normal, s1)) (h2 : codeE E (L tab E) ro (.loop b) s1 = some r) : codeE E (L tab E) ro (.loop b) s = some r := by
  simp only [codeE] at h2 ⊢
  rw [h, Option.bind_some]
  exact L_code (by simp only [codeE]; exact h2)

/-- A value that lies in no memory, or some of them. -/
def litB : V → Bool
  | .lit _ => true
  | .tup vs => vs.all V.isLit
  | _ => false
theorem lits_ok {H' : Heap} {nid : Nat} : ∀ (vs : List V), vs.all V.isLit = true → trAs H' vs [] = some (vs, []) ∧ vs.map (shiftA nid) = vs ∧ vs.flatMap V.cells = vs ∧ vs.filterMap ownId = [] ∧ vs.all noOwnC = true
  | [], _ => ⟨rfl, rfl, rfl, rfl, rfl⟩
  | v :: vs, h => by
    simp only [List.all_cons, Bool.and_eq_true] at h
    obtain ⟨h1, h2⟩ := h
    obtain ⟨a1, a2, a3, a4, a5⟩ := lits_ok (H' := H') (nid := nid) vs h2
    cases v <;> simp only [V.isLit, Bool.false_eq_true] at h1
    refine ⟨by simp [trAs, trA, trC, a1], by simp [shiftA, shiftC, a2], by simp [V.cells, a3], ?_, by simp [noOwnC, a5]⟩
    rw [List.filterMap_cons]
    exact a4
/-- A call of a function that works on memory of its own and answers with values that lie in none. -/
theorem callE_pure {self : Self} {f : FuncId} {args : List V} {v : V} {H' : Heap} (hg : goodFn E.P f = true) (hb : bodyless E.P f = false) (hp : E.prim f = none) (hh : E.heapFn f = false) (ha : args.all noOwn = true) (hv : litB v = true) (h : self.callX f args [] = some (.ret v, H')) {nid : Nat} {H : Heap} :
    callE E self f args nid H = some (v, H) := by
  have hc : self.call f args [] = some (v, H') := by unfold Self.call; rw [h]; rfl
  unfold callE pcall
  simp only [hg, hp, hb, hh, ha, hc, Option.bind_some, Bool.true_eq_false, Bool.false_eq_true, if_false, if_true]
  cases v <;> simp only [litB, Bool.false_eq_true] at hv
  · rename_i x
    have e1 : List.filterMap ownId [V.lit x] = [] := rfl
    simp [tops, V.cells, noOwnC, e1, nodup, tr, trA, trC, placeAll, shift, shiftA, shiftC]
  · rename_i vs
    obtain ⟨a1, a2, a3, a4, a5⟩ := lits_ok (H' := H') (nid := nid) vs hv
    have a6 : vs.all (fun c => noOwnC c || flatOwn H' c) = true := List.all_eq_true.2 fun c hc => by simp [List.all_eq_true.1 a5 c hc]
    simp [tops, a3, a4, a6, nodup, tr, a1, placeAll, shift, a2]
end Go.Proofs.YtpmdlaojndejfaaGreatDoor.E

/- Functions by their number; parts of code by their place. -/
set_option linter.unusedVariables false
set_option linter.unusedSimpArgs false
namespace Go.Proofs.YtpmdlaojndejfaaGreatDoor.E
open Go

/-- A natural number as a whole one. -/
abbrev toI (n : Nat) : Int := (n : Int)
def atC : List Nat → Code → Code
  | [], c => c
  | 0 :: p, .seq a _ => atC p a
  | 1 :: p, .seq _ b => atC p b
  | 0 :: p, .cond _ a _ => atC p a
  | 1 :: p, .cond _ _ b => atC p b
  | 0 :: p, .block _ b => atC p b
  | 0 :: p, .loop b => atC p b
  | _, _ => .skip
def bodyOf (P : Program) (f : FuncId) : Code := ((P.funcs[f]?).bind (·.body)).getD .skip
def ntmpsOf (P : Program) (f : FuncId) : Nat := ((P.funcs[f]?).map (·.ntmps)).getD 0
def resOf (P : Program) (f : FuncId) : List ResultVar := ((P.funcs[f]?).map (·.results.toList)).getD []
def hasBody (P : Program) (f : FuncId) : Bool := ((P.funcs[f]?).bind (·.body)).isSome

variable {E : Env} {tab : Tab}
theorem L_of {f : FuncId} {args : List V} {H : Heap} (hb : hasBody E.P f = true) (ht : H = [] → tab f args = none) {x : X} {s : St}
    (h : codeE E (L tab E) none (bodyOf E.P f) ⟨args ++ List.replicate (ntmpsOf E.P f - args.length) un, H, []⟩ = some (x, s)) (hx : x = .ret ∨ x = .normal) (hd : s.ds = []) {vs : List V} (hr : resE E s.tmps s.H (resOf E.P f) = some vs) :
    (L tab E).callX f args H = some (.ret (tupV vs), s.H) := by
  unfold hasBody at hb
  unfold bodyOf ntmpsOf at h
  unfold resOf at hr
  cases hf : E.P.funcs[f]? with
  | none => rw [hf] at hb; cases hb
  | some fn =>
    rw [hf] at hb h hr
    cases hc : fn.body with
    | none => simp [hc] at hb
    | some c =>
      simp only [Option.bind_some, hc, Option.getD_some, Option.map_some] at h hr
      exact L_fn hf hc ht h hx hd hr

section
variable {self : Self} {ro : Option Nat} {a b : Code} {s s1 : St} {x : X} {r : X × St}
theorem seq_n (h1 : codeE E self ro a s = some (.normal, s1)) (h2 : codeE E self ro b s1 = some r) : codeE E self ro (.seq a b) s = some r := by
  simp only [codeE, h1, Option.bind_some]; exact h2
theorem seq_x (h1 : codeE E self ro a s = some (x, s1)) (hx : x ≠ .normal) : codeE E self ro (.seq a b) s = some (x, s1) := by
  simp only [codeE, h1, Option.bind_some]
  cases x <;> first | rfl | exact absurd rfl hx
theorem block_exit {id : Nat} (h : codeE E self ro a s = some (.exit id, s1)) : codeE E self ro (.block id a) s = some (.normal, s1) := by
  simp only [codeE, h, Option.bind_some, if_true]
theorem block_n {id : Nat} (h : codeE E self ro a s = some (.normal, s1)) : codeE E self ro (.block id a) s = some (.normal, s1) := by
  simp only [codeE, h, Option.bind_some]
theorem block_ret {id : Nat} (h : codeE E self ro a s = some (.ret, s1)) : codeE E self ro (.block id a) s = some (.ret, s1) := by
  simp only [codeE, h, Option.bind_some]
theorem block_far {id i : Nat} (hi : i ≠ id) (h : codeE E self ro a s = some (.exit i, s1)) : codeE E self ro (.block id a) s = some (.exit i, s1) := by
  simp only [codeE, h, Option.bind_some, if_neg hi]
theorem cond_t {c : Operand} (hc : evalO s.tmps c = .lit (.bool true)) (h : codeE E self ro a s = some r) : codeE E self ro (.cond c a b) s = some r := by
  simp only [codeE, hc, if_true]; exact h
theorem cond_f {c : Operand} (hc : evalO s.tmps c = .lit (.bool false)) (h : codeE E self ro b s = some r) : codeE E self ro (.cond c a b) s = some r := by
  simp only [codeE, hc, Bool.false_eq_true, if_false]; exact h
end
end Go.Proofs.YtpmdlaojndejfaaGreatDoor.E

/- What a function answers; what is known of functions, gathered. -/
set_option linter.unusedVariables false
set_option linter.unusedSimpArgs false
namespace Go.Proofs.YtpmdlaojndejfaaGreatDoor.E
open Go

/-- The results, where code ends. -/
def finW (E : Env) (rs : List ResultVar) (q : V → Heap → Prop) (x : X) (s : St) : Prop :=
  match x with
  | .ret | .normal => match resE E s.tmps s.H rs with
    | some vs => q (tupV vs) s.H
    | none => False
  | _ => False
variable {E : Env} {tab : Tab}
/-- Where a function begins. -/
theorem Fr.entry {f : FuncId} {n : Nat} {args : List V} {H : Heap} {l : List (Nat × V)} (hn : ntmpsOf E.P f = n) (hlen : args.length ≤ n) (hl : ∀ p ∈ l, args[p.1]? = some p.2) :
    Fr ⟨args ++ List.replicate (ntmpsOf E.P f - args.length) un, H, []⟩ n H l := by
  refine ⟨?_, rfl, rfl, fun p hp => ?_⟩
  · simp only [List.length_append, List.length_replicate, hn]; omega
  · have := hl p hp
    have hlt : p.1 < args.length := (List.getElem?_eq_some_iff.1 this).1
    simp only [List.getD, List.getElem?_append_left hlt, this, Option.getD_some]
theorem L_fin {f : FuncId} {args : List V} {H : Heap} {q : V → Heap → Prop} (hb : hasBody E.P f = true) (ht : H = [] → tab f args = none) {x : X} {s : St}
    (h : codeE E (L tab E) none (bodyOf E.P f) ⟨args ++ List.replicate (ntmpsOf E.P f - args.length) un, H, []⟩ = some (x, s)) (hd : s.ds = []) (hf : finW E (resOf E.P f) q x s) :
    ∃ v H', (L tab E).callX f args H = some (.ret v, H') ∧ q v H' := by
  unfold finW at hf
  split at hf
  · split at hf
    · rename_i vs hr; exact ⟨_, _, L_of hb ht h (.inl rfl) hd hr, hf⟩
    · exact hf.elim
  · split at hf
    · rename_i vs hr; exact ⟨_, _, L_of hb ht h (.inr rfl) hd hr, hf⟩
    · exact hf.elim
  · exact hf.elim
theorem L_up : CodeUp E (L tab E) := fun ro c s r h => L_code h
theorem L_finW {con : Con} (hc : ConOK E (L tab E) con) {u : Nat} {f : FuncId} {args : List V} {H : Heap} {q : V → Heap → Prop} (hb : hasBody E.P f = true) (ht : H = [] → tab f args = none)
    (h : codeW E con u (bodyOf E.P f) ⟨args ++ List.replicate (ntmpsOf E.P f - args.length) un, H, []⟩ (finW E (resOf E.P f) q)) : ∃ v H', (L tab E).callX f args H = some (.ret v, H') ∧ q v H' := by
  obtain ⟨x, s, h1, h2, h3, h4⟩ := codeW_ok hc L_up (ro := none) _ _ _ h
  exact L_fin hb ht h1 h3 h4

theorem fin_tmp {f : FuncId} {t : Nat} {v : V} {q : V → Heap → Prop} {x : X} {s : St} (hr : resOf E.P f = [.tmp t]) (hx : x = .ret ∨ x = .normal) (hv : s.tmps.getD t un = v) (hq : q v s.H) : finW E (resOf E.P f) q x s := by
  subst hv
  rw [hr]
  rcases hx with rfl | rfl <;> simpa [finW, resE, tupV] using hq
theorem L_ans {f : FuncId} {args : List V} {v : V} (hb : hasBody E.P f = true) (ht : tab f args = none) {x : X} {s : St}
    (h : codeE E (L tab E) none (bodyOf E.P f) ⟨args ++ List.replicate (ntmpsOf E.P f - args.length) un, [], []⟩ = some (x, s)) (hd : s.ds = []) (hf : finW E (resOf E.P f) (fun v' _ => v' = v) x s) :
    ∃ H', (L tab E).callX f args [] = some (.ret v, H') := by
  obtain ⟨v', H', k1, rfl⟩ := L_fin hb (fun _ => ht) h hd hf
  exact ⟨H', k1⟩
/-- A function on memory of its own that answers with a value that lies in none: a condition, the value. -/
abbrev PSpec := List V → Option (Bool × V)
def addP (f0 : FuncId) (spec : PSpec) (con : Con) : Con := fun f args nid H q =>
  if f = f0 then (match spec args with
    | some (p, v) => if p = true then q v H else False
    | none => False)
  else con f args nid H q
def isPure (E : Env) (f : FuncId) : Bool := goodFn E.P f && !bodyless E.P f && (E.prim f).isNone && !E.heapFn f
theorem addP_ok {f0 : FuncId} {spec : PSpec} {con : Con} (h : ConOK E (L tab E) con) (hp : isPure E f0 = true)
    (hs : ∀ args v, spec args = some (true, v) → args.all noOwn = true ∧ litB v = true ∧ ∃ H', (L tab E).callX f0 args [] = some (.ret v, H')) : ConOK E (L tab E) (addP f0 spec con) := by
  intro f args nid H q hq
  unfold addP at hq
  split at hq
  · rename_i hf
    subst hf
    split at hq
    · rename_i p v hsp
      split at hq
      · rename_i hpt
        subst hpt
        obtain ⟨h1, h2, H', h3⟩ := hs args v hsp
        simp only [isPure, Bool.and_eq_true, Bool.not_eq_true'] at hp
        refine ⟨v, H, callE_pure hp.1.1.1 hp.1.1.2 (by simpa using hp.1.2) hp.2 h1 h2 h3, hq⟩
      · exact hq.elim
    · exact hq.elim
  · exact h f args nid H q hq
/-- A function of the machine's own. -/
def addX (P : Program) (f0 : FuncId) (con : Con) : Con := fun f args nid H q =>
  if f = f0 then (match valuesOf args with
    | some xs => match pureRun P (callFunc f0 xs.toArray) with
      | some (.value v) => q (ofValue v) H
      | _ => False
    | none => False)
  else con f args nid H q
theorem addX_ok {self : Self} {f0 : FuncId} {con : Con} (h : ConOK E self con) (hp : E.prim f0 = none) (hg : goodFn E.P f0 = true) (hb : bodyless E.P f0 = true) : ConOK E self (addX E.P f0 con) := by
  intro f args nid H q hq
  unfold addX at hq
  split at hq
  · rename_i hf
    subst hf
    split at hq
    · rename_i xs hx
      split at hq
      · rename_i v hv
        refine ⟨ofValue v, H, ?_, hq⟩
        unfold callE
        simp only [hg, hp, hb, Bool.true_eq_false, if_false, if_true, hx, Option.bind_some, hv]
      · exact hq.elim
    · exact hq.elim
  · exact h f args nid H q hq
/-- A contract of the library's: as it stands in the environment. -/
def addE (f0 : FuncId) (p : List V → Heap → Option (V × Heap)) (con : Con) : Con := fun f args nid H q =>
  if f = f0 then (match p args H with
    | some (v, H') => q v H'
    | none => False)
  else con f args nid H q
theorem addE_ok {self : Self} {f0 : FuncId} {p : List V → Heap → Option (V × Heap)} {con : Con} (h : ConOK E self con) (hp : E.prim f0 = some p) (hg : goodFn E.P f0 = true) (hb : bodyless E.P f0 = false) : ConOK E self (addE f0 p con) := by
  intro f args nid H q hq
  unfold addE at hq
  split at hq
  · rename_i hf
    subst hf
    split at hq
    · rename_i v H' e
      refine ⟨v, H', ?_, hq⟩
      unfold callE
      simp only [hg, hp, hb, Bool.true_eq_false, Bool.false_eq_true, if_false]
      exact e
    · exact hq.elim
  · exact h f args nid H q hq
end Go.Proofs.YtpmdlaojndejfaaGreatDoor.E
