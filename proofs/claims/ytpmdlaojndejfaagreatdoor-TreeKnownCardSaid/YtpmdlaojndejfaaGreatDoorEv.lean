/- Regions that draw: if what stands unordered may be exchanged, the order of the text serves every order. -/
import Derived.OrdersIn
import Derived.Test.YtpmdlaojndejfaaGreatDoorEu
set_option linter.unusedVariables false
set_option linter.unusedSimpArgs false
namespace Go.Proofs.YtpmdlaojndejfaaGreatDoor.E
open Go

theorem ancM_bit (acc : List Nat) (l : List Nat) (i : Nat) (h : (ancM acc l).testBit i = true) : ∃ e ∈ l, e = i ∨ (acc.getD e 0).testBit i = true := by
  have key : ∀ (l : List Nat) (s : Nat), (l.foldl (fun s e => s ||| 2 ^ e ||| acc.getD e 0) s).testBit i = true → s.testBit i = true ∨ ∃ e ∈ l, e = i ∨ (acc.getD e 0).testBit i = true := by
    intro l
    induction l with
    | nil => intro s h; exact .inl h
    | cons x l ih =>
      intro s h
      simp only [List.foldl_cons] at h
      rcases ih _ h with h | ⟨e, he, h⟩
      · rw [Nat.testBit_or, Nat.testBit_or, Bool.or_eq_true, Bool.or_eq_true] at h
        rcases h with (h | h) | h
        · exact .inl h
        · exact .inr ⟨x, by simp, .inl (by rw [Nat.testBit_two_pow] at h; simpa using h)⟩
        · exact .inr ⟨x, by simp, .inr h⟩
      · exact .inr ⟨e, by simp [he], h⟩
  rcases key l 0 h with h | h
  · simp at h
  · exact h

theorem ancL_pre : ∀ (os : List Oper) (acc : List Nat), ∃ r, ancL acc os = acc ++ r ∧ r.length = os.length
  | [], acc => ⟨[], by simp [ancL], rfl⟩
  | o :: os, acc => by
    obtain ⟨r, h1, h2⟩ := ancL_pre os (acc ++ [ancM acc (dirs o)])
    exact ⟨ancM acc (dirs o) :: r, by simp [ancL, h1], by simp [h2]⟩
theorem ancL_get : ∀ (os : List Oper) (acc : List Nat) (k : Nat) (o : Oper), os[k]? = some o →
    (ancL acc os)[acc.length + k]? = some (ancM ((ancL acc os).take (acc.length + k)) (dirs o))
  | [], acc, k, o, h => by simp at h
  | o' :: os, acc, k, o, h => by
    cases k with
    | zero =>
      simp at h; subst h
      obtain ⟨r, h1, h2⟩ := ancL_pre os (acc ++ [ancM acc (dirs o')])
      simp only [ancL, h1, Nat.add_zero]
      rw [List.getElem?_append_left (by simp)]
      simp
    | succ k =>
      have := ancL_get os (acc ++ [ancM acc (dirs o')]) k o (by simpa using h)
      simp only [ancL]
      have e : (acc ++ [ancM acc (dirs o')]).length + k = acc.length + (k + 1) := by simp; omega
      rw [e] at this; exact this

/-- Whoever waits, waits by an edge, or by one who waits. -/
theorem waits_edge {ops : List Oper} {j i : Nat} (h : waits ops j i = true) : ∃ o, ops[j]? = some o ∧ ∃ e ∈ dirs o, e = i ∨ waits ops e i = true := by
  unfold waits ancS at h
  have hj : j < (ancL [] ops).length := by
    rcases Nat.lt_or_ge j (ancL [] ops).length with h' | h'
    · exact h'
    · rw [List.getD, List.getElem?_eq_none h'] at h; simp at h
  obtain ⟨r, h1, h2⟩ := ancL_pre ops []
  have hj' : j < ops.length := by rw [h1] at hj; simpa [h2] using hj
  have ho : ops[j]? = some ops[j] := by simp [hj']
  have hg := ancL_get ops [] j _ ho
  simp only [List.length_nil, Nat.zero_add] at hg
  rw [List.getD, hg] at h
  obtain ⟨e, he, h⟩ := ancM_bit _ _ _ h
  refine ⟨_, ho, e, he, h.imp id fun h => ?_⟩
  unfold waits ancS
  rw [List.getD, List.getElem?_take] at h
  split at h
  · exact h
  · simp at h

section
variable {step : Nat → St → Option St} {ops : Array Oper} {sN : St}

def runN (step : Nat → St → Option St) : List Nat → St → Option St
  | [], s => some s
  | i :: is, s => (step i s).bind fun s' => runN step is s'

def anyD (step : Nat → St → Option St) (ops : Array Oper) (sN : St) : Nat → Array Bool → St → Prop
  | 0, listed, s => Region.ready .any ops listed = [] ∧ s = sN
  | k + 1, listed, s => (Region.ready .any ops listed = [] → s = sN) ∧ ∀ i ∈ Region.ready .any ops listed, ∃ s', step i s = some s' ∧ anyD step ops sN k (listed.setIfInBounds i true) s'

def ClosedD (ops : Array Oper) (listed : Array Bool) : Prop := ∀ j, listed.getD j false = true → ∀ i, waits ops.toList j i = true → listed.getD i false = true

theorem ready_waits {listed : Array Bool} (hc : ClosedD ops listed) {j : Nat} (hj : j ∈ Region.ready .any ops listed) {i : Nat} (hw : waits ops.toList j i = true) : listed.getD i false = true := by
  obtain ⟨_, o, ho, hall⟩ := mem_ready.1 hj
  obtain ⟨o', ho', e, he, h⟩ := waits_edge hw
  have : ops.toList[j]? = some o := by simpa using ho
  rw [this] at ho'; cases ho'
  simp only [dirs, List.mem_map, List.mem_filter] at he
  obtain ⟨ed, ⟨h1, h2⟩, rfl⟩ := he
  have hl := hall ed (Array.mem_toList_iff.1 h1) h2
  rcases h with rfl | h
  · exact hl
  · exact hc _ hl _ h

theorem ClosedD.set {listed : Array Bool} (hc : ClosedD ops listed) {j : Nat} (hj : j ∈ Region.ready .any ops listed) : ClosedD ops (listed.setIfInBounds j true) := by
  intro m hm i hw
  by_cases e : m = j
  · subst e
    have := ready_waits hc hj hw
    exact getD_set_true this
  · rw [getD_set_ne false (Ne.symm e)] at hm
    exact getD_set_true (hc m hm i hw)

def CommD (step : Nat → St → Option St) (i j : Nat) : Prop :=
  ∀ s s1 s2, step i s = some s1 → step j s1 = some s2 → ∃ s1', step j s = some s1' ∧ step i s1' = some s2

theorem anyD_first {i : Nat} (hcomm : ∀ j, i < j → j < ops.size → waits ops.toList j i = false → CommD step i j) : ∀ (k : Nat) (listed : Array Bool) (s s1 : St), ClosedD ops listed → (∀ m, m < i → listed.getD m true = true) →
    listed.size = ops.size → i ∈ Region.ready .any ops listed → step i s = some s1 → anyD step ops sN k (listed.setIfInBounds i true) s1 → anyD step ops sN (k + 1) listed s := by
  intro k
  induction k with
  | zero =>
    intro listed s s1 hc hl hsz hr h1 H
    unfold anyD
    refine ⟨fun h => (by rw [h] at hr; cases hr), fun j hj => ?_⟩
    by_cases hji : j = i
    · subst hji; exact ⟨s1, h1, H⟩
    · have := ready_mono hj hji
      unfold anyD at H
      rw [H.1] at this; cases this
  | succ k ih =>
    intro listed s s1 hc hl hsz hr h1 H
    unfold anyD
    refine ⟨fun h => (by rw [h] at hr; cases hr), fun j hj => ?_⟩
    by_cases hji : j = i
    · subst hji; exact ⟨s1, h1, H⟩
    · have H0 := H
      unfold anyD at H0
      obtain ⟨s2, h2, H2⟩ := H0.2 j (ready_mono hj hji)
      have hun := (mem_ready.1 hj).1
      have hjl : j < ops.size := by
        rw [← hsz]
        rcases Nat.lt_or_ge j listed.size with h | h
        · exact h
        · simp [Array.getElem?_eq_none h] at hun
      have hij : i < j := by
        rcases Nat.lt_or_ge i j with h | h
        · exact h
        · have : j < i := by omega
          rw [hl j this] at hun; cases hun
      have hnw : waits ops.toList j i = false := by
        cases hw : waits ops.toList j i with
        | false => rfl
        | true =>
          have h3 := ready_waits hc hj hw
          have h4 := (mem_ready.1 hr).1
          rcases Nat.lt_or_ge i listed.size with h | h
          · simp [h] at h3 h4; rw [h3] at h4; cases h4
          · simp [Array.getElem?_eq_none h] at h4
      obtain ⟨s1', h3, h4⟩ := hcomm j hij hjl hnw s s1 s2 h1 h2
      refine ⟨s1', h3, ih (listed.setIfInBounds j true) s1' s2 (hc.set hj) (fun m hm => ?_) (by simpa using hsz) (ready_mono hr (Ne.symm hji)) h4 ?_⟩
      · have := hl m hm
        by_cases e : j = m
        · subst e; simp [hsz ▸ hjl]
        · rw [getD_set_ne true e]; exact this
      · rw [Array.setIfInBounds_comm _ _ hji]; exact H2

theorem anyD_lex (hdir : ∀ (j : Nat) (o : Oper), ops[j]? = some o → ∀ e ∈ dirs o, e < j)
    (hcomm : ∀ i j, i < j → j < ops.size → waits ops.toList j i = false → CommD step i j) : ∀ (n k : Nat) (listed : Array Bool) (s : St), k + n = ops.size → listed.size = ops.size →
    (∀ m, listed.getD m true = false ↔ k ≤ m ∧ m < ops.size) → runN step (List.range' k n) s = some sN → anyD step ops sN n listed s
  | 0, k, listed, s, hk, hsz, hl, h => by
    simp [runN] at h; subst h
    unfold anyD
    refine ⟨?_, rfl⟩
    apply List.eq_nil_iff_forall_not_mem.2
    intro m hm
    have := (mem_ready.1 hm).1
    have := (hl m).1 this; omega
  | n + 1, k, listed, s, hk, hsz, hl, h => by
    simp only [List.range'_succ, runN, Option.bind_eq_some_iff] at h
    obtain ⟨s1, h1, h2⟩ := h
    have hlt : k < ops.size := by omega
    have listedT : ∀ m, m < k → listed.getD m false = true := by
      intro m hm
      have : ¬ (listed.getD m true = false) := by rw [hl m]; omega
      have hms : m < listed.size := by omega
      simp [hms] at this ⊢; exact this
    have hr : k ∈ Region.ready .any ops listed := by
      rw [mem_ready]
      refine ⟨(hl k).2 ⟨Nat.le_refl _, hlt⟩, ops[k], by simp [hlt], fun e he hb => listedT _ ?_⟩
      refine hdir k ops[k] (by simp [hlt]) e.on ?_
      simp only [dirs, List.mem_map, List.mem_filter]
      exact ⟨e, ⟨Array.mem_toList_iff.2 he, hb⟩, rfl⟩
    have hcl : ClosedD ops listed := by
      intro j hj i hw
      have hjk : j < k := by
        rcases Nat.lt_or_ge j k with h | h
        · exact h
        · have hjs : j < listed.size := by
            rcases Nat.lt_or_ge j listed.size with h' | h'
            · exact h'
            · simp [Array.getElem?_eq_none h'] at hj
          have := (hl j).2 ⟨h, by omega⟩
          simp [hjs] at this hj; rw [hj] at this; cases this
      -- whoever waits stands behind
      have key : ∀ j, ∀ i, waits ops.toList j i = true → i < j := by
        intro j
        induction j using Nat.strongRecOn with
        | _ j ih =>
          intro i hw
          obtain ⟨o, ho, e, he, h⟩ := waits_edge hw
          have hej := hdir j o (by simpa using ho) e he
          rcases h with rfl | h
          · exact hej
          · have := ih e hej i h; omega
      exact listedT i (by have := key j i hw; omega)
    have ih := anyD_lex hdir hcomm n (k + 1) (listed.setIfInBounds k true) s1 (by omega) (by simpa using hsz) (fun m => ?_) h2
    · refine anyD_first (fun j hij hjl hnw => hcomm k j hij hjl hnw) n listed s s1 hcl (fun m hm => ?_) hsz hr h1 ih
      have hms : m < listed.size := by omega
      have := listedT m hm
      simp [hms] at this ⊢; exact this
    · by_cases e : k = m
      · subst e
        constructor
        · intro h; simp [hsz ▸ hlt] at h
        · intro ⟨h, _⟩; omega
      · rw [getD_set_ne true e, hl m]; omega
end
end Go.Proofs.YtpmdlaojndejfaaGreatDoor.E
