/- The evaluator's operations against the machine's: maps, texts by code points, all operations that call nothing. -/
import Derived.Test.YtpmdlaojndejfaaGreatDoorEh
set_option linter.unusedVariables false
set_option linter.unusedSimpArgs false
namespace Go.Proofs.YtpmdlaojndejfaaGreatDoor.E
open Go

section
variable {P : Program} {N A : Nat → Prop} {ι : Nat → Lk} {H H' : Heap} {w : World}

def MR (A : Nat → Prop) (ι : Nat → Lk) (H : Heap) (w : World) (es : List (V × V)) (fs : List MapEntry) : Prop :=
  fs.length = es.length ∧ ∀ (i : Nat) (k v : V), es[i]? = some (k, v) → ∃ e, fs[i]? = some e ∧ VR A ι H w k e.key ∧ VR A ι H w v e.val

theorem findI_sound (d : TypeDesc) (k : Value) : ∀ (es : List (V × V)) (fs : List MapEntry) (i : Nat) (r : Option (Nat × V)), MR A ι H w es fs → findI d k es i = some r →
    match r with
    | none => Instr.findNow d k fs i = some none
    | some (j, v) => ∃ cv, Instr.findNow d k fs i = some (some (j, cv)) ∧ VR A ι H w v cv ∧ i ≤ j ∧ j - i < es.length ∧ ∃ e, fs[j - i]? = some e ∧ Instr.sameNow d k e.key = some true
  | [], fs, i, r, hm, h => by
    simp [findI] at h; subst h
    have : fs = [] := List.length_eq_zero_iff.1 (by simpa using hm.1)
    subst this; simp [Instr.findNow]
  | (k', v) :: es, fs, i, r, hm, h => by
    simp only [findI, Option.bind_eq_some_iff] at h
    obtain ⟨kv, hk, h⟩ := h
    obtain ⟨e, he, hkr, hvr⟩ := hm.2 0 k' v (by simp)
    cases fs with
    | nil => simp at he
    | cons f fs =>
      simp at he; subst he
      have e1 := litOf_eq hk hkr
      have hm' : MR A ι H w es fs := ⟨by simpa using hm.1, fun i k v a => by simpa using hm.2 (i + 1) k v (by simpa using a)⟩
      split at h
      · rename_i hs
        simp only [Option.some.injEq] at h; subst h
        refine ⟨f.val, by simp [Instr.findNow, e1, hs], hvr, Nat.le_refl _, by simp, f, by simp, by rw [e1]; exact hs⟩
      · rename_i hs
        have ih := findI_sound d k es fs (i + 1) r hm' h
        cases r with
        | none => simp only at ih ⊢; simp [Instr.findNow, e1, hs, ih]
        | some jv =>
          obtain ⟨j, v'⟩ := jv
          obtain ⟨cv, p, q, r1, r2, e2, r3, r4⟩ := ih
          refine ⟨cv, by simp [Instr.findNow, e1, hs, p], q, by omega, by simp; omega, e2, ?_, r4⟩
          have : j - i = (j - (i + 1)) + 1 := by omega
          rw [this]; simpa using r3
      · cases h

theorem keyDesc_some {t : TypeId} {d : TypeDesc} (h : keyDesc P t = some d) : P.underlying t = some d ∧ (d = .string ∨ ∃ k, d = .int k) := by
  unfold keyDesc at h
  split at h
  · rename_i hu; simp at h; subst h; exact ⟨hu, .inl rfl⟩
  · rename_i k hu; simp at h; subst h; exact ⟨hu, .inr ⟨k, rfl⟩⟩
  · cases h

theorem run_checkKey {t : TypeId} {d : TypeDesc} (h : keyDesc P t = some d) (b : Bool) (v : Value) (w : World) : (Instr.checkKey b 10000 t v).run P w = .ok () w := by
  obtain ⟨hu, hd⟩ := keyDesc_some h
  have e : (10000 : Nat) = 9999 + 1 := rfl
  rw [e]
  unfold Instr.checkKey
  rcases hd with rfl | ⟨k, rfl⟩ <;> simp [run_underlying hu]

theorem run_getObj {r : Nat} {o : Obj} (h : w.heap[r]? = some o) (hc : ∀ c e f, o ≠ .cells c e f) : (getObj r).run P w = .ok o w := by
  simp only [getObj, Sem.run, h]
theorem run_setObj {r : Nat} {o o' : Obj} (h : w.heap[r]? = some o) (hc : ∀ c e f, o ≠ .cells c e f) : (setObj r o').run P w = .ok () { w with heap := w.heap.setIfInBounds r o' } := by
  simp only [setObj, Sem.run, h]

theorem lookup_sound (hs : SR N A ι H w) {t : TypeId} {m k v : V} {cm ck : Value} {ok : Bool} (hm : VR A ι H w m cm) (hk : VR A ι H w k ck) (h : lookupV P H t m k ok = some v) :
    ∃ cv, (Instr.lookup t cm ck ok).run P w = .ok cv w ∧ VR A ι H w v cv := by
  unfold lookupV at h
  split at h
  case h_2 => cases h
  rename_i kt e id hu
  simp only [Option.bind_eq_some_iff] at h
  obtain ⟨d, hd, kv, hkv, h⟩ := h
  have e1 := litOf_eq hkv hk
  subst e1
  split at h
  case h_2 => cases h
  rename_i es c hid
  simp only [Option.bind_eq_some_iff] at h
  obtain ⟨r, hr, h⟩ := h
  cases hm with
  | mp _ blk hid' hf hrr =>
    obtain ⟨es', m1, m2, m3⟩ := hs.live id _ hid
    have hmr : MR A ι H w es es'.toList := ⟨by simpa using m2, fun i k v a => by simpa using m3 i k v a⟩
    have hf := findI_sound d ck es es'.toList 0 r hmr hr
    have hg := run_getObj (P := P) m1 (fun _ _ _ e => by cases e)
    have hkd := (keyDesc_some hd).1
    have hfk : ∀ x, Instr.findNow d ck es'.toList 0 = some x → (Instr.findKey kt ck es'.toList).run P w = .ok x w := by
      intro x hx; simp [Instr.findKey, run_underlying hkd, hx]
    cases r with
    | none =>
      simp only at hf h
      simp only [Option.map_eq_some_iff] at h
      obtain ⟨z, hz, rfl⟩ := h
      obtain ⟨i, zv, hi, hzv, rfl⟩ := zeroT_some hz
      refine ⟨if ok then .tuple #[zv, .bool false] else zv, by simp [Instr.lookup, run_underlying hu, hg, run_checkKey hd, hfk _ hf, zeroValue, typeInfo, hi, hzv], ?_⟩
      cases ok
      · exact .ofValue zv
      · refine .tup _ _ (by simp) fun i c cv a b => ?_
        match i with
        | 0 => simp at a b; subst a b; exact .ofValue zv
        | 1 => simp at a b; subst a b; exact .lit _
        | i + 2 => simp at a
    | some jv =>
      obtain ⟨j, v'⟩ := jv
      simp only at hf h
      obtain ⟨cv, p, q, _⟩ := hf
      simp only [Option.some.injEq] at h; subst h
      refine ⟨if ok then .tuple #[cv, .bool true] else cv, by simp [Instr.lookup, run_underlying hu, hg, run_checkKey hd, hfk _ p], ?_⟩
      cases ok
      · exact q
      · refine .tup _ _ (by simp) fun i c cv a b => ?_
        match i with
        | 0 => simp at a b; subst a b; exact q
        | 1 => simp at a b; subst a b; exact .lit _
        | i + 2 => simp at a

theorem bytes_beq (a b : ByteArray) : (a == b) = true ↔ a = b := by
  obtain ⟨x⟩ := a
  obtain ⟨y⟩ := b
  constructor
  · intro h
    have e : x = y := by simpa using (show (x == y) = true from h)
    rw [e]
  · intro h
    cases h
    show (x == x) = true
    simp

theorem sameBits_of {d : TypeDesc} {k k' : Value} (h : Instr.sameNow d k k' = some true) (n : Nat) : Instr.sameBits n k' k = true := by
  unfold Instr.sameNow at h
  split at h
  · rename_i j a j' b
    split at h
    · rename_i e; subst e
      simp at h; subst h
      cases n <;> simp [Instr.sameBits]
    · cases h
  · rename_i a b
    have e := (bytes_beq a b).1 (Option.some.inj h)
    subst e
    cases n <;> exact (bytes_beq a a).2 rfl
  · rename_i a b
    simp at h; subst h
    cases n <;> simp [Instr.sameBits]
  · cases h

theorem mapPut_sound (hs : SR N A ι H w) {t : TypeId} {m k v : V} {cm ck cv : Value} (hm : VR A ι H w m cm) (hk : VR A ι H w k ck) (hv : VR A ι H w v cv) (h : mapPut P H t m k v = some H') :
    ∃ w' ι', (Instr.mapUpdate t cm ck cv).run P w = .ok () w' ∧ Ext N A ι H w N A ι' H' w' := by
  unfold mapPut at h
  split at h
  case h_2 => cases h
  rename_i kt e id hu
  simp only [Option.bind_eq_some_iff] at h
  obtain ⟨d, hd, kv, hkv, h⟩ := h
  have e1 := litOf_eq hkv hk
  subst e1
  split at h
  case h_2 => cases h
  rename_i es c hid
  simp only [Option.bind_eq_some_iff] at h
  obtain ⟨r, hr, h⟩ := h
  cases hm with
  | mp _ blk hid' hf hrr =>
    obtain ⟨es', m1, m2, m3⟩ := hs.live id _ hid
    have hlt : (ι id).b < w.heap.size := (Array.getElem?_eq_some_iff.1 m1).1
    have hmr : MR A ι H w es es'.toList := ⟨by simpa using m2, fun i k v a => by simpa using m3 i k v a⟩
    have hf := findI_sound d ck es es'.toList 0 r hmr hr
    have hg := run_getObj (P := P) m1 (fun _ _ _ e => by cases e)
    have hkd := (keyDesc_some hd).1
    have hfk : ∀ x, Instr.findNow d ck es'.toList 0 = some x → (Instr.findKey kt ck es'.toList).run P w = .ok x w := by
      intro x hx; simp [Instr.findKey, run_underlying hkd, hx]
    have turn : ∀ (fs : Array MapEntry) (c' : Nat) (es2 : List (V × V)), fs.size = es2.length →
        (∀ (i : Nat) (k v : V), es2[i]? = some (k, v) → ∃ e, fs[i]? = some e ∧ VR A ι H w k e.key ∧ VR A ι H w v e.val) →
        Ext N A ι H w N A (upd ι id (ι id)) (H.set id (.map es2 c')) { w with heap := w.heap.setIfInBounds (ι id).b (.map fs c') } := by
      intro fs c' es2 h1 h2
      refine Ext.turn hs hid trivial (L := ι id) (.inl rfl) (fun k _ hk => by simp [Array.getElem?_setIfInBounds_ne (Ne.symm hk)]) (by simp) rfl rfl rfl ?_ ?_
      · simp [Later, upd_same]
      · intro keep
        refine ⟨fs, by rw [upd_same]; simp [hlt], h1, fun i k v a => ?_⟩
        obtain ⟨e, p, q, r⟩ := h2 i k v a
        exact ⟨e, p, keep _ _ q, keep _ _ r⟩
    cases r with
    | none =>
      simp only at hf h
      simp only [Option.some.injEq] at h; subst h
      refine ⟨_, _, ?_, turn (es'.push { key := ck, val := cv, born := c }) (c + 1) _ (by simp [m2]) fun i k v a => ?_⟩
      · have hst := run_setObj (P := P) (o' := .map (es'.push { key := ck, val := cv, born := c }) (c + 1)) m1 (fun _ _ _ e => by cases e)
        simp [Instr.mapUpdate, run_underlying hu, hg, run_checkKey hd, hfk _ hf, hst]
      · rcases Nat.lt_or_ge i es.length with hi | hi
        · rw [List.getElem?_append_left hi] at a
          obtain ⟨e, p, q, r⟩ := m3 i k v a
          exact ⟨e, by rw [Array.getElem?_push]; rw [if_neg (by omega)]; exact p, q, r⟩
        · rw [List.getElem?_append_right hi] at a
          have hi' : i - es.length = 0 := by
            have := (List.getElem?_eq_some_iff.1 a).1; simp at this; omega
          rw [hi'] at a
          simp at a
          obtain ⟨rfl, rfl⟩ := a
          exact ⟨{ key := ck, val := cv, born := c }, by rw [Array.getElem?_push, if_pos (by omega)], .lit _, hv⟩
    | some jv =>
      obtain ⟨j, v'⟩ := jv
      simp only at hf h
      obtain ⟨cv', p, q, r1, r2, en, r3, r4⟩ := hf
      simp only [Nat.sub_zero] at r2 r3
      simp only [Option.some.injEq] at h; subst h
      have hen : es'[j]? = some en := by simpa using r3
      refine ⟨_, _, ?_, turn (es'.modify j fun e => { e with key := ck, val := cv }) c _ (by simp [m2]) fun i k v a => ?_⟩
      · have hst := run_setObj (P := P) (o' := .map (es'.modify j fun e => { e with key := ck, val := cv }) c) m1 (fun _ _ _ e => by cases e)
        have hkt : (Instr.keyThatStays en.key ck).run P w = .ok ck w := by simp [Instr.keyThatStays, sameBits_of r4]
        simp [Instr.mapUpdate, run_underlying hu, hg, run_checkKey hd, hfk _ p, hen, hkt, hst]
      · rw [List.getElem?_set] at a
        rw [Array.getElem?_modify]
        split at a
        · rename_i e; subst e
          have hje : j < es.length := by omega
          rw [if_pos rfl, hen]
          simp only [hje, if_true, Option.some.injEq, Prod.mk.injEq] at a
          obtain ⟨a1, a2⟩ := a
          rw [← a1, ← a2]
          exact ⟨_, rfl, .lit _, hv⟩
        · rename_i hne
          rw [if_neg hne]
          exact m3 i k v a
end
end Go.Proofs.YtpmdlaojndejfaaGreatDoor.E
