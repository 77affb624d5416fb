/- A free place that is filled changes nothing: regions that draw, code, functions. -/
import Derived.Test.YtpmdlaojndejfaaGreatDoorEs
set_option linter.unusedVariables false
set_option linter.unusedSimpArgs false
namespace Go.Proofs.YtpmdlaojndejfaaGreatDoor.E
open Go

theorem maskH_len : ∀ (ps : List Nat) (H : Heap), (maskH H ps).length = H.length
  | [], H => rfl
  | p :: ps, H => by simp [maskH, maskH_len ps]
theorem maskH_get : ∀ (ps : List Nat) (H : Heap) (i : Nat), (maskH H ps)[i]? = if i ∈ ps ∧ i < H.length then some .free else H[i]?
  | [], H, i => by simp [maskH]
  | p :: ps, H, i => by
    simp only [maskH]
    rw [maskH_get ps]
    by_cases h1 : i ∈ ps ∧ i < H.length
    · rw [if_pos (by simpa using h1), if_pos ⟨List.mem_cons_of_mem _ h1.1, h1.2⟩]
    · rw [if_neg (by simpa using h1)]
      by_cases h2 : i = p
      · subst h2
        by_cases h3 : i < H.length
        · rw [if_pos ⟨by simp, h3⟩]; simp [h3]
        · rw [if_neg (by intro h; exact h3 h.2), List.getElem?_eq_none (by simp; omega), List.getElem?_eq_none (Nat.le_of_not_lt h3)]
      · rw [if_neg (by rintro ⟨h, h'⟩; rcases List.mem_cons.1 h with h | h; exact h2 h; exact h1 ⟨h, h'⟩), List.getElem?_set_ne (Ne.symm h2)]
theorem unmaskH_len : ∀ (ps : List Nat) (H H' : Heap), (unmaskH H H' ps).length = H'.length
  | [], H, H' => rfl
  | p :: ps, H, H' => by
    simp only [unmaskH]
    split
    · simp [unmaskH_len ps]
    · exact unmaskH_len ps H H'
theorem unmaskH_get : ∀ (ps : List Nat) (H H' : Heap) (i : Nat), (unmaskH H H' ps)[i]? = if i ∈ ps ∧ i < H'.length ∧ i < H.length then H[i]? else H'[i]?
  | [], H, H', i => by simp [unmaskH]
  | p :: ps, H, H', i => by
    simp only [unmaskH]
    split
    · rename_i b hb
      have hp : p < H.length := (List.getElem?_eq_some_iff.1 hb).1
      by_cases h2 : i = p
      · subst h2
        by_cases h3 : i < H'.length
        · rw [if_pos ⟨by simp, h3, hp⟩, List.getElem?_set_self (by rw [unmaskH_len]; exact h3), hb]
        · rw [if_neg (by intro h; exact h3 h.2.1), List.getElem?_eq_none (by simp [unmaskH_len]; omega), List.getElem?_eq_none (Nat.le_of_not_lt h3)]
      · rw [List.getElem?_set_ne (Ne.symm h2), unmaskH_get ps]
        by_cases h1 : i ∈ ps ∧ i < H'.length ∧ i < H.length
        · rw [if_pos h1, if_pos ⟨List.mem_cons_of_mem _ h1.1, h1.2⟩]
        · rw [if_neg h1, if_neg (by rintro ⟨h, h'⟩; rcases List.mem_cons.1 h with h | h; exact h2 h; exact h1 ⟨h, h'⟩)]
    · rename_i hb
      have hp : H.length ≤ p := by
        rcases Nat.lt_or_ge p H.length with h | h
        · simp [h] at hb
        · exact h
      rw [unmaskH_get ps]
      by_cases h1 : i ∈ ps ∧ i < H'.length ∧ i < H.length
      · rw [if_pos h1, if_pos ⟨List.mem_cons_of_mem _ h1.1, h1.2⟩]
      · rw [if_neg h1, if_neg (by rintro ⟨h, h'⟩; rcases List.mem_cons.1 h with h | h; omega; exact h1 ⟨h, h'⟩)]

section
variable {E : Env} {H H' : Heap} {p : Nat} {b : Blk}

/-- What was reckoned on a view holds on the whole. -/
theorem unmask_step {self : Self} (hcall : FillCall self.call) (hcode : FillCode self.code) (hq : PrimFill E) {tmps : List V} {nid : Nat} {o : Oper} {v : V} :
    ∀ (ps : List Nat) (H Hv : Heap), nid ∉ ps → nid + 1 ∉ ps → stepE E self tmps nid (maskH H ps) o = some (v, Hv) → stepE E self tmps nid H o = some (v, unmaskH H Hv ps)
  | [], H, Hv, _, _, h => h
  | p :: ps, H, Hv, h1, h2, h => by
    simp only [maskH] at h
    have ih := unmask_step hcall hcode hq ps (H.set p .free) Hv (fun h => h1 (List.mem_cons_of_mem _ h)) (fun h => h2 (List.mem_cons_of_mem _ h)) h
    rcases Nat.lt_or_ge p H.length with hlt | hge
    · have hf : (H.set p .free)[p]? = some .free := by simp [hlt]
      obtain ⟨q1, q2⟩ := stepE_fill (b := H[p]) hcall hcode hq hf (fun e => h1 (by simp [e])) (fun e => h2 (by simp [e])) ih
      have e1 : (H.set p .free).set p H[p] = H := by simp
      rw [e1] at q1
      rw [q1]
      congr 2
      have e2 : H[p]? = some H[p] := by simp [hlt]
      simp only [unmaskH, e2]
      apply List.ext_getElem?
      intro i
      by_cases hi : i = p
      · subst hi
        have hl : i < Hv.length := by
          have := (List.getElem?_eq_some_iff.1 q2).1
          rw [unmaskH_len] at this; exact this
        rw [List.getElem?_set_self (by rw [unmaskH_len]; exact hl), List.getElem?_set_self (by rw [unmaskH_len]; exact hl)]
      · rw [List.getElem?_set_ne (Ne.symm hi), List.getElem?_set_ne (Ne.symm hi), unmaskH_get, unmaskH_get]
        simp [List.getElem?_set_ne (Ne.symm hi)]
    · have e1 : H.set p .free = H := by rw [List.set_eq_of_length_le hge]
      rw [e1] at ih
      rw [ih]
      have e2 : H[p]? = none := List.getElem?_eq_none hge
      simp only [unmaskH, e2]
end
end Go.Proofs.YtpmdlaojndejfaaGreatDoor.E
