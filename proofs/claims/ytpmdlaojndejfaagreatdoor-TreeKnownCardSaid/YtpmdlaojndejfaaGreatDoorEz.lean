/- A free place that is filled changes nothing: regions, code, functions. -/
import Derived.Test.YtpmdlaojndejfaaGreatDoorEy
set_option linter.unusedVariables false
set_option linter.unusedSimpArgs false
namespace Go.Proofs.YtpmdlaojndejfaaGreatDoor.E
open Go

section
variable {E : Env} {self : Self} {p : Nat} {b : Blk}

def St.fill (s : St) (p : Nat) (b : Blk) : St := ⟨s.tmps, s.H.set p b, s.ds⟩

theorem regionE_fill (hcall : FillCall self.call) (hcode : FillCode self.code) (hq : PrimFill E) {ops : Array Oper} : ∀ (l : List Oper) (s s' : St), regionE E self ops l s = some s' → s.H[p]? = some .free →
    regionE E self ops l (s.fill p b) = some (s'.fill p b) ∧ s'.H[p]? = some .free
  | [], s, s', h, hp => by simp only [regionE, Option.some.injEq] at h ⊢; subst h; exact ⟨rfl, hp⟩
  | o :: l, s, s', h, hp => by
    have hlt : p < s.H.length := (List.getElem?_eq_some_iff.1 hp).1
    simp only [regionE] at h ⊢
    split at h
    · rename_i hw
      have hw' : Region.wanted o (yieldedV ops (s.fill p b).tmps) = true := hw
      rw [if_pos hw']
      simp only [Option.bind_eq_some_iff] at h ⊢
      obtain ⟨⟨v, H1⟩, h1, h2⟩ := h
      obtain ⟨q1, q2⟩ := stepE_fill (b := b) hcall hcode hq hp (nid := s.H.length) (by omega) (by omega) h1
      obtain ⟨r1, r2⟩ := regionE_fill hcall hcode hq l _ s' h2 q2
      refine ⟨⟨(v, H1.set p b), ?_, r1⟩, r2⟩
      simp only [St.fill, List.length_set]; exact q1
    · rename_i hw
      have hw' : ¬ (Region.wanted o (yieldedV ops (s.fill p b).tmps) = true) := hw
      rw [if_neg hw']
      exact regionE_fill hcall hcode hq l _ s' h hp

theorem posI_ne {r : DRun} {it : DItem} {n : Nat} (h1 : p < r.base) (h2 : p < n) : posI r it n ≠ p ∧ posI r it n + 1 ≠ p := by
  unfold posI; split <;> omega

theorem runP_fill (hcall : FillCall self.call) (hcode : FillCode self.code) (hq : PrimFill E) {ops : Array Oper} {r : DRun} (hb : p < r.base) : ∀ (l : List DItem) (s s' : St), runP E self ops r l s = some s' → s.H[p]? = some .free →
    runP E self ops r l (s.fill p b) = some (s'.fill p b) ∧ s'.H[p]? = some .free
  | [], s, s', h, hp => by simp only [runP, Option.some.injEq] at h ⊢; subst h; exact ⟨rfl, hp⟩
  | o :: l, s, s', h, hp => by
    have hlt : p < s.H.length := (List.getElem?_eq_some_iff.1 hp).1
    simp only [runP] at h ⊢
    split at h
    · rename_i hw
      have hw' : Region.wanted o.o (yieldedV ops (s.fill p b).tmps) = true := hw
      rw [if_pos hw']
      simp only [Option.bind_eq_some_iff] at h ⊢
      obtain ⟨⟨v, H1⟩, h1, h2⟩ := h
      obtain ⟨n1, n2⟩ := posI_ne (it := o) hb hlt
      obtain ⟨q1, q2⟩ := stepE_fill (b := b) hcall hcode hq hp n1 n2 h1
      obtain ⟨r1, r2⟩ := runP_fill hcall hcode hq hb l _ s' h2 q2
      refine ⟨⟨(v, H1.set p b), ?_, r1⟩, r2⟩
      simp only [St.fill, List.length_set]; exact q1
    · rename_i hw
      have hw' : ¬ (Region.wanted o.o (yieldedV ops (s.fill p b).tmps) = true) := hw
      rw [if_neg hw']
      exact runP_fill hcall hcode hq hb l _ s' h hp

theorem mask_fill_in {H : Heap} {ps : List Nat} (h : p ∈ ps) : maskH (H.set p b) ps = maskH H ps := by
  apply mask_same (by simp)
  intro k hk
  rw [List.getElem?_set_ne]
  rintro rfl; exact hk h
theorem mask_fill_out {H : Heap} {ps : List Nat} (h : p ∉ ps) : maskH (H.set p b) ps = (maskH H ps).set p b := by
  apply List.ext_getElem?
  intro k
  rw [maskH_get, List.length_set]
  by_cases hk : p = k
  · subst hk
    rw [if_neg (fun x => h x.1)]
    by_cases hl : p < H.length
    · rw [List.getElem?_set_self hl, List.getElem?_set_self (by rw [maskH_len]; exact hl)]
    · rw [List.getElem?_eq_none (by simp; omega), List.getElem?_eq_none (by simp [maskH_len]; omega)]
  · rw [List.getElem?_set_ne hk, List.getElem?_set_ne hk, maskH_get]
theorem unmask_fill {H Hv : Heap} {ps : List Nat} (h : p ∉ ps) : unmaskH (H.set p b) (Hv.set p b) ps = (unmaskH H Hv ps).set p b := by
  apply List.ext_getElem?
  intro k
  rw [unmaskH_get]
  simp only [List.length_set]
  by_cases hk : p = k
  · subst hk
    rw [if_neg (fun x => h x.1)]
    by_cases hl : p < Hv.length
    · rw [List.getElem?_set_self hl, List.getElem?_set_self (by rw [unmaskH_len]; exact hl)]
    · rw [List.getElem?_eq_none (by simp; omega), List.getElem?_eq_none (by simp [unmaskH_len]; omega)]
  · rw [List.getElem?_set_ne hk, List.getElem?_set_ne hk, List.getElem?_set_ne hk, unmaskH_get]

theorem stepI_fill (hcall : FillCall self.call) (hcode : FillCode self.code) (hq : PrimFill E) {ops : Array Oper} {r : DRun} (hb : p < r.base) {it : DItem} {s s' : St} (h : stepI E self ops r it s = some s') (hp : s.H[p]? = some .free) :
    stepI E self ops r it (s.fill p b) = some (s'.fill p b) ∧ s'.H[p]? = some .free := by
  have hlt : p < s.H.length := (List.getElem?_eq_some_iff.1 hp).1
  obtain ⟨v, Hv, ho, rfl⟩ := stepI_out.1 h
  obtain ⟨n1, n2⟩ := posI_ne (it := it) hb hlt
  have hm : (maskH s.H (hidI r it))[p]? = some .free := by
    rw [maskH_get]; split
    · rfl
    · exact hp
  have hv : Hv[p]? = some .free := by
    rcases ho with ⟨_, _, h1, _⟩ | ⟨_, _, rfl⟩
    · exact (stepE_fill (b := .gone) hcall hcode hq hm n1 n2 h1).2
    · exact hm
  have hvl : p < Hv.length := (List.getElem?_eq_some_iff.1 hv).1
  have hfree : (unmaskH s.H Hv (hidI r it))[p]? = some .free := by
    rw [unmaskH_get]; split
    · exact hp
    · exact hv
  by_cases hin : p ∈ hidI r it
  · refine ⟨stepI_out.2 ⟨v, Hv, ho.see ⟨rfl, fun _ _ => rfl⟩ (by simp [St.fill]) (fun k hk => by simp only [St.fill]; rw [List.getElem?_set_ne]; rintro rfl; exact hk hin), ?_⟩, hfree⟩
    simp only [St.fill]
    rw [unmask_set hin hlt hvl]
  · refine ⟨stepI_out.2 ⟨v, Hv.set p b, ?_, ?_⟩, hfree⟩
    · rcases ho with ⟨hw, hok, h1, hpo⟩ | ⟨hw, hvu, rfl⟩
      · refine .inl ⟨hw, ?_, ?_, ?_⟩
        · simp only [St.fill, List.length_set]; exact hok
        · simp only [St.fill, List.length_set]
          rw [mask_fill_out hin]
          exact (stepE_fill (b := b) hcall hcode hq hm n1 n2 h1).1
        · simp only [List.length_set]; exact hpo
      · refine .inr ⟨hw, hvu, ?_⟩
        simp only [St.fill]; rw [mask_fill_out hin]
    · simp only [St.fill]
      rw [unmask_fill hin]

theorem runI_fill (hcall : FillCall self.call) (hcode : FillCode self.code) (hq : PrimFill E) {ops : Array Oper} {r : DRun} (hb : p < r.base) : ∀ (l : List DItem) (s s' : St), runI E self ops r l s = some s' → s.H[p]? = some .free →
    runI E self ops r l (s.fill p b) = some (s'.fill p b) ∧ s'.H[p]? = some .free
  | [], s, s', h, hp => by simp only [runI, Option.some.injEq] at h ⊢; subst h; exact ⟨rfl, hp⟩
  | it :: l, s, s', h, hp => by
    simp only [runI, Option.bind_eq_some_iff] at h ⊢
    obtain ⟨s1, h1, h2⟩ := h
    obtain ⟨q1, q2⟩ := stepI_fill hcall hcode hq hb h1 hp
    obtain ⟨r1, r2⟩ := runI_fill hcall hcode hq hb l s1 s' h2 q2
    exact ⟨⟨_, q1, r1⟩, r2⟩

theorem trimH_get : ∀ (n : Nat) (H : Heap) (k : Nat), k < n → (trimH n H)[k]? = H[k]?
  | 0, H, k, h => by omega
  | n + 1, [], k, h => rfl
  | n + 1, x :: H, 0, h => rfl
  | n + 1, x :: H, k + 1, h => by simp only [trimH, List.getElem?_cons_succ]; exact trimH_get n H k (by omega)
theorem trimH_set : ∀ (n : Nat) (H : Heap) (k : Nat) (b : Blk), k < n → trimH n (H.set k b) = (trimH n H).set k b
  | 0, H, k, b, h => by omega
  | n + 1, [], k, b, h => by simp [trimH]
  | n + 1, x :: H, 0, b, h => rfl
  | n + 1, x :: H, k + 1, b, h => by simp only [trimH, List.set_cons_succ]; rw [trimH_set n H k b (by omega)]

theorem regionD_fill (hcall : FillCall self.call) (hcode : FillCode self.code) (hq : PrimFill E) {ops : Array Oper} {s s' : St} (h : regionD E self ops s = some s') (hp : s.H[p]? = some .free) :
    regionD E self ops (s.fill p b) = some (s'.fill p b) ∧ s'.H[p]? = some .free := by
  have hlt : p < s.H.length := (List.getElem?_eq_some_iff.1 hp).1
  have hpad : (padded E ops s).H[p]? = some .free := by simp only [padded]; rw [List.getElem?_append_left hlt]; exact hp
  have hpf : padded E ops (s.fill p b) = (padded E ops s).fill p b := by
    simp only [padded, St.fill]
    rw [List.set_append_left _ _ hlt]
  have hl : (s.fill p b).H.length = s.H.length := by simp [St.fill]
  have fin : ∀ s2 : St, s2.H[p]? = some .free → (⟨(s2.fill p b).tmps, trimH s.H.length (s2.fill p b).H, (s2.fill p b).ds⟩ : St) = St.fill ⟨s2.tmps, trimH s.H.length s2.H, s2.ds⟩ p b ∧ (trimH s.H.length s2.H)[p]? = some .free := by
    intro s2 h2
    refine ⟨?_, by rw [trimH_get _ _ _ hlt]; exact h2⟩
    simp only [St.fill]; rw [trimH_set _ _ _ _ hlt]
  unfold regionD at h ⊢
  rw [hpf, hl]
  split at h
  · cases h
  rename_i hm
  rw [if_neg hm]
  simp only [Option.map_eq_some_iff] at h ⊢
  obtain ⟨s2, h2, rfl⟩ := h
  split at h2
  · rename_i hn
    rw [if_pos hn]
    simp only [Option.bind_eq_some_iff] at h2 ⊢
    obtain ⟨its, hits, s1, h1, h2⟩ := h2
    obtain ⟨q1, q2⟩ := runP_fill (b := b) hcall hcode hq (by exact hlt) its _ s1 h1 hpad
    obtain ⟨r1, r2⟩ := runI_fill (b := b) hcall hcode hq (by exact hlt) its _ s2 h2 hpad
    obtain ⟨f1, f2⟩ := fin s2 r2
    exact ⟨⟨s2.fill p b, ⟨its, hits, s1.fill p b, q1, r1⟩, f1⟩, f2⟩
  · rename_i hn
    rw [if_neg hn]
    simp only [Option.bind_eq_some_iff] at h2 ⊢
    obtain ⟨its, hits, h2⟩ := h2
    obtain ⟨r1, r2⟩ := runI_fill (b := b) hcall hcode hq (by exact hlt) its _ s2 h2 hpad
    obtain ⟨f1, f2⟩ := fin s2 r2
    exact ⟨⟨s2.fill p b, ⟨its, hits, r1⟩, f1⟩, f2⟩

theorem loopEnd_fill {H H' : Heap} (hp : H[p]? = some .free) {l : Nat} {x : X} (h : loopEnd H l = some (x, H')) : loopEnd (H.set p b) l = some (x, H'.set p b) ∧ H'[p]? = some .free := by
  unfold loopEnd at h ⊢
  split at h
  · rename_i hid
    simp only [get_fill hp hid (by simp)]
    simp only [Option.some.injEq, Prod.mk.injEq] at h ⊢
    obtain ⟨rfl, rfl⟩ := h
    exact ⟨⟨rfl, set_swap (ne_free hp hid (by simp))⟩, set_free hp (ne_free hp hid (by simp))⟩
  · rename_i hid
    simp only [get_fill hp hid (by simp)]
    simp only [Option.some.injEq, Prod.mk.injEq] at h ⊢
    obtain ⟨rfl, rfl⟩ := h
    exact ⟨⟨rfl, set_swap (ne_free hp hid (by simp))⟩, set_free hp (ne_free hp hid (by simp))⟩
  · rename_i hid
    simp only [get_fill hp hid (by simp)]
    simp only [Option.some.injEq, Prod.mk.injEq] at h ⊢
    obtain ⟨rfl, rfl⟩ := h
    exact ⟨⟨rfl, set_swap (ne_free hp hid (by simp))⟩, set_free hp (ne_free hp hid (by simp))⟩
  · cases h

theorem loopBegin_fill {H H' : Heap} (hp : H[p]? = some .free) {ro : Option Nat} {ds ds' : List Nat} {L : Blk} {l : Nat} (h : loopBegin ro H ds L = some (l, H', ds')) :
    loopBegin ro (H.set p b) ds L = some (l, H'.set p b, ds') ∧ H'[p]? = some .free := by
  have hlt : p < H.length := (List.getElem?_eq_some_iff.1 hp).1
  unfold loopBegin at h ⊢
  cases ro with
  | none =>
    simp only [Option.some.injEq, Prod.mk.injEq, List.length_set] at h ⊢
    obtain ⟨rfl, rfl, rfl⟩ := h
    exact ⟨⟨rfl, by rw [List.set_append_left _ _ hlt], rfl⟩, by rw [List.getElem?_append_left hlt]; exact hp⟩
  | some r =>
    simp only at h ⊢
    split at h
    case h_2 => cases h
    rename_i hid
    simp only [get_fill hp hid (by simp)]
    simp only [Option.some.injEq, Prod.mk.injEq, List.length_set] at h ⊢
    obtain ⟨rfl, rfl, rfl⟩ := h
    exact ⟨⟨rfl, by rw [List.set_append_left _ _ hlt], rfl⟩, by rw [List.getElem?_append_left hlt]; exact hp⟩

theorem codeE_fill (hcall : FillCall self.call) (hcode : FillCode self.code) (hq : PrimFill E) : FillCode (codeE E self) := by
  intro ro c
  induction c with
  | skip => intro s x s' p b h hp; simp only [codeE, Option.some.injEq, Prod.mk.injEq] at h ⊢; obtain ⟨rfl, rfl⟩ := h; exact ⟨⟨rfl, rfl⟩, hp⟩
  | exit id => intro s x s' p b h hp; simp only [codeE, Option.some.injEq, Prod.mk.injEq] at h ⊢; obtain ⟨rfl, rfl⟩ := h; exact ⟨⟨rfl, rfl⟩, hp⟩
  | ret => intro s x s' p b h hp; simp only [codeE, Option.some.injEq, Prod.mk.injEq] at h ⊢; obtain ⟨rfl, rfl⟩ := h; exact ⟨⟨rfl, rfl⟩, hp⟩
  | region id ops draw =>
    intro s x s' p b h hp
    simp only [codeE] at h ⊢
    split at h
    · rename_i hd
      rw [if_pos hd]
      simp only [Option.map_eq_some_iff, Prod.mk.injEq] at h ⊢
      obtain ⟨s1, h1, rfl, rfl⟩ := h
      obtain ⟨q1, q2⟩ := regionD_fill (b := b) hcall hcode hq h1 hp
      exact ⟨⟨_, q1, rfl, rfl⟩, q2⟩
    · rename_i hd
      rw [if_neg hd]
      simp only [Option.map_eq_some_iff, Prod.mk.injEq] at h ⊢
      obtain ⟨s1, h1, rfl, rfl⟩ := h
      obtain ⟨q1, q2⟩ := regionE_fill (b := b) hcall hcode hq _ _ _ h1 hp
      exact ⟨⟨_, q1, rfl, rfl⟩, q2⟩
  | seq c1 c2 ih1 ih2 =>
    intro s x s' p b h hp
    simp only [codeE, Option.bind_eq_some_iff] at h ⊢
    obtain ⟨⟨x1, s1⟩, h1, h⟩ := h
    obtain ⟨q1, q2⟩ := ih1 s x1 s1 p b h1 hp
    cases x1 with
    | normal =>
      obtain ⟨r1, r2⟩ := ih2 s1 x s' p b h q2
      exact ⟨⟨_, q1, r1⟩, r2⟩
    | exit id =>
      simp only [Option.some.injEq, Prod.mk.injEq] at h
      obtain ⟨rfl, rfl⟩ := h
      exact ⟨⟨_, q1, rfl⟩, q2⟩
    | ret =>
      simp only [Option.some.injEq, Prod.mk.injEq] at h
      obtain ⟨rfl, rfl⟩ := h
      exact ⟨⟨_, q1, rfl⟩, q2⟩
  | cond cc c1 c2 ih1 ih2 =>
    intro s x s' p b h hp
    simp only [codeE] at h ⊢
    split at h
    · split at h
      · rename_i ht; rw [if_pos ht]; exact ih1 s x s' p b h hp
      · rename_i ht; rw [if_neg ht]; exact ih2 s x s' p b h hp
    · cases h
  | block id c ih =>
    intro s x s' p b h hp
    simp only [codeE, Option.bind_eq_some_iff] at h ⊢
    obtain ⟨⟨x1, s1⟩, h1, h⟩ := h
    obtain ⟨q1, q2⟩ := ih s x1 s1 p b h1 hp
    cases x1 with
    | normal =>
      simp only [Option.some.injEq, Prod.mk.injEq] at h
      obtain ⟨rfl, rfl⟩ := h
      exact ⟨⟨_, q1, rfl⟩, q2⟩
    | exit i =>
      simp only at h
      split at h
      · rename_i hi
        simp only [Option.some.injEq, Prod.mk.injEq] at h
        obtain ⟨rfl, rfl⟩ := h
        exact ⟨⟨_, q1, by simp only [if_pos hi]⟩, q2⟩
      · rename_i hi
        simp only [Option.some.injEq, Prod.mk.injEq] at h
        obtain ⟨rfl, rfl⟩ := h
        exact ⟨⟨_, q1, by simp only [if_neg hi]⟩, q2⟩
    | ret =>
      simp only [Option.some.injEq, Prod.mk.injEq] at h
      obtain ⟨rfl, rfl⟩ := h
      exact ⟨⟨_, q1, rfl⟩, q2⟩
  | loop c ih =>
    intro s x s' p b h hp
    simp only [codeE, Option.bind_eq_some_iff] at h ⊢
    obtain ⟨⟨x1, s1⟩, h1, h⟩ := h
    obtain ⟨q1, q2⟩ := ih s x1 s1 p b h1 hp
    cases x1 with
    | normal =>
      obtain ⟨r1, r2⟩ := hcode ro (.loop c) s1 x s' p b h q2
      exact ⟨⟨_, q1, r1⟩, r2⟩
    | exit id =>
      simp only [Option.some.injEq, Prod.mk.injEq] at h
      obtain ⟨rfl, rfl⟩ := h
      exact ⟨⟨_, q1, rfl⟩, q2⟩
    | ret =>
      simp only [Option.some.injEq, Prod.mk.injEq] at h
      obtain ⟨rfl, rfl⟩ := h
      exact ⟨⟨_, q1, rfl⟩, q2⟩
  | rangeFunc g ps asg body ih1 ih2 =>
    intro s x s' p b h hp
    simp only [codeE] at h ⊢
    split at h
    case h_2 => cases h
    split at h
    · cases h
    rename_i hg
    rw [if_neg hg]
    simp only [Option.bind_eq_some_iff] at h ⊢
    obtain ⟨⟨l, H0, ds⟩, h1, h⟩ := h
    simp only [Option.bind_eq_some_iff, Option.map_eq_some_iff, Prod.mk.injEq] at h
    obtain ⟨⟨v, H⟩, h2, ⟨x2, H2⟩, h3, rfl, rfl⟩ := h
    obtain ⟨q1, q2⟩ := loopBegin_fill (b := b) hp h1
    obtain ⟨r1, r2⟩ := hcall _ _ _ _ _ p b h2 q2
    obtain ⟨t1, t2⟩ := loopEnd_fill (b := b) r2 h3
    refine ⟨⟨_, q1, ?_⟩, t2⟩
    simp only [Option.bind_eq_some_iff, Option.map_eq_some_iff, Prod.mk.injEq]
    exact ⟨_, r1, _, t1, rfl, rfl⟩
  | _ => intro s x s' p b h hp; simp [codeE] at h

theorem resE_fill {H : Heap} (hp : H[p]? = some .free) {tmps : List V} : ∀ {rs : List ResultVar} {vs : List V}, resE E tmps H rs = some vs → resE E tmps (H.set p b) rs = some vs
  | [], vs, h => by simpa [resE] using h
  | .tmp t :: l, vs, h => by
    simp only [resE, Option.map_eq_some_iff] at h ⊢
    obtain ⟨ys, h1, rfl⟩ := h
    exact ⟨ys, resE_fill hp h1, rfl⟩
  | .cell a t :: l, vs, h => by
    simp only [resE, Option.bind_eq_some_iff, Option.map_eq_some_iff] at h ⊢
    obtain ⟨v, hv, ys, h1, rfl⟩ := h
    exact ⟨v, loadT_fill hp hv, ys, resE_fill hp h1, rfl⟩

theorem unmark_fill : ∀ {ds : List Nat} {H H' : Heap}, H[p]? = some .free → unmark H ds = some H' → unmark (H.set p b) ds = some (H'.set p b) ∧ H'[p]? = some .free
  | [], H, H', hp, h => by simp only [unmark, Option.some.injEq] at h ⊢; subst h; exact ⟨rfl, hp⟩
  | d :: ds, H, H', hp, h => by
    simp only [unmark] at h ⊢
    split at h
    case h_2 => cases h
    rename_i hid
    simp only [get_fill hp hid (by simp)]
    rw [set_swap (ne_free hp hid (by simp))]
    exact unmark_fill (set_free hp (ne_free hp hid (by simp))) h

theorem bodyE_fill (hcode : FillCode self.code) (hcall : FillCall self.call) (hq : PrimFill E) : FillCall (bodyE E self) := by
  intro f args H v H' p b h hp
  simp only [bodyE, Option.bind_eq_some_iff] at h ⊢
  obtain ⟨fn, hfn, c, hc, ⟨x, s⟩, h1, h⟩ := h
  obtain ⟨q1, q2⟩ := codeE_fill hcall hcode hq none c _ x s p b h1 hp
  have key : ∀ (h : (unmark s.H s.ds).bind (fun H' => (resE E s.tmps H' fn.results.toList).map fun | [v] => (v, H') | vs => (.tup vs, H')) = some (v, H')),
      (unmark (s.H.set p b) s.ds).bind (fun H' => (resE E s.tmps H' fn.results.toList).map fun | [v] => (v, H') | vs => (.tup vs, H')) = some (v, H'.set p b) ∧ H'[p]? = some .free := by
    intro h
    simp only [Option.bind_eq_some_iff, Option.map_eq_some_iff] at h ⊢
    obtain ⟨H1, h2, vs, h3, h4⟩ := h
    obtain ⟨r1, r2⟩ := unmark_fill (b := b) q2 h2
    have hH : H' = H1 := by
      match vs, h4 with
      | [], h4 => simp at h4; exact h4.2.symm
      | [_], h4 => simp at h4; exact h4.2.symm
      | _ :: _ :: _, h4 => simp at h4; exact h4.2.symm
    subst hH
    refine ⟨⟨_, r1, vs, resE_fill r2 h3, ?_⟩, r2⟩
    match vs, h4 with
    | [], h4 => simp at h4 ⊢; exact h4
    | [_], h4 => simp at h4 ⊢; exact h4
    | _ :: _ :: _, h4 => simp at h4 ⊢; exact h4
  cases x with
  | normal => obtain ⟨k1, k2⟩ := key h; exact ⟨⟨fn, hfn, c, hc, _, q1, k1⟩, k2⟩
  | ret => obtain ⟨k1, k2⟩ := key h; exact ⟨⟨fn, hfn, c, hc, _, q1, k1⟩, k2⟩
  | exit id => cases h

theorem run_fill (hq : PrimFill E) : ∀ k, FillCall (run E k).call ∧ FillCode (run E k).code
  | 0 => ⟨fun f args H v H' p b h => by simp [run] at h, fun ro c s x s' p b h => by simp [run] at h⟩
  | k + 1 => by
    obtain ⟨h1, h2⟩ := run_fill hq k
    exact ⟨bodyE_fill h2 h1 hq, codeE_fill h1 h2 hq⟩
end
end Go.Proofs.YtpmdlaojndejfaaGreatDoor.E
