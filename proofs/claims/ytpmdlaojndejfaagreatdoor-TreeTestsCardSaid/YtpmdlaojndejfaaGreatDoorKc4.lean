/- Regions that draw: the exchange. -/
import Derived.Test.YtpmdlaojndejfaaGreatDoorKc3
import Derived.RecoverIn
set_option linter.unusedVariables false
set_option linter.unusedSimpArgs false
namespace Go.Proofs.YtpmdlaojndejfaaGreatDoor.E
open Go

section
variable {E : Env} {self : Self} {ops : Array Oper} {r : DRun}

theorem kind_storeAt {o : Oper} {chk : Bool} (h : kindD E chk o = .pure ∨ kindD E chk o = .new) (t : List V) (sid : Nat) : storeAt t o sid = true := by
  obtain ⟨dst, op, type, pos, after, guard⟩ := o
  cases op <;> first | rfl | skip
  case store t x y =>
    exfalso
    simp only [kindD] at h
    split at h <;> rcases h with h | h <;> cases h
  case call c =>
    obtain ⟨callee, args, ats⟩ := c
    cases callee with
    | value g => rfl
    | invoke r m => rfl
    | builtin bb =>
      cases bb <;> first | rfl | skip
      exfalso
      simp only [kindD] at h
      split at h <;> rcases h with h | h <;> cases h

/-- An operation that is bound to no memory: on whatever memory. -/
theorem DOut.pure {i : Nat} {o : Oper} {s s' : St} {v : V} {Hv : Heap} (hi : ops[i]? = some o) (hk : kindD E r.chk o = .pure) (ho : DOut E self ops r (itemS E r.chk ops.toList i o) s v Hv) (ht : Alike ops o s.tmps s'.tmps) :
    Hv = maskH s.H (hidI r (itemS E r.chk ops.toList i o)) ∧ DOut E self ops r (itemS E r.chk ops.toList i o) s' v (maskH s'.H (hidI r (itemS E r.chk ops.toList i o))) := by
  have hd : dry E o = true := by
    have := kind_true (E := E) (chk := r.chk) (o := o) (by rw [hk]; simp)
    simp [dry, this, hk]
  rcases ho with ⟨hw, hok, h1, hp⟩ | ⟨hw, rfl, rfl⟩
  · have h1 : stepE E self s.tmps (posI r (itemS E r.chk ops.toList i o) s.H.length) (maskH s.H (hidI r (itemS E r.chk ops.toList i o))) o = some (v, Hv) := h1
    obtain ⟨q1, q2⟩ := pure_op hk h1
    refine ⟨q1, .inl ⟨by rw [show (itemS E r.chk ops.toList i o).o = o from rfl, ht.1]; exact hw, ?_, ?_, by simp [itemS, hd]⟩⟩
    · simp only [okI, itemS, hd, Bool.true_or, Bool.and_true]
      rw [kind_storeAt (E := E) (chk := r.chk) (.inl hk)]; simp
    · show stepE E self s'.tmps _ _ o = _
      rw [stepE_congr (tmps := s'.tmps) (tmps' := s.tmps) ht.2]
      exact q2 _ _
  · exact ⟨rfl, .inr ⟨by rw [show (itemS E r.chk ops.toList i o).o = o from rfl, ht.1]; exact hw, rfl, rfl⟩⟩


/-- A new block: on whatever memory whose place is free. -/
theorem DOut.new (hroom : r.room = slotsN E ops.toList) {i : Nat} {o : Oper} {s : St} {v : V} {Hv : Heap} (hi : ops[i]? = some o) (hk : kindD E r.chk o = .new) (ho : DOut E self ops r (itemS E r.chk ops.toList i o) s v Hv) :
    (unmaskH s.H Hv (hidI r (itemS E r.chk ops.toList i o)) = s.H ∧ ∀ s' : St, Alike ops o s.tmps s'.tmps → ∃ Hv', DOut E self ops r (itemS E r.chk ops.toList i o) s' v Hv' ∧ unmaskH s'.H Hv' (hidI r (itemS E r.chk ops.toList i o)) = s'.H) ∨
    ∃ p b, p ∈ effD E ops r i ∧ p < r.base + r.room ∧ r.base + r.room ≤ s.H.length ∧ s.H[p]? = some .free ∧ unmaskH s.H Hv (hidI r (itemS E r.chk ops.toList i o)) = s.H.set p b ∧
      ∀ s' : St, Alike ops o s.tmps s'.tmps → r.base + r.room ≤ s'.H.length → s'.H[p]? = some .free → ∃ Hv', DOut E self ops r (itemS E r.chk ops.toList i o) s' v Hv' ∧ unmaskH s'.H Hv' (hidI r (itemS E r.chk ops.toList i o)) = s'.H.set p b := by
  rcases ho with ⟨hw, hok, h1, hp⟩ | ⟨hw, rfl, rfl⟩
  case inr =>
    left
    exact ⟨unmask_mask _ _, fun s' ht => ⟨_, .inr ⟨by rw [show (itemS E r.chk ops.toList i o).o = o from rfl, ht.1]; exact hw, rfl, rfl⟩, unmask_mask _ _⟩⟩
  right
  have hkt := kind_true (E := E) (chk := r.chk) (o := o) (by rw [hk]; simp)
  have hd : dry E o = false := by simp [dry, hkt, hk]
  have hoff := off_in hroom hi hd
  have hok0 := hok
  simp only [okI, itemS, hd, Bool.false_or, Bool.and_eq_true, decide_eq_true_eq, Bool.not_eq_true', List.contains_eq_mem, decide_eq_false_iff_not] at hok
  obtain ⟨_, ⟨hlen, hn1⟩, hn2⟩ := hok
  have hn1 : r.base + (offS E ops.toList).getD i 0 ∉ hidI r (itemS E r.chk ops.toList i o) := hn1
  have hn2 : r.base + (offS E ops.toList).getD i 0 + 1 ∉ hidI r (itemS E r.chk ops.toList i o) := hn2
  have hpos : ∀ n, posI r (itemS E r.chk ops.toList i o) n = r.base + (offS E ops.toList).getD i 0 := fun n => by simp [posI, itemS, hd]
  have h1 : stepE E self s.tmps (posI r (itemS E r.chk ops.toList i o) s.H.length) (maskH s.H (hidI r (itemS E r.chk ops.toList i o))) o = some (v, Hv) := h1
  rw [hpos] at h1
  obtain ⟨b, hb, hnew⟩ := new_op hk h1
  obtain ⟨hfree, rfl⟩ := place_in hb (by rw [maskH_len]; omega)
  have un : ∀ H : Heap, r.base + r.room ≤ H.length → unmaskH H ((maskH H (hidI r (itemS E r.chk ops.toList i o))).set (r.base + (offS E ops.toList).getD i 0) b) (hidI r (itemS E r.chk ops.toList i o)) = H.set (r.base + (offS E ops.toList).getD i 0) b := by
    intro H hH
    apply List.ext_getElem?
    intro k
    rw [unmaskH_get, List.length_set, maskH_len]
    by_cases hkh : k ∈ hidI r (itemS E r.chk ops.toList i o)
    · have hne : r.base + (offS E ops.toList).getD i 0 ≠ k := fun e => hn1 (e ▸ hkh)
      rw [List.getElem?_set_ne hne]
      by_cases hlt : k < H.length
      · rw [if_pos ⟨hkh, hlt, hlt⟩, List.getElem?_set_ne hne]
      · rw [if_neg (fun x => hlt x.2.1), List.getElem?_set_ne hne, maskH_get, if_neg (fun x => hlt x.2)]
    · rw [if_neg (fun x => hkh x.1)]
      by_cases hke : r.base + (offS E ops.toList).getD i 0 = k
      · subst hke
        rw [List.getElem?_set_self (by rw [maskH_len]; omega), List.getElem?_set_self (by omega)]
      · rw [List.getElem?_set_ne hke, List.getElem?_set_ne hke, maskH_get, if_neg (fun x => hkh x.1)]
  refine ⟨r.base + (offS E ops.toList).getD i 0, b, by simp [effD, hi, makes, hkt, hk, hd], by omega, hlen, ?_, un s.H hlen, fun s' ht hl hf => ⟨_, .inl ⟨by rw [show (itemS E r.chk ops.toList i o).o = o from rfl, ht.1]; exact hw, ?_, ?_, ?_⟩, un s'.H hl⟩⟩
  · rw [maskH_get, if_neg (fun x => hn1 x.1)] at hfree; exact hfree
  · simp only [okI]
    rw [show (itemS E r.chk ops.toList i o).o = o from rfl, kind_storeAt (E := E) (chk := r.chk) (.inr hk)]
    simp only [Bool.or_true, Bool.true_and, itemS, hd, Bool.false_or, Bool.and_eq_true, decide_eq_true_eq, Bool.not_eq_true', List.contains_eq_mem, decide_eq_false_iff_not]
    exact ⟨⟨hl, hn1⟩, hn2⟩
  · show stepE E self s'.tmps _ _ o = _
    rw [stepE_congr (tmps := s'.tmps) (tmps' := s.tmps) ht.2, hpos]
    exact hnew _ _ (place_of (by rw [maskH_get, if_neg (fun x => hn1 x.1)]; exact hf))
  · simp only [itemS, hd, Bool.false_or, List.length_set, maskH_len, decide_eq_true_eq]; exact hl

theorem store_len {o : Oper} {t : List V} {nid : Nat} {H H' : Heap} {v : V} (hk : kindD E true o = .store) (h : stepE E self t nid H o = some (v, H')) : H'.length = H.length := by
  obtain ⟨dst, op, type, pos, after, guard⟩ := o
  cases op
  case store t x y =>
    simp only [stepE, opE, Option.map_eq_some_iff, Prod.mk.injEq] at h
    obtain ⟨H1, h1, _, rfl⟩ := h
    unfold storeT at h1
    split at h1
    · split at h1
      case h_2 => cases h1
      split at h1
      case isFalse => cases h1
      simp only [Option.bind_eq_some_iff] at h1
      obtain ⟨cs, _, h1⟩ := h1
      split at h1
      · simp only [Option.some.injEq] at h1; subst h1; simp
      · cases h1
    · cases h1
  case slice t x lo hi mx => exfalso; cases mx <;> simp [kindD] at hk
  case makeMap t r => exfalso; cases r <;> simp [kindD] at hk
  case call c =>
    exfalso
    obtain ⟨callee, args, ats⟩ := c
    cases callee with
    | value g => cases g <;> simp [kindD] at hk; split at hk <;> cases hk
    | invoke r m => simp [kindD] at hk
    | builtin bb => cases bb <;> simp [kindD] at hk
  all_goals (exfalso; simp [kindD] at hk; done)
theorem other_true {o : Oper} {chk : Bool} (h : kindD E chk o = .other) : dry E o = false ∨ kindD E true o = .store := by
  have : (kindD E true o = .other ∨ kindD E true o = .app) ∨ kindD E true o = .store := by
    cases chk with
    | true => exact .inl (.inl h)
    | false =>
      obtain ⟨dst, op, type, pos, after, guard⟩ := o
      cases op
      case store t x y => right; simp [kindD]
      case slice t x lo hi mx => left; cases mx <;> exact .inl h
      case makeMap t r => left; cases r <;> exact .inl h
      case call c =>
        left
        obtain ⟨callee, args, ats⟩ := c
        cases callee with
        | value g => cases g <;> exact .inl h
        | invoke r m => left; simp [kindD]
        | builtin bb => cases bb <;> first | exact .inl h | exact .inr (by simp [kindD])
      all_goals (left; exact .inl h)
  rcases this with (h | h) | h
  · left; simp [dry, h]
  · left; simp [dry, h]
  · right; exact h
theorem DOut.len {i : Nat} {o : Oper} {s : St} {v : V} {Hv : Heap} (hk : kindD E r.chk o = .other) (ho : DOut E self ops r (itemS E r.chk ops.toList i o) s v Hv) :
    (r.base + r.room ≤ s.H.length ∧ r.base + r.room ≤ Hv.length) ∨ Hv.length = s.H.length := by
  rcases ho with ⟨hw, hok, h1, hp⟩ | ⟨hw, rfl, rfl⟩
  · rcases other_true hk with hd | hs
    · left
      simp only [okI, itemS, hd, Bool.false_or, Bool.and_eq_true, decide_eq_true_eq] at hok hp
      exact ⟨hok.2.1.1, hp⟩
    · right
      have h1 : stepE E self s.tmps (posI r (itemS E r.chk ops.toList i o) s.H.length) (maskH s.H (hidI r (itemS E r.chk ops.toList i o))) o = some (v, Hv) := h1
      rw [store_len hs h1, maskH_len]
  · right; exact maskH_len _ _

theorem unmask_at {H Hv : Heap} {ps : List Nat} {p : Nat} (hp : p ∈ ps) (h1 : p < H.length) (h2 : p < Hv.length) : (unmaskH H Hv ps)[p]? = H[p]? := by
  rw [unmaskH_get, if_pos ⟨hp, h2, h1⟩]
theorem unmask_set {H Hv : Heap} {ps : List Nat} {p : Nat} {b : Blk} (hp : p ∈ ps) (h1 : p < H.length) (h2 : p < Hv.length) : unmaskH (H.set p b) Hv ps = (unmaskH H Hv ps).set p b := by
  apply List.ext_getElem?
  intro k
  rw [unmaskH_get, List.length_set]
  by_cases hk : p = k
  · subst hk
    rw [if_pos ⟨hp, h2, h1⟩, List.getElem?_set_self h1, List.getElem?_set_self (by rw [unmaskH_len]; exact h2)]
  · rw [List.getElem?_set_ne hk, List.getElem?_set_ne hk, unmaskH_get]

/-- What an operation with known writings does to the whole. -/
theorem DOut.whole (hroom : r.room = slotsN E ops.toList) {i : Nat} {o : Oper} {s : St} {v : V} {Hv : Heap} (hi : ops[i]? = some o) (hk : kindD E r.chk o ≠ .other) (ho : DOut E self ops r (itemS E r.chk ops.toList i o) s v Hv) :
    (unmaskH s.H Hv (hidI r (itemS E r.chk ops.toList i o))).length = s.H.length ∧ ∀ k, k ∉ effD E ops r i → (unmaskH s.H Hv (hidI r (itemS E r.chk ops.toList i o)))[k]? = s.H[k]? := by
  obtain ⟨q1, q2⟩ := DOut.eff hroom hi hk ho
  refine ⟨by rw [unmaskH_len, q1], fun k hke => ?_⟩
  rw [unmaskH_get]
  by_cases h : k ∈ hidI r (itemS E r.chk ops.toList i o) ∧ k < Hv.length ∧ k < s.H.length
  · rw [if_pos h]
  · rw [if_neg h, q2 k hke, maskH_get, if_neg (fun x => h ⟨x.1, by omega, x.2⟩)]

/-- Two operations with known writings. -/
theorem comm_both (hroom : r.room = slotsN E ops.toList) {i j : Nat} {oi oj : Oper} (hi : ops[i]? = some oi) (hj : ops[j]? = some oj) (hij : unordered ops.toList i j = true) (hji : unordered ops.toList j i = true)
    (hap : oi.apart ops oj = true) (hki : kindD E r.chk oi ≠ .other) (hkj : kindD E r.chk oj ≠ .other) : CommD (stepD E self ops r) i j := by
  intro s s1 s2 h1 h2
  obtain ⟨a1, a2, a3⟩ := Oper.apart_spec hap
  simp only [stepD, hi, hj, Option.bind_some] at h1 h2 ⊢
  obtain ⟨v1, Hv1, o1, rfl⟩ := stepI_out.1 h1
  obtain ⟨v2, Hv2, o2, rfl⟩ := stepI_out.1 h2
  obtain ⟨l1, e1⟩ := DOut.whole hroom hi hki o1
  have o2' : DOut E self ops r (itemS E r.chk ops.toList j oj) s v2 Hv2 := o2.see (alike_put a1).symm l1.symm fun k hk => (e1 k fun hke => hk (mem_hid hi hji hke)).symm
  obtain ⟨l2, e2⟩ := DOut.whole hroom hj hkj o2'
  have o1' : DOut E self ops r (itemS E r.chk ops.toList i oi) ⟨put s.tmps oj.dst v2, unmaskH s.H Hv2 (hidI r (itemS E r.chk ops.toList j oj)), s.ds⟩ v1 Hv1 :=
    o1.see (alike_put a3) l2 fun k hk => e2 k fun hke => hk (mem_hid hj hij hke)
  refine ⟨_, stepI_out.2 ⟨v2, Hv2, o2', rfl⟩, stepI_out.2 ⟨v1, Hv1, o1', ?_⟩⟩
  have f1 := DOut.eff hroom hi hki o1
  have f2 := DOut.eff hroom hj hkj o2'
  have hp : put (put s.tmps oi.dst v1) oj.dst v2 = put (put s.tmps oj.dst v2) oi.dst v1 := put_comm v1 v2 a2
  have hh : unmaskH (unmaskH s.H Hv1 (hidI r (itemS E r.chk ops.toList i oi))) Hv2 (hidI r (itemS E r.chk ops.toList j oj)) = unmaskH (unmaskH s.H Hv2 (hidI r (itemS E r.chk ops.toList j oj))) Hv1 (hidI r (itemS E r.chk ops.toList i oi)) := by
    apply List.ext_getElem?
    intro k
    simp only [unmaskH_get, unmaskH_len, f1.1, f2.1]
    by_cases hl : k < s.H.length
    · by_cases ki : k ∈ hidI r (itemS E r.chk ops.toList i oi) <;> by_cases kj : k ∈ hidI r (itemS E r.chk ops.toList j oj)
      · simp [ki, kj, hl]
      · simp [ki, kj, hl]
      · simp [ki, kj, hl]
      · simp only [ki, kj, hl, false_and, if_false]
        rw [f1.2 k (fun h => kj (mem_hid hi hji h)), f2.2 k (fun h => ki (mem_hid hj hij h)), maskH_get, maskH_get, if_neg (fun x => kj x.1), if_neg (fun x => ki x.1)]
    · have z : ∀ X : Heap, X.length = s.H.length → X[k]? = none := fun X hX => List.getElem?_eq_none (by omega)
      simp only [hl, and_false, if_false]
      rw [z _ f1.1, z _ f2.1]
  show (⟨_, _, _⟩ : St) = _
  rw [show (itemS E r.chk ops.toList j oj).o = oj from rfl, show (itemS E r.chk ops.toList i oi).o = oi from rfl, hp, hh]

/-- An operation that is bound to no memory, and another one. -/
theorem comm_pure1 {i j : Nat} {oi oj : Oper} (hi : ops[i]? = some oi) (hj : ops[j]? = some oj) (hap : oi.apart ops oj = true) (hki : kindD E r.chk oi = .pure) : CommD (stepD E self ops r) i j := by
  intro s s1 s2 h1 h2
  obtain ⟨a1, a2, a3⟩ := Oper.apart_spec hap
  simp only [stepD, hi, hj, Option.bind_some] at h1 h2 ⊢
  obtain ⟨v1, Hv1, o1, rfl⟩ := stepI_out.1 h1
  obtain ⟨v2, Hv2, o2, rfl⟩ := stepI_out.1 h2
  obtain ⟨rfl, _⟩ := DOut.pure (s' := s) hi hki o1 ⟨rfl, fun _ _ => rfl⟩
  simp only [unmask_mask] at o2 ⊢
  have o2' : DOut E self ops r (itemS E r.chk ops.toList j oj) s v2 Hv2 := o2.see (alike_put a1).symm rfl fun k hk => rfl
  obtain ⟨_, o1'⟩ := DOut.pure (s' := ⟨put s.tmps oj.dst v2, unmaskH s.H Hv2 (hidI r (itemS E r.chk ops.toList j oj)), s.ds⟩) hi hki o1 (alike_put a3)
  refine ⟨_, stepI_out.2 ⟨v2, Hv2, o2', rfl⟩, stepI_out.2 ⟨v1, _, o1', ?_⟩⟩
  have hp : put (put s.tmps oi.dst v1) oj.dst v2 = put (put s.tmps oj.dst v2) oi.dst v1 := put_comm v1 v2 a2
  show (⟨_, _, _⟩ : St) = _
  rw [show (itemS E r.chk ops.toList j oj).o = oj from rfl, show (itemS E r.chk ops.toList i oi).o = oi from rfl, hp, unmask_mask]

theorem comm_pure2 {i j : Nat} {oi oj : Oper} (hi : ops[i]? = some oi) (hj : ops[j]? = some oj) (hap : oi.apart ops oj = true) (hkj : kindD E r.chk oj = .pure) : CommD (stepD E self ops r) i j := by
  intro s s1 s2 h1 h2
  obtain ⟨a1, a2, a3⟩ := Oper.apart_spec hap
  simp only [stepD, hi, hj, Option.bind_some] at h1 h2 ⊢
  obtain ⟨v1, Hv1, o1, rfl⟩ := stepI_out.1 h1
  obtain ⟨v2, Hv2, o2, rfl⟩ := stepI_out.1 h2
  obtain ⟨rfl, o2'⟩ := DOut.pure (s' := s) hj hkj o2 (alike_put a1).symm
  have o1' : DOut E self ops r (itemS E r.chk ops.toList i oi) ⟨put s.tmps oj.dst v2, unmaskH s.H (maskH s.H (hidI r (itemS E r.chk ops.toList j oj))) (hidI r (itemS E r.chk ops.toList j oj)), s.ds⟩ v1 Hv1 :=
    o1.see (alike_put a3) (by rw [unmask_mask]) fun k hk => by rw [unmask_mask]
  refine ⟨_, stepI_out.2 ⟨v2, _, o2', rfl⟩, stepI_out.2 ⟨v1, _, o1', ?_⟩⟩
  have hp : put (put s.tmps oi.dst v1) oj.dst v2 = put (put s.tmps oj.dst v2) oi.dst v1 := put_comm v1 v2 a2
  show (⟨_, _, _⟩ : St) = _
  rw [show (itemS E r.chk ops.toList j oj).o = oj from rfl, show (itemS E r.chk ops.toList i oi).o = oi from rfl, hp, unmask_mask, unmask_mask]

theorem comm_new1 (hroom : r.room = slotsN E ops.toList) {i j : Nat} {oi oj : Oper} (hi : ops[i]? = some oi) (hj : ops[j]? = some oj) (hij : unordered ops.toList i j = true) (hji : unordered ops.toList j i = true)
    (hap : oi.apart ops oj = true) (hki : kindD E r.chk oi = .new) (hkj : kindD E r.chk oj = .other) : CommD (stepD E self ops r) i j := by
  intro s s1 s2 h1 h2
  obtain ⟨a1, a2, a3⟩ := Oper.apart_spec hap
  simp only [stepD, hi, hj, Option.bind_some] at h1 h2 ⊢
  obtain ⟨v1, Hv1, o1, rfl⟩ := stepI_out.1 h1
  obtain ⟨v2, Hv2, o2, rfl⟩ := stepI_out.1 h2
  have hp : put (put s.tmps oi.dst v1) oj.dst v2 = put (put s.tmps oj.dst v2) oi.dst v1 := put_comm v1 v2 a2
  rcases DOut.new hroom hi hki o1 with ⟨e1, k1⟩ | ⟨p, b, p1, p2, p3, p4, p5, p6⟩
  · rw [e1] at o2 ⊢
    have o2' : DOut E self ops r (itemS E r.chk ops.toList j oj) s v2 Hv2 := o2.see (alike_put a1).symm rfl fun k hk => rfl
    obtain ⟨Hv', o1', e1'⟩ := k1 ⟨put s.tmps oj.dst v2, unmaskH s.H Hv2 (hidI r (itemS E r.chk ops.toList j oj)), s.ds⟩ (alike_put a3)
    refine ⟨_, stepI_out.2 ⟨v2, Hv2, o2', rfl⟩, stepI_out.2 ⟨v1, _, o1', ?_⟩⟩
    rw [e1']
    show (⟨_, _, _⟩ : St) = _
    rw [show (itemS E r.chk ops.toList j oj).o = oj from rfl, show (itemS E r.chk ops.toList i oi).o = oi from rfl, hp]
  · have hpj : p ∈ hidI r (itemS E r.chk ops.toList j oj) := mem_hid hi hji p1
    rw [p5] at o2 ⊢
    have o2' : DOut E self ops r (itemS E r.chk ops.toList j oj) s v2 Hv2 := o2.see (alike_put a1).symm (by simp) fun k hk => by
      rw [List.getElem?_set_ne]
      rintro rfl; exact hk hpj
    have hlen : r.base + r.room ≤ Hv2.length := by
      rcases DOut.len hkj o2' with h | h
      · exact h.2
      · omega
    have hfree : (unmaskH s.H Hv2 (hidI r (itemS E r.chk ops.toList j oj)))[p]? = some .free := by rw [unmask_at hpj (by omega) (by omega)]; exact p4
    obtain ⟨Hv', o1', e1'⟩ := p6 ⟨put s.tmps oj.dst v2, unmaskH s.H Hv2 (hidI r (itemS E r.chk ops.toList j oj)), s.ds⟩ (alike_put a3) (by simp only [unmaskH_len]; exact hlen) hfree
    refine ⟨_, stepI_out.2 ⟨v2, Hv2, o2', rfl⟩, stepI_out.2 ⟨v1, _, o1', ?_⟩⟩
    rw [e1']
    show (⟨_, _, _⟩ : St) = _
    rw [show (itemS E r.chk ops.toList j oj).o = oj from rfl, show (itemS E r.chk ops.toList i oi).o = oi from rfl, hp, unmask_set hpj (by omega) (by omega)]

theorem comm_new2 (hroom : r.room = slotsN E ops.toList) {i j : Nat} {oi oj : Oper} (hi : ops[i]? = some oi) (hj : ops[j]? = some oj) (hij : unordered ops.toList i j = true) (hji : unordered ops.toList j i = true)
    (hap : oi.apart ops oj = true) (hki : kindD E r.chk oi = .other) (hkj : kindD E r.chk oj = .new) : CommD (stepD E self ops r) i j := by
  intro s s1 s2 h1 h2
  obtain ⟨a1, a2, a3⟩ := Oper.apart_spec hap
  simp only [stepD, hi, hj, Option.bind_some] at h1 h2 ⊢
  obtain ⟨v1, Hv1, o1, rfl⟩ := stepI_out.1 h1
  obtain ⟨v2, Hv2, o2, rfl⟩ := stepI_out.1 h2
  have hp : put (put s.tmps oi.dst v1) oj.dst v2 = put (put s.tmps oj.dst v2) oi.dst v1 := put_comm v1 v2 a2
  rcases DOut.new hroom hj hkj o2 with ⟨e1, k1⟩ | ⟨p, b, p1, p2, p3, p4, p5, p6⟩
  · obtain ⟨Hv', o2', e2'⟩ := k1 s (alike_put a1).symm
    have o1' : DOut E self ops r (itemS E r.chk ops.toList i oi) ⟨put s.tmps oj.dst v2, unmaskH s.H Hv' (hidI r (itemS E r.chk ops.toList j oj)), s.ds⟩ v1 Hv1 :=
      o1.see (alike_put a3) (by rw [e2']) fun k hk => by rw [e2']
    refine ⟨_, stepI_out.2 ⟨v2, _, o2', rfl⟩, stepI_out.2 ⟨v1, _, o1', ?_⟩⟩
    rw [e2']
    show (⟨_, _, _⟩ : St) = _
    rw [show (itemS E r.chk ops.toList j oj).o = oj from rfl, show (itemS E r.chk ops.toList i oi).o = oi from rfl, hp]
    simp only at e1
    rw [e1]
  · have hpi : p ∈ hidI r (itemS E r.chk ops.toList i oi) := mem_hid hj hij p1
    simp only [unmaskH_len] at p3
    have hlen : r.base + r.room ≤ s.H.length := by
      rcases DOut.len hki o1 with h | h
      · exact h.1
      · omega
    have hfree : s.H[p]? = some .free := by
      have := unmask_at (Hv := Hv1) hpi (by omega : p < s.H.length) (by omega)
      rw [← this]; exact p4
    obtain ⟨Hv', o2', e2'⟩ := p6 s (alike_put a1).symm hlen hfree
    have o1' : DOut E self ops r (itemS E r.chk ops.toList i oi) ⟨put s.tmps oj.dst v2, unmaskH s.H Hv' (hidI r (itemS E r.chk ops.toList j oj)), s.ds⟩ v1 Hv1 :=
      o1.see (alike_put a3) (by rw [e2']; simp) fun k hk => by
        rw [e2', List.getElem?_set_ne]
        rintro rfl; exact hk hpi
    refine ⟨_, stepI_out.2 ⟨v2, _, o2', rfl⟩, stepI_out.2 ⟨v1, _, o1', ?_⟩⟩
    rw [e2']
    show (⟨_, _, _⟩ : St) = _
    simp only at p5
    rw [show (itemS E r.chk ops.toList j oj).o = oj from rfl, show (itemS E r.chk ops.toList i oi).o = oi from rfl, hp, p5, unmask_set hpi (by omega) (by omega)]

/-- What a plan says may be exchanged. -/
theorem comm_ok (hroom : r.room = slotsN E ops.toList) {i j : Nat} {oi oj : Oper} (hi : ops[i]? = some oi) (hj : ops[j]? = some oj) (hij : unordered ops.toList i j = true) (hji : unordered ops.toList j i = true) (hf : freeD E r.chk ops oi oj = true) : CommD (stepD E self ops r) i j := by
  simp only [freeD, Bool.and_eq_true] at hf
  obtain ⟨hap, hk⟩ := hf
  by_cases k1 : kindD E r.chk oi = .other
  · rw [k1] at hk
    by_cases k2 : kindD E r.chk oj = .pure
    · exact comm_pure2 hi hj hap k2
    · by_cases k3 : kindD E r.chk oj = .new
      · exact comm_new2 hroom hi hj hij hji hap k1 k3
      · exfalso
        cases h2 : kindD E r.chk oj <;> rw [h2] at hk k2 k3 <;> simp at hk k2 k3
  · by_cases k2 : kindD E r.chk oj = .other
    · rw [k2] at hk
      by_cases k3 : kindD E r.chk oi = .pure
      · exact comm_pure1 hi hj hap k3
      · by_cases k4 : kindD E r.chk oi = .new
        · exact comm_new1 hroom hi hj hij hji hap k4 k2
        · exfalso
          cases h2 : kindD E r.chk oi <;> rw [h2] at hk k1 k3 k4 <;> simp at hk k1 k3 k4
    · exact comm_both hroom hi hj hij hji hap k1 k2
end
end Go.Proofs.YtpmdlaojndejfaaGreatDoor.E

/- A free place that is filled changes nothing: regions, code, functions. -/
set_option linter.unusedVariables false
set_option linter.unusedSimpArgs false
namespace Go.Proofs.YtpmdlaojndejfaaGreatDoor.E
open Go

section
variable {E : Env} {self : Self} {p : Nat} {b : Blk}

def St.fill (s : St) (p : Nat) (b : Blk) : St := ⟨s.tmps, s.H.set p b, s.ds⟩

def FillX (call : FuncId → List V → Heap → Option (Oc × Heap)) : Prop :=
  ∀ (f : FuncId) (args : List V) (H : Heap) (o : Oc) (H' : Heap) (p : Nat) (b : Blk), call f args H = some (o, H') → H[p]? = some .free → call f args (H.set p b) = some (o, H'.set p b) ∧ H'[p]? = some .free
theorem FillX.call (h : FillX self.callX) : FillCall self.call := by
  intro f args H v H' p b hr hp
  obtain ⟨q1, q2⟩ := h f args H (.ret v) H' p b (call_some hr) hp
  exact ⟨by unfold Self.call; rw [q1]; rfl, q2⟩

theorem regionE_fill (hx : FillX self.callX) (hcode : FillCode self.code) (hq : PrimFill E) {ro : Option Nat} {ops : Array Oper} {x : X} : ∀ (l : List Oper) (s s' : St), regionE E self ro ops l s = some (x, s') → s.H[p]? = some .free →
    regionE E self ro ops l (s.fill p b) = some (x, s'.fill p b) ∧ s'.H[p]? = some .free
  | [], s, s', h, hp => by simp only [regionE, Option.some.injEq, Prod.mk.injEq] at h ⊢; obtain ⟨rfl, rfl⟩ := h; exact ⟨⟨rfl, rfl⟩, hp⟩
  | o :: l, s, s', h, hp => by
    have hlt : p < s.H.length := (List.getElem?_eq_some_iff.1 hp).1
    simp only [regionE] at h ⊢
    split at h
    · rename_i hw
      have hw' : Region.wanted o (yieldedV ops (s.fill p b).tmps) = true := hw
      rw [if_pos hw']
      split at h
      · rename_i hdf
        rw [if_pos hdf]
        split at h
        · cases h
        rename_i hrn
        rw [if_neg hrn]
        simp only [Option.bind_eq_some_iff] at h ⊢
        obtain ⟨d, h1, h2⟩ := h
        obtain ⟨r1, r2⟩ := regionE_fill hx hcode hq l _ s' h2 hp
        exact ⟨⟨d, h1, r1⟩, r2⟩
      rename_i hdf
      rw [if_neg hdf]
      split at h
      · rename_i y hy
        simp only [Option.some.injEq, Prod.mk.injEq] at h
        obtain ⟨rfl, rfl⟩ := h
        have hy' : panicV (s.fill p b).tmps o.op = some y := hy
        simp only [hy']
        exact ⟨trivial, hp⟩
      rename_i hy
      have hy' : panicV (s.fill p b).tmps o.op = none := hy
      simp only [hy']
      split at h
      · rename_i f args hpc
        have hpc' : panCall E (s.fill p b).tmps o = some (f, args) := hpc
        simp only [hpc']
        simp only [Option.bind_eq_some_iff] at h ⊢
        obtain ⟨⟨r, H1⟩, h1, h2⟩ := h
        obtain ⟨q1, q2⟩ := hx f args s.H r H1 p b h1 hp
        cases r with
        | ret v =>
          obtain ⟨r1, r2⟩ := regionE_fill hx hcode hq l _ s' h2 q2
          exact ⟨⟨_, q1, r1⟩, r2⟩
        | pan y =>
          simp only [Option.some.injEq, Prod.mk.injEq] at h2
          obtain ⟨rfl, rfl⟩ := h2
          exact ⟨⟨_, q1, rfl⟩, q2⟩
      rename_i hpc
      have hpc' : panCall E (s.fill p b).tmps o = none := hpc
      simp only [hpc']
      simp only [Option.bind_eq_some_iff] at h ⊢
      obtain ⟨⟨v, H1⟩, h1, h2⟩ := h
      obtain ⟨q1, q2⟩ := stepE_fill (b := b) hx.call hcode hq hp (nid := s.H.length) (by omega) (by omega) h1
      obtain ⟨r1, r2⟩ := regionE_fill hx hcode hq l _ s' h2 q2
      refine ⟨⟨(v, H1.set p b), ?_, r1⟩, r2⟩
      simp only [St.fill, List.length_set]; exact q1
    · rename_i hw
      have hw' : ¬ (Region.wanted o (yieldedV ops (s.fill p b).tmps) = true) := hw
      rw [if_neg hw']
      exact regionE_fill hx hcode hq l _ s' h hp

theorem posI_ne {r : DRun} {it : DItem} {n : Nat} (h1 : p < r.base) (h2 : p < n) : posI r it n ≠ p ∧ posI r it n + 1 ≠ p := by
  unfold posI; split <;> omega

theorem runP_fill (hcall : FillCall self.call) (hcode : FillCode self.code) (hq : PrimFill E) {ops : Array Oper} {r : DRun} (hb : p < r.base) : ∀ (l : List DItem) (s s' : St), runP E self ops r l s = some s' → s.H[p]? = some .free →
    runP E self ops r l (s.fill p b) = some (s'.fill p b) ∧ s'.H[p]? = some .free
  | [], s, s', h, hp => by simp only [runP, Option.some.injEq] at h ⊢; subst h; exact ⟨rfl, hp⟩
  | o :: l, s, s', h, hp => by
    have hlt : p < s.H.length := (List.getElem?_eq_some_iff.1 hp).1
    simp only [runP] at h ⊢
    split at h
    · rename_i hw
      have hw' : Region.wanted o.o (yieldedV ops (s.fill p b).tmps) = true := hw
      rw [if_pos hw']
      simp only [Option.bind_eq_some_iff] at h ⊢
      obtain ⟨⟨v, H1⟩, h1, h2⟩ := h
      obtain ⟨n1, n2⟩ := posI_ne (it := o) hb hlt
      obtain ⟨q1, q2⟩ := stepE_fill (b := b) hcall hcode hq hp n1 n2 h1
      obtain ⟨r1, r2⟩ := runP_fill hcall hcode hq hb l _ s' h2 q2
      refine ⟨⟨(v, H1.set p b), ?_, r1⟩, r2⟩
      simp only [St.fill, List.length_set]; exact q1
    · rename_i hw
      have hw' : ¬ (Region.wanted o.o (yieldedV ops (s.fill p b).tmps) = true) := hw
      rw [if_neg hw']
      exact runP_fill hcall hcode hq hb l _ s' h hp

theorem mask_fill_in {H : Heap} {ps : List Nat} (h : p ∈ ps) : maskH (H.set p b) ps = maskH H ps := by
  apply mask_same (by simp)
  intro k hk
  rw [List.getElem?_set_ne]
  rintro rfl; exact hk h
theorem mask_fill_out {H : Heap} {ps : List Nat} (h : p ∉ ps) : maskH (H.set p b) ps = (maskH H ps).set p b := by
  apply List.ext_getElem?
  intro k
  rw [maskH_get, List.length_set]
  by_cases hk : p = k
  · subst hk
    rw [if_neg (fun x => h x.1)]
    by_cases hl : p < H.length
    · rw [List.getElem?_set_self hl, List.getElem?_set_self (by rw [maskH_len]; exact hl)]
    · rw [List.getElem?_eq_none (by simp; omega), List.getElem?_eq_none (by simp [maskH_len]; omega)]
  · rw [List.getElem?_set_ne hk, List.getElem?_set_ne hk, maskH_get]
theorem unmask_fill {H Hv : Heap} {ps : List Nat} (h : p ∉ ps) : unmaskH (H.set p b) (Hv.set p b) ps = (unmaskH H Hv ps).set p b := by
  apply List.ext_getElem?
  intro k
  rw [unmaskH_get]
  simp only [List.length_set]
  by_cases hk : p = k
  · subst hk
    rw [if_neg (fun x => h x.1)]
    by_cases hl : p < Hv.length
    · rw [List.getElem?_set_self hl, List.getElem?_set_self (by rw [unmaskH_len]; exact hl)]
    · rw [List.getElem?_eq_none (by simp; omega), List.getElem?_eq_none (by simp [unmaskH_len]; omega)]
  · rw [List.getElem?_set_ne hk, List.getElem?_set_ne hk, List.getElem?_set_ne hk, unmaskH_get]

theorem stepI_fill (hcall : FillCall self.call) (hcode : FillCode self.code) (hq : PrimFill E) {ops : Array Oper} {r : DRun} (hb : p < r.base) {it : DItem} {s s' : St} (h : stepI E self ops r it s = some s') (hp : s.H[p]? = some .free) :
    stepI E self ops r it (s.fill p b) = some (s'.fill p b) ∧ s'.H[p]? = some .free := by
  have hlt : p < s.H.length := (List.getElem?_eq_some_iff.1 hp).1
  obtain ⟨v, Hv, ho, rfl⟩ := stepI_out.1 h
  obtain ⟨n1, n2⟩ := posI_ne (it := it) hb hlt
  have hm : (maskH s.H (hidI r it))[p]? = some .free := by
    rw [maskH_get]; split
    · rfl
    · exact hp
  have hv : Hv[p]? = some .free := by
    rcases ho with ⟨_, _, h1, _⟩ | ⟨_, _, rfl⟩
    · exact (stepE_fill (b := .gone) hcall hcode hq hm n1 n2 h1).2
    · exact hm
  have hvl : p < Hv.length := (List.getElem?_eq_some_iff.1 hv).1
  have hfree : (unmaskH s.H Hv (hidI r it))[p]? = some .free := by
    rw [unmaskH_get]; split
    · exact hp
    · exact hv
  by_cases hin : p ∈ hidI r it
  · refine ⟨stepI_out.2 ⟨v, Hv, ho.see ⟨rfl, fun _ _ => rfl⟩ (by simp [St.fill]) (fun k hk => by simp only [St.fill]; rw [List.getElem?_set_ne]; rintro rfl; exact hk hin), ?_⟩, hfree⟩
    simp only [St.fill]
    rw [unmask_set hin hlt hvl]
  · refine ⟨stepI_out.2 ⟨v, Hv.set p b, ?_, ?_⟩, hfree⟩
    · rcases ho with ⟨hw, hok, h1, hpo⟩ | ⟨hw, hvu, rfl⟩
      · refine .inl ⟨hw, ?_, ?_, ?_⟩
        · simp only [St.fill, List.length_set]; exact hok
        · simp only [St.fill, List.length_set]
          rw [mask_fill_out hin]
          exact (stepE_fill (b := b) hcall hcode hq hm n1 n2 h1).1
        · simp only [List.length_set]; exact hpo
      · refine .inr ⟨hw, hvu, ?_⟩
        simp only [St.fill]; rw [mask_fill_out hin]
    · simp only [St.fill]
      rw [unmask_fill hin]

theorem runI_fill (hcall : FillCall self.call) (hcode : FillCode self.code) (hq : PrimFill E) {ops : Array Oper} {r : DRun} (hb : p < r.base) : ∀ (l : List DItem) (s s' : St), runI E self ops r l s = some s' → s.H[p]? = some .free →
    runI E self ops r l (s.fill p b) = some (s'.fill p b) ∧ s'.H[p]? = some .free
  | [], s, s', h, hp => by simp only [runI, Option.some.injEq] at h ⊢; subst h; exact ⟨rfl, hp⟩
  | it :: l, s, s', h, hp => by
    simp only [runI, Option.bind_eq_some_iff] at h ⊢
    obtain ⟨s1, h1, h2⟩ := h
    obtain ⟨q1, q2⟩ := stepI_fill hcall hcode hq hb h1 hp
    obtain ⟨r1, r2⟩ := runI_fill hcall hcode hq hb l s1 s' h2 q2
    exact ⟨⟨_, q1, r1⟩, r2⟩

theorem trimH_get : ∀ (n : Nat) (H : Heap) (k : Nat), k < n → (trimH n H)[k]? = H[k]?
  | 0, H, k, h => by omega
  | n + 1, [], k, h => rfl
  | n + 1, x :: H, 0, h => rfl
  | n + 1, x :: H, k + 1, h => by simp only [trimH, List.getElem?_cons_succ]; exact trimH_get n H k (by omega)
theorem trimH_set : ∀ (n : Nat) (H : Heap) (k : Nat) (b : Blk), k < n → trimH n (H.set k b) = (trimH n H).set k b
  | 0, H, k, b, h => by omega
  | n + 1, [], k, b, h => by simp [trimH]
  | n + 1, x :: H, 0, b, h => rfl
  | n + 1, x :: H, k + 1, b, h => by simp only [trimH, List.set_cons_succ]; rw [trimH_set n H k b (by omega)]

theorem regionD_fill (hcall : FillCall self.call) (hcode : FillCode self.code) (hq : PrimFill E) {ops : Array Oper} {s s' : St} (h : regionD E self ops s = some s') (hp : s.H[p]? = some .free) :
    regionD E self ops (s.fill p b) = some (s'.fill p b) ∧ s'.H[p]? = some .free := by
  have hlt : p < s.H.length := (List.getElem?_eq_some_iff.1 hp).1
  have hpad : (padded E ops s).H[p]? = some .free := by simp only [padded]; rw [List.getElem?_append_left hlt]; exact hp
  have hpf : padded E ops (s.fill p b) = (padded E ops s).fill p b := by
    simp only [padded, St.fill]
    rw [List.set_append_left _ _ hlt]
  have hl : (s.fill p b).H.length = s.H.length := by simp [St.fill]
  have fin : ∀ s2 : St, s2.H[p]? = some .free → (⟨(s2.fill p b).tmps, trimH s.H.length (s2.fill p b).H, (s2.fill p b).ds⟩ : St) = St.fill ⟨s2.tmps, trimH s.H.length s2.H, s2.ds⟩ p b ∧ (trimH s.H.length s2.H)[p]? = some .free := by
    intro s2 h2
    refine ⟨?_, by rw [trimH_get _ _ _ hlt]; exact h2⟩
    simp only [St.fill]; rw [trimH_set _ _ _ _ hlt]
  unfold regionD at h ⊢
  rw [hpf, hl]
  split at h
  · cases h
  rename_i hm
  rw [if_neg hm]
  simp only [Option.map_eq_some_iff] at h ⊢
  obtain ⟨s2, h2, rfl⟩ := h
  split at h2
  · rename_i hn
    rw [if_pos hn]
    simp only [Option.bind_eq_some_iff] at h2 ⊢
    obtain ⟨its, hits, s1, h1, h2⟩ := h2
    obtain ⟨q1, q2⟩ := runP_fill (b := b) hcall hcode hq (by exact hlt) its _ s1 h1 hpad
    obtain ⟨r1, r2⟩ := runI_fill (b := b) hcall hcode hq (by exact hlt) its _ s2 h2 hpad
    obtain ⟨f1, f2⟩ := fin s2 r2
    exact ⟨⟨s2.fill p b, ⟨its, hits, s1.fill p b, q1, r1⟩, f1⟩, f2⟩
  · rename_i hn
    rw [if_neg hn]
    simp only [Option.bind_eq_some_iff] at h2 ⊢
    obtain ⟨its, hits, h2⟩ := h2
    obtain ⟨r1, r2⟩ := runI_fill (b := b) hcall hcode hq (by exact hlt) its _ s2 h2 hpad
    obtain ⟨f1, f2⟩ := fin s2 r2
    exact ⟨⟨s2.fill p b, ⟨its, hits, r1⟩, f1⟩, f2⟩

theorem loopEnd_fill {H H' : Heap} (hp : H[p]? = some .free) {l : Nat} {x : X} (h : loopEnd H l = some (x, H')) : loopEnd (H.set p b) l = some (x, H'.set p b) ∧ H'[p]? = some .free := by
  unfold loopEnd at h ⊢
  split at h
  · rename_i hid
    simp only [get_fill hp hid (by simp)]
    simp only [Option.some.injEq, Prod.mk.injEq] at h ⊢
    obtain ⟨rfl, rfl⟩ := h
    exact ⟨⟨rfl, set_swap (ne_free hp hid (by simp))⟩, set_free hp (ne_free hp hid (by simp))⟩
  · rename_i hid
    simp only [get_fill hp hid (by simp)]
    simp only [Option.some.injEq, Prod.mk.injEq] at h ⊢
    obtain ⟨rfl, rfl⟩ := h
    exact ⟨⟨rfl, set_swap (ne_free hp hid (by simp))⟩, set_free hp (ne_free hp hid (by simp))⟩
  · rename_i hid
    simp only [get_fill hp hid (by simp)]
    simp only [Option.some.injEq, Prod.mk.injEq] at h ⊢
    obtain ⟨rfl, rfl⟩ := h
    exact ⟨⟨rfl, set_swap (ne_free hp hid (by simp))⟩, set_free hp (ne_free hp hid (by simp))⟩
  · cases h

theorem loopBegin_fill {H H' : Heap} (hp : H[p]? = some .free) {ro : Option Nat} {ds ds' : List Dr} {L : Blk} {l : Nat} (h : loopBegin ro H ds L = some (l, H', ds')) :
    loopBegin ro (H.set p b) ds L = some (l, H'.set p b, ds') ∧ H'[p]? = some .free := by
  have hlt : p < H.length := (List.getElem?_eq_some_iff.1 hp).1
  unfold loopBegin at h ⊢
  cases ro with
  | none =>
    simp only [Option.some.injEq, Prod.mk.injEq, List.length_set] at h ⊢
    obtain ⟨rfl, rfl, rfl⟩ := h
    exact ⟨⟨rfl, by rw [List.set_append_left _ _ hlt], rfl⟩, by rw [List.getElem?_append_left hlt]; exact hp⟩
  | some r =>
    simp only at h ⊢
    split at h
    case h_2 => cases h
    rename_i hid
    simp only [get_fill hp hid (by simp)]
    simp only [Option.some.injEq, Prod.mk.injEq, List.length_set] at h ⊢
    obtain ⟨rfl, rfl, rfl⟩ := h
    exact ⟨⟨rfl, by rw [List.set_append_left _ _ hlt], rfl⟩, by rw [List.getElem?_append_left hlt]; exact hp⟩

theorem codeE_fill (hx : FillX self.callX) (hcode : FillCode self.code) (hq : PrimFill E) : FillCode (codeE E self) := by
  have hcall := hx.call
  intro ro c
  induction c with
  | skip => intro s x s' p b h hp; simp only [codeE, Option.some.injEq, Prod.mk.injEq] at h ⊢; obtain ⟨rfl, rfl⟩ := h; exact ⟨⟨rfl, rfl⟩, hp⟩
  | exit id => intro s x s' p b h hp; simp only [codeE, Option.some.injEq, Prod.mk.injEq] at h ⊢; obtain ⟨rfl, rfl⟩ := h; exact ⟨⟨rfl, rfl⟩, hp⟩
  | ret => intro s x s' p b h hp; simp only [codeE, Option.some.injEq, Prod.mk.injEq] at h ⊢; obtain ⟨rfl, rfl⟩ := h; exact ⟨⟨rfl, rfl⟩, hp⟩
  | region id ops draw =>
    intro s x s' p b h hp
    simp only [codeE] at h ⊢
    split at h
    · rename_i hd
      rw [if_pos hd]
      simp only [Option.map_eq_some_iff, Prod.mk.injEq] at h ⊢
      obtain ⟨s1, h1, rfl, rfl⟩ := h
      obtain ⟨q1, q2⟩ := regionD_fill (b := b) hcall hcode hq h1 hp
      exact ⟨⟨_, q1, rfl, rfl⟩, q2⟩
    · rename_i hd
      rw [if_neg hd]
      exact regionE_fill (b := b) hx hcode hq _ _ _ h hp
  | seq c1 c2 ih1 ih2 =>
    intro s x s' p b h hp
    simp only [codeE, Option.bind_eq_some_iff] at h ⊢
    obtain ⟨⟨x1, s1⟩, h1, h⟩ := h
    obtain ⟨q1, q2⟩ := ih1 s x1 s1 p b h1 hp
    cases x1 with
    | normal =>
      obtain ⟨r1, r2⟩ := ih2 s1 x s' p b h q2
      exact ⟨⟨_, q1, r1⟩, r2⟩
    | exit id =>
      simp only [Option.some.injEq, Prod.mk.injEq] at h
      obtain ⟨rfl, rfl⟩ := h
      exact ⟨⟨_, q1, rfl⟩, q2⟩
    | ret =>
      simp only [Option.some.injEq, Prod.mk.injEq] at h
      obtain ⟨rfl, rfl⟩ := h
      exact ⟨⟨_, q1, rfl⟩, q2⟩
    | pan y =>
      simp only [Option.some.injEq, Prod.mk.injEq] at h
      obtain ⟨rfl, rfl⟩ := h
      exact ⟨⟨_, q1, rfl⟩, q2⟩
  | cond cc c1 c2 ih1 ih2 =>
    intro s x s' p b h hp
    simp only [codeE] at h ⊢
    split at h
    · split at h
      · rename_i ht; rw [if_pos ht]; exact ih1 s x s' p b h hp
      · rename_i ht; rw [if_neg ht]; exact ih2 s x s' p b h hp
    · cases h
  | block id c ih =>
    intro s x s' p b h hp
    simp only [codeE, Option.bind_eq_some_iff] at h ⊢
    obtain ⟨⟨x1, s1⟩, h1, h⟩ := h
    obtain ⟨q1, q2⟩ := ih s x1 s1 p b h1 hp
    cases x1 with
    | normal =>
      simp only [Option.some.injEq, Prod.mk.injEq] at h
      obtain ⟨rfl, rfl⟩ := h
      exact ⟨⟨_, q1, rfl⟩, q2⟩
    | exit i =>
      simp only at h
      split at h
      · rename_i hi
        simp only [Option.some.injEq, Prod.mk.injEq] at h
        obtain ⟨rfl, rfl⟩ := h
        exact ⟨⟨_, q1, by simp only [if_pos hi]⟩, q2⟩
      · rename_i hi
        simp only [Option.some.injEq, Prod.mk.injEq] at h
        obtain ⟨rfl, rfl⟩ := h
        exact ⟨⟨_, q1, by simp only [if_neg hi]⟩, q2⟩
    | ret =>
      simp only [Option.some.injEq, Prod.mk.injEq] at h
      obtain ⟨rfl, rfl⟩ := h
      exact ⟨⟨_, q1, rfl⟩, q2⟩
    | pan y =>
      simp only [Option.some.injEq, Prod.mk.injEq] at h
      obtain ⟨rfl, rfl⟩ := h
      exact ⟨⟨_, q1, rfl⟩, q2⟩
  | loop c ih =>
    intro s x s' p b h hp
    simp only [codeE, Option.bind_eq_some_iff] at h ⊢
    obtain ⟨⟨x1, s1⟩, h1, h⟩ := h
    obtain ⟨q1, q2⟩ := ih s x1 s1 p b h1 hp
    cases x1 with
    | normal =>
      obtain ⟨r1, r2⟩ := hcode ro (.loop c) s1 x s' p b h q2
      exact ⟨⟨_, q1, r1⟩, r2⟩
    | exit id =>
      simp only [Option.some.injEq, Prod.mk.injEq] at h
      obtain ⟨rfl, rfl⟩ := h
      exact ⟨⟨_, q1, rfl⟩, q2⟩
    | ret =>
      simp only [Option.some.injEq, Prod.mk.injEq] at h
      obtain ⟨rfl, rfl⟩ := h
      exact ⟨⟨_, q1, rfl⟩, q2⟩
    | pan y =>
      simp only [Option.some.injEq, Prod.mk.injEq] at h
      obtain ⟨rfl, rfl⟩ := h
      exact ⟨⟨_, q1, rfl⟩, q2⟩
  | rangeFunc g ps asg body ih1 ih2 =>
    intro s x s' p b h hp
    simp only [codeE] at h ⊢
    split at h
    case h_2 => cases h
    split at h
    · cases h
    rename_i hg
    rw [if_neg hg]
    simp only [Option.bind_eq_some_iff] at h ⊢
    obtain ⟨⟨l, H0, ds⟩, h1, h⟩ := h
    simp only [Option.bind_eq_some_iff, Option.map_eq_some_iff, Prod.mk.injEq] at h
    obtain ⟨⟨v, H⟩, h2, ⟨x2, H2⟩, h3, rfl, rfl⟩ := h
    obtain ⟨q1, q2⟩ := loopBegin_fill (b := b) hp h1
    obtain ⟨r1, r2⟩ := hcall _ _ _ _ _ p b h2 q2
    obtain ⟨t1, t2⟩ := loopEnd_fill (b := b) r2 h3
    refine ⟨⟨_, q1, ?_⟩, t2⟩
    simp only [Option.bind_eq_some_iff, Option.map_eq_some_iff, Prod.mk.injEq]
    exact ⟨_, r1, _, t1, rfl, rfl⟩
  | _ => intro s x s' p b h hp; simp [codeE] at h

theorem resE_fill {H : Heap} (hp : H[p]? = some .free) {tmps : List V} : ∀ {rs : List ResultVar} {vs : List V}, resE E tmps H rs = some vs → resE E tmps (H.set p b) rs = some vs
  | [], vs, h => by simpa [resE] using h
  | .tmp t :: l, vs, h => by
    simp only [resE, Option.map_eq_some_iff] at h ⊢
    obtain ⟨ys, h1, rfl⟩ := h
    exact ⟨ys, resE_fill hp h1, rfl⟩
  | .cell a t :: l, vs, h => by
    simp only [resE, Option.bind_eq_some_iff, Option.map_eq_some_iff] at h ⊢
    obtain ⟨v, hv, ys, h1, rfl⟩ := h
    exact ⟨v, loadT_fill hp hv, ys, resE_fill hp h1, rfl⟩

theorem regionR_fill {ops : Array Oper} {m' : Md} : ∀ (l : List Oper) (m : Md) (s s' : St), regionR E ops l m s = some (m', s') → s.H[p]? = some .free →
    regionR E ops l m (s.fill p b) = some (m', s'.fill p b) ∧ s'.H[p]? = some .free
  | [], m, s, s', h, hp => by simp only [regionR, Option.some.injEq, Prod.mk.injEq] at h ⊢; obtain ⟨rfl, rfl⟩ := h; exact ⟨⟨rfl, rfl⟩, hp⟩
  | o :: l, m, s, s', h, hp => by
    have hlt : p < s.H.length := (List.getElem?_eq_some_iff.1 hp).1
    simp only [regionR] at h ⊢
    split at h
    · rename_i hw
      have hw' : Region.wanted o (yieldedV ops (s.fill p b).tmps) = true := hw
      rw [if_pos hw']
      split at h
      · rename_i hr
        rw [if_pos hr]
        cases m with
        | pan y => exact regionR_fill l _ _ s' h hp
        | ret => exact regionR_fill l _ _ s' h hp
        | done y => exact regionR_fill l _ _ s' h hp
      · rename_i hr
        rw [if_neg hr]
        simp only [Option.bind_eq_some_iff] at h ⊢
        obtain ⟨⟨v, H1⟩, h1, h2⟩ := h
        obtain ⟨q1, q2⟩ := opE_fill (b := b) hp (nid := s.H.length) (by omega) h1
        obtain ⟨r1, r2⟩ := regionR_fill l m _ s' h2 q2
        refine ⟨⟨(v, H1.set p b), ?_, r1⟩, r2⟩
        simp only [St.fill, List.length_set]; exact q1
    · rename_i hw
      have hw' : ¬ (Region.wanted o (yieldedV ops (s.fill p b).tmps) = true) := hw
      rw [if_neg hw']
      exact regionR_fill l m _ s' h hp
theorem codeR_fill (hx : FillX self.callX) (hcode : FillCode self.code) (hq : PrimFill E) : ∀ (c : Code) (m : Md) (s : St) (x : X) (m' : Md) (s' : St), codeR E self c m s = some (x, m', s') → s.H[p]? = some .free →
    codeR E self c m (s.fill p b) = some (x, m', s'.fill p b) ∧ s'.H[p]? = some .free := by
  have other : ∀ (c : Code) (m : Md) (s : St) (x : X) (m' : Md) (s' : St), (codeE E self none c s).map (fun (x, s') => (x, m, s')) = some (x, m', s') → s.H[p]? = some .free →
      (codeE E self none c (s.fill p b)).map (fun (x, s') => (x, m, s')) = some (x, m', s'.fill p b) ∧ s'.H[p]? = some .free := by
    intro c m s x m' s' h hp
    simp only [Option.map_eq_some_iff, Prod.mk.injEq] at h ⊢
    obtain ⟨⟨x1, s1⟩, h1, rfl, rfl, rfl⟩ := h
    obtain ⟨q1, q2⟩ := codeE_fill hx hcode hq none c s x1 s1 p b h1 hp
    exact ⟨⟨_, q1, rfl, rfl, rfl⟩, q2⟩
  intro c
  induction c with
  | seq a c iha ihc =>
    intro m s x m' s' h hp
    simp only [codeR, Option.bind_eq_some_iff] at h ⊢
    obtain ⟨⟨x1, m1, s1⟩, h1, h⟩ := h
    obtain ⟨q1, q2⟩ := iha m s x1 m1 s1 h1 hp
    cases x1 with
    | normal =>
      obtain ⟨r1, r2⟩ := ihc m1 s1 x m' s' h q2
      exact ⟨⟨_, q1, r1⟩, r2⟩
    | _ =>
      simp only [Option.some.injEq, Prod.mk.injEq] at h
      obtain ⟨rfl, rfl, rfl⟩ := h
      exact ⟨⟨_, q1, rfl⟩, q2⟩
  | region id ops draw =>
    intro m s x m' s' h hp
    simp only [codeR] at h ⊢
    split at h
    · rename_i hr
      rw [if_pos hr]
      split at h
      · cases h
      rename_i hd
      rw [if_neg hd]
      simp only [Option.map_eq_some_iff, Prod.mk.injEq] at h ⊢
      obtain ⟨⟨m1, s1⟩, h1, rfl, rfl, rfl⟩ := h
      obtain ⟨q1, q2⟩ := regionR_fill (b := b) _ _ _ _ h1 hp
      exact ⟨⟨_, q1, rfl, rfl, rfl⟩, q2⟩
    · rename_i hr
      rw [if_neg hr]
      exact other _ _ _ _ _ _ h hp
  | _ => intro m s x m' s' h hp; simp only [codeR] at h ⊢; exact other _ _ _ _ _ _ h hp
theorem bodyR_fill (hx : FillX self.callX) (hcode : FillCode self.code) (hq : PrimFill E) {f : FuncId} {args : List V} {m : Md} {H : Heap} {m' : Md} {H' : Heap} (h : bodyR E self f args m H = some (m', H')) (hp : H[p]? = some .free) :
    bodyR E self f args m (H.set p b) = some (m', H'.set p b) ∧ H'[p]? = some .free := by
  simp only [bodyR, Option.bind_eq_some_iff] at h ⊢
  obtain ⟨fn, hfn, c, hc, h⟩ := h
  split at h
  · cases h
  rename_i hz
  simp only [Option.bind_eq_some_iff] at h
  obtain ⟨⟨x, m1, s⟩, h1, h⟩ := h
  obtain ⟨q1, q2⟩ := codeR_fill hx hcode hq c m _ x m1 s h1 hp
  have fin : ∀ (g : (if s.ds.isEmpty then some (m1, s.H) else none) = some (m', H')), (if s.ds.isEmpty then some (m1, s.H.set p b) else none) = some (m', H'.set p b) ∧ H'[p]? = some .free := by
    intro g
    split at g
    case isFalse => cases g
    rename_i hd
    rw [if_pos hd]
    simp only [Option.some.injEq, Prod.mk.injEq] at g
    obtain ⟨rfl, rfl⟩ := g
    exact ⟨rfl, q2⟩
  cases x with
  | normal => obtain ⟨k1, k2⟩ := fin h; exact ⟨⟨fn, hfn, c, hc, by rw [if_neg hz]; simp only [Option.bind_eq_some_iff]; exact ⟨_, q1, k1⟩⟩, k2⟩
  | ret => obtain ⟨k1, k2⟩ := fin h; exact ⟨⟨fn, hfn, c, hc, by rw [if_neg hz]; simp only [Option.bind_eq_some_iff]; exact ⟨_, q1, k1⟩⟩, k2⟩
  | exit id => cases h
  | pan y => cases h
theorem leaveE_fill (hx : FillX self.callX) (hcode : FillCode self.code) (hq : PrimFill E) : ∀ {ds : List Dr} {m m' : Md} {H H' : Heap}, leaveE E self m H ds = some (m', H') → H[p]? = some .free → leaveE E self m (H.set p b) ds = some (m', H'.set p b) ∧ H'[p]? = some .free
  | [], m, m', H, H', h, hp => by simp only [leaveE, Option.some.injEq, Prod.mk.injEq] at h ⊢; obtain ⟨rfl, rfl⟩ := h; exact ⟨⟨rfl, rfl⟩, hp⟩
  | .mark d :: ds, m, m', H, H', h, hp => by
    simp only [leaveE] at h ⊢
    split at h
    case h_2 => cases h
    rename_i hid
    simp only [get_fill hp hid (by simp)]
    rw [set_swap (ne_free hp hid (by simp))]
    exact leaveE_fill hx hcode hq h (set_free hp (ne_free hp hid (by simp)))
  | .fn f args :: ds, m, m', H, H', h, hp => by
    simp only [leaveE] at h ⊢
    split at h
    · cases h
    rename_i hg
    rw [if_neg hg]
    simp only [Option.bind_eq_some_iff] at h ⊢
    obtain ⟨⟨m1, H1⟩, h1, h2⟩ := h
    obtain ⟨q1, q2⟩ := bodyR_fill (b := b) hx hcode hq h1 hp
    obtain ⟨r1, r2⟩ := leaveE_fill hx hcode hq h2 q2
    exact ⟨⟨_, q1, r1⟩, r2⟩

theorem bodyE_fill (hcode : FillCode self.code) (hx : FillX self.callX) (hq : PrimFill E) : FillX (bodyE E self) := by
  intro f args H o H' p b h hp
  simp only [bodyE, Option.bind_eq_some_iff] at h ⊢
  obtain ⟨fn, hfn, c, hc, ⟨x, s⟩, h1, m, hm, ⟨m1, H1⟩, h2, h3⟩ := h
  obtain ⟨q1, q2⟩ := codeE_fill hx hcode hq none c _ x s p b h1 hp
  obtain ⟨r1, r2⟩ := leaveE_fill (b := b) hx hcode hq h2 q2
  have fin : finE E fn ⟨s.tmps, s.H.set p b, s.ds⟩ (m1, H1.set p b) = some (o, H'.set p b) ∧ H'[p]? = some .free := by
    have h4 : finE E fn s (m1, H1) = some (o, H') := h3
    cases m1 with
    | ret =>
      simp only [finE, Option.map_eq_some_iff, Prod.mk.injEq] at h4 ⊢
      obtain ⟨vs, h4, rfl, rfl⟩ := h4
      exact ⟨⟨vs, resE_fill r2 h4, rfl, rfl⟩, r2⟩
    | pan y =>
      simp only [finE, Option.some.injEq, Prod.mk.injEq] at h4 ⊢
      obtain ⟨rfl, rfl⟩ := h4
      exact ⟨⟨rfl, rfl⟩, r2⟩
    | done y => cases h4
  exact ⟨⟨fn, hfn, c, hc, _, q1, m, hm, _, r1, fin.1⟩, fin.2⟩

theorem run_fill (hq : PrimFill E) : ∀ k, FillX (run E k).callX ∧ FillCode (run E k).code
  | 0 => ⟨fun f args H v H' p b h => by simp [run] at h, fun ro c s x s' p b h => by simp [run] at h⟩
  | k + 1 => by
    obtain ⟨h1, h2⟩ := run_fill hq k
    exact ⟨bodyE_fill h2 h1 hq, codeE_fill h1 h2 hq⟩
end
end Go.Proofs.YtpmdlaojndejfaaGreatDoor.E

/- Regions that draw: the evaluator's one run stands for every order. -/
set_option linter.unusedVariables false
set_option linter.unusedSimpArgs false
namespace Go.Proofs.YtpmdlaojndejfaaGreatDoor.E
open Go

section
variable {N A : Nat → Prop} {ι : Nat → Lk} {H H' : Heap} {w w' : World}

/-- Free places more or less. -/
theorem Ext.same (h : SR N A ι H w) (hh : w'.heap = w.heap) (ho : w'.os = w.os) (ht : w'.tape = w.tape) (hu : w'.output = w.output)
    (h1 : ∀ (id : Nat) (blk : Blk), H[id]? = some blk → blk ≠ .free → H'[id]? = some blk) (h2 : ∀ (id : Nat) (blk : Blk), H'[id]? = some blk → blk ≠ .free → H[id]? = some blk) : Ext N A ι H w N A ι H' w' := by
  have k : Keeps A A ι ι H H' w w' := ⟨fun _ h => h, fun b _ => by rw [hh], fun id blk a b => ⟨blk, h1 id blk a b, .same rfl blk⟩⟩
  have keep : ∀ v cv, VR A ι H w v cv → VR A ι H' w' v cv := fun v cv x => x.keep k
  have alf : ∀ b : Blk, b.alive → b ≠ .free := fun b ha e => by subst e; exact ha
  refine ⟨⟨?_, ?_, ?_, h.an, fun b hb => by rw [hh]; exact h.lt b hb⟩, keep, fun b hb => ⟨hb, by rw [hh]⟩, fun b hb => .inl hb, fun b hb => hb, by rw [hh]; exact Nat.le_refl _, ho, ht, hu⟩
  · intro id b hid
    by_cases hf : b = .free
    · subst hf; trivial
    · exact BR.keep keep rfl (fun _ => by rw [hh]) (h.live id b (h2 id b hid hf))
  · intro i j bi bj hi hj ai aj e
    exact h.inj i j bi bj (h2 i bi hi (alf bi ai)) (h2 j bj hj (alf bj aj)) ai aj e
  · intro i bi hi ai hn
    exact h.apart i bi (h2 i bi hi (alf bi ai)) ai hn

theorem dropF_get : ∀ (H : Heap) (k : Nat) (b : Blk), (H[k]? = some b → b ≠ .free → (dropF H)[k]? = some b) ∧ ((dropF H)[k]? = some b → H[k]? = some b)
  | [], k, b => ⟨fun h => by simp at h, fun h => by simp [dropF] at h⟩
  | x :: H, k, b => by
    have ih := dropF_get H
    simp only [dropF]
    split
    · rename_i hd
      refine ⟨fun h hf => ?_, fun h => by simp at h⟩
      cases k with
      | zero => simp at h; exact absurd h.symm hf
      | succ k =>
        have := (ih k b).1 (by simpa using h) hf
        rw [hd] at this; simp at this
    · cases k with
      | zero => exact ⟨fun h _ => by simpa using h, fun h => by simpa using h⟩
      | succ k => exact ⟨fun h hf => by simpa using (ih k b).1 (by simpa using h) hf, fun h => by simpa using (ih k b).2 (by simpa using h)⟩
theorem trimH_blk : ∀ (n : Nat) (H : Heap) (k : Nat) (b : Blk), (H[k]? = some b → b ≠ .free → (trimH n H)[k]? = some b) ∧ ((trimH n H)[k]? = some b → H[k]? = some b)
  | 0, H, k, b => dropF_get H k b
  | n + 1, [], k, b => ⟨fun h => by simp at h, fun h => by simp [trimH] at h⟩
  | n + 1, x :: H, 0, b => ⟨fun h _ => by simpa [trimH] using h, fun h => by simpa [trimH] using h⟩
  | n + 1, x :: H, k + 1, b => by
    simp only [trimH, List.getElem?_cons_succ]
    exact trimH_blk n H k b

theorem unmask_okI {r : DRun} {it : DItem} {tmps : List V} {n : Nat} (h : okI r it tmps n = true) (hn : n = H.length) :
    ∀ p ∈ hidI r it, p < H.length → posI r it n ≠ p ∧ posI r it n + 1 ≠ p := by
  intro p hp hl
  unfold posI
  cases hd : it.dry with
  | true => simp only [if_true]; omega
  | false =>
    simp only [okI, hd, Bool.false_or, Bool.and_eq_true, Bool.not_eq_true', List.contains_eq_mem, decide_eq_false_iff_not] at h
    simp only [Bool.false_eq_true, if_false]
    exact ⟨fun e => h.2.1.2 (e ▸ hp), fun e => h.2.2 (e ▸ hp)⟩

theorem unmask_step' {E : Env} {self : Self} (hcall : FillCall self.call) (hcode : FillCode self.code) (hq : PrimFill E) {tmps : List V} {nid : Nat} {o : Oper} {v : V} :
    ∀ (ps : List Nat) (H Hv : Heap), (∀ p ∈ ps, p < H.length → nid ≠ p ∧ nid + 1 ≠ p) → stepE E self tmps nid (maskH H ps) o = some (v, Hv) → stepE E self tmps nid H o = some (v, unmaskH H Hv ps)
  | [], H, Hv, _, h => h
  | p :: ps, H, Hv, h1, h => by
    simp only [maskH] at h
    have ih := unmask_step' hcall hcode hq ps (H.set p .free) Hv (fun q hq hl => h1 q (List.mem_cons_of_mem _ hq) (by simpa using hl)) h
    rcases Nat.lt_or_ge p H.length with hlt | hge
    · have hf : (H.set p .free)[p]? = some .free := by simp [hlt]
      obtain ⟨n1, n2⟩ := h1 p (by simp) hlt
      obtain ⟨q1, q2⟩ := stepE_fill (b := H[p]) hcall hcode hq hf n1 n2 ih
      have e1 : (H.set p .free).set p H[p] = H := by simp
      rw [e1] at q1
      rw [q1]
      congr 2
      have e2 : H[p]? = some H[p] := by simp [hlt]
      simp only [unmaskH, e2]
      apply List.ext_getElem?
      intro i
      by_cases hi : i = p
      · subst hi
        have hl : i < Hv.length := by
          have := (List.getElem?_eq_some_iff.1 q2).1
          rw [unmaskH_len] at this; exact this
        rw [List.getElem?_set_self (by rw [unmaskH_len]; exact hl), List.getElem?_set_self (by rw [unmaskH_len]; exact hl)]
      · rw [List.getElem?_set_ne (Ne.symm hi), List.getElem?_set_ne (Ne.symm hi), unmaskH_get, unmaskH_get]
        simp [List.getElem?_set_ne (Ne.symm hi)]
    · have e1 : H.set p .free = H := by rw [List.set_eq_of_length_le hge]
      rw [e1] at ih
      rw [ih]
      have e2 : H[p]? = none := List.getElem?_eq_none hge
      simp only [unmaskH, e2]

theorem any_sound {E : Env} {self : Self} (hself : Sound E self.call) (hcode : CodeSound E self.code) (hprim : PrimSound E) (fcall : FillCall self.call) (fcode : FillCode self.code) (fprim : PrimFill E)
    {ops : Array Oper} {r : DRun} {cro : Option Nat} {n : Nat} {Q : Exit → Act → World → Prop} {sN : St} :
    ∀ (k : Nat) (listed : Array Bool) (s : St) (N A : Nat → Prop) (ι : Nat → Lk) (w : World) (a : Act), anyD (stepD E self ops r) ops sN k listed s → SR N A ι s.H w → GR E A ι s.H w → TR A ι s.H w s.tmps a.tmps → DR A ι s.H w s.ds a.defers →
      (∀ a' w' N' A' ι', Ext N A ι s.H w N' A' ι' sN.H w' → TR A' ι' sN.H w' sN.tmps a'.tmps → DR A' ι' sN.H w' sN.ds a'.defers → Q .normal a' w') → wpAnyIn (W cro) n E.P .any ops Q k listed a w
  | 0, listed, s, N, A, ι, w, a, h, hs, hg, ht, hd, hq => by
    unfold anyD at h
    obtain ⟨h1, rfl⟩ := h
    exact ⟨h1, hq a w N A ι (Ext.refl hs) ht hd⟩
  | k + 1, listed, s, N, A, ι, w, a, h, hs, hg, ht, hd, hq => by
    unfold anyD at h
    refine ⟨fun hr => ?_, fun i hi => ?_⟩
    · have := h.1 hr
      subst this
      exact hq a w N A ι (Ext.refl hs) ht hd
    · obtain ⟨s1, h1, h2⟩ := h.2 i hi
      unfold wpOpIn
      unfold stepD at h1
      cases ho : ops[i]? with
      | none => rw [ho] at h1; simp at h1
      | some o =>
        rw [ho] at h1
        simp only [Option.bind_some] at h1 ⊢
        rw [← wanted_eq ht o]
        obtain ⟨v, Hv, hout, rfl⟩ := stepI_out.1 h1
        rcases hout with ⟨hw, hok, hst, hp⟩ | ⟨hw, rfl, rfl⟩
        · rw [if_pos (by exact hw)]
          have hst' := unmask_step' fcall fcode fprim _ s.H Hv (unmask_okI hok rfl) hst
          obtain ⟨k1, k2⟩ := stepE_sound hself hcode hprim hs hg ht hst'
          refine op_wp (o := o) k1 k2 fun cv w1 N1 A1 ι1 e1 hv => ?_
          have t1 := TR.put (ds := a.defers) (ht.keep e1.keep) hv o.dst
          have dd : (a.put o.dst cv).defers = a.defers := by cases o.dst <;> rfl
          exact any_sound hself hcode hprim fcall fcode fprim k _ _ N1 A1 ι1 w1 (a.put o.dst cv) h2 e1.sr (GR.keep hs hg e1) t1 (by rw [dd]; exact hd.keep e1.keep) fun a' w' N' A' ι' e t d => hq a' w' N' A' ι' (e1.trans e) t d
        · have hw : Region.wanted o (yieldedV ops s.tmps) = false := hw
          rw [if_neg (by simp [hw])]
          refine ⟨fun _ _ => trivial, ?_⟩
          have t1 := TR.put (ds := a.defers) ht (VR.lit undef) o.dst
          have dd : (a.put o.dst undef).defers = a.defers := by cases o.dst <;> rfl
          simp only [unmask_mask] at h2
          exact any_sound hself hcode hprim fcall fcode fprim k _ _ N A ι w (a.put o.dst undef) h2 hs hg t1 (by rw [dd]; exact hd) hq

/-- The items, one after the other, are the steps by number. -/
theorem runI_runN {E : Env} {self : Self} {ops : Array Oper} {r : DRun} : ∀ (l : List Oper) (k : Nat) (s : St), (∀ m o, l[m]? = some o → ops[k + m]? = some o) → runI E self ops r (itemsL E r.chk ops.toList k l) s = runN (stepD E self ops r) (List.range' k l.length) s
  | [], k, s, h => rfl
  | o :: l, k, s, h => by
    have h0 : ops[k]? = some o := by simpa using h 0 o (by simp)
    simp only [itemsL, runI, List.length_cons, List.range'_succ, runN, stepD, h0, Option.bind_some]
    congr 1
    funext s'
    exact runI_runN l (k + 1) s' fun m o hm => by have := h (m + 1) o (by simpa using hm); rw [show k + 1 + m = k + (m + 1) by omega]; exact this

theorem anc_low {ops : Array Oper} (h : ∀ j, j < ops.size → (ancS ops.toList).getD j 0 < 2 ^ j) {j i : Nat} (hw : waits ops.toList j i = true) : i < j := by
  unfold waits at hw
  rcases Nat.lt_or_ge j ops.size with hj | hj
  · rcases Nat.lt_or_ge i j with hij | hij
    · exact hij
    · exfalso
      have h1 := h j hj
      have h2 := Nat.ge_two_pow_of_testBit hw
      have h3 : 2 ^ j ≤ 2 ^ i := Nat.pow_le_pow_right (by omega) hij
      omega
  · exfalso
    have : (ancS ops.toList).getD j 0 = 0 := by
      obtain ⟨l, h1, h2⟩ := ancL_pre ops.toList []
      rw [ancS, h1, List.getD, List.getElem?_eq_none (by simp [h2]; exact hj)]; rfl
    rw [this] at hw; simp at hw

theorem dirs_low {ops : Array Oper} (h : ∀ j, j < ops.size → (ancS ops.toList).getD j 0 < 2 ^ j) {j : Nat} {o : Oper} (ho : ops[j]? = some o) {e : Nat} (he : e ∈ dirs o) : e < j := by
  apply anc_low h
  have hg := ancL_get ops.toList [] j o (by simpa using ho)
  simp only [List.length_nil, Nat.zero_add] at hg
  unfold waits ancS
  rw [List.getD, hg]
  simp only [Option.getD_some]
  have key : ∀ (acc : List Nat) (l : List Nat) (s : Nat), (s.testBit e = true ∨ e ∈ l) → (l.foldl (fun s e => s ||| 2 ^ e ||| acc.getD e 0) s).testBit e = true := by
    intro acc l
    induction l with
    | nil => intro s h; rcases h with h | h; exact h; simp at h
    | cons x l ih =>
      intro s h
      simp only [List.foldl_cons]
      apply ih
      rcases h with h | h
      · left; rw [Nat.testBit_or, Nat.testBit_or, h]; simp
      · rcases List.mem_cons.1 h with rfl | h
        · left; rw [Nat.testBit_or, Nat.testBit_or, Nat.testBit_two_pow_self]; simp
        · right; exact h
  exact key _ _ 0 (.inr he)

theorem planS_spec {E : Env} {chk : Bool} {ops : Array Oper} {its : List DItem} (h : planS E chk ops = some its) :
    its = itemsL E chk ops.toList 0 ops.toList ∧ (∀ j, j < ops.size → (ancS ops.toList).getD j 0 < 2 ^ j) ∧ ∀ i j, i < j → j < ops.size → waits ops.toList j i = false → ∃ oi oj, ops[i]? = some oi ∧ ops[j]? = some oj ∧ freeD E chk ops oi oj = true := by
  unfold planS at h
  split at h
  case isFalse => cases h
  rename_i hok
  simp only [Option.some.injEq] at h
  simp only [okD, List.all_eq_true, List.mem_range, Bool.and_eq_true, decide_eq_true_eq, Bool.or_eq_true] at hok
  refine ⟨h.symm, fun j hj => (hok j hj).1, fun i j hij hj hw => ?_⟩
  rcases (hok j hj).2 i hij with h | h
  · rw [hw] at h; cases h
  · unfold okPair at h
    split at h
    · rename_i x y hx hy; exact ⟨x, y, hx, hy, h⟩
    · cases h

theorem runI_sound {E : Env} {self : Self} (hself : Sound E self.call) (hcode : CodeSound E self.code) (hprim : PrimSound E) (fcall : FillCall self.call) (fcode : FillCode self.code) (fprim : PrimFill E)
    {ops : Array Oper} {r : DRun} (hroom : r.room = slotsN E ops.toList) {its : List DItem} (hits : planS E r.chk ops = some its) {cro : Option Nat} {n : Nat} {Q : Exit → Act → World → Prop} {s sN : St} (h : runI E self ops r its s = some sN)
    {a : Act} (hs : SR N A ι s.H w) (hg : GR E A ι s.H w) (ht : TR A ι s.H w s.tmps a.tmps) (hd : DR A ι s.H w s.ds a.defers)
    (hq : ∀ a' w' N' A' ι', Ext N A ι s.H w N' A' ι' sN.H w' → TR A' ι' sN.H w' sN.tmps a'.tmps → DR A' ι' sN.H w' sN.ds a'.defers → Q .normal a' w') :
    wpAnyIn (W cro) n E.P .any ops Q ops.size (Array.replicate ops.size false) a w := by
  obtain ⟨rfl, hlow, hpair⟩ := planS_spec hits
  rw [runI_runN ops.toList 0 s (fun m o hm => by simpa using hm)] at h
  simp only [Array.length_toList] at h
  refine any_sound hself hcode hprim fcall fcode fprim (r := r) ops.size _ s N A ι w a ?_ hs hg ht hd hq
  refine anyD_lex (fun j o ho e he => dirs_low hlow ho he) (fun i j hij hj hw => ?_) ops.size 0 _ s (by omega) (by simp) (fun m => ?_) h
  · obtain ⟨oi, oj, hi, hj', hf⟩ := hpair i j hij hj hw
    have hw2 : waits ops.toList i j = false := by
      cases hx : waits ops.toList i j with
      | false => rfl
      | true => have := anc_low hlow hx; omega
    refine comm_ok hroom hi hj' ?_ ?_ hf
    · simp only [unordered, hw, hw2, Bool.not_false, Bool.and_true, bne_iff_ne, ne_eq]; omega
    · simp only [unordered, hw, hw2, Bool.not_false, Bool.and_true, bne_iff_ne, ne_eq]; omega
  · rcases Nat.lt_or_ge m ops.size with hm | hm
    · simp [hm]
    · simp [hm]

theorem regionD_sound {E : Env} {self : Self} (hself : Sound E self.call) (hcode : CodeSound E self.code) (hprim : PrimSound E) (fcall : FillCall self.call) (fcode : FillCode self.code) (fprim : PrimFill E)
    {ops : Array Oper} {cro : Option Nat} {n : Nat} {Q : Exit → Act → World → Prop} {s s' : St} (h : regionD E self ops s = some s') {id : Nat}
    {a : Act} (hs : SR N A ι s.H w) (hg : GR E A ι s.H w) (ht : TR A ι s.H w s.tmps a.tmps) (hd : DR A ι s.H w s.ds a.defers)
    (hq : ∀ a' w' N' A' ι', Ext N A ι s.H w N' A' ι' s'.H w' → TR A' ι' s'.H w' s'.tmps a'.tmps → DR A' ι' s'.H w' s'.ds a'.defers → Q .normal a' w') : (Code.region id ops true).wpIn (W cro) n E.P Q a w := by
  unfold regionD at h
  split at h
  · cases h
  rename_i hm
  have hm : E.P.follows .mixedOrders = true := by simpa using hm
  refine wpIn_region_any hm ?_
  have e0 : Ext N A ι s.H w N A ι (padded E ops s).H { w with drawn := w.drawn + 1 } := by
    refine Ext.same hs rfl rfl rfl rfl (fun k blk hk hf => ?_) (fun k blk hk hf => ?_)
    · simp only [padded]
      rw [List.getElem?_append_left (List.getElem?_eq_some_iff.1 hk).1]; exact hk
    · simp only [padded] at hk
      rcases Nat.lt_or_ge k s.H.length with hl | hl
      · rw [List.getElem?_append_left hl] at hk; exact hk
      · rw [List.getElem?_append_right hl, List.getElem?_replicate] at hk
        split at hk
        · simp at hk; exact absurd hk.symm hf
        · cases hk
  have hs0 := e0.sr
  have hg0 := GR.keep hs hg e0
  have ht0 : TR A ι (padded E ops s).H { w with drawn := w.drawn + 1 } (padded E ops s).tmps a.tmps := ht.keep e0.keep
  have hd0 : DR A ι (padded E ops s).H { w with drawn := w.drawn + 1 } (padded E ops s).ds a.defers := hd.keep e0.keep
  have fin : ∀ s2 : St, s' = ⟨s2.tmps, trimH s.H.length s2.H, s2.ds⟩ → ∀ a' w' N' A' ι', Ext N A ι (padded E ops s).H { w with drawn := w.drawn + 1 } N' A' ι' s2.H w' → TR A' ι' s2.H w' s2.tmps a'.tmps → DR A' ι' s2.H w' s2.ds a'.defers → Q .normal a' w' := by
    rintro s2 rfl a' w' N' A' ι' e t d
    have e2 : Ext N' A' ι' s2.H w' N' A' ι' (trimH s.H.length s2.H) w' := Ext.same e.sr rfl rfl rfl rfl (fun k blk hk hf => (trimH_blk _ _ k blk).1 hk hf) (fun k blk hk hf => (trimH_blk _ _ k blk).2 hk)
    exact hq a' w' N' A' ι' ((e0.trans e).trans e2) (t.keep e2.keep) (d.keep e2.keep)
  simp only [Option.map_eq_some_iff] at h
  obtain ⟨s2, h2, hs'⟩ := h
  split at h2
  · simp only [Option.bind_eq_some_iff] at h2
    obtain ⟨its, hits, s1, h1, h2⟩ := h2
    exact runI_sound hself hcode hprim fcall fcode fprim (r := ⟨true, s.H.length, slotsN E ops.toList, ops.toList.map (sidOf s1.tmps)⟩) rfl hits h2 hs0 hg0 ht0 hd0 (fin s2 hs'.symm)
  · simp only [Option.bind_eq_some_iff] at h2
    obtain ⟨its, hits, h2⟩ := h2
    exact runI_sound hself hcode hprim fcall fcode fprim (r := ⟨false, s.H.length, slotsN E ops.toList, []⟩) rfl hits h2 hs0 hg0 ht0 hd0 (fin s2 hs'.symm)
end
end Go.Proofs.YtpmdlaojndejfaaGreatDoor.E

/- The evaluator against the machine: the theorem. -/
set_option linter.unusedVariables false
set_option linter.unusedSimpArgs false
namespace Go.Proofs.YtpmdlaojndejfaaGreatDoor.E
open Go

section
variable {N A : Nat → Prop} {ι : Nat → Lk} {H H' : Heap} {w : World}

theorem wpSIn_mono {F : Fence} {n : Nat} {P : Program} {c : Code} {Q Q' : Exit → Act → List Frame → World → Prop} {a : Act} {cs : List Frame} (h : c.wpSIn F n P Q a cs w) (hq : ∀ e a cs w, Q e a cs w → Q' e a cs w) : c.wpSIn F n P Q' a cs w :=
  fun b k h1 h2 h3 h4 => let ⟨e, a', cs', w', l, q, r⟩ := h b k h1 h2 h3 h4; ⟨e, a', cs', w', l, hq _ _ _ _ q, r⟩

theorem XQ.of {N1 A1 : Nat → Prop} {ι1 : Nat → Lk} {H1 : Heap} {w1 : World} {x : X} {s' : St} (e1 : Ext N A ι H w N1 A1 ι1 H1 w1) {e : Exit} {a' : Act} {w' : World} (h : XQ N1 A1 ι1 H1 w1 x s' e a' w') : XQ N A ι H w x s' e a' w' := by
  obtain ⟨hx, N', A', ι', e2, t, d⟩ := h
  exact ⟨hx, N', A', ι', e1.trans e2, t, d⟩

theorem codeE_sound {E : Env} {self : Self} (hx : SoundX E self.callX) (hcode : CodeSound E self.code) (hprim : PrimSound E) (fcall : FillCall self.call) (fcode : FillCode self.code) (fprim : PrimFill E) : CodeSound E (codeE E self) := by
  have hself := hx.call
  intro ro c
  induction c with
  | skip =>
    intro s x s' h N A ι w cro a n hs hg ht hro hd
    simp only [codeE, Option.some.injEq, Prod.mk.injEq] at h
    obtain ⟨rfl, rfl⟩ := h
    exact wpIn_skip ⟨trivial, N, A, ι, Ext.refl hs, ht, hd⟩
  | region id ops draw =>
    intro s x s' h N A ι w cro a n hs hg ht hro hd
    simp only [codeE] at h
    split at h
    · rename_i hdraw
      subst hdraw
      simp only [Option.map_eq_some_iff, Prod.mk.injEq] at h
      obtain ⟨s1, h1, rfl, rfl⟩ := h
      exact regionD_sound hself hcode hprim fcall fcode fprim h1 hs hg ht hd fun a' w' N' A' ι' e t d => ⟨trivial, N', A', ι', e, t, d⟩
    rename_i hdraw
    have hdraw : draw = false := by simpa using hdraw
    subst hdraw
    have hr0 : ro = none → cro = none := by
      rintro rfl
      cases cro with
      | none => rfl
      | some b => exact hro.elim
    exact wpIn_region_list (regionE_sound hx hcode hprim hr0 ops.toList s s' N A ι w a h hs hg ht hd fun e a' w' N' A' ι' hx e1 t d => ⟨hx, N', A', ι', e1, t, d⟩)
  | seq c1 c2 ih1 ih2 =>
    intro s x s' h N A ι w cro a n hs hg ht hro hd
    simp only [codeE, Option.bind_eq_some_iff] at h
    obtain ⟨⟨x1, s1⟩, h1, h⟩ := h
    refine wpIn_seq (wpIn_mono (ih1 s x1 s1 h1 N A ι w cro a n hs hg ht hro hd).wp fun e a1 w1 hq => ?_)
    obtain ⟨hx, N1, A1, ι1, e1, t1, d1⟩ := hq
    cases x1 with
    | normal =>
      cases e <;> simp [XR] at hx
      simp only at h
      exact wpIn_mono (ih2 s1 x s' h N1 A1 ι1 w1 cro a1 n e1.sr (GR.keep hs hg e1) t1 (hro.keep e1.keep) d1).wp fun e a2 w2 hq => hq.of e1
    | exit id =>
      cases e <;> simp [XR] at hx
      subst hx
      simp only [Option.some.injEq, Prod.mk.injEq] at h
      obtain ⟨rfl, rfl⟩ := h
      exact ⟨rfl, N1, A1, ι1, e1, t1, d1⟩
    | ret =>
      cases e <;> simp [XR] at hx
      simp only [Option.some.injEq, Prod.mk.injEq] at h
      obtain ⟨rfl, rfl⟩ := h
      exact ⟨trivial, N1, A1, ι1, e1, t1, d1⟩
    | pan y =>
      cases e <;> simp [XR] at hx
      subst hx
      simp only [Option.some.injEq, Prod.mk.injEq] at h
      obtain ⟨rfl, rfl⟩ := h
      exact ⟨rfl, N1, A1, ι1, e1, t1, d1⟩
  | cond cc c1 c2 ih1 ih2 =>
    intro s x s' h N A ι w cro a n hs hg ht hro hd
    simp only [codeE] at h
    split at h
    case h_2 => cases h
    rename_i t hc
    have e : a.eval cc = .bool t := litOf_eq (v := .lit (.bool t)) rfl (hc ▸ ht.eval cc)
    refine wpIn_cond e ?_
    cases t
    · exact (ih2 s x s' h N A ι w cro a n hs hg ht hro hd).wp
    · exact (ih1 s x s' h N A ι w cro a n hs hg ht hro hd).wp
  | block id b ih =>
    intro s x s' h N A ι w cro a n hs hg ht hro hd
    simp only [codeE, Option.bind_eq_some_iff] at h
    obtain ⟨⟨x1, s1⟩, h1, h⟩ := h
    refine wpIn_block (wpIn_mono (ih s x1 s1 h1 N A ι w cro a n hs hg ht hro hd).wp fun e a1 w1 hq => ?_)
    obtain ⟨hx, N1, A1, ι1, e1, t1, d1⟩ := hq
    cases x1 with
    | normal =>
      cases e <;> simp [XR] at hx
      simp only [Option.some.injEq, Prod.mk.injEq] at h
      obtain ⟨rfl, rfl⟩ := h
      exact ⟨trivial, N1, A1, ι1, e1, t1, d1⟩
    | exit i =>
      cases e <;> simp [XR] at hx
      subst hx
      simp only at h
      simp only [Exit.inBlock]
      split at h
      · rename_i hi
        rw [if_pos hi]
        simp only [Option.some.injEq, Prod.mk.injEq] at h
        obtain ⟨rfl, rfl⟩ := h
        exact ⟨trivial, N1, A1, ι1, e1, t1, d1⟩
      · rename_i hi
        rw [if_neg hi]
        simp only [Option.some.injEq, Prod.mk.injEq] at h
        obtain ⟨rfl, rfl⟩ := h
        exact ⟨rfl, N1, A1, ι1, e1, t1, d1⟩
    | ret =>
      cases e <;> simp [XR] at hx
      simp only [Option.some.injEq, Prod.mk.injEq] at h
      obtain ⟨rfl, rfl⟩ := h
      exact ⟨trivial, N1, A1, ι1, e1, t1, d1⟩
    | pan y =>
      cases e <;> simp [XR] at hx
      subst hx
      simp only [Option.some.injEq, Prod.mk.injEq] at h
      obtain ⟨rfl, rfl⟩ := h
      exact ⟨rfl, N1, A1, ι1, e1, t1, d1⟩
  | loop b ih =>
    intro s x s' h N A ι w cro a n hs hg ht hro hd
    simp only [codeE, Option.bind_eq_some_iff] at h
    obtain ⟨⟨x1, s1⟩, h1, h⟩ := h
    refine LoopWp.of (wpIn_mono (ih s x1 s1 h1 N A ι w cro a n hs hg ht hro hd).wp fun e a1 w1 hq => ?_)
    obtain ⟨hx, N1, A1, ι1, e1, t1, d1⟩ := hq
    cases x1 with
    | normal =>
      cases e <;> simp [XR] at hx
      simp only at h
      have h2 : LoopWp (W cro) n E.P b (XQ N1 A1 ι1 s1.H w1 x s') a1 w1 := hcode ro (.loop b) s1 x s' h N1 A1 ι1 w1 cro a1 n e1.sr (GR.keep hs hg e1) t1 (hro.keep e1.keep) d1
      exact h2.mono fun e a2 w2 hq => hq.of e1
    | exit i =>
      cases e <;> simp [XR] at hx
      subst hx
      simp only [Option.some.injEq, Prod.mk.injEq] at h
      obtain ⟨rfl, rfl⟩ := h
      exact ⟨rfl, N1, A1, ι1, e1, t1, d1⟩
    | ret =>
      cases e <;> simp [XR] at hx
      simp only [Option.some.injEq, Prod.mk.injEq] at h
      obtain ⟨rfl, rfl⟩ := h
      exact ⟨trivial, N1, A1, ι1, e1, t1, d1⟩
    | pan y =>
      cases e <;> simp [XR] at hx
      subst hx
      simp only [Option.some.injEq, Prod.mk.injEq] at h
      obtain ⟨rfl, rfl⟩ := h
      exact ⟨rfl, N1, A1, ι1, e1, t1, d1⟩
  | exit id =>
    intro s x s' h N A ι w cro a n hs hg ht hro hd
    simp only [codeE, Option.some.injEq, Prod.mk.injEq] at h
    obtain ⟨rfl, rfl⟩ := h
    exact wpIn_exit ⟨rfl, N, A, ι, Ext.refl hs, ht, hd⟩
  | ret =>
    intro s x s' h N A ι w cro a n hs hg ht hro hd
    simp only [codeE, Option.some.injEq, Prod.mk.injEq] at h
    obtain ⟨rfl, rfl⟩ := h
    exact wpIn_ret ⟨trivial, N, A, ι, Ext.refl hs, ht, hd⟩
  | rangeFunc g ps asg body ih1 ih2 =>
    intro s x s' h N A ι w cro a n hs hg ht hro hd
    simp only [codeE] at h
    split at h
    case h_2 => cases h
    rename_i f caps hgv
    split at h
    · cases h
    rename_i hfn
    rw [not_or] at hfn
    obtain ⟨hgood, hbody⟩ := hfn
    have hgood : goodFn E.P f = true := by simpa using hgood
    have hbody : bodyless E.P f = false := by simpa using hbody
    simp only [Option.bind_eq_some_iff, Option.map_eq_some_iff, Prod.mk.injEq] at h
    obtain ⟨⟨l, H0, ds⟩, h1, ⟨v, H1⟩, h2, ⟨x1, H2⟩, h3, rfl, rfl⟩ := h
    have hgr := ht.eval g
    rw [hgv] at hgr
    generalize hev : a.eval g = cg at hgr
    cases hgr with
    | fn _ _ vs hl hv =>
    refine wpIn_rangeFunc fun fn _ => ?_
    obtain ⟨b, mark, w1, ι1, k1, k2, k3, k4⟩ := loopBegin_sound (P := E.P) hs hro hd ht h1 fn
    refine ⟨b, mark, w1, { target := .fn (.func f) vs, args := #[.func (.yield b) #[] #[]] }, w1, f, #[.func (.yield b) #[] #[]] ++ vs, w1, k1, ?_, fun _ _ => trivial, ?_, fun h => by simp [W, Fence.wide] at h, ?_⟩
    · simp only [rangeCall, resolve, hev, Deferred.ofValue]
      show Sem.run E.P (pure _) w1 = _
      simp [Act.eval]
    · simp only [invoke]
      exact run_callFunc hgood hbody _ w1
    · have ta : TR A ι1 H0 w1 (.yld l :: caps) (#[.func (.yield b) #[] #[]] ++ vs) :=
        TR.append (l1 := [.yld l]) ⟨rfl, fun i x cv p q => by
          cases i with
          | zero => simp at p q; subst p q; exact k3
          | succ i => simp at p⟩ (TR.keep k2.keep ⟨hl, hv⟩)
      refine calls_W ((hself f (.yld l :: caps) H0 v H1 h2 N A ι1 w1 _ k2.sr (GR.keep hs hg k2) ta).mono ?_)
      rintro e w3 ⟨cv, N3, A3, ι3, rfl, e3, _⟩
      obtain ⟨jump, w4, ι4, m1, m2, m3⟩ := loopEnd_sound (P := E.P) e3.sr (e3.keep _ _ k3) h3
      have e4 := k2.trans (e3.trans m2)
      have t4 := ht.keep e4.keep
      have d4 := k4.keep fun v cv x => m2.keep _ _ (e3.keep _ _ x)
      refine ⟨jump, w4, m1, ?_⟩
      cases x1 with
      | normal =>
        simp only at m3; subst m3
        exact ⟨trivial, N3, A3, ι4, e4, t4, d4⟩
      | ret =>
        simp only at m3; subst m3
        exact wpIn_ret ⟨trivial, N3, A3, ι4, e4, t4, d4⟩
      | exit id =>
        simp only at m3; subst m3
        exact wpIn_exit ⟨rfl, N3, A3, ι4, e4, t4, d4⟩
      | pan y => exact m3.elim
  | scope b ih =>
    intro s x s' h
    simp [codeE] at h
  | label l => intro s x s' h; simp [codeE] at h
  | goto l => intro s x s' h; simp [codeE] at h
  | refuse y => intro s x s' h; simp [codeE] at h

def resSem (tmps : Array Value) : ResultVar → Sem Value
  | .tmp t => pure (tmps.getD t undef)
  | .cell b t => do loadVar t (← asAddr (tmps.getD b undef))
theorem results_eq (fn : Func) (tmps : Array Value) : results fn tmps = (do let vs ← fn.results.mapM (resSem tmps); pure (if h : vs.size = 1 then vs[0] else .tuple vs)) := rfl

theorem start_tmps {fn : Func} {args : List V} {cargs : Array Value} (ht : TR A ι H w args cargs) : TR A ι H w (args ++ List.replicate (fn.ntmps - args.length) un) (cargs ++ Array.replicate (fn.ntmps - cargs.size) undef) := by
  rw [ht.1]
  refine TR.append ht ⟨by simp, fun i x cv p q => ?_⟩
  have hi : i < fn.ntmps - cargs.size := by have := (List.getElem?_eq_some_iff.1 p).1; simpa using this
  rw [List.getElem?_replicate, if_pos hi] at p
  rw [Array.getElem?_replicate, if_pos hi] at q
  cases p; cases q; exact .lit _

theorem resE_sound {E : Env} (hs : SR N A ι H w) (hg : GR E A ι H w) {tmps : List V} {a : Act} (ht : TR A ι H w tmps a.tmps) : ∀ {rs : List ResultVar} {vs : List V}, resE E tmps H rs = some vs →
    ∃ xs : List Value, (rs.mapM (resSem a.tmps)).run E.P w = .ok xs w ∧ vs.length = xs.length ∧ ∀ (i : Nat) (v : V) (x : Value), vs[i]? = some v → xs[i]? = some x → VR A ι H w v x
  | [], vs, h => by simp [resE] at h; subst h; exact ⟨[], by simp, rfl, fun i v x a => by simp at a⟩
  | .tmp t :: rs, vs, h => by
    simp only [resE, Option.map_eq_some_iff] at h
    obtain ⟨vs', h1, rfl⟩ := h
    obtain ⟨xs, r1, r2, r3⟩ := resE_sound hs hg ht h1
    have hr : (resSem a.tmps (.tmp t)).run E.P w = .ok (a.eval (.tmp t)) w := rfl
    refine ⟨a.eval (.tmp t) :: xs, by simp only [List.mapM_cons, Sem.run_bind, hr, Result.andThen_ok, r1, Sem.run_pure], by simp [r2], fun i v x p q => ?_⟩
    cases i with
    | zero => simp only [List.getElem?_cons_zero, Option.some.injEq] at p q; rw [← p, ← q]; exact ht.eval (.tmp t)
    | succ i => simp only [List.getElem?_cons_succ] at p q; exact r3 i v x p q
  | .cell b t :: rs, vs, h => by
    simp only [resE, Option.bind_eq_some_iff, Option.map_eq_some_iff] at h
    obtain ⟨v0, h0, vs', h1, rfl⟩ := h
    obtain ⟨xs, r1, r2, r3⟩ := resE_sound hs hg ht h1
    obtain ⟨cv, q1, q2⟩ := loadAt_sound hs hg (ht.eval (.tmp b)) h0
    have hld : (resSem a.tmps (.cell b t)).run E.P w = .ok cv w := by
      have e : a.eval (.tmp b) = a.tmps.getD b undef := rfl
      rw [e] at q1
      simp only [resSem]
      generalize a.tmps.getD b undef = z at q1 ⊢
      cases z <;> simp [Instr.loadAt, Instr.sureAddr] at q1
      rename_i ad
      cases ad with
      | none => simp [Instr.sureAddr] at q1
      | some ad => simpa [Instr.sureAddr, asAddr] using q1
    refine ⟨cv :: xs, by simp only [List.mapM_cons, Sem.run_bind, hld, Result.andThen_ok, r1, Sem.run_pure], by simp [r2], fun i v x p q => ?_⟩
    cases i with
    | zero => simp only [List.getElem?_cons_zero, Option.some.injEq] at p q; rw [← p, ← q]; exact q2
    | succ i => simp only [List.getElem?_cons_succ] at p q; exact r3 i v x p q

/-! A function is left. -/
def mdF : Md → FrameMode
  | .ret => .returning
  | .pan x => .panicking [{ v := x, recovered := false }]
  | .done x => .panicking [{ v := x, recovered := true }]
theorem settle_md (m : Md) : settle (mdF m) = mdF m.settle := by
  cases m <;> rfl

theorem regionR_sound {E : Env} {P : Program} (hP : P = E.P) {n : Nat} {ops : Array Oper} {m' : Md} {c0 : Frame} {cs : List Frame} {Q : Exit → Act → List Frame → World → Prop} :
    ∀ (l : List Oper) (k : Nat) (m : Md) (s s' : St) (N A : Nat → Prop) (ι : Nat → Lk) (w : World) (a : Act), (∀ i o, l[i]? = some o → ops[k + i]? = some o) → regionR E ops l m s = some (m', s') → SR N A ι s.H w → GR E A ι s.H w → TR A ι s.H w s.tmps a.tmps → DR A ι s.H w s.ds a.defers →
      (∀ a' w' N' A' ι', Ext N A ι s.H w N' A' ι' s'.H w' → TR A' ι' s'.H w' s'.tmps a'.tmps → DR A' ι' s'.H w' s'.ds a'.defers → Q .normal a' ({ c0 with mode := mdF m' } :: cs) w') →
      wpOpsSIn Fence.wide n E.P ops Q (List.range' k l.length) a ({ c0 with mode := mdF m } :: cs) w
  | [], k, m, s, s', N, A, ι, w, a, hl, h, hs, hg, ht, hd, hq => by
    simp only [regionR, Option.some.injEq, Prod.mk.injEq] at h
    obtain ⟨rfl, rfl⟩ := h
    exact hq a w N A ι (Ext.refl hs) ht hd
  | o :: l, k, m, s, s', N, A, ι, w, a, hl, h, hs, hg, ht, hd, hq => by
    have ho : ops[k]? = some o := by simpa using hl 0 o (by simp)
    have hl' : ∀ i o', l[i]? = some o' → ops[k + 1 + i]? = some o' := fun i o' hi => by
      have := hl (i + 1) o' (by simpa using hi)
      rw [show k + 1 + i = k + (i + 1) by omega]; exact this
    simp only [regionR] at h
    simp only [List.length_cons, List.range'_succ, wpOpsSIn, ho]
    refine ⟨fun _ _ => trivial, ?_⟩
    rw [← wanted_eq ht o]
    have go : ∀ (m1 : Md) (v : V) (H1 : Heap) (cv : Value) (w1 : World) (N1 A1 : Nat → Prop) (ι1 : Nat → Lk), Ext N A ι s.H w N1 A1 ι1 H1 w1 → VR A1 ι1 H1 w1 v cv → regionR E ops l m1 ⟨put s.tmps o.dst v, H1, s.ds⟩ = some (m', s') →
        wpOpsSIn Fence.wide n E.P ops Q (List.range' (k + 1) l.length) (a.put o.dst cv) ({ c0 with mode := mdF m1 } :: cs) w1 := by
      intro m1 v H1 cv w1 N1 A1 ι1 e1 hv h2
      have t1 := TR.put (ds := a.defers) (ht.keep e1.keep) hv o.dst
      have dd : (a.put o.dst cv).defers = a.defers := by cases o.dst <;> rfl
      exact regionR_sound hP l (k + 1) m1 _ s' N1 A1 ι1 w1 (a.put o.dst cv) hl' h2 e1.sr (GR.keep hs hg e1) t1 (by rw [dd]; exact hd.keep e1.keep) fun a' w' N' A' ι' e2 t d => hq a' w' N' A' ι' (e1.trans e2) t d
    split at h
    · rename_i hw
      rw [if_pos hw]
      split at h
      · rename_i hr
        have hx : (execOp a.eval o).run E.P w = .ok .recover w := by
          obtain ⟨dst, op, ty, pos, after, guard⟩ := o
          unfold isRec at hr
          split at hr
          case h_2 => cases hr
          rename_i oargs ats hop
          simp only at hop
          subst hop
          simp only [execOp, resolve]
          rfl
        rw [hx]
        cases m with
        | pan y =>
          simp only [mdF, recoverD]
          exact go (.done y) _ _ _ w N A ι (Ext.refl hs) (.lit _) h
        | ret =>
          simp only [mdF, recoverD]
          exact go .ret _ _ _ w N A ι (Ext.refl hs) (.lit _) h
        | done y =>
          simp only [mdF, recoverD]
          exact go (.done y) _ _ _ w N A ι (Ext.refl hs) (.lit _) h
      · simp only [Option.bind_eq_some_iff] at h
        obtain ⟨⟨v, H1⟩, h1, h2⟩ := h
        obtain ⟨nx, cv, w1, N1, A1, ι1, r1, r2, r3, r4⟩ := opE_sound hs hg ht h1
        rw [r1]
        rcases r2 with rfl | ⟨rfl, rfl⟩
        · exact go m v H1 cv w1 N1 A1 ι1 r3 r4 h2
        · exact go m v H1 undef w1 N1 A1 ι1 r3 r4 h2
    · rename_i hw
      rw [if_neg hw]
      exact go m _ _ _ w N A ι (Ext.refl hs) (VR.lit undef) h

theorem codeR_sound {E : Env} {self : Self} (hx : SoundX E self.callX) (hcode : CodeSound E self.code) (hprim : PrimSound E) (fcall : FillCall self.call) (fcode : FillCode self.code) (fprim : PrimFill E) {n : Nat} {c0 : Frame} {cs : List Frame} :
    ∀ (c : Code) (m : Md) (s : St) (x : X) (m' : Md) (s' : St) (N A : Nat → Prop) (ι : Nat → Lk) (w : World) (a : Act), codeR E self c m s = some (x, m', s') → SR N A ι s.H w → GR E A ι s.H w → TR A ι s.H w s.tmps a.tmps → DR A ι s.H w s.ds a.defers →
      c.wpSIn Fence.wide n E.P (fun e a' cs' w' => cs' = { c0 with mode := mdF m' } :: cs ∧ XQ N A ι s.H w x s' e a' w') a ({ c0 with mode := mdF m } :: cs) w := by
  have other : ∀ (c : Code) (m : Md) (s : St) (x : X) (m' : Md) (s' : St) (N A : Nat → Prop) (ι : Nat → Lk) (w : World) (a : Act), (codeE E self none c s).map (fun (x, s') => (x, m, s')) = some (x, m', s') → SR N A ι s.H w → GR E A ι s.H w → TR A ι s.H w s.tmps a.tmps → DR A ι s.H w s.ds a.defers →
      c.wpSIn Fence.wide n E.P (fun e a' cs' w' => cs' = { c0 with mode := mdF m' } :: cs ∧ XQ N A ι s.H w x s' e a' w') a ({ c0 with mode := mdF m } :: cs) w := by
    intro c m s x m' s' N A ι w a h hs hg ht hd
    simp only [Option.map_eq_some_iff, Prod.mk.injEq] at h
    obtain ⟨⟨x1, s1⟩, h1, rfl, rfl, rfl⟩ := h
    exact wpSIn_of_wpIn rfl (wpIn_mono (codeE_sound hx hcode hprim fcall fcode fprim none c s x1 s1 h1 N A ι w none a n hs hg ht trivial hd).wp fun e a' w' hq => ⟨rfl, hq⟩)
  intro c
  induction c with
  | seq c1 c2 ih1 ih2 =>
    intro m s x m' s' N A ι w a h hs hg ht hd
    simp only [codeR, Option.bind_eq_some_iff] at h
    obtain ⟨⟨x1, m1, s1⟩, h1, h⟩ := h
    refine wpSIn_seq (wpSIn_mono (ih1 m s x1 m1 s1 N A ι w a h1 hs hg ht hd) fun e a1 cs1 w1 hq => ?_)
    obtain ⟨rfl, hxr, N1, A1, ι1, e1, t1, d1⟩ := hq
    cases x1 with
    | normal =>
      cases e <;> simp [XR] at hxr
      exact wpSIn_mono (ih2 m1 s1 x m' s' N1 A1 ι1 w1 a1 h e1.sr (GR.keep hs hg e1) t1 d1) fun e a2 cs2 w2 hq => ⟨hq.1, hq.2.of e1⟩
    | exit id =>
      cases e <;> simp [XR] at hxr
      simp only [Option.some.injEq, Prod.mk.injEq] at h
      obtain ⟨rfl, rfl, rfl⟩ := h
      exact ⟨rfl, hxr, N1, A1, ι1, e1, t1, d1⟩
    | ret =>
      cases e <;> simp [XR] at hxr
      simp only [Option.some.injEq, Prod.mk.injEq] at h
      obtain ⟨rfl, rfl, rfl⟩ := h
      exact ⟨rfl, trivial, N1, A1, ι1, e1, t1, d1⟩
    | pan y =>
      cases e <;> simp [XR] at hxr
      simp only [Option.some.injEq, Prod.mk.injEq] at h
      obtain ⟨rfl, rfl, rfl⟩ := h
      exact ⟨rfl, hxr, N1, A1, ι1, e1, t1, d1⟩
  | region id ops draw =>
    intro m s x m' s' N A ι w a h hs hg ht hd
    simp only [codeR] at h
    split at h
    · split at h
      · cases h
      rename_i hdraw
      have hdraw : draw = false := by simpa using hdraw
      subst hdraw
      simp only [Option.map_eq_some_iff, Prod.mk.injEq] at h
      obtain ⟨⟨m1, s1⟩, h1, rfl, rfl, rfl⟩ := h
      refine wpSIn_region ?_
      have := regionR_sound (n := n) (c0 := c0) (cs := cs) (P := E.P) rfl (Q := fun e a' cs' w' => cs' = { c0 with mode := mdF m1 } :: cs ∧ XQ N A ι s.H w .normal s1 e a' w') ops.toList 0 m s s1 N A ι w a (fun i o hi => by simpa using hi) h1 hs hg ht hd fun a' w' N' A' ι' e t d => ⟨rfl, trivial, N', A', ι', e, t, d⟩
      rw [List.range_eq_range']
      simpa using this
    · exact other _ _ _ _ _ _ _ _ _ _ _ h hs hg ht hd
  | _ => intro m s x m' s' N A ι w a h hs hg ht hd; simp only [codeR] at h; exact other _ _ _ _ _ _ _ _ _ _ _ h hs hg ht hd

theorem bodyR_sound {E : Env} {self : Self} (hx : SoundX E self.callX) (hcode : CodeSound E self.code) (hprim : PrimSound E) (fcall : FillCall self.call) (fcode : FillCode self.code) (fprim : PrimFill E) {n : Nat}
    {f : FuncId} {args : List V} {m m' : Md} {cargs : Array Value} (h : bodyR E self f args m H = some (m', H')) (hs : SR N A ι H w) (hg : GR E A ι H w) (ht : TR A ι H w args cargs) :
    CallsDIn Fence.wide n E.P f cargs (mdF m) w fun e u' w' => (∃ v, e = .returned v) ∧ u' = mdF m' ∧ ∃ N' A' ι', Ext N A ι H w N' A' ι' H' w' := by
  simp only [bodyR, Option.bind_eq_some_iff] at h
  obtain ⟨fn, hfn, c, hc, h⟩ := h
  split at h
  · cases h
  rename_i hz
  have hz : fn.results.toList = [] := by
    have : fn.results.size = 0 := by simpa using hz
    simpa using this
  simp only [Option.bind_eq_some_iff] at h
  obtain ⟨⟨x, m1, s⟩, h1, h⟩ := h
  have t0 : TR A ι H w (args ++ List.replicate (fn.ntmps - args.length) un) (cargs ++ Array.replicate (fn.ntmps - cargs.size) undef) := start_tmps ht
  refine callsDIn_of_wpSIn hfn hc trivial fun c0 cs hm => ?_
  have hc0 : ({ c0 with mode := mdF m } : Frame) = c0 := by rw [← hm]
  have hw := codeR_sound (n := n) (c0 := c0) (cs := cs) hx hcode hprim fcall fcode fprim c m _ x m1 s N A ι w { tmps := cargs ++ Array.replicate (fn.ntmps - cargs.size) undef, defers := [] } h1 hs hg t0 DR.nil
  rw [hc0] at hw
  have fin : ∀ (a : Act) (w1 : World) (g : (if s.ds.isEmpty then some (m1, s.H) else none) = some (m', H')) (N1 A1 : Nat → Prop) (ι1 : Nat → Lk), Ext N A ι H w N1 A1 ι1 s.H w1 → DR A1 ι1 s.H w1 s.ds a.defers →
      a.defers = [] ∧ ∃ u', ({ c0 with mode := mdF m1 } : Frame) :: cs = { c0 with mode := u' } :: cs ∧ ∃ v, (results fn a.tmps).run E.P w1 = .ok v w1 ∧ (∃ v', Ending.returned v = .returned v') ∧ u' = mdF m' ∧ ∃ N' A' ι', Ext N A ι H w N' A' ι' H' w1 := by
    intro a w1 g N1 A1 ι1 e1 d1
    split at g
    case isFalse => cases g
    rename_i hd
    simp only [Option.some.injEq, Prod.mk.injEq] at g
    obtain ⟨rfl, rfl⟩ := g
    have hds : s.ds = [] := by simpa using hd
    refine ⟨?_, mdF m1, rfl, .tuple #[], ?_, ⟨_, rfl⟩, rfl, N1, A1, ι1, e1⟩
    · have := d1.1; rw [hds] at this; exact List.length_eq_zero_iff.1 this.symm
    · rw [results_eq, Array.mapM_eq_mapM_toList, hz]
      simp
  refine wpSIn_mono hw fun e a1 cs1 w1 hq => ?_
  obtain ⟨rfl, hxr, N1, A1, ι1, e1, t1, d1⟩ := hq
  cases x with
  | normal => cases e <;> simp [XR] at hxr; exact fin a1 w1 h N1 A1 ι1 e1 d1
  | ret => cases e <;> simp [XR] at hxr; exact fin a1 w1 h N1 A1 ι1 e1 d1
  | exit id => cases h
  | pan y => cases h

theorem leaveE_sound {E : Env} {self : Self} (hx : SoundX E self.callX) (hcode : CodeSound E self.code) (hprim : PrimSound E) (fcall : FillCall self.call) (fcode : FillCode self.code) (fprim : PrimFill E) {fn : Func} {tmps : Array Value} {R : Ending → World → Prop} {n : Nat} {m' : Md} :
    ∀ {ds : List Dr} {dl : List Deferred} {m : Md} {N A : Nat → Prop} {ι : Nat → Lk} {H H' : Heap} {w : World}, leaveE E self m H ds = some (m', H') → SR N A ι H w → GR E A ι H w → DR A ι H w ds dl →
    (∀ w' N' A' ι', Ext N A ι H w N' A' ι' H' w' → LeavesInM Fence.wide n E.P fn tmps R [] (mdF m') w') → LeavesInM Fence.wide n E.P fn tmps R dl (mdF m) w
  | [], dl, m, N, A, ι, H, H', w, h, hs, hg, hd, hr => by
    simp only [leaveE, Option.some.injEq, Prod.mk.injEq] at h
    obtain ⟨rfl, rfl⟩ := h
    have : dl = [] := List.length_eq_zero_iff.1 hd.1.symm
    subst this
    exact hr w N A ι (Ext.refl hs)
  | d :: ds, [], m, N, A, ι, H, H', w, h, hs, hg, hd, hr => by simp [DR] at hd
  | .mark d :: ds, D :: dl, m, N, A, ι, H, H', w, h, hs, hg, hd, hr => by
    simp only [leaveE] at h
    split at h
    case h_2 => cases h
    rename_i hid
    have hD : DR1 A ι H w (.mark d) D := hd.2 0 _ D (by simp) (by simp)
    obtain ⟨b, rfl, hb⟩ := hD
    have hb' : b = (ι d).b := by cases hb; rfl
    subst hb'
    have hk := hs.live d _ hid
    simp only [BR] at hk
    have hst := run_setObj (P := E.P) (o' := .deferred none) hk (fun _ _ _ e => by cases e)
    have e1 : Ext N A ι H w N A (upd ι d (ι d)) (H.set d .gone) { w with heap := w.heap.setIfInBounds (ι d).b (.deferred none) } :=
      Ext.turn hs hid trivial (L := ι d) (.inl rfl) (fun k _ hk => by simp [Array.getElem?_setIfInBounds_ne (Ne.symm hk)]) (by simp) rfl rfl rfl (by simp [Later, upd_same]) fun keep => trivial
    refine ⟨by cases m <;> simp [mdF], .inl ⟨(ι d).b, { w with heap := w.heap.setIfInBounds (ι d).b (.deferred none) }, rfl, by simp [Instr.takeDeferred, run_getObj hk (fun _ _ _ e => by cases e), hst], ?_⟩⟩
    refine leaveE_sound hx hcode hprim fcall fcode fprim h e1.sr (GR.keep hs hg e1) ⟨by simpa using hd.1, fun i d' D' p q => ?_⟩ fun w' N' A' ι' e2 => hr w' N' A' ι' (e1.trans e2)
    exact (hd.2 (i + 1) d' D' (by simpa using p) (by simpa using q)).keep e1.keep
  | .fn f args :: ds, D :: dl, m, N, A, ι, H, H', w, h, hs, hg, hd, hr => by
    simp only [leaveE] at h
    split at h
    · cases h
    rename_i hfn
    rw [not_or] at hfn
    obtain ⟨hgood, hbody⟩ := hfn
    have hgood : goodFn E.P f = true := by simpa using hgood
    have hbody : bodyless E.P f = false := by simpa using hbody
    simp only [Option.bind_eq_some_iff] at h
    obtain ⟨⟨m1, H1⟩, h1, h2⟩ := h
    have hD : DR1 A ι H w (.fn f args) D := hd.2 0 _ D (by simp) (by simp)
    obtain ⟨cap, dargs, rfl, ha⟩ := hD
    refine ⟨by cases m <;> simp [mdF], .inr ⟨fun h => by simp [Fence.wide] at h, .func f, cap, f, dargs ++ cap, rfl, ?_, fun _ _ => trivial, ?_⟩⟩
    · simp only [invoke]
      exact run_callFunc hgood hbody _ w
    · refine (bodyR_sound hx hcode hprim fcall fcode fprim h1 hs hg ha).mono ?_
      rintro e u' w' ⟨⟨v, rfl⟩, rfl, N1, A1, ι1, e1⟩
      simp only
      rw [settle_md]
      refine leaveE_sound hx hcode hprim fcall fcode fprim h2 e1.sr (GR.keep hs hg e1) ⟨by simpa using hd.1, fun i d' D' p q => ?_⟩ fun w' N' A' ι' e2 => hr w' N' A' ι' (e1.trans e2)
      exact (hd.2 (i + 1) d' D' (by simpa using p) (by simpa using q)).keep e1.keep

theorem bodyE_sound {E : Env} {self : Self} (hx : SoundX E self.callX) (hcode : CodeSound E self.code) (hprim : PrimSound E) (fcall : FillCall self.call) (fcode : FillCode self.code) (fprim : PrimFill E) : SoundX E (bodyE E self) := by
  intro f args H o H' h N A ι w cargs hs hg ht
  simp only [bodyE, Option.bind_eq_some_iff] at h
  obtain ⟨fn, hfn, c, hc, ⟨x, s⟩, h1, m, hm, ⟨m1, H1⟩, h2, h3⟩ := h
  have t0 : TR A ι H w (args ++ List.replicate (fn.ntmps - args.length) un) (cargs ++ Array.replicate (fn.ntmps - cargs.size) undef) := start_tmps ht
  have hcw := (codeE_sound hx hcode hprim fcall fcode fprim none c _ x s h1 N A ι w none { tmps := cargs ++ Array.replicate (fn.ntmps - cargs.size) undef, defers := [] } 1 hs hg t0 trivial DR.nil).wp
  refine callsIn_wide.1 (callsIn_of_wp_marks (n := 1) hfn hc trivial (wpIn_mono hcw ?_))
  rintro e a' w1 ⟨hxr, N1, A1, ι1, e1, t1, d1⟩
  have fin : LeavesInM Fence.wide 1 E.P fn a'.tmps (ResX N A ι H w o H') a'.defers (mdF m) w1 := by
    refine leaveE_sound hx hcode hprim fcall fcode fprim h2 e1.sr (GR.keep hs hg e1) d1 fun w2 N2 A2 ι2 e2 => ?_
    have e3 := e1.trans e2
    have h4 : finE E fn s (m1, H1) = some (o, H') := h3
    cases m1 with
    | ret =>
      simp only [finE, Option.map_eq_some_iff, Prod.mk.injEq] at h4
      obtain ⟨vs, h4, rfl, rfl⟩ := h4
      obtain ⟨xs, r1, r2, r3⟩ := resE_sound e2.sr (GR.keep e1.sr (GR.keep hs hg e1) e2) (a := a') (t1.keep e2.keep) h4
      have hres : (results fn a'.tmps).run E.P w2 = .ok (if h : xs.toArray.size = 1 then xs.toArray[0] else .tuple xs.toArray) w2 := by
        rw [results_eq, Array.mapM_eq_mapM_toList]
        simp only [Sem.run_bind, Sem.run_map, r1, Result.andThen_ok, Sem.run_pure]
      refine ⟨_, hres, _, N2, A2, ι2, rfl, e3, ?_⟩
      match vs, xs, r2, r3 with
      | [v1], [x1], r2, r3 =>
        simpa [tupV] using r3 0 v1 x1 (by simp) (by simp)
      | [], [], r2, r3 =>
        exact .tup _ _ rfl fun i c cv p => by simp at p
      | v1 :: v2 :: vs, x1 :: x2 :: xs, r2, r3 =>
        rw [dif_neg (by simp)]
        exact .tup _ _ (by simpa using r2) fun i c cv p q => r3 i c cv p (by simpa using q)
    | pan y =>
      simp only [finE, Option.some.injEq, Prod.mk.injEq] at h4
      obtain ⟨rfl, rfl⟩ := h4
      exact ⟨N2, A2, ι2, rfl, e3⟩
    | done y => cases h4
  cases x with
  | normal => cases e <;> simp [XR] at hxr; simp only [mdOf, Option.some.injEq] at hm; subst hm; exact fin
  | ret => cases e <;> simp [XR] at hxr; simp only [mdOf, Option.some.injEq] at hm; subst hm; exact fin
  | exit id => cases hm
  | pan y => cases e <;> simp [XR] at hxr; simp only [mdOf, Option.some.injEq] at hm; subst hm; subst hxr; exact fin

theorem run_sound {E : Env} (hprim : PrimSound E) (fprim : PrimFill E) : ∀ k, SoundX E (run E k).callX ∧ CodeSound E (run E k).code
  | 0 => ⟨fun f args H v H' h => by simp [run] at h, fun ro c s x s' h => by simp [run] at h⟩
  | k + 1 => by
    obtain ⟨h1, h2⟩ := run_sound hprim fprim k
    obtain ⟨f1, f2⟩ := run_fill fprim k
    exact ⟨bodyE_sound h1 h2 hprim f1.call f2 fprim, codeE_sound h1 h2 hprim f1.call f2 fprim⟩
end
end Go.Proofs.YtpmdlaojndejfaaGreatDoor.E
