/- Regions that draw: the exchange. -/
import Derived.Test.YtpmdlaojndejfaaGreatDoorEx
set_option linter.unusedVariables false
set_option linter.unusedSimpArgs false
namespace Go.Proofs.YtpmdlaojndejfaaGreatDoor.E
open Go

section
variable {E : Env} {self : Self} {ops : Array Oper} {r : DRun}

theorem kind_storeAt {o : Oper} {chk : Bool} (h : kindD E chk o = .pure ∨ kindD E chk o = .new) (t : List V) (sid : Nat) : storeAt t o sid = true := by
  obtain ⟨dst, op, type, pos, after, guard⟩ := o
  cases op <;> first | rfl | skip
  exfalso
  simp only [kindD] at h
  split at h <;> rcases h with h | h <;> cases h

/-- An operation that is bound to no memory: on whatever memory. -/
theorem DOut.pure {i : Nat} {o : Oper} {s s' : St} {v : V} {Hv : Heap} (hi : ops[i]? = some o) (hk : kindD E r.chk o = .pure) (ho : DOut E self ops r (itemS E r.chk ops.toList i o) s v Hv) (ht : Alike ops o s.tmps s'.tmps) :
    Hv = maskH s.H (hidI r (itemS E r.chk ops.toList i o)) ∧ DOut E self ops r (itemS E r.chk ops.toList i o) s' v (maskH s'.H (hidI r (itemS E r.chk ops.toList i o))) := by
  have hd : dry E o = true := by
    have := kind_true (E := E) (chk := r.chk) (o := o) (by rw [hk]; simp)
    simp [dry, this, hk]
  rcases ho with ⟨hw, hok, h1, hp⟩ | ⟨hw, rfl, rfl⟩
  · have h1 : stepE E self s.tmps (posI r (itemS E r.chk ops.toList i o) s.H.length) (maskH s.H (hidI r (itemS E r.chk ops.toList i o))) o = some (v, Hv) := h1
    obtain ⟨q1, q2⟩ := pure_op hk h1
    refine ⟨q1, .inl ⟨by rw [show (itemS E r.chk ops.toList i o).o = o from rfl, ht.1]; exact hw, ?_, ?_, by simp [itemS, hd]⟩⟩
    · simp only [okI, itemS, hd, Bool.true_or, Bool.and_true]
      rw [kind_storeAt (E := E) (chk := r.chk) (.inl hk)]; simp
    · show stepE E self s'.tmps _ _ o = _
      rw [stepE_congr (tmps := s'.tmps) (tmps' := s.tmps) ht.2]
      exact q2 _ _
  · exact ⟨rfl, .inr ⟨by rw [show (itemS E r.chk ops.toList i o).o = o from rfl, ht.1]; exact hw, rfl, rfl⟩⟩


/-- A new block: on whatever memory whose place is free. -/
theorem DOut.new (hroom : r.room = slotsN E ops.toList) {i : Nat} {o : Oper} {s : St} {v : V} {Hv : Heap} (hi : ops[i]? = some o) (hk : kindD E r.chk o = .new) (ho : DOut E self ops r (itemS E r.chk ops.toList i o) s v Hv) :
    (unmaskH s.H Hv (hidI r (itemS E r.chk ops.toList i o)) = s.H ∧ ∀ s' : St, Alike ops o s.tmps s'.tmps → ∃ Hv', DOut E self ops r (itemS E r.chk ops.toList i o) s' v Hv' ∧ unmaskH s'.H Hv' (hidI r (itemS E r.chk ops.toList i o)) = s'.H) ∨
    ∃ p b, p ∈ effD E ops r i ∧ p < r.base + r.room ∧ r.base + r.room ≤ s.H.length ∧ s.H[p]? = some .free ∧ unmaskH s.H Hv (hidI r (itemS E r.chk ops.toList i o)) = s.H.set p b ∧
      ∀ s' : St, Alike ops o s.tmps s'.tmps → r.base + r.room ≤ s'.H.length → s'.H[p]? = some .free → ∃ Hv', DOut E self ops r (itemS E r.chk ops.toList i o) s' v Hv' ∧ unmaskH s'.H Hv' (hidI r (itemS E r.chk ops.toList i o)) = s'.H.set p b := by
  rcases ho with ⟨hw, hok, h1, hp⟩ | ⟨hw, rfl, rfl⟩
  case inr =>
    left
    exact ⟨unmask_mask _ _, fun s' ht => ⟨_, .inr ⟨by rw [show (itemS E r.chk ops.toList i o).o = o from rfl, ht.1]; exact hw, rfl, rfl⟩, unmask_mask _ _⟩⟩
  right
  have hkt := kind_true (E := E) (chk := r.chk) (o := o) (by rw [hk]; simp)
  have hd : dry E o = false := by simp [dry, hkt, hk]
  have hoff := off_in hroom hi hd
  have hok0 := hok
  simp only [okI, itemS, hd, Bool.false_or, Bool.and_eq_true, decide_eq_true_eq, Bool.not_eq_true', List.contains_eq_mem, decide_eq_false_iff_not] at hok
  obtain ⟨_, ⟨hlen, hn1⟩, hn2⟩ := hok
  have hn1 : r.base + (offS E ops.toList).getD i 0 ∉ hidI r (itemS E r.chk ops.toList i o) := hn1
  have hn2 : r.base + (offS E ops.toList).getD i 0 + 1 ∉ hidI r (itemS E r.chk ops.toList i o) := hn2
  have hpos : ∀ n, posI r (itemS E r.chk ops.toList i o) n = r.base + (offS E ops.toList).getD i 0 := fun n => by simp [posI, itemS, hd]
  have h1 : stepE E self s.tmps (posI r (itemS E r.chk ops.toList i o) s.H.length) (maskH s.H (hidI r (itemS E r.chk ops.toList i o))) o = some (v, Hv) := h1
  rw [hpos] at h1
  obtain ⟨b, hb, hnew⟩ := new_op hk h1
  obtain ⟨hfree, rfl⟩ := place_in hb (by rw [maskH_len]; omega)
  have un : ∀ H : Heap, r.base + r.room ≤ H.length → unmaskH H ((maskH H (hidI r (itemS E r.chk ops.toList i o))).set (r.base + (offS E ops.toList).getD i 0) b) (hidI r (itemS E r.chk ops.toList i o)) = H.set (r.base + (offS E ops.toList).getD i 0) b := by
    intro H hH
    apply List.ext_getElem?
    intro k
    rw [unmaskH_get, List.length_set, maskH_len]
    by_cases hkh : k ∈ hidI r (itemS E r.chk ops.toList i o)
    · have hne : r.base + (offS E ops.toList).getD i 0 ≠ k := fun e => hn1 (e ▸ hkh)
      rw [List.getElem?_set_ne hne]
      by_cases hlt : k < H.length
      · rw [if_pos ⟨hkh, hlt, hlt⟩, List.getElem?_set_ne hne]
      · rw [if_neg (fun x => hlt x.2.1), List.getElem?_set_ne hne, maskH_get, if_neg (fun x => hlt x.2)]
    · rw [if_neg (fun x => hkh x.1)]
      by_cases hke : r.base + (offS E ops.toList).getD i 0 = k
      · subst hke
        rw [List.getElem?_set_self (by rw [maskH_len]; omega), List.getElem?_set_self (by omega)]
      · rw [List.getElem?_set_ne hke, List.getElem?_set_ne hke, maskH_get, if_neg (fun x => hkh x.1)]
  refine ⟨r.base + (offS E ops.toList).getD i 0, b, by simp [effD, hi, makes, hkt, hk, hd], by omega, hlen, ?_, un s.H hlen, fun s' ht hl hf => ⟨_, .inl ⟨by rw [show (itemS E r.chk ops.toList i o).o = o from rfl, ht.1]; exact hw, ?_, ?_, ?_⟩, un s'.H hl⟩⟩
  · rw [maskH_get, if_neg (fun x => hn1 x.1)] at hfree; exact hfree
  · simp only [okI]
    rw [show (itemS E r.chk ops.toList i o).o = o from rfl, kind_storeAt (E := E) (chk := r.chk) (.inr hk)]
    simp only [Bool.or_true, Bool.true_and, itemS, hd, Bool.false_or, Bool.and_eq_true, decide_eq_true_eq, Bool.not_eq_true', List.contains_eq_mem, decide_eq_false_iff_not]
    exact ⟨⟨hl, hn1⟩, hn2⟩
  · show stepE E self s'.tmps _ _ o = _
    rw [stepE_congr (tmps := s'.tmps) (tmps' := s.tmps) ht.2, hpos]
    exact hnew _ _ (place_of (by rw [maskH_get, if_neg (fun x => hn1 x.1)]; exact hf))
  · simp only [itemS, hd, Bool.false_or, List.length_set, maskH_len, decide_eq_true_eq]; exact hl

theorem store_len {o : Oper} {t : List V} {nid : Nat} {H H' : Heap} {v : V} (hk : kindD E true o = .store) (h : stepE E self t nid H o = some (v, H')) : H'.length = H.length := by
  obtain ⟨dst, op, type, pos, after, guard⟩ := o
  cases op
  case store t x y =>
    simp only [stepE, opE, Option.map_eq_some_iff, Prod.mk.injEq] at h
    obtain ⟨H1, h1, _, rfl⟩ := h
    unfold storeT at h1
    split at h1
    · split at h1
      case h_2 => cases h1
      split at h1
      case isFalse => cases h1
      simp only [Option.bind_eq_some_iff] at h1
      obtain ⟨cs, _, h1⟩ := h1
      split at h1
      · simp only [Option.some.injEq] at h1; subst h1; simp
      · cases h1
    · cases h1
  case slice t x lo hi mx => exfalso; cases mx <;> simp [kindD] at hk
  case makeMap t r => exfalso; cases r <;> simp [kindD] at hk
  case call c =>
    exfalso
    obtain ⟨callee, args, ats⟩ := c
    cases callee with
    | value g => cases g <;> simp [kindD] at hk; split at hk <;> cases hk
    | invoke r m => simp [kindD] at hk
    | builtin bb => cases bb <;> simp [kindD] at hk
  all_goals (exfalso; simp [kindD] at hk; done)
theorem other_true {o : Oper} {chk : Bool} (h : kindD E chk o = .other) : dry E o = false ∨ kindD E true o = .store := by
  have : kindD E true o = .other ∨ kindD E true o = .store := by
    cases chk with
    | true => exact .inl h
    | false =>
      obtain ⟨dst, op, type, pos, after, guard⟩ := o
      cases op
      case store t x y => right; simp [kindD]
      case slice t x lo hi mx => left; cases mx <;> exact h
      case makeMap t r => left; cases r <;> exact h
      case call c =>
        left
        obtain ⟨callee, args, ats⟩ := c
        cases callee with
        | value g => cases g <;> exact h
        | invoke r m => simp [kindD]
        | builtin bb => cases bb <;> exact h
      all_goals (left; exact h)
  rcases this with h | h
  · left; simp [dry, h]
  · right; exact h
theorem DOut.len {i : Nat} {o : Oper} {s : St} {v : V} {Hv : Heap} (hk : kindD E r.chk o = .other) (ho : DOut E self ops r (itemS E r.chk ops.toList i o) s v Hv) :
    (r.base + r.room ≤ s.H.length ∧ r.base + r.room ≤ Hv.length) ∨ Hv.length = s.H.length := by
  rcases ho with ⟨hw, hok, h1, hp⟩ | ⟨hw, rfl, rfl⟩
  · rcases other_true hk with hd | hs
    · left
      simp only [okI, itemS, hd, Bool.false_or, Bool.and_eq_true, decide_eq_true_eq] at hok hp
      exact ⟨hok.2.1.1, hp⟩
    · right
      have h1 : stepE E self s.tmps (posI r (itemS E r.chk ops.toList i o) s.H.length) (maskH s.H (hidI r (itemS E r.chk ops.toList i o))) o = some (v, Hv) := h1
      rw [store_len hs h1, maskH_len]
  · right; exact maskH_len _ _

theorem unmask_at {H Hv : Heap} {ps : List Nat} {p : Nat} (hp : p ∈ ps) (h1 : p < H.length) (h2 : p < Hv.length) : (unmaskH H Hv ps)[p]? = H[p]? := by
  rw [unmaskH_get, if_pos ⟨hp, h2, h1⟩]
theorem unmask_set {H Hv : Heap} {ps : List Nat} {p : Nat} {b : Blk} (hp : p ∈ ps) (h1 : p < H.length) (h2 : p < Hv.length) : unmaskH (H.set p b) Hv ps = (unmaskH H Hv ps).set p b := by
  apply List.ext_getElem?
  intro k
  rw [unmaskH_get, List.length_set]
  by_cases hk : p = k
  · subst hk
    rw [if_pos ⟨hp, h2, h1⟩, List.getElem?_set_self h1, List.getElem?_set_self (by rw [unmaskH_len]; exact h2)]
  · rw [List.getElem?_set_ne hk, List.getElem?_set_ne hk, unmaskH_get]

/-- What an operation with known writings does to the whole. -/
theorem DOut.whole (hroom : r.room = slotsN E ops.toList) {i : Nat} {o : Oper} {s : St} {v : V} {Hv : Heap} (hi : ops[i]? = some o) (hk : kindD E r.chk o ≠ .other) (ho : DOut E self ops r (itemS E r.chk ops.toList i o) s v Hv) :
    (unmaskH s.H Hv (hidI r (itemS E r.chk ops.toList i o))).length = s.H.length ∧ ∀ k, k ∉ effD E ops r i → (unmaskH s.H Hv (hidI r (itemS E r.chk ops.toList i o)))[k]? = s.H[k]? := by
  obtain ⟨q1, q2⟩ := DOut.eff hroom hi hk ho
  refine ⟨by rw [unmaskH_len, q1], fun k hke => ?_⟩
  rw [unmaskH_get]
  by_cases h : k ∈ hidI r (itemS E r.chk ops.toList i o) ∧ k < Hv.length ∧ k < s.H.length
  · rw [if_pos h]
  · rw [if_neg h, q2 k hke, maskH_get, if_neg (fun x => h ⟨x.1, by omega, x.2⟩)]

/-- Two operations with known writings. -/
theorem comm_both (hroom : r.room = slotsN E ops.toList) {i j : Nat} {oi oj : Oper} (hi : ops[i]? = some oi) (hj : ops[j]? = some oj) (hij : unordered ops.toList i j = true) (hji : unordered ops.toList j i = true)
    (hap : oi.apart ops oj = true) (hki : kindD E r.chk oi ≠ .other) (hkj : kindD E r.chk oj ≠ .other) : CommD (stepD E self ops r) i j := by
  intro s s1 s2 h1 h2
  obtain ⟨a1, a2, a3⟩ := Oper.apart_spec hap
  simp only [stepD, hi, hj, Option.bind_some] at h1 h2 ⊢
  obtain ⟨v1, Hv1, o1, rfl⟩ := stepI_out.1 h1
  obtain ⟨v2, Hv2, o2, rfl⟩ := stepI_out.1 h2
  obtain ⟨l1, e1⟩ := DOut.whole hroom hi hki o1
  have o2' : DOut E self ops r (itemS E r.chk ops.toList j oj) s v2 Hv2 := o2.see (alike_put a1).symm l1.symm fun k hk => (e1 k fun hke => hk (mem_hid hi hji hke)).symm
  obtain ⟨l2, e2⟩ := DOut.whole hroom hj hkj o2'
  have o1' : DOut E self ops r (itemS E r.chk ops.toList i oi) ⟨put s.tmps oj.dst v2, unmaskH s.H Hv2 (hidI r (itemS E r.chk ops.toList j oj)), s.ds⟩ v1 Hv1 :=
    o1.see (alike_put a3) l2 fun k hk => e2 k fun hke => hk (mem_hid hj hij hke)
  refine ⟨_, stepI_out.2 ⟨v2, Hv2, o2', rfl⟩, stepI_out.2 ⟨v1, Hv1, o1', ?_⟩⟩
  have f1 := DOut.eff hroom hi hki o1
  have f2 := DOut.eff hroom hj hkj o2'
  have hp : put (put s.tmps oi.dst v1) oj.dst v2 = put (put s.tmps oj.dst v2) oi.dst v1 := put_comm v1 v2 a2
  have hh : unmaskH (unmaskH s.H Hv1 (hidI r (itemS E r.chk ops.toList i oi))) Hv2 (hidI r (itemS E r.chk ops.toList j oj)) = unmaskH (unmaskH s.H Hv2 (hidI r (itemS E r.chk ops.toList j oj))) Hv1 (hidI r (itemS E r.chk ops.toList i oi)) := by
    apply List.ext_getElem?
    intro k
    simp only [unmaskH_get, unmaskH_len, f1.1, f2.1]
    by_cases hl : k < s.H.length
    · by_cases ki : k ∈ hidI r (itemS E r.chk ops.toList i oi) <;> by_cases kj : k ∈ hidI r (itemS E r.chk ops.toList j oj)
      · simp [ki, kj, hl]
      · simp [ki, kj, hl]
      · simp [ki, kj, hl]
      · simp only [ki, kj, hl, false_and, if_false]
        rw [f1.2 k (fun h => kj (mem_hid hi hji h)), f2.2 k (fun h => ki (mem_hid hj hij h)), maskH_get, maskH_get, if_neg (fun x => kj x.1), if_neg (fun x => ki x.1)]
    · have z : ∀ X : Heap, X.length = s.H.length → X[k]? = none := fun X hX => List.getElem?_eq_none (by omega)
      simp only [hl, and_false, if_false]
      rw [z _ f1.1, z _ f2.1]
  show (⟨_, _, _⟩ : St) = _
  rw [show (itemS E r.chk ops.toList j oj).o = oj from rfl, show (itemS E r.chk ops.toList i oi).o = oi from rfl, hp, hh]

/-- An operation that is bound to no memory, and another one. -/
theorem comm_pure1 {i j : Nat} {oi oj : Oper} (hi : ops[i]? = some oi) (hj : ops[j]? = some oj) (hap : oi.apart ops oj = true) (hki : kindD E r.chk oi = .pure) : CommD (stepD E self ops r) i j := by
  intro s s1 s2 h1 h2
  obtain ⟨a1, a2, a3⟩ := Oper.apart_spec hap
  simp only [stepD, hi, hj, Option.bind_some] at h1 h2 ⊢
  obtain ⟨v1, Hv1, o1, rfl⟩ := stepI_out.1 h1
  obtain ⟨v2, Hv2, o2, rfl⟩ := stepI_out.1 h2
  obtain ⟨rfl, _⟩ := DOut.pure (s' := s) hi hki o1 ⟨rfl, fun _ _ => rfl⟩
  simp only [unmask_mask] at o2 ⊢
  have o2' : DOut E self ops r (itemS E r.chk ops.toList j oj) s v2 Hv2 := o2.see (alike_put a1).symm rfl fun k hk => rfl
  obtain ⟨_, o1'⟩ := DOut.pure (s' := ⟨put s.tmps oj.dst v2, unmaskH s.H Hv2 (hidI r (itemS E r.chk ops.toList j oj)), s.ds⟩) hi hki o1 (alike_put a3)
  refine ⟨_, stepI_out.2 ⟨v2, Hv2, o2', rfl⟩, stepI_out.2 ⟨v1, _, o1', ?_⟩⟩
  have hp : put (put s.tmps oi.dst v1) oj.dst v2 = put (put s.tmps oj.dst v2) oi.dst v1 := put_comm v1 v2 a2
  show (⟨_, _, _⟩ : St) = _
  rw [show (itemS E r.chk ops.toList j oj).o = oj from rfl, show (itemS E r.chk ops.toList i oi).o = oi from rfl, hp, unmask_mask]

theorem comm_pure2 {i j : Nat} {oi oj : Oper} (hi : ops[i]? = some oi) (hj : ops[j]? = some oj) (hap : oi.apart ops oj = true) (hkj : kindD E r.chk oj = .pure) : CommD (stepD E self ops r) i j := by
  intro s s1 s2 h1 h2
  obtain ⟨a1, a2, a3⟩ := Oper.apart_spec hap
  simp only [stepD, hi, hj, Option.bind_some] at h1 h2 ⊢
  obtain ⟨v1, Hv1, o1, rfl⟩ := stepI_out.1 h1
  obtain ⟨v2, Hv2, o2, rfl⟩ := stepI_out.1 h2
  obtain ⟨rfl, o2'⟩ := DOut.pure (s' := s) hj hkj o2 (alike_put a1).symm
  have o1' : DOut E self ops r (itemS E r.chk ops.toList i oi) ⟨put s.tmps oj.dst v2, unmaskH s.H (maskH s.H (hidI r (itemS E r.chk ops.toList j oj))) (hidI r (itemS E r.chk ops.toList j oj)), s.ds⟩ v1 Hv1 :=
    o1.see (alike_put a3) (by rw [unmask_mask]) fun k hk => by rw [unmask_mask]
  refine ⟨_, stepI_out.2 ⟨v2, _, o2', rfl⟩, stepI_out.2 ⟨v1, _, o1', ?_⟩⟩
  have hp : put (put s.tmps oi.dst v1) oj.dst v2 = put (put s.tmps oj.dst v2) oi.dst v1 := put_comm v1 v2 a2
  show (⟨_, _, _⟩ : St) = _
  rw [show (itemS E r.chk ops.toList j oj).o = oj from rfl, show (itemS E r.chk ops.toList i oi).o = oi from rfl, hp, unmask_mask, unmask_mask]

theorem comm_new1 (hroom : r.room = slotsN E ops.toList) {i j : Nat} {oi oj : Oper} (hi : ops[i]? = some oi) (hj : ops[j]? = some oj) (hij : unordered ops.toList i j = true) (hji : unordered ops.toList j i = true)
    (hap : oi.apart ops oj = true) (hki : kindD E r.chk oi = .new) (hkj : kindD E r.chk oj = .other) : CommD (stepD E self ops r) i j := by
  intro s s1 s2 h1 h2
  obtain ⟨a1, a2, a3⟩ := Oper.apart_spec hap
  simp only [stepD, hi, hj, Option.bind_some] at h1 h2 ⊢
  obtain ⟨v1, Hv1, o1, rfl⟩ := stepI_out.1 h1
  obtain ⟨v2, Hv2, o2, rfl⟩ := stepI_out.1 h2
  have hp : put (put s.tmps oi.dst v1) oj.dst v2 = put (put s.tmps oj.dst v2) oi.dst v1 := put_comm v1 v2 a2
  rcases DOut.new hroom hi hki o1 with ⟨e1, k1⟩ | ⟨p, b, p1, p2, p3, p4, p5, p6⟩
  · rw [e1] at o2 ⊢
    have o2' : DOut E self ops r (itemS E r.chk ops.toList j oj) s v2 Hv2 := o2.see (alike_put a1).symm rfl fun k hk => rfl
    obtain ⟨Hv', o1', e1'⟩ := k1 ⟨put s.tmps oj.dst v2, unmaskH s.H Hv2 (hidI r (itemS E r.chk ops.toList j oj)), s.ds⟩ (alike_put a3)
    refine ⟨_, stepI_out.2 ⟨v2, Hv2, o2', rfl⟩, stepI_out.2 ⟨v1, _, o1', ?_⟩⟩
    rw [e1']
    show (⟨_, _, _⟩ : St) = _
    rw [show (itemS E r.chk ops.toList j oj).o = oj from rfl, show (itemS E r.chk ops.toList i oi).o = oi from rfl, hp]
  · have hpj : p ∈ hidI r (itemS E r.chk ops.toList j oj) := mem_hid hi hji p1
    rw [p5] at o2 ⊢
    have o2' : DOut E self ops r (itemS E r.chk ops.toList j oj) s v2 Hv2 := o2.see (alike_put a1).symm (by simp) fun k hk => by
      rw [List.getElem?_set_ne]
      rintro rfl; exact hk hpj
    have hlen : r.base + r.room ≤ Hv2.length := by
      rcases DOut.len hkj o2' with h | h
      · exact h.2
      · omega
    have hfree : (unmaskH s.H Hv2 (hidI r (itemS E r.chk ops.toList j oj)))[p]? = some .free := by rw [unmask_at hpj (by omega) (by omega)]; exact p4
    obtain ⟨Hv', o1', e1'⟩ := p6 ⟨put s.tmps oj.dst v2, unmaskH s.H Hv2 (hidI r (itemS E r.chk ops.toList j oj)), s.ds⟩ (alike_put a3) (by simp only [unmaskH_len]; exact hlen) hfree
    refine ⟨_, stepI_out.2 ⟨v2, Hv2, o2', rfl⟩, stepI_out.2 ⟨v1, _, o1', ?_⟩⟩
    rw [e1']
    show (⟨_, _, _⟩ : St) = _
    rw [show (itemS E r.chk ops.toList j oj).o = oj from rfl, show (itemS E r.chk ops.toList i oi).o = oi from rfl, hp, unmask_set hpj (by omega) (by omega)]

theorem comm_new2 (hroom : r.room = slotsN E ops.toList) {i j : Nat} {oi oj : Oper} (hi : ops[i]? = some oi) (hj : ops[j]? = some oj) (hij : unordered ops.toList i j = true) (hji : unordered ops.toList j i = true)
    (hap : oi.apart ops oj = true) (hki : kindD E r.chk oi = .other) (hkj : kindD E r.chk oj = .new) : CommD (stepD E self ops r) i j := by
  intro s s1 s2 h1 h2
  obtain ⟨a1, a2, a3⟩ := Oper.apart_spec hap
  simp only [stepD, hi, hj, Option.bind_some] at h1 h2 ⊢
  obtain ⟨v1, Hv1, o1, rfl⟩ := stepI_out.1 h1
  obtain ⟨v2, Hv2, o2, rfl⟩ := stepI_out.1 h2
  have hp : put (put s.tmps oi.dst v1) oj.dst v2 = put (put s.tmps oj.dst v2) oi.dst v1 := put_comm v1 v2 a2
  rcases DOut.new hroom hj hkj o2 with ⟨e1, k1⟩ | ⟨p, b, p1, p2, p3, p4, p5, p6⟩
  · obtain ⟨Hv', o2', e2'⟩ := k1 s (alike_put a1).symm
    have o1' : DOut E self ops r (itemS E r.chk ops.toList i oi) ⟨put s.tmps oj.dst v2, unmaskH s.H Hv' (hidI r (itemS E r.chk ops.toList j oj)), s.ds⟩ v1 Hv1 :=
      o1.see (alike_put a3) (by rw [e2']) fun k hk => by rw [e2']
    refine ⟨_, stepI_out.2 ⟨v2, _, o2', rfl⟩, stepI_out.2 ⟨v1, _, o1', ?_⟩⟩
    rw [e2']
    show (⟨_, _, _⟩ : St) = _
    rw [show (itemS E r.chk ops.toList j oj).o = oj from rfl, show (itemS E r.chk ops.toList i oi).o = oi from rfl, hp]
    simp only at e1
    rw [e1]
  · have hpi : p ∈ hidI r (itemS E r.chk ops.toList i oi) := mem_hid hj hij p1
    simp only [unmaskH_len] at p3
    have hlen : r.base + r.room ≤ s.H.length := by
      rcases DOut.len hki o1 with h | h
      · exact h.1
      · omega
    have hfree : s.H[p]? = some .free := by
      have := unmask_at (Hv := Hv1) hpi (by omega : p < s.H.length) (by omega)
      rw [← this]; exact p4
    obtain ⟨Hv', o2', e2'⟩ := p6 s (alike_put a1).symm hlen hfree
    have o1' : DOut E self ops r (itemS E r.chk ops.toList i oi) ⟨put s.tmps oj.dst v2, unmaskH s.H Hv' (hidI r (itemS E r.chk ops.toList j oj)), s.ds⟩ v1 Hv1 :=
      o1.see (alike_put a3) (by rw [e2']; simp) fun k hk => by
        rw [e2', List.getElem?_set_ne]
        rintro rfl; exact hk hpi
    refine ⟨_, stepI_out.2 ⟨v2, _, o2', rfl⟩, stepI_out.2 ⟨v1, _, o1', ?_⟩⟩
    rw [e2']
    show (⟨_, _, _⟩ : St) = _
    simp only at p5
    rw [show (itemS E r.chk ops.toList j oj).o = oj from rfl, show (itemS E r.chk ops.toList i oi).o = oi from rfl, hp, p5, unmask_set hpi (by omega) (by omega)]

/-- What a plan says may be exchanged. -/
theorem comm_ok (hroom : r.room = slotsN E ops.toList) {i j : Nat} {oi oj : Oper} (hi : ops[i]? = some oi) (hj : ops[j]? = some oj) (hij : unordered ops.toList i j = true) (hji : unordered ops.toList j i = true) (hf : freeD E r.chk ops oi oj = true) : CommD (stepD E self ops r) i j := by
  simp only [freeD, Bool.and_eq_true] at hf
  obtain ⟨hap, hk⟩ := hf
  by_cases k1 : kindD E r.chk oi = .other
  · rw [k1] at hk
    by_cases k2 : kindD E r.chk oj = .pure
    · exact comm_pure2 hi hj hap k2
    · by_cases k3 : kindD E r.chk oj = .new
      · exact comm_new2 hroom hi hj hij hji hap k1 k3
      · exfalso
        cases h2 : kindD E r.chk oj <;> rw [h2] at hk k2 k3 <;> simp at hk k2 k3
  · by_cases k2 : kindD E r.chk oj = .other
    · rw [k2] at hk
      by_cases k3 : kindD E r.chk oi = .pure
      · exact comm_pure1 hi hj hap k3
      · by_cases k4 : kindD E r.chk oi = .new
        · exact comm_new1 hroom hi hj hij hji hap k4 k2
        · exfalso
          cases h2 : kindD E r.chk oi <;> rw [h2] at hk k1 k3 k4 <;> simp at hk k1 k3 k4
    · exact comm_both hroom hi hj hij hji hap k1 k2
end
end Go.Proofs.YtpmdlaojndejfaaGreatDoor.E
