/- Regions that draw: operations of which neither waits for the other may be exchanged. -/
import Derived.Test.YtpmdlaojndejfaaGreatDoorEw
set_option linter.unusedVariables false
set_option linter.unusedSimpArgs false
namespace Go.Proofs.YtpmdlaojndejfaaGreatDoor.E
open Go

section
variable {E : Env} {self : Self} {ops : Array Oper} {r : DRun}

def stepD (E : Env) (self : Self) (ops : Array Oper) (r : DRun) (i : Nat) (s : St) : Option St := (ops[i]?).bind fun o => stepI E self ops r (itemS E r.chk ops.toList i o) s

def effD (E : Env) (ops : Array Oper) (r : DRun) (i : Nat) : List Nat :=
  match ops[i]? with
  | some o => (if makes E o then [r.base + (offS E ops.toList).getD i 0, r.base + (offS E ops.toList).getD i 0 + 1] else []) ++ (if kindD E r.chk o = .store then [r.sid.getD i 0] else [])
  | none => []

theorem mem_hid {i j k : Nat} {o oj : Oper} (hj : ops[j]? = some oj) (hu : unordered ops.toList i j = true) (hk : k ∈ effD E ops r j) : k ∈ hidI r (itemS E r.chk ops.toList i o) := by
  have hjl : j < ops.toList.length := by simpa using (Array.getElem?_eq_some_iff.1 hj).1
  have hj' : ops.toList[j]? = some oj := by simpa using hj
  simp only [effD, hj, List.mem_append] at hk
  simp only [hidI, itemS, List.mem_append, List.mem_map]
  rcases hk with hk | hk
  · left
    split at hk
    · rename_i hm
      have hmem : ∀ d, (d = (offS E ops.toList).getD j 0 ∨ d = (offS E ops.toList).getD j 0 + 1) → d ∈ hidN E ops.toList i := by
        intro d hd
        simp only [hidN, List.mem_flatMap, List.mem_range]
        refine ⟨j, hjl, ?_⟩
        rw [hj']
        simp only [Option.map_some, hm, hu, if_true]
        simpa using hd
      simp only [List.mem_cons, List.not_mem_nil, or_false] at hk
      rcases hk with rfl | rfl
      · exact ⟨_, hmem _ (.inl rfl), rfl⟩
      · exact ⟨_, hmem _ (.inr rfl), rfl⟩
    · simp at hk
  · right
    split at hk
    · rename_i hs
      simp only [List.mem_singleton] at hk
      subst hk
      refine ⟨j, ?_, rfl⟩
      simp only [hidS, List.mem_filter, List.mem_range]
      refine ⟨hjl, ?_⟩
      rw [hj']
      simp [hs, hu]
    · simp at hk

theorem offL_bound {no : Nat} : ∀ {l : List Oper} {base k : Nat} {o : Oper}, l[k]? = some o → dry E o = false → base ≤ (offL E no base l).getD k 0 ∧ (offL E no base l).getD k 0 + 2 ≤ base + slotsN E l
  | [], base, k, o, h, hd => by simp at h
  | x :: l, base, 0, o, h, hd => by
    simp only [List.getElem?_cons_zero, Option.some.injEq] at h; subst h
    simp only [offL, hd, slotsN]
    simp
  | x :: l, base, k + 1, o, h, hd => by
    simp only [List.getElem?_cons_succ] at h
    simp only [offL, slotsN]
    split
    · have := offL_bound (no := no) (base := base) h hd
      simp only [List.getD_cons_succ]; omega
    · have := offL_bound (no := no) (base := base + 2) h hd
      simp only [List.getD_cons_succ]; omega

theorem kind_true {o : Oper} {chk : Bool} (h : kindD E chk o ≠ .other) : kindD E true o = kindD E chk o := by
  cases chk with
  | true => rfl
  | false =>
    obtain ⟨dst, op, type, pos, after, guard⟩ := o
    cases op <;> first | rfl | skip
    case makeMap t r => cases r <;> rfl
    case slice t x lo hi mx => cases mx <;> rfl
    case call c =>
      obtain ⟨callee, args, ats⟩ := c
      cases callee with
      | value g => cases g <;> rfl
      | invoke r m => rfl
      | builtin bb => cases bb <;> rfl
    exfalso; simp [kindD] at h

theorem store_kind {o : Oper} {chk : Bool} (hk : kindD E chk o = .store) : chk = true := by
  cases chk with
  | true => rfl
  | false =>
    exfalso
    obtain ⟨dst, op, type, pos, after, guard⟩ := o
    cases op
    case call c =>
      obtain ⟨callee, args, ats⟩ := c
      cases callee with
      | value g => cases g <;> simp [kindD] at hk; split at hk <;> cases hk
      | invoke r m => simp [kindD] at hk
      | builtin bb => cases bb <;> simp [kindD] at hk
    case slice t x lo hi mx => cases mx <;> simp [kindD] at hk
    case makeMap t rr => cases rr <;> simp [kindD] at hk
    all_goals (simp [kindD] at hk; done)

/-- What comes of an operation on its view. -/
def DOut (E : Env) (self : Self) (ops : Array Oper) (r : DRun) (it : DItem) (s : St) (v : V) (Hv : Heap) : Prop :=
  (Region.wanted it.o (yieldedV ops s.tmps) = true ∧ okI r it s.tmps s.H.length = true ∧ stepE E self s.tmps (posI r it s.H.length) (maskH s.H (hidI r it)) it.o = some (v, Hv) ∧ (it.dry || decide (r.base + r.room ≤ Hv.length)) = true) ∨
  (Region.wanted it.o (yieldedV ops s.tmps) = false ∧ v = un ∧ Hv = maskH s.H (hidI r it))

theorem unmask_mask (H : Heap) (ps : List Nat) : unmaskH H (maskH H ps) ps = H := by
  apply List.ext_getElem?
  intro i
  rw [unmaskH_get, maskH_get, maskH_len]
  by_cases h : i ∈ ps ∧ i < H.length
  · rw [if_pos ⟨h.1, h.2, h.2⟩]
  · rw [if_neg (fun h' => h ⟨h'.1, h'.2.1⟩), if_neg h]

theorem stepI_out {it : DItem} {s s' : St} : stepI E self ops r it s = some s' ↔ ∃ v Hv, DOut E self ops r it s v Hv ∧ s' = ⟨put s.tmps it.o.dst v, unmaskH s.H Hv (hidI r it), s.ds⟩ := by
  unfold stepI DOut
  constructor
  · intro h
    split at h
    · rename_i hw
      split at h
      case isFalse => cases h
      rename_i hok
      simp only [Option.bind_eq_some_iff] at h
      obtain ⟨⟨v, Hv⟩, h1, h⟩ := h
      split at h
      · rename_i hp
        simp only [Option.some.injEq] at h
        exact ⟨v, Hv, .inl ⟨hw, hok, h1, hp⟩, h.symm⟩
      · cases h
    · rename_i hw
      simp only [Option.some.injEq] at h
      refine ⟨un, _, .inr ⟨by simpa using hw, rfl, rfl⟩, ?_⟩
      rw [unmask_mask]; exact h.symm
  · rintro ⟨v, Hv, ⟨hw, hok, h1, hp⟩ | ⟨hw, rfl, rfl⟩, rfl⟩
    · rw [if_pos hw, if_pos hok, h1]
      simp only [Option.bind_some]
      rw [if_pos hp]
    · rw [if_neg (by simp [hw]), unmask_mask]

/-- Two frames that an operation cannot tell apart. -/
def Alike (ops : Array Oper) (o : Oper) (t t' : List V) : Prop := Region.wanted o (yieldedV ops t') = Region.wanted o (yieldedV ops t) ∧ ∀ x ∈ o.op.operands, evalO t' x = evalO t x
theorem Alike.symm {o : Oper} {t t' : List V} (h : Alike ops o t t') : Alike ops o t' t := ⟨h.1.symm, fun x hx => (h.2 x hx).symm⟩
theorem alike_put {o : Oper} {t : List V} {d : Option Tmp} {u : V} (h : ∀ d', d = some d' → d' ∉ o.looksAt ops) : Alike ops o t (put t d u) :=
  ⟨wantedV_put d u h, fun x hx => evalO_put fun d' hd hxd => h d' hd (by
    subst hxd
    exact List.mem_append_left _ (List.mem_filterMap.2 ⟨.tmp d', by simpa using hx, rfl⟩))⟩

theorem storeAt_alike {o : Oper} {t t' : List V} (h : Alike ops o t t') (sid : Nat) : storeAt t' o sid = storeAt t o sid := by
  obtain ⟨dst, op, type, pos, after, guard⟩ := o
  cases op <;> first | rfl | skip
  simp only [storeAt]
  rw [h.2 _ (by simp [Op.operands])]

theorem mask_same {H H' : Heap} {ps : List Nat} (hl : H'.length = H.length) (hk : ∀ k, k ∉ ps → H'[k]? = H[k]?) : maskH H' ps = maskH H ps := by
  apply List.ext_getElem?
  intro k
  rw [maskH_get, maskH_get, hl]
  by_cases h : k ∈ ps
  · by_cases h2 : k < H.length
    · rw [if_pos ⟨h, h2⟩, if_pos ⟨h, h2⟩]
    · rw [if_neg (fun x => h2 x.2), if_neg (fun x => h2 x.2), List.getElem?_eq_none (by omega), List.getElem?_eq_none (by omega)]
  · rw [if_neg (fun x => h x.1), if_neg (fun x => h x.1), hk k h]

theorem DOut.see {it : DItem} {s s' : St} {v : V} {Hv : Heap} (ho : DOut E self ops r it s v Hv) (ht : Alike ops it.o s.tmps s'.tmps) (hl : s'.H.length = s.H.length) (hk : ∀ k, k ∉ hidI r it → s'.H[k]? = s.H[k]?) :
    DOut E self ops r it s' v Hv := by
  have hm := mask_same hl hk
  unfold DOut okI at ho ⊢
  rw [ht.1, hm, hl, storeAt_alike ht, stepE_congr (tmps := s'.tmps) (tmps' := s.tmps) ht.2]
  exact ho

theorem place_in {H H' : Heap} {nid : Nat} {b : Blk} (h : place H nid b = some H') (hn : nid < H.length) : H[nid]? = some .free ∧ H' = H.set nid b := by
  unfold place at h
  rw [if_neg (by omega)] at h
  split at h
  · rename_i e
    simp only [Option.some.injEq] at h
    exact ⟨e, h.symm⟩
  · cases h
theorem place_of {H : Heap} {nid : Nat} {b : Blk} (h : H[nid]? = some .free) : place H nid b = some (H.set nid b) := by
  unfold place
  have : nid < H.length := (List.getElem?_eq_some_iff.1 h).1
  rw [if_neg (by omega), h]

theorem placeAll_in : ∀ {K H H' : Heap} {nid : Nat}, placeAll H nid K = some H' → nid + K.length ≤ H.length → H'.length = H.length ∧ ∀ k, (k < nid ∨ nid + K.length ≤ k) → H'[k]? = H[k]?
  | [], H, H', nid, h, hn => by simp only [placeAll, Option.some.injEq] at h; subst h; exact ⟨rfl, fun _ _ => rfl⟩
  | b :: K, H, H', nid, h, hn => by
    simp only [placeAll, Option.bind_eq_some_iff] at h
    obtain ⟨H1, h1, h2⟩ := h
    simp only [List.length_cons] at hn
    obtain ⟨_, rfl⟩ := place_in h1 (by omega)
    obtain ⟨q1, q2⟩ := placeAll_in h2 (by simp; omega)
    refine ⟨by simpa using q1, fun k hk => ?_⟩
    simp only [List.length_cons] at hk
    rw [q2 k (by omega), List.getElem?_set_ne (by omega)]


theorem off_in (hroom : r.room = slotsN E ops.toList) {i : Nat} {o : Oper} (hi : ops[i]? = some o) (hd : dry E o = false) : (offS E ops.toList).getD i 0 + 2 ≤ r.room := by
  have := offL_bound (E := E) (no := slotsN E ops.toList + 1000000) (l := ops.toList) (base := 0) (k := i) (o := o) (by simpa using hi) hd
  rw [hroom]; unfold offS; omega

/-- What an operation writes. -/
theorem DOut.eff (hroom : r.room = slotsN E ops.toList) {i : Nat} {o : Oper} {s : St} {v : V} {Hv : Heap} (hi : ops[i]? = some o) (hk : kindD E r.chk o ≠ .other) (ho : DOut E self ops r (itemS E r.chk ops.toList i o) s v Hv) :
    Hv.length = s.H.length ∧ ∀ k, k ∉ effD E ops r i → Hv[k]? = (maskH s.H (hidI r (itemS E r.chk ops.toList i o)))[k]? := by
  rcases ho with ⟨hw, hok, h1, hp⟩ | ⟨hw, rfl, rfl⟩
  case inr => exact ⟨maskH_len _ _, fun _ _ => rfl⟩
  have hl := maskH_len (hidI r (itemS E r.chk ops.toList i o)) s.H
  have hkt := kind_true (E := E) hk
  generalize maskH s.H (hidI r (itemS E r.chk ops.toList i o)) = Hm at h1 hl ⊢
  have same : Hv = Hm → Hv.length = s.H.length ∧ ∀ k, k ∉ effD E ops r i → Hv[k]? = Hm[k]? := by rintro rfl; exact ⟨hl, fun _ _ => rfl⟩
  have h1 : stepE E self s.tmps (posI r (itemS E r.chk ops.toList i o) s.H.length) Hm o = some (v, Hv) := h1
  have nd : dry E o = false → r.base + r.room ≤ s.H.length ∧ posI r (itemS E r.chk ops.toList i o) s.H.length = r.base + (offS E ops.toList).getD i 0 ∧ r.base + (offS E ops.toList).getD i 0 + 2 ≤ Hm.length := by
    intro hd
    have h2 := off_in hroom hi hd
    have h3 : r.base + r.room ≤ s.H.length := by
      simp only [okI, itemS, hd, Bool.false_or, Bool.and_eq_true, decide_eq_true_eq] at hok
      exact hok.2.1.1
    refine ⟨h3, ?_, by omega⟩
    simp [posI, itemS, hd]
  cases hkk : kindD E r.chk o with
  | other => exact absurd hkk hk
  | pure => exact same (pure_op hkk h1).1
  | read => exact same (read_op hkk h1)
  | new =>
    have hd : dry E o = false := by simp [dry, hkt, hkk]
    obtain ⟨n1, n2, n3⟩ := nd hd
    rw [n2] at h1
    obtain ⟨b, hb, _⟩ := new_op hkk h1
    obtain ⟨_, rfl⟩ := place_in hb (by omega)
    refine ⟨by simpa using hl, fun k hkm => ?_⟩
    rw [List.getElem?_set_ne]
    rintro rfl
    exact hkm (by simp [effD, hi, makes, hkt, hkk, hd])
  | call =>
    obtain ⟨K, hK, hpl⟩ := call_op hkk h1
    cases hd : dry E o with
    | false =>
      obtain ⟨n1, n2, n3⟩ := nd hd
      rw [n2] at hpl
      obtain ⟨q1, q2⟩ := placeAll_in hpl (by omega)
      refine ⟨by omega, fun k hkm => q2 k ?_⟩
      have : k ≠ r.base + (offS E ops.toList).getD i 0 ∧ k ≠ r.base + (offS E ops.toList).getD i 0 + 1 := by
        constructor <;> rintro rfl <;> exact hkm (by simp [effD, hi, makes, hkt, hkk, hd])
      omega
    | true =>
      have hpos : posI r (itemS E r.chk ops.toList i o) s.H.length = s.H.length + 1 := by simp [posI, itemS, hd]
      rw [hpos] at hpl
      cases K with
      | nil => simp only [placeAll, Option.some.injEq] at hpl; exact same hpl.symm
      | cons b K =>
        simp only [placeAll, Option.bind_eq_some_iff] at hpl
        obtain ⟨H1, e, _⟩ := hpl
        unfold place at e
        rw [if_neg (by omega), List.getElem?_eq_none (by omega)] at e
        cases e
  | store =>
    have hst : r.chk = true ∧ ∃ b, Hv = Hm.set (r.sid.getD i 0) b := by
      have hc : r.chk = true := store_kind hkk
      have hsa : storeAt s.tmps o (r.sid.getD i 0) = true := by
        simp only [okI, itemS, hc, Bool.not_true, Bool.false_or, Bool.and_eq_true] at hok
        exact hok.1
      exact store_op hkk hsa h1
    obtain ⟨hc, b, rfl⟩ := hst
    refine ⟨by simpa using hl, fun k hkm => ?_⟩
    rw [List.getElem?_set_ne]
    rintro rfl
    exact hkm (by simp [effD, hi, hkk])
end
end Go.Proofs.YtpmdlaojndejfaaGreatDoor.E
