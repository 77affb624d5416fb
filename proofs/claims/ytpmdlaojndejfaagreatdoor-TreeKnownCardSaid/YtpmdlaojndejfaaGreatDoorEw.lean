/- Regions that draw: what an operation leans on, what it writes. -/
import Derived.Test.YtpmdlaojndejfaaGreatDoorEv
set_option linter.unusedVariables false
set_option linter.unusedSimpArgs false
namespace Go.Proofs.YtpmdlaojndejfaaGreatDoor.E
open Go

section
variable {E : Env} {self : Self} {H H' : Heap} {tmps tmps' : List V} {o : Oper} {nid : Nat} {v : V}

theorem evalO_put {x : Operand} {dst : Option Tmp} (h : ∀ d, dst = some d → x ≠ .tmp d) : evalO (put tmps dst v) x = evalO tmps x := by
  cases dst with
  | none => rfl
  | some d =>
    cases x with
    | tmp t =>
      have hne : d ≠ t := fun e => h d rfl (e ▸ rfl)
      simp [evalO, put, List.getD, List.getElem?_set_ne hne]
    | _ => rfl
theorem put_comm {x y : Option Tmp} (v u : V) (h : ∀ d, x = some d → y ≠ some d) : put (put tmps x v) y u = put (put tmps y u) x v := by
  cases x with
  | none => rfl
  | some d =>
    cases y with
    | none => rfl
    | some e =>
      have hne : d ≠ e := fun he => h d rfl (he ▸ rfl)
      simp only [put]
      exact List.set_comm _ _ hne
theorem wantedV_put {ops : Array Oper} (dst : Option Tmp) (v : V) (h : ∀ d, dst = some d → d ∉ o.looksAt ops) :
    Region.wanted o (yieldedV ops (put tmps dst v)) = Region.wanted o (yieldedV ops tmps) := by
  cases dst with
  | none => rfl
  | some d =>
    unfold Region.wanted
    cases hg : o.guard with
    | none => rfl
    | some gw =>
      obtain ⟨g, want⟩ := gw
      have hy : yieldedV ops (put tmps (some d) v) g = yieldedV ops tmps g := by
        unfold yieldedV
        cases ht : (ops[g]?).bind (·.dst) with
        | none => rfl
        | some t =>
          have hne : d ≠ t := fun e => h d rfl (by subst e; simp [Oper.looksAt, hg, ht])
          simp [put, List.getElem?_set_ne hne]
      simp only [hy]

theorem all_congr' {α : Type} {f g : α → Bool} : ∀ {l : List α}, (∀ x ∈ l, f x = g x) → l.all f = l.all g
  | [], _ => rfl
  | x :: l, h => by simp only [List.all_cons]; rw [h x (by simp), all_congr' fun y hy => h y (List.mem_cons_of_mem _ hy)]

theorem toOps_congr {P : Program} (h : ∀ x ∈ o.op.operands, evalO tmps x = evalO tmps' x) : toOps P tmps o = toOps P tmps' o := by
  unfold toOps
  have h1 : o.op.operands.toList.all (fun x => (toValue? (evalO tmps x)).isSome) = o.op.operands.toList.all (fun x => (toValue? (evalO tmps' x)).isSome) :=
    all_congr' fun x hx => by rw [h x (by simpa using hx)]
  rw [h1]
  cases hn : noSel o.op with
  | false => simp
  | true =>
    rw [execOp_congr (ρ := fun x => (toValue? (evalO tmps x)).getD undef) (ρ' := fun x => (toValue? (evalO tmps' x)).getD undef) o (fun cs b e => by rw [e] at hn; simp [noSel] at hn) (fun x hx => by simp only [h x hx])]

theorem map_congr' {α β : Type} {f g : α → β} {l : List α} (h : ∀ x ∈ l, f x = g x) : l.map f = l.map g := List.map_congr_left h

theorem opE_congr (h : ∀ x ∈ o.op.operands, evalO tmps x = evalO tmps' x) : opE E tmps nid H o = opE E tmps' nid H o := by
  have ht : ∀ P, toOps P tmps o = toOps P tmps' o := fun P => toOps_congr h
  obtain ⟨dst, op, type, pos, after, guard⟩ := o
  have pairs : ∀ ps : Array (Nat × Operand), (∀ x ∈ ps.map (·.2), evalO tmps x = evalO tmps' x) → (ps.toList.map fun (i, x) => (i, evalO tmps x)) = (ps.toList.map fun (i, x) => (i, evalO tmps' x)) := fun ps hp =>
    List.map_congr_left fun p hm => by
      obtain ⟨i, x⟩ := p
      simp only [hp x (Array.mem_map.2 ⟨(i, x), Array.mem_toList_iff.1 hm, rfl⟩)]
  have lst : ∀ l : Array Operand, (∀ x ∈ l, evalO tmps x = evalO tmps' x) → l.toList.map (evalO tmps) = l.toList.map (evalO tmps') := fun l hl => List.map_congr_left fun x hx => hl x (by simpa using hx)
  cases op <;> simp only [Op.operands] at h
  case build t ps => simp only [opE]; rw [pairs ps fun x hx => h x (by simpa using hx)]
  case buildSlice t n ps => simp only [opE]; rw [pairs ps fun x hx => h x (by simpa using hx)]
  case makeFunc fn first captured =>
    cases fn <;> simp only [opE, ht]
    rw [lst captured fun x hx => h x (by simp [hx])]
  case call c =>
    have ha := lst c.args fun x hx => h x (by simp [Call.operands, hx])
    obtain ⟨callee, args, ats⟩ := c
    cases callee <;> simp only [opE, ht]
    simp only at ha
    rw [ha]
  case slice t x lo hi mx =>
    have h1 : evalO tmps x = evalO tmps' x := h x (by simp)
    cases mx with
    | some m => simp only [opE, ht]
    | none =>
      have h2 : lo.map (evalO tmps) = lo.map (evalO tmps') := by cases lo with | none => rfl | some l => simp only [Option.map_some]; rw [h l (by simp)]
      have h3 : hi.map (evalO tmps) = hi.map (evalO tmps') := by cases hi with | none => rfl | some l => simp only [Option.map_some]; rw [h l (by simp)]
      simp only [opE, ht, h1, h2, h3]
  case makeMap t r => cases r <;> simp only [opE, ht]
  case next x b => cases b <;> simp only [opE, ht, h x (by simp)]
  all_goals simp only [opE, ht]
  all_goals (first | rfl | (simp_all; done))

theorem stepE_congr (h : ∀ x ∈ o.op.operands, evalO tmps x = evalO tmps' x) : stepE E self tmps nid H o = stepE E self tmps' nid H o := by
  have h0 := opE_congr (E := E) (nid := nid) (H := H) h
  obtain ⟨dst, op, type, pos, after, guard⟩ := o
  cases op <;> first | exact h0 | skip
  rename_i c
  obtain ⟨callee, args, ats⟩ := c
  cases callee <;> first | exact h0 | skip
  rename_i g
  simp only [Op.operands, Call.operands] at h
  have ha : args.toList.map (evalO tmps) = args.toList.map (evalO tmps') := List.map_congr_left fun x hx => h x (by simp at hx; simp [hx])
  simp only [stepE, h g (by simp), ha]

/-- What an operation computes is bound to no memory. -/
theorem pure_op {chk : Bool} (hk : kindD E chk o = .pure) (h : stepE E self tmps nid H o = some (v, H')) : H' = H ∧ ∀ nid2 H2, stepE E self tmps nid2 H2 o = some (v, H2) := by
  obtain ⟨dst, op, type, pos, after, guard⟩ := o
  have mp : ∀ {x : Option V}, x.map (fun z => (z, H)) = some (v, H') → H' = H ∧ ∀ H2 : Heap, x.map (fun z => (z, H2)) = some (v, H2) := by
    intro x h
    simp only [Option.map_eq_some_iff, Prod.mk.injEq] at h
    obtain ⟨z, rfl, rfl, rfl⟩ := h
    exact ⟨rfl, fun H2 => rfl⟩
  have one : ∀ {z : V}, some (z, H) = some (v, H') → H' = H ∧ ∀ H2 : Heap, some (z, H2) = some (v, H2) := by
    intro z h
    simp only [Option.some.injEq, Prod.mk.injEq] at h
    obtain ⟨rfl, rfl⟩ := h
    exact ⟨rfl, fun H2 => rfl⟩
  cases op
  case move x => exact ⟨(one h).1, fun _ H2 => (one h).2 H2⟩
  case assign x => exact ⟨(one h).1, fun _ H2 => (one h).2 H2⟩
  case binOp op t x y yt =>
    simp only [stepE, opE] at h ⊢
    split at h
    · rename_i hc
      simp only [if_pos hc]
      split at h
      · exact ⟨(one h).1, fun _ H2 => (one h).2 H2⟩
      · exact ⟨(one h).1, fun _ H2 => (one h).2 H2⟩
      · cases h
    · rename_i hc
      simp only [if_neg hc]
      exact ⟨(mp h).1, fun _ H2 => (mp h).2 H2⟩
  case makeFunc fn first caps =>
    cases fn with
    | func f =>
      simp only [stepE, opE] at h ⊢
      split at h
      · rename_i hc
        simp only [if_pos hc]
        exact ⟨(one h).1, fun _ H2 => (one h).2 H2⟩
      · cases h
    | _ => exact ⟨(mp h).1, fun _ H2 => (mp h).2 H2⟩
  case call c =>
    obtain ⟨callee, args, ats⟩ := c
    cases callee with
    | value g =>
      exfalso
      cases g <;> simp [kindD] at hk
      split at hk <;> cases hk
    | invoke r m => exfalso; simp [kindD] at hk
    | builtin bb =>
      cases bb <;> first | (exfalso; simp [kindD] at hk; done) | skip
      all_goals
        simp only [stepE, opE] at h ⊢
        first
        | exact ⟨(mp h).1, fun _ H2 => (mp h).2 H2⟩
        | skip
      split at h
      · rename_i heq _; cases heq
      · split at h
        · rename_i hc; simp only [if_pos hc]; exact ⟨(one h).1, fun _ H2 => (one h).2 H2⟩
        · cases h
      · split at h
        · rename_i hc; simp only [if_pos hc]; exact ⟨(one h).1, fun _ H2 => (one h).2 H2⟩
        · cases h
      · rename_i heq _; cases heq
      · rename_i heq _; cases heq
      · exact ⟨(mp h).1, fun _ H2 => (mp h).2 H2⟩
  case pick c x y =>
    simp only [stepE, opE] at h ⊢
    split at h
    · exact ⟨(one h).1, fun _ H2 => (one h).2 H2⟩
    · cases h
  case nilCheck x =>
    simp only [stepE, opE] at h ⊢
    split at h
    · exact ⟨(one h).1, fun _ H2 => (one h).2 H2⟩
    · exact ⟨(one h).1, fun _ H2 => (one h).2 H2⟩
    · exact ⟨(one h).1, fun _ H2 => (one h).2 H2⟩
    · cases h
  case extract x i =>
    simp only [stepE, opE] at h ⊢
    split at h
    · exact ⟨(mp h).1, fun _ H2 => (mp h).2 H2⟩
    · cases h
  case slice t x lo hi mx => exfalso; cases mx <;> simp [kindD] at hk
  case makeMap t r => exfalso; cases r <;> simp [kindD] at hk
  case store t x y => exfalso; simp only [kindD] at hk; split at hk <;> cases hk
  all_goals first
    | (exfalso; simp [kindD] at hk; done)
    | exact ⟨(mp h).1, fun _ H2 => (mp h).2 H2⟩

/-- What an operation reads it leaves as it is. -/
theorem read_op {chk : Bool} (hk : kindD E chk o = .read) (h : stepE E self tmps nid H o = some (v, H')) : H' = H := by
  obtain ⟨dst, op, type, pos, after, guard⟩ := o
  have mp : ∀ {x : Option V}, x.map (fun z => (z, H)) = some (v, H') → H' = H := by
    intro x h
    simp only [Option.map_eq_some_iff, Prod.mk.injEq] at h
    obtain ⟨z, rfl, rfl, rfl⟩ := h
    rfl
  cases op
  case load t x => exact mp h
  case lookup t m k ok => exact mp h
  case indexAddr t x i => exact mp h
  case slice t x lo hi mx =>
    cases mx with
    | some m => simp [kindD] at hk
    | none =>
      simp only [stepE, opE] at h
      split at h <;> exact mp h
  case makeMap t r => exfalso; cases r <;> simp [kindD] at hk
  case store t x y => exfalso; simp only [kindD] at hk; split at hk <;> cases hk
  case call c =>
    obtain ⟨callee, args, ats⟩ := c
    cases callee with
    | value g => exfalso; cases g <;> simp [kindD] at hk; split at hk <;> cases hk
    | invoke r m => exfalso; simp [kindD] at hk
    | builtin bb =>
      cases bb <;> first | (exfalso; simp [kindD] at hk; done) | skip
      simp only [stepE, opE] at h
      split at h
      · rename_i heq _; cases heq
      · rename_i heq _; cases heq
      · rename_i heq _; cases heq
      · exact mp h
      · rename_i heq _; cases heq
      · exact mp h
  all_goals (exfalso; simp [kindD] at hk; done)

/-- A new block. -/
theorem new_op {chk : Bool} (hk : kindD E chk o = .new) (h : stepE E self tmps nid H o = some (v, H')) :
    ∃ b, place H nid b = some H' ∧ ∀ H2 H3, place H2 nid b = some H3 → stepE E self tmps nid H2 o = some (v, H3) := by
  obtain ⟨dst, op, type, pos, after, guard⟩ := o
  have plc : ∀ {c : Blk} {z : V}, (place H nid c).map (fun H => (z, H)) = some (v, H') → ∃ b, place H nid b = some H' ∧ ∀ H2 H3, place H2 nid b = some H3 → (place H2 nid c).map (fun H => (z, H)) = some (v, H3) := by
    intro c z h
    simp only [Option.map_eq_some_iff, Prod.mk.injEq] at h
    obtain ⟨H1, h1, rfl, rfl⟩ := h
    exact ⟨c, h1, fun H2 H3 e => by rw [e]; rfl⟩
  cases op
  case alloc t =>
    simp only [stepE, opE, Option.bind_eq_some_iff] at h ⊢
    obtain ⟨z, hz, h⟩ := h
    split at h
    · cases h
    rename_i hc
    obtain ⟨b, q1, q2⟩ := plc h
    exact ⟨b, q1, fun H2 H3 e => ⟨z, hz, by rw [if_neg hc]; exact q2 H2 H3 e⟩⟩
  case box t x =>
    simp only [stepE, opE] at h ⊢
    split at h
    · cases h
    rename_i hc
    simp only [if_neg hc]; exact plc h
  case buildSlice t n ps =>
    simp only [stepE, opE] at h ⊢
    split at h
    case h_2 => cases h
    split at h
    case isFalse => cases h
    rename_i hc
    simp only [if_pos hc]
    simp only [Option.bind_eq_some_iff] at h ⊢
    obtain ⟨z, hz, h⟩ := h
    split at h
    · cases h
    rename_i hc2
    simp only [Option.bind_eq_some_iff] at h
    obtain ⟨cs, hcs, h⟩ := h
    obtain ⟨b, q1, q2⟩ := plc h
    refine ⟨b, q1, fun H2 H3 e => ⟨z, hz, ?_⟩⟩
    rw [if_neg hc2]
    simp only [Option.bind_eq_some_iff]
    exact ⟨cs, hcs, q2 H2 H3 e⟩
  case makeSlice t l c =>
    simp only [stepE, opE] at h ⊢
    split at h
    case h_2 => cases h
    split at h
    case isFalse => cases h
    rename_i hc
    simp only [if_pos hc]
    simp only [Option.bind_eq_some_iff] at h ⊢
    obtain ⟨z, hz, h⟩ := h
    split at h
    · cases h
    rename_i hc2
    obtain ⟨b, q1, q2⟩ := plc h
    exact ⟨b, q1, fun H2 H3 e => ⟨z, hz, by rw [if_neg hc2]; exact q2 H2 H3 e⟩⟩
  case makeMap t r =>
    cases r with
    | none => exact plc h
    | some r => simp [kindD] at hk
  case slice t x lo hi mx => exfalso; cases mx <;> simp [kindD] at hk
  case store t x y => exfalso; simp only [kindD] at hk; split at hk <;> cases hk
  case call c =>
    exfalso
    obtain ⟨callee, args, ats⟩ := c
    cases callee with
    | value g => cases g <;> simp [kindD] at hk; split at hk <;> cases hk
    | invoke r m => simp [kindD] at hk
    | builtin bb => cases bb <;> simp [kindD] at hk
  all_goals (exfalso; simp [kindD] at hk; done)

theorem call_op {chk : Bool} (hk : kindD E chk o = .call) (h : stepE E self tmps nid H o = some (v, H')) : ∃ K : Heap, K.length ≤ 2 ∧ placeAll H nid K = some H' := by
  obtain ⟨dst, op, type, pos, after, guard⟩ := o
  cases op
  case call c =>
    obtain ⟨callee, args, ats⟩ := c
    cases callee with
    | value g =>
      cases g with
      | func f =>
        simp only [kindD] at hk
        split at hk
        case isFalse => cases hk
        rename_i hc
        obtain ⟨hc1, hc2⟩ := hc
        have hc2 : E.prim f = none := by simpa using hc2
        simp only [stepE, evalO, List.append_nil] at h
        unfold callE at h
        split at h
        · cases h
        rw [hc2] at h
        simp only at h
        split at h
        · simp only [Option.bind_eq_some_iff] at h
          obtain ⟨xs, hxs, h⟩ := h
          split at h
          · simp only [Option.some.injEq, Prod.mk.injEq] at h
            exact ⟨[], by simp, by simp [placeAll, h.2]⟩
          · cases h
        rw [if_neg (by simp [hc1])] at h
        simp only [Option.bind_eq_some_iff] at h
        obtain ⟨args', ha, r, hr, h⟩ := h
        split at h
        · rename_i hs
          simp only [Option.map_eq_some_iff, Prod.mk.injEq] at h
          obtain ⟨H1, h1, _, rfl⟩ := h
          exact ⟨r.2, by rw [Bool.and_eq_true] at hs; simpa using hs.2, h1⟩
        · cases h
      | _ => simp [kindD] at hk
    | invoke r m => exfalso; simp [kindD] at hk
    | builtin bb => exfalso; cases bb <;> simp [kindD] at hk
  case slice t x lo hi mx => exfalso; cases mx <;> simp [kindD] at hk
  case makeMap t r => exfalso; cases r <;> simp [kindD] at hk
  case store t x y => exfalso; simp only [kindD] at hk; split at hk <;> cases hk
  all_goals (exfalso; simp [kindD] at hk; done)

theorem store_op {chk : Bool} (hk : kindD E chk o = .store) {sid : Nat} (hsid : storeAt tmps o sid = true) (h : stepE E self tmps nid H o = some (v, H')) : chk = true ∧ ∃ b, H' = H.set sid b := by
  obtain ⟨dst, op, type, pos, after, guard⟩ := o
  cases op
  case store t x y =>
    refine ⟨by cases chk <;> simp [kindD] at hk ⊢, ?_⟩
    simp only [stepE, opE, Option.map_eq_some_iff, Prod.mk.injEq] at h
    obtain ⟨H1, h1, _, rfl⟩ := h
    unfold storeAt at hsid
    simp only at hsid
    generalize evalO tmps x = a at hsid h1
    cases a <;> simp at hsid
    subst hsid
    simp only [storeT] at h1
    split at h1
    case h_2 => cases h1
    split at h1
    case isFalse => cases h1
    simp only [Option.bind_eq_some_iff] at h1
    obtain ⟨cs, _, h1⟩ := h1
    split at h1
    · simp only [Option.some.injEq] at h1; exact ⟨_, h1.symm⟩
    · cases h1
  case slice t x lo hi mx => exfalso; cases mx <;> simp [kindD] at hk
  case makeMap t r => exfalso; cases r <;> simp [kindD] at hk
  case call c =>
    exfalso
    obtain ⟨callee, args, ats⟩ := c
    cases callee with
    | value g => cases g <;> simp [kindD] at hk; split at hk <;> cases hk
    | invoke r m => simp [kindD] at hk
    | builtin bb => cases bb <;> simp [kindD] at hk
  all_goals (exfalso; simp [kindD] at hk; done)
end
end Go.Proofs.YtpmdlaojndejfaaGreatDoor.E
