/- The evaluator against the machine: code, functions: the theorem. -/
import Derived.RangeFuncLeaves
import Derived.Test.YtpmdlaojndejfaaGreatDoorKc2
import Derived.Test.YtpmdlaojndejfaaGreatDoorKc0
import Derived.OrdersIn
set_option linter.unusedVariables false
set_option linter.unusedSimpArgs false
namespace Go.Proofs.YtpmdlaojndejfaaGreatDoor.E
open Go

section
variable {N A : Nat → Prop} {ι : Nat → Lk} {H H' : Heap} {w : World}

theorem args_rel {tmps : List V} {a : Act} (ht : TR A ι H w tmps a.tmps) (args : Array Operand) : TR A ι H w (args.toList.map (evalO tmps)) (args.map a.eval) := by
  refine ⟨by simp, fun i x cv p q => ?_⟩
  simp only [List.getElem?_map, Option.map_eq_some_iff] at p
  obtain ⟨y, hy, rfl⟩ := p
  have : args[i]? = some y := by simpa using hy
  simp [this] at q; subst q
  exact ht.eval y
theorem TR.append {l1 l2 : List V} {a1 a2 : Array Value} (h1 : TR A ι H w l1 a1) (h2 : TR A ι H w l2 a2) : TR A ι H w (l1 ++ l2) (a1 ++ a2) := by
  refine ⟨by simp [h1.1, h2.1], fun i x cv p q => ?_⟩
  rcases Nat.lt_or_ge i l1.length with g | g
  · rw [List.getElem?_append_left g] at p
    rw [Array.getElem?_append_left (h1.1 ▸ g)] at q
    exact h1.2 i x cv p q
  · rw [List.getElem?_append_right g] at p
    rw [Array.getElem?_append_right (h1.1 ▸ g)] at q
    rw [h1.1] at p
    exact h2.2 _ x cv p q

theorem stepE_sound {E : Env} {self : Self} (hself : Sound E self.call) (hcode : CodeSound E self.code) (hprim : PrimSound E) (hs : SR N A ι H w) (hg : GR E A ι H w) {tmps : List V} {a : Act} (ht : TR A ι H w tmps a.tmps)
    {nid : Nat} {o : Oper} {v : V} (h : stepE E self tmps nid H o = some (v, H')) : StepOut E.P N A ι H w (execOp a.eval o) v H' ∧ (∀ c, o.op ≠ .defer c) := by
  obtain ⟨dst, op, ty, pos, after, guard⟩ := o
  by_cases hc : ∃ g args ats, op = .call { callee := .value g, args := args, argTypes := ats }
  · obtain ⟨g, args, ats, rfl⟩ := hc
    refine ⟨?_, by simp⟩
    simp only [stepE] at h
    have hgv := ht.eval g
    have har := args_rel ht args
    split at h
    · rename_i f caps e
      rw [e] at hgv
      generalize hev : a.eval g = cg at hgv
      cases hgv with
      | fn _ _ vs hl hv =>
        have hx : execOp a.eval { dst := dst, op := .call { callee := .value g, args := args, argTypes := ats }, type := ty, pos := pos, after := after, guard := guard } = callFunc f (args.map a.eval ++ vs) := by
          simp only [execOp, resolve, hev, Deferred.ofValue]
          show callFunc f ((#[] ++ args.map a.eval) ++ vs) = _
          simp
        rw [hx]
        exact callE_sound hself hprim hs hg (TR.append har ⟨hl, hv⟩) h
    · rename_i l e
      rw [e] at hgv
      generalize hev : a.eval g = cg at hgv
      have hb : ∃ b, cg = .func (.yield b) #[] #[] := by cases hgv; exact ⟨_, rfl⟩
      obtain ⟨b, rfl⟩ := hb
      have hx : execOp a.eval { dst := dst, op := .call { callee := .value g, args := args, argTypes := ats }, type := ty, pos := pos, after := after, guard := guard } = Instr.yield b (args.map a.eval) := by
        simp only [execOp, resolve, hev, Deferred.ofValue]
        show Instr.yield b (#[] ++ args.map a.eval) = _
        simp
      rw [hx]
      obtain ⟨L, h1, h2⟩ := yieldE_sound hcode hs hg hgv har h
      exact .inr (.inr ⟨_, _, _, _, _, h1, h2⟩)
    · cases h
  · have h' : opE E tmps nid H { dst := dst, op := op, type := ty, pos := pos, after := after, guard := guard } = some (v, H') := by
      cases op with
      | call c =>
        obtain ⟨callee, args, ats⟩ := c
        cases callee with
        | value g => exact absurd ⟨_, _, _, rfl⟩ hc
        | _ => exact h
      | _ => exact h
    refine ⟨.inl (opE_sound hs hg ht h'), fun c e => ?_⟩
    simp only at e
    subst e
    simp [opE, toOps, noSel] at h'

theorem yielded_eq {ops : Array Oper} {tmps : List V} {vs : Array Value} (ht : TR A ι H w tmps vs) (j : Nat) : yieldedV ops tmps j = yielded ops vs j := by
  unfold yieldedV yielded
  cases h : (ops[j]?).bind (·.dst) with
  | none => rfl
  | some t =>
    simp only [Option.bind_some]
    rcases Nat.lt_or_ge t tmps.length with g | g
    · have e1 : tmps[t]? = some tmps[t] := by simp [g]
      have e2 : vs[t]? = some (vs[t]'(ht.1 ▸ g)) := by simp
      have hv := ht.2 t _ _ e1 e2
      rw [e1, e2]
      generalize tmps[t] = x at hv
      generalize vs[t]'(ht.1 ▸ g) = cx at hv
      cases hv with
      | lit _ => cases cx <;> rfl
      | _ => rfl
    · rw [List.getElem?_eq_none g, Array.getElem?_eq_none (ht.1 ▸ g)]

theorem wanted_eq {ops : Array Oper} {tmps : List V} {vs : Array Value} (ht : TR A ι H w tmps vs) (o : Oper) : Region.wanted o (yieldedV ops tmps) = Region.wanted o (yielded ops vs) := by
  have : yieldedV ops tmps = yielded ops vs := funext fun j => yielded_eq ht j
  rw [this]

/-- One operation, in whatever stands behind it. -/
theorem op_wp {P : Program} {cro : Option Nat} {n : Nat} {o : Oper} {a : Act} {v : V} (h : StepOut P N A ι H w (execOp a.eval o) v H') (hd : ∀ c, o.op ≠ .defer c) {next : Act → World → Prop} {Q : Exit → Act → World → Prop}
    (hn : ∀ cv w' N' A' ι', Ext N A ι H w N' A' ι' H' w' → VR A' ι' H' w' v cv → next (a.put o.dst cv) w') : o.wpIn (W cro) n P a w next Q := by
  refine ⟨fun _ _ => trivial, ?_⟩
  have hsem : o.semAt (W cro).round a.eval = execOp a.eval o := Oper.semAt_eq _ _ _ hd
  rw [hsem]
  rcases h with ⟨nx, cv, w', N', A', ι', h1, h2, h3, h4⟩ | ⟨f, cargs, h1, h2⟩ | ⟨l, f, tmps, asg, body, h1, h2⟩
  · rw [h1]
    rcases h2 with rfl | ⟨rfl, rfl⟩
    · exact hn _ _ _ _ _ h3 h4
    · exact hn _ _ _ _ _ h3 h4
  · rw [h1]
    refine ⟨fun h => by simp [W, Fence.wide] at h, calls_W (h2.mono ?_)⟩
    rintro e w' ⟨cv, N', A', ι', rfl, k1, k2⟩
    exact hn _ _ _ _ _ k1 k2
  · rw [h1]
    refine ⟨fun h => by simp [W, Fence.wide] at h, round_W ((h2 _).mono ?_)⟩
    rintro e w' ⟨cv, N', A', ι', rfl, k1, k2⟩
    exact hn _ _ _ _ _ k1 k2

theorem defer_wp {P : Program} {n : Nat} {o : Oper} {a : Act} (hs : SR N A ι H w) {tmps : List V} (ht : TR A ι H w tmps a.tmps) {d : Dr} (h : deferE tmps o = some d) {next : Act → World → Prop} {Q : Exit → Act → World → Prop}
    (hn : ∀ D, DR1 A ι H w d D → next ({ a with defers := D :: a.defers }.put o.dst undef) w) : o.wpIn (W none) n P a w next Q := by
  obtain ⟨dst, op, ty, pos, after, guard⟩ := o
  unfold deferE at h
  split at h
  case h_2 => cases h
  rename_i g args ats hop
  simp only at hop
  subst hop
  split at h
  case h_2 => cases h
  rename_i f caps e
  simp only [Option.some.injEq] at h
  subst h
  have hgv := ht.eval g
  have har := args_rel ht args
  rw [e] at hgv
  generalize hev : a.eval g = cg at hgv
  cases hgv with
  | fn _ _ vs hl hv =>
    refine ⟨fun _ _ => trivial, ?_⟩
    have hx : (Oper.semAt (W none).round a.eval { dst := dst, op := .defer { callee := .value g, args := args, argTypes := ats }, type := ty, pos := pos, after := after, guard := guard }).run P w = .ok (.defer { target := .fn (.func f) vs, args := args.map a.eval }) w := by
      have hr : (W none).round = none := rfl
      rw [hr, Oper.semAt_none]
      simp only [execOp, resolve, hev, Deferred.ofValue]
      show Sem.run P (pure _) w = _
      simp
    rw [hx]
    exact hn _ ⟨vs, args.map a.eval, rfl, TR.append har ⟨hl, hv⟩⟩

theorem panic_wp {P : Program} {cro : Option Nat} {n : Nat} {o : Oper} {a : Act} {tmps : List V} (ht : TR A ι H w tmps a.tmps) {x : Value} (h : panicV tmps o.op = some x) {next : Act → World → Prop} {Q : Exit → Act → World → Prop}
    (hn : Q (.panic [{ v := x, recovered := false }]) a w) : o.wpIn (W cro) n P a w next Q := by
  obtain ⟨dst, op, ty, pos, after, guard⟩ := o
  unfold panicV at h
  split at h
  case h_2 => cases h
  rename_i y hop
  simp only at hop
  subst hop
  split at h
  case h_2 => cases h
  rename_i t v e
  simp only [Option.some.injEq] at h
  subst h
  have hv : a.eval y = .iface t v := litOf_eq (v := .lit (.iface t v)) rfl (e ▸ ht.eval y)
  refine ⟨fun _ _ => trivial, ?_⟩
  have hx : (Oper.semAt (W cro).round a.eval { dst := dst, op := .panic y, type := ty, pos := pos, after := after, guard := guard }).run P w = .halt (.panic (.iface t v)) w := by
    rw [Oper.semAt_eq _ _ _ (by simp)]
    simp only [execOp, hv]
    rfl
  rw [hx]
  exact hn

theorem panCall_wp {E : Env} {self : Self} (hself : SoundX E self.callX) {cro : Option Nat} {n : Nat} {o : Oper} {a : Act} (hs : SR N A ι H w) (hg : GR E A ι H w) {tmps : List V} (ht : TR A ι H w tmps a.tmps) {f : FuncId} {args : List V}
    (h : panCall E tmps o = some (f, args)) {r : Oc} (hr : self.callX f args H = some (r, H')) {next : Act → World → Prop} {Q : Exit → Act → World → Prop}
    (hn : ∀ v cv w' N' A' ι', r = .ret v → Ext N A ι H w N' A' ι' H' w' → VR A' ι' H' w' v cv → next (a.put o.dst cv) w')
    (hp : ∀ x w' N' A' ι', r = .pan x → Ext N A ι H w N' A' ι' H' w' → Q (.panic [{ v := x, recovered := false }]) a w') : o.wpIn (W cro) n E.P a w next Q := by
  obtain ⟨dst, op, ty, pos, after, guard⟩ := o
  unfold panCall at h
  split at h
  case h_2 => cases h
  rename_i g oargs ats hop
  simp only at hop
  subst hop
  split at h
  case h_2 => cases h
  rename_i f' caps e
  split at h
  case isFalse => cases h
  rename_i hc
  simp only [Option.some.injEq, Prod.mk.injEq] at h
  obtain ⟨rfl, rfl⟩ := h
  simp only [Bool.and_eq_true, Bool.not_eq_true'] at hc
  have hgv := ht.eval g
  have har := args_rel ht oargs
  rw [e] at hgv
  generalize hev : a.eval g = cg at hgv
  cases hgv with
  | fn _ _ vs hl hv =>
    refine ⟨fun _ _ => trivial, ?_⟩
    have hx : (Oper.semAt (W cro).round a.eval { dst := dst, op := .call { callee := .value g, args := oargs, argTypes := ats }, type := ty, pos := pos, after := after, guard := guard }).run E.P w = .ok (.enter f' (oargs.map a.eval ++ vs)) w := by
      rw [Oper.semAt_eq _ _ _ (by simp)]
      have : execOp a.eval { dst := dst, op := .call { callee := .value g, args := oargs, argTypes := ats }, type := ty, pos := pos, after := after, guard := guard } = callFunc f' (oargs.map a.eval ++ vs) := by
        simp only [execOp, resolve, hev, Deferred.ofValue]
        show callFunc f' ((#[] ++ oargs.map a.eval) ++ vs) = _
        simp
      rw [this]
      exact run_callFunc hc.1.1.2 hc.1.2 _ w
    rw [hx]
    refine ⟨fun h => by simp [W, Fence.wide] at h, calls_W ((hself f' _ H r H' hr N A ι w _ hs hg (TR.append har ⟨hl, hv⟩)).mono ?_)⟩
    intro e w' hres
    cases r with
    | ret v =>
      obtain ⟨cv, N', A', ι', rfl, k1, k2⟩ := hres
      exact hn v cv w' N' A' ι' rfl k1 k2
    | pan x =>
      obtain ⟨N', A', ι', rfl, k1⟩ := hres
      exact hp x w' N' A' ι' rfl k1

theorem regionE_sound {E : Env} {self : Self} (hself : SoundX E self.callX) (hcode : CodeSound E self.code) (hprim : PrimSound E) {ops : Array Oper} {ro cro : Option Nat} (hro : ro = none → cro = none) {n : Nat} {x : X} {Q : Exit → Act → World → Prop} :
    ∀ (l : List Oper) (s s' : St) (N A : Nat → Prop) (ι : Nat → Lk) (w : World) (a : Act), regionE E self ro ops l s = some (x, s') → SR N A ι s.H w → GR E A ι s.H w → TR A ι s.H w s.tmps a.tmps → DR A ι s.H w s.ds a.defers →
      (∀ e a' w' N' A' ι', XR x e → Ext N A ι s.H w N' A' ι' s'.H w' → TR A' ι' s'.H w' s'.tmps a'.tmps → DR A' ι' s'.H w' s'.ds a'.defers → Q e a' w') → wpListIn (W cro) n E.P ops Q l a w
  | [], s, s', N, A, ι, w, a, h, hs, hg, ht, hd, hq => by
    simp only [regionE, Option.some.injEq, Prod.mk.injEq] at h
    obtain ⟨rfl, rfl⟩ := h
    exact hq .normal a w N A ι trivial (Ext.refl hs) ht hd
  | o :: l, s, s', N, A, ι, w, a, h, hs, hg, ht, hd, hq => by
    simp only [regionE] at h
    simp only [wpListIn]
    rw [← wanted_eq ht o]
    split at h
    · rename_i hw
      rw [if_pos hw]
      have go : ∀ (v : V) (H1 : Heap) (cv : Value) (w1 : World) (N1 A1 : Nat → Prop) (ι1 : Nat → Lk), Ext N A ι s.H w N1 A1 ι1 H1 w1 → VR A1 ι1 H1 w1 v cv → regionE E self ro ops l ⟨put s.tmps o.dst v, H1, s.ds⟩ = some (x, s') → wpListIn (W cro) n E.P ops Q l (a.put o.dst cv) w1 := by
        intro v H1 cv w1 N1 A1 ι1 e1 hv h2
        have t1 := TR.put (ds := a.defers) (ht.keep e1.keep) hv o.dst
        have dd : (a.put o.dst cv).defers = a.defers := by cases o.dst <;> rfl
        exact regionE_sound hself hcode hprim hro l _ s' N1 A1 ι1 w1 (a.put o.dst cv) h2 e1.sr (GR.keep hs hg e1) t1 (by rw [dd]; exact hd.keep e1.keep) fun e a' w' N' A' ι' hx e2 t d => hq e a' w' N' A' ι' hx (e1.trans e2) t d
      split at h
      · -- what is deferred
        split at h
        · cases h
        rename_i hrn
        have hrn : ro = none := by simpa using hrn
        have := hro hrn; subst this; subst hrn
        simp only [Option.bind_eq_some_iff] at h
        obtain ⟨d, h1, h2⟩ := h
        refine defer_wp hs ht h1 fun D hD => ?_
        have t1 : TR A ι s.H w (put s.tmps o.dst un) (({ a with defers := D :: a.defers } : Act).put o.dst undef).tmps := TR.put (ds := D :: a.defers) ht (VR.lit undef) o.dst
        have dd : (({ a with defers := D :: a.defers } : Act).put o.dst undef).defers = D :: a.defers := by cases o.dst <;> rfl
        exact regionE_sound hself hcode hprim hro l _ s' N A ι w _ h2 hs hg t1 (by rw [dd]; exact DR.cons hD hd) hq
      split at h
      · rename_i y hy
        simp only [Option.some.injEq, Prod.mk.injEq] at h
        obtain ⟨rfl, rfl⟩ := h
        exact panic_wp ht hy (hq _ a w N A ι rfl (Ext.refl hs) ht hd)
      split at h
      · rename_i f args hpc
        simp only [Option.bind_eq_some_iff] at h
        obtain ⟨⟨r, H1⟩, h1, h2⟩ := h
        refine panCall_wp hself hs hg ht hpc h1 (fun v cv w' N' A' ι' hr e1 hv => ?_) fun y w' N' A' ι' hr e1 => ?_
        · subst hr; exact go v H1 cv w' N' A' ι' e1 hv h2
        · subst hr
          simp only [Option.some.injEq, Prod.mk.injEq] at h2
          obtain ⟨rfl, rfl⟩ := h2
          exact hq _ a w' N' A' ι' rfl e1 (ht.keep e1.keep) (hd.keep e1.keep)
      · simp only [Option.bind_eq_some_iff] at h
        obtain ⟨⟨v, H1⟩, h1, h2⟩ := h
        obtain ⟨k1, k2⟩ := stepE_sound hself.call hcode hprim hs hg ht h1
        exact op_wp k1 k2 fun cv w1 N1 A1 ι1 e1 hv => go v H1 cv w1 N1 A1 ι1 e1 hv h2
    · rename_i hw
      rw [if_neg hw]
      refine ⟨fun _ _ => trivial, ?_⟩
      have t1 := TR.put (ds := a.defers) ht (VR.lit undef) o.dst
      have dd : (a.put o.dst undef).defers = a.defers := by cases o.dst <;> rfl
      exact regionE_sound hself hcode hprim hro l _ s' N A ι w (a.put o.dst undef) h hs hg t1 (by rw [dd]; exact hd) hq

/-- Where a loop over a function begins. -/
theorem loopBegin_sound {P : Program} (hs : SR N A ι H w) {ro cro : Option Nat} (hro : RoR A ι H w ro cro) {ds : List Dr} {dl : List Deferred} (hd : DR A ι H w ds dl) {tmps : List V} {vs : Array Value} (ht : TR A ι H w tmps vs)
    {ps : Array Tmp} {asg body : Code} {l : Nat} {H0 : Heap} {ds' : List Dr} (h : loopBegin ro H ds (.loop true none tmps ps.toList asg body) = some (l, H0, ds')) (fn : FuncId) :
    ∃ b mark w1 ι1, (Instr.enterLoop fn vs ps asg body cro).run P w = .ok (b, mark) w1 ∧ Ext N A ι H w N A ι1 H0 w1 ∧ VR A ι1 H0 w1 (.yld l) (.func (.yield b) #[] #[]) ∧ DR A ι1 H0 w1 ds' (mark ++ dl) := by
  have loopR : ∀ (N A : Nat → Prop) (ι : Nat → Lk) (H H1 : Heap) (w : World) (D : Nat), SR N A ι H w → TR A ι H w tmps vs → place H H.length (.loop true none tmps ps.toList asg body) = some H1 →
      Ext N A ι H w N A (upd ι H.length ⟨w.heap.size, 0, 0⟩) H1 (w.alloc (.loop { state := .ready, pending := none, fn, tmps := vs, params := ps, assign := asg, body, defers := D })) := by
    intro N A ι H H1 w D hs ht hp
    refine newObj_sound hs hp _ fun keep => ⟨_, by rw [upd_same]; exact alloc_new w _, rfl, rfl, by simp, rfl, rfl, ht.1.symm, fun i x cv a b => keep _ _ (ht.2 i x cv a b)⟩
  cases ro with
  | none =>
    cases cro with
    | some b => exact hro.elim
    | none =>
      simp only [loopBegin, Option.some.injEq, Prod.mk.injEq] at h
      obtain ⟨rfl, rfl, rfl⟩ := h
      have p1 : place H H.length .dfr = some (H ++ [.dfr]) := by simp [place]
      have e1 := newObj_sound hs p1 (.deferred (some [])) fun keep => by simp only [BR, upd_same]; exact alloc_new w _
      have p2 : place (H ++ [Blk.dfr]) (H ++ [Blk.dfr]).length (.loop true none tmps ps.toList asg body) = some (H ++ [.dfr] ++ [.loop true none tmps ps.toList asg body]) := by simp [place]
      have e2 := loopR N A _ _ _ _ w.heap.size e1.sr (ht.keep e1.keep) p2
      refine ⟨(w.alloc (.deferred (some []))).heap.size, [{ target := .collected w.heap.size, args := #[] }], ((w.alloc (.deferred (some []))).alloc (.loop { state := .ready, pending := none, fn, tmps := vs, params := ps, assign := asg, body, defers := w.heap.size })), (upd (upd ι H.length ⟨w.heap.size, 0, 0⟩) (H ++ [Blk.dfr]).length ⟨(w.alloc (.deferred (some []))).heap.size, 0, 0⟩), ?_, ?_, ?_, ?_⟩
      · simp [Instr.enterLoop]
      · have := e1.trans e2
        simpa using this
      · have := VR.yld (A := A) (ι := upd (upd ι H.length ⟨w.heap.size, 0, 0⟩) (H ++ [Blk.dfr]).length ⟨(w.alloc (.deferred (some []))).heap.size, 0, 0⟩) (H := H ++ [.dfr, .loop true none tmps ps.toList asg body]) (w := (w.alloc (.deferred (some []))).alloc (.loop { state := .ready, pending := none, fn, tmps := vs, params := ps, assign := asg, body, defers := w.heap.size })) (H.length + 1) (.loop true none tmps ps.toList asg body) (by simp) (by simp) (by simp)
        have e3 : (H ++ [Blk.dfr]).length = H.length + 1 := by simp
        rw [e3] at this ⊢
        rw [upd_same] at this
        exact this
      · refine ⟨by simp [hd.1], fun i d D a b => ?_⟩
        cases i with
        | zero =>
          simp at a b; subst a b
          simp only [DR1]
          refine ⟨_, rfl, ?_⟩
          have := VR.mp (A := A) (ι := upd (upd ι H.length ⟨w.heap.size, 0, 0⟩) (H ++ [Blk.dfr]).length ⟨(w.alloc (.deferred (some []))).heap.size, 0, 0⟩) (H := H ++ [.dfr, .loop true none tmps ps.toList asg body]) (w := (w.alloc (.deferred (some []))).alloc (.loop { state := .ready, pending := none, fn, tmps := vs, params := ps, assign := asg, body, defers := w.heap.size })) H.length .dfr (by simp) (by simp) (by simp)
          rw [upd_ne _ _ (by simp), upd_same] at this
          exact this
        | succ i =>
          have := ((hd.2 i d D (by simpa using a) (by simpa using b)).keep e1.keep).keep e2.keep
          simpa using this
  | some r =>
    cases cro with
    | none => exact hro.elim
    | some b =>
      simp only [loopBegin] at h
      split at h
      case h_2 => cases h
      rename_i hid
      simp only [Option.some.injEq, Prod.mk.injEq] at h
      obtain ⟨rfl, rfl, rfl⟩ := h
      have hb : b = (ι r).b := by cases hro; rfl
      subst hb
      obtain ⟨L, l1, _⟩ := hs.live r _ hid
      have p2 : place H H.length (.loop true none tmps ps.toList asg body) = some (H ++ [.loop true none tmps ps.toList asg body]) := by simp [place]
      have e2 := loopR N A ι H _ w L.defers hs ht p2
      refine ⟨w.heap.size, [], _, _, ?_, e2, ?_, ?_⟩
      · simp [Instr.enterLoop, run_getLoop l1]
      · have := VR.yld (A := A) (ι := upd ι H.length ⟨w.heap.size, 0, 0⟩) (H := H ++ [.loop true none tmps ps.toList asg body]) (w := w.alloc (.loop { state := .ready, pending := none, fn, tmps := vs, params := ps, assign := asg, body, defers := L.defers })) H.length (.loop true none tmps ps.toList asg body) (by simp) (by simp) (by simp)
        rw [upd_same] at this
        exact this
      · exact hd.keep e2.keep

theorem loopEnd_sound {P : Program} (hs : SR N A ι H w) {l b : Nat} (hl : VR A ι H w (.yld l) (.func (.yield b) #[] #[])) {x : X} (h : loopEnd H l = some (x, H')) :
    ∃ jump w' ι', (Instr.endLoop b).run P w = .ok jump w' ∧ Ext N A ι H w N A ι' H' w' ∧ (match x with | .normal => jump = none | .ret => jump = some .ret | .exit id => jump = some (.exit id) | .pan _ => False) := by
  have hb : b = (ι l).b := by cases hl; rfl
  subst hb
  have turn : ∀ (ready : Bool) (pend : Option Code) (tmps : List V) (ps : List Tmp) (asg body : Code) (L : Loop), H[l]? = some (.loop ready pend tmps ps asg body) → w.heap[(ι l).b]? = some (.loop L) →
      Ext N A ι H w N A (upd ι l (ι l)) (H.set l .gone) { w with heap := w.heap.setIfInBounds (ι l).b (.loop { L with state := .exhausted }) } := by
    intro ready pend tmps ps asg body L hid hL
    exact Ext.turn hs hid trivial (L := ι l) (.inl rfl) (fun k _ hk => by simp [Array.getElem?_setIfInBounds_ne (Ne.symm hk)]) (by simp) rfl rfl rfl (by simp [Later, upd_same]) fun keep => trivial
  have run : ∀ (L : Loop), w.heap[(ι l).b]? = some (.loop L) → L.state ≠ .busy → (Instr.endLoop (ι l).b).run P w = .ok L.pending { w with heap := w.heap.setIfInBounds (ι l).b (.loop { L with state := .exhausted }) } := by
    intro L hL hst
    have hst' : (L.state == LoopState.busy) = false := by cases hL : L.state <;> first | rfl | exact absurd hL hst
    have := run_setObj (P := P) (o' := .loop { L with state := .exhausted }) hL (fun _ _ _ e => by cases e)
    simp [Instr.endLoop, run_getLoop hL, hst, this]
  unfold loopEnd at h
  split at h
  · rename_i tmps ps asg body hid
    simp only [Option.some.injEq, Prod.mk.injEq] at h
    obtain ⟨rfl, rfl⟩ := h
    obtain ⟨L, l1, l2, l3, _⟩ := hs.live l _ hid
    exact ⟨_, _, _, run L l1 (by rw [l2]; simp), turn _ _ _ _ _ _ L hid l1, l3⟩
  · rename_i rd tmps ps asg body hid
    simp only [Option.some.injEq, Prod.mk.injEq] at h
    obtain ⟨rfl, rfl⟩ := h
    obtain ⟨L, l1, l2, l3, _⟩ := hs.live l _ hid
    exact ⟨_, _, _, run L l1 (by rw [l2]; cases rd <;> simp), turn _ _ _ _ _ _ L hid l1, l3⟩
  · rename_i rd id tmps ps asg body hid
    simp only [Option.some.injEq, Prod.mk.injEq] at h
    obtain ⟨rfl, rfl⟩ := h
    obtain ⟨L, l1, l2, l3, _⟩ := hs.live l _ hid
    exact ⟨_, _, _, run L l1 (by rw [l2]; cases rd <;> simp), turn _ _ _ _ _ _ L hid l1, l3⟩
  · cases h
end
end Go.Proofs.YtpmdlaojndejfaaGreatDoor.E

/- A free place that is filled changes nothing: reading, operations. -/
set_option linter.unusedVariables false
set_option linter.unusedSimpArgs false
namespace Go.Proofs.YtpmdlaojndejfaaGreatDoor.E
open Go

section
variable {P : Program} {E : Env} {H H' : Heap} {p : Nat} {b : Blk}

theorem set_other {id : Nat} (h : id ≠ p) : (H.set p b)[id]? = H[id]? := List.getElem?_set_ne (Ne.symm h)
theorem set_swap {id : Nat} {c : Blk} (h : id ≠ p) : (H.set p b).set id c = (H.set id c).set p b := List.set_comm _ _ (Ne.symm h)
theorem set_free {id : Nat} {c : Blk} (hp : H[p]? = some .free) (h : id ≠ p) : (H.set id c)[p]? = some .free := by
  rw [List.getElem?_set_ne h]; exact hp
/-- What is read is not the free place. -/
theorem ne_free {id : Nat} {c : Blk} (hp : H[p]? = some .free) (h : H[id]? = some c) (hf : c ≠ .free) : id ≠ p := by
  rintro rfl; rw [hp] at h; cases h; exact hf rfl
theorem get_fill {id : Nat} {c : Blk} (hp : H[p]? = some .free) (h : H[id]? = some c) (hf : c ≠ .free) : (H.set p b)[id]? = some c := by
  rw [set_other (ne_free hp h hf)]; exact h

theorem loadT_fill (hp : H[p]? = some .free) {t : TypeId} {a x : V} (h : loadT E H t a = some x) : loadT E (H.set p b) t a = some x := by
  unfold loadT at h ⊢
  split at h
  · split at h
    · rename_i hid
      simp only [get_fill hp hid (by simp)]; exact h
    · cases h
  · exact h
  · exact h
  · cases h

theorem rowsOf_fill (hp : H[p]? = some .free) {a : V} {x : List (List V)} (h : rowsOf H a = some x) : rowsOf (H.set p b) a = some x := by
  unfold rowsOf at h ⊢
  split at h
  · exact h
  · exact h
  · split at h
    · rename_i hid
      simp only [get_fill hp hid (by simp)]; exact h
    · cases h
  · cases h
theorem rowsOfX_fill (hp : H[p]? = some .free) {a : V} {x : List (List V)} (h : rowsOfX H a = some x) : rowsOfX (H.set p b) a = some x := by
  unfold rowsOfX at h ⊢
  split at h
  · exact h
  · exact rowsOf_fill hp h

theorem storeT_fill (hp : H[p]? = some .free) {t : TypeId} {a v : V} (h : storeT E H t a v = some H') : storeT E (H.set p b) t a v = some (H'.set p b) ∧ H'[p]? = some .free := by
  unfold storeT at h ⊢
  split at h
  · split at h
    case h_2 => cases h
    rename_i hid
    have hne := ne_free hp hid (by simp)
    simp only [get_fill hp hid (by simp)]
    split at h
    case isFalse => cases h
    rename_i hc
    rw [if_pos hc]
    simp only [Option.bind_eq_some_iff] at h ⊢
    obtain ⟨cs, hcs, h⟩ := h
    split at h
    case isFalse => cases h
    rename_i hl
    simp only [Option.some.injEq] at h; subst h
    exact ⟨⟨cs, hcs, by rw [if_pos hl, set_swap hne]⟩, set_free hp hne⟩
  · cases h

theorem indexA_fill (hp : H[p]? = some .free) {t : TypeId} {x i y : V} (h : indexA P H t x i = some y) : indexA P (H.set p b) t x i = some y := by
  unfold indexA at h ⊢
  simp only [Option.bind_eq_some_iff] at h ⊢
  obtain ⟨n, hn, h⟩ := h
  refine ⟨n, hn, ?_⟩
  split at h
  · cases h
  rename_i h0
  rw [if_neg h0]
  split at h
  · rename_i hu
    try simp only [hu]
    split at h
    case isFalse => cases h
    rename_i hl
    rw [if_pos hl]
    split at h
    · rename_i hid
      simp only [get_fill hp hid (by simp)]; exact h
    · cases h
  · rename_i hu; (try simp only [hu]); exact h
  · rename_i hu; (try simp only [hu]); exact h
  · rename_i hu; (try simp only [hu]); exact h
  · cases h

theorem sliceData_fill (hp : H[p]? = some .free) {id ver off len : Nat} {x : V} (h : sliceData H id ver off len = some x) : sliceData (H.set p b) id ver off len = some x := by
  unfold sliceData at h ⊢
  split at h
  · cases h
  rename_i hl
  rw [if_neg hl]
  split at h
  · rename_i hid
    simp only [get_fill hp hid (by simp)]; exact h
  · cases h
theorem strData_fill (hp : H[p]? = some .free) {ts : Array TypeId} {id ver : Nat} {n : Int} {v : V} (h : strData P H ts id ver n = some (v, H')) : strData P (H.set p b) ts id ver n = some (v, H'.set p b) ∧ H'[p]? = some .free := by
  unfold strData at h ⊢
  split at h
  case h_2 => cases h
  rename_i hid hts
  simp only [get_fill hp hid (by simp), hts]
  split at h
  case h_2 => cases h
  rename_i hu
  split at h
  case isFalse => cases h
  rename_i hc
  simp only [hu, if_pos hc]
  simp only [Option.map_eq_some_iff, Prod.mk.injEq] at h ⊢
  obtain ⟨l, hl, rfl, rfl⟩ := h
  exact ⟨⟨l, hl, rfl, by rw [set_swap (ne_free hp hid (by simp))]⟩, set_free hp (ne_free hp hid (by simp))⟩

theorem sliceV_fill (hp : H[p]? = some .free) {t : TypeId} {x y : V} {lo hi : Option V} (h : sliceV P H t x lo hi = some y) : sliceV P (H.set p b) t x lo hi = some y := by
  unfold sliceV at h ⊢
  split at h
  · rename_i hu
    simp only [hu, Option.bind_eq_some_iff] at h ⊢
    obtain ⟨l, hl, k, hk, h⟩ := h
    refine ⟨l, hl, k, hk, ?_⟩
    split at h
    · rename_i hid
      simp only [get_fill hp hid (by simp)]; exact h
    · cases h
  · rename_i hu; (try simp only [hu]); exact h
  · cases h

theorem lookupV_fill (hp : H[p]? = some .free) {t : TypeId} {m k y : V} {ok : Bool} (h : lookupV P H t m k ok = some y) : lookupV P (H.set p b) t m k ok = some y := by
  unfold lookupV at h ⊢
  split at h
  · rename_i hu
    simp only [hu, Option.bind_eq_some_iff] at h ⊢
    obtain ⟨d, hd, kv, hkv, h⟩ := h
    refine ⟨d, hd, kv, hkv, ?_⟩
    split at h
    · rename_i hid
      simp only [get_fill hp hid (by simp)]
      simpa only [Option.bind_eq_some_iff] using h
    · cases h
  · cases h

theorem mapPut_fill (hp : H[p]? = some .free) {t : TypeId} {m k v : V} (h : mapPut P H t m k v = some H') : mapPut P (H.set p b) t m k v = some (H'.set p b) ∧ H'[p]? = some .free := by
  unfold mapPut at h ⊢
  split at h
  · rename_i hu
    simp only [hu, Option.bind_eq_some_iff] at h ⊢
    obtain ⟨d, hd, kv, hkv, h⟩ := h
    split at h
    · rename_i hid
      have hne := ne_free hp hid (by simp)
      simp only [Option.bind_eq_some_iff] at h
      obtain ⟨r, hr, h⟩ := h
      cases r with
      | none =>
        simp only [Option.some.injEq] at h; subst h
        refine ⟨⟨d, hd, kv, hkv, ?_⟩, set_free hp hne⟩
        simp only [get_fill hp hid (by simp), Option.bind_eq_some_iff]
        exact ⟨none, hr, by simp only [set_swap hne]⟩
      | some jv =>
        simp only [Option.some.injEq] at h; subst h
        refine ⟨⟨d, hd, kv, hkv, ?_⟩, set_free hp hne⟩
        simp only [get_fill hp hid (by simp), Option.bind_eq_some_iff]
        exact ⟨some jv, hr, by simp only [set_swap hne]⟩
    · cases h
  · cases h

theorem place_fill (hp : H[p]? = some .free) {nid : Nat} (hn : nid ≠ p) {c : Blk} (h : place H nid c = some H') : place (H.set p b) nid c = some (H'.set p b) ∧ H'[p]? = some .free := by
  have hlt : p < H.length := (List.getElem?_eq_some_iff.1 hp).1
  unfold place at h ⊢
  simp only [List.length_set]
  split at h
  · rename_i e
    rw [if_pos e]
    simp only [Option.some.injEq] at h; subst h
    refine ⟨by rw [List.set_append_left _ _ hlt], by rw [List.getElem?_append_left hlt]; exact hp⟩
  · rename_i e
    rw [if_neg e, set_other hn]
    split at h
    · simp only [Option.some.injEq] at h; subst h
      exact ⟨by rw [set_swap hn], set_free hp hn⟩
    · cases h
theorem placeAll_fill : ∀ {K : Heap} {H H' : Heap} {nid : Nat}, H[p]? = some .free → (∀ i, i < K.length → nid + i ≠ p) → placeAll H nid K = some H' → placeAll (H.set p b) nid K = some (H'.set p b) ∧ H'[p]? = some .free
  | [], H, H', nid, hp, hn, h => by simp only [placeAll, Option.some.injEq] at h ⊢; subst h; exact ⟨rfl, hp⟩
  | c :: K, H, H', nid, hp, hn, h => by
    simp only [placeAll, Option.bind_eq_some_iff] at h ⊢
    obtain ⟨H1, h1, h2⟩ := h
    obtain ⟨q1, q2⟩ := place_fill (b := b) hp (by have := hn 0 (by simp); simpa using this) h1
    obtain ⟨r1, r2⟩ := placeAll_fill q2 (fun i hi => by have := hn (i + 1) (by simp; omega); omega) h2
    exact ⟨⟨_, q1, r1⟩, r2⟩

theorem appendV_fill (hp : H[p]? = some .free) {nid : Nat} (hn : nid ≠ p) {ts : Array TypeId} {s x v : V} (h : appendV P nid H ts s x = some (v, H')) :
    appendV P nid (H.set p b) ts s x = some (v, H'.set p b) ∧ H'[p]? = some .free := by
  unfold appendV at h ⊢
  simp only [Option.bind_eq_some_iff] at h ⊢
  obtain ⟨e, he, z, hz, nr, hnr, h⟩ := h
  split at h
  case isFalse => cases h
  rename_i hc
  have fin : ∀ y, y = some (v, H'.set p b) → (∃ a, appendArgs P ts = some a ∧ ∃ a_1, zeroT P a = some a_1 ∧ ∃ a_2, rowsOfX (H.set p b) x = some a_2 ∧ True) := fun y _ => ⟨e, he, z, hz, nr, rowsOfX_fill hp hnr, trivial⟩
  split at h
  · split at h
    · rename_i h0
      simp only [Option.some.injEq, Prod.mk.injEq] at h
      obtain ⟨rfl, rfl⟩ := h
      exact ⟨⟨e, he, z, hz, nr, rowsOfX_fill hp hnr, by rw [if_pos hc]; simp only [h0, if_true]⟩, hp⟩
    · rename_i h0
      simp only [Option.map_eq_some_iff, Prod.mk.injEq] at h
      obtain ⟨H1, h1, rfl, rfl⟩ := h
      obtain ⟨q1, q2⟩ := place_fill (b := b) hp hn h1
      exact ⟨⟨e, he, z, hz, nr, rowsOfX_fill hp hnr, by rw [if_pos hc]; simp only [if_neg h0, q1, Option.map_some]⟩, q2⟩
  · split at h
    case h_2 => cases h
    rename_i hid
    have hne := ne_free hp hid (by simp)
    split at h
    case isFalse => cases h
    rename_i hd
    split at h
    · rename_i h0
      simp only [Option.some.injEq, Prod.mk.injEq] at h
      obtain ⟨rfl, rfl⟩ := h
      exact ⟨⟨e, he, z, hz, nr, rowsOfX_fill hp hnr, by rw [if_pos hc]; simp only [get_fill hp hid (by simp), if_pos hd, if_pos h0]⟩, hp⟩
    · rename_i h0
      split at h
      · rename_i hl
        simp only [Option.some.injEq, Prod.mk.injEq] at h
        obtain ⟨rfl, rfl⟩ := h
        exact ⟨⟨e, he, z, hz, nr, rowsOfX_fill hp hnr, by rw [if_pos hc]; simp only [get_fill hp hid (by simp), if_pos hd, if_neg h0, if_pos hl, set_swap hne]⟩, set_free hp hne⟩
      · rename_i hl
        split at h
        case isFalse => cases h
        rename_i hv
        simp only [Option.some.injEq, Prod.mk.injEq] at h
        obtain ⟨rfl, rfl⟩ := h
        exact ⟨⟨e, he, z, hz, nr, rowsOfX_fill hp hnr, by rw [if_pos hc]; simp only [get_fill hp hid (by simp), if_pos hd, if_neg h0, if_neg hl, if_pos hv, set_swap hne]⟩, set_free hp hne⟩
  · cases h
end
end Go.Proofs.YtpmdlaojndejfaaGreatDoor.E

/- A free place that is filled changes nothing: code, calls. -/
set_option linter.unusedVariables false
set_option linter.unusedSimpArgs false
namespace Go.Proofs.YtpmdlaojndejfaaGreatDoor.E
open Go

section
variable {P : Program} {E : Env} {H H' : Heap} {p : Nat} {b : Blk}

theorem opE_fill (hp : H[p]? = some .free) {tmps : List V} {nid : Nat} (hn : nid ≠ p) {o : Oper} {v : V} (h : opE E tmps nid H o = some (v, H')) :
    opE E tmps nid (H.set p b) o = some (v, H'.set p b) ∧ H'[p]? = some .free := by
  obtain ⟨dst, op, ty, pos, after, guard⟩ := o
  -- an operation that leaves the memory as it is
  have still : ∀ {x y : Option V}, (∀ z, x = some z → y = some z) → x.map (fun z => (z, H)) = some (v, H') → y.map (fun z => (z, H.set p b)) = some (v, H'.set p b) ∧ H'[p]? = some .free := by
    intro x y hxy h
    simp only [Option.map_eq_some_iff, Prod.mk.injEq] at h
    obtain ⟨z, hz, rfl, rfl⟩ := h
    rw [hxy z hz]; exact ⟨rfl, hp⟩
  have same : ∀ {x : Option V}, x.map (fun z => (z, H)) = some (v, H') → x.map (fun z => (z, H.set p b)) = some (v, H'.set p b) ∧ H'[p]? = some .free := fun h => still (fun _ h => h) h
  have one : ∀ {z : V}, some (z, H) = some (v, H') → some (z, H.set p b) = some (v, H'.set p b) ∧ H'[p]? = some .free := by
    intro z h
    simp only [Option.some.injEq, Prod.mk.injEq] at h
    obtain ⟨rfl, rfl⟩ := h
    exact ⟨rfl, hp⟩
  have plc : ∀ {c : Blk} {z : V}, (place H nid c).map (fun H => (z, H)) = some (v, H') → (place (H.set p b) nid c).map (fun H => (z, H)) = some (v, H'.set p b) ∧ H'[p]? = some .free := by
    intro c z h
    simp only [Option.map_eq_some_iff, Prod.mk.injEq] at h
    obtain ⟨H1, h1, rfl, rfl⟩ := h
    obtain ⟨q1, q2⟩ := place_fill (b := b) hp hn h1
    rw [q1]; exact ⟨rfl, q2⟩
  cases op
  case move x => exact one h
  case assign x => exact one h
  case pick c x y =>
    simp only [opE] at h ⊢
    split at h
    · exact one h
    · cases h
  case alloc t =>
    simp only [opE, Option.bind_eq_some_iff] at h ⊢
    obtain ⟨z, hz, h⟩ := h
    split at h
    · cases h
    rename_i hc
    obtain ⟨q1, q2⟩ := plc h
    exact ⟨⟨z, hz, by rw [if_neg hc]; exact q1⟩, q2⟩
  case box t x =>
    simp only [opE] at h ⊢
    split at h
    · cases h
    rename_i hc
    rw [if_neg hc]; exact plc h
  case build t ps => exact same h
  case buildSlice t n ps =>
    simp only [opE] at h ⊢
    split at h
    case h_2 => cases h
    split at h
    case isFalse => cases h
    rename_i hc
    rw [if_pos hc]
    simp only [Option.bind_eq_some_iff] at h ⊢
    obtain ⟨z, hz, h⟩ := h
    split at h
    · cases h
    rename_i hc2
    simp only [Option.bind_eq_some_iff] at h
    obtain ⟨cs, hcs, h⟩ := h
    obtain ⟨q1, q2⟩ := plc h
    refine ⟨⟨z, hz, ?_⟩, q2⟩
    rw [if_neg hc2]
    simp only [Option.bind_eq_some_iff]
    exact ⟨cs, hcs, q1⟩
  case load t x => exact still (fun z hz => loadT_fill hp hz) h
  case store t x y =>
    simp only [opE, Option.map_eq_some_iff, Prod.mk.injEq] at h
    obtain ⟨H1, h1, rfl, rfl⟩ := h
    obtain ⟨q1, q2⟩ := storeT_fill (b := b) hp h1
    simp only [opE, q1, Option.map_some]
    exact ⟨trivial, q2⟩
  case nilCheck x =>
    simp only [opE] at h ⊢
    split at h
    · exact one h
    · exact one h
    · exact one h
    · cases h
  case fieldAddr s x f => exact same h
  case field s x f => exact same h
  case indexAddr t x i => exact still (fun z hz => indexA_fill hp hz) h
  case extract x i =>
    simp only [opE] at h ⊢
    split at h
    · exact same h
    · cases h
  case makeFunc fn first caps =>
    cases fn with
    | func f =>
      simp only [opE] at h ⊢
      split at h
      · rename_i hc; rw [if_pos hc]; exact one h
      · cases h
    | _ => exact same h
  case makeMap t r =>
    cases r with
    | none => exact plc h
    | some r => exact same h
  case makeSlice t l c =>
    simp only [opE] at h ⊢
    split at h
    case h_2 => cases h
    split at h
    case isFalse => cases h
    rename_i hc
    rw [if_pos hc]
    simp only [Option.bind_eq_some_iff] at h ⊢
    obtain ⟨z, hz, h⟩ := h
    split at h
    · cases h
    rename_i hc2
    obtain ⟨q1, q2⟩ := plc h
    refine ⟨⟨z, hz, ?_⟩, q2⟩
    rw [if_neg hc2]; exact q1
  case lookup t m k ok => exact still (fun z hz => lookupV_fill hp hz) h
  case mapUpdate t m k x =>
    simp only [opE, Option.map_eq_some_iff, Prod.mk.injEq] at h
    obtain ⟨H1, h1, rfl, rfl⟩ := h
    obtain ⟨q1, q2⟩ := mapPut_fill (b := b) hp h1
    simp only [opE, q1, Option.map_some]
    exact ⟨trivial, q2⟩
  case insert t m k x =>
    simp only [opE, Option.map_eq_some_iff, Prod.mk.injEq] at h
    obtain ⟨H1, h1, rfl, rfl⟩ := h
    obtain ⟨q1, q2⟩ := mapPut_fill (b := b) hp h1
    simp only [opE, q1, Option.map_some]
    exact ⟨trivial, q2⟩
  case range t x =>
    simp only [opE] at h ⊢
    split at h
    · exact plc h
    · cases h
  case next x bb =>
    cases bb with
    | false => exact same h
    | true =>
      simp only [opE] at h ⊢
      split at h
      case h_2 => cases h
      split at h
      case h_2 => cases h
      rename_i hid
      simp only [get_fill hp hid (by simp)]
      split at h
      · rename_i hc
        rw [if_pos hc]
        simp only [Option.some.injEq, Prod.mk.injEq] at h
        obtain ⟨rfl, rfl⟩ := h
        exact ⟨by rw [set_swap (ne_free hp hid (by simp))], set_free hp (ne_free hp hid (by simp))⟩
      · rename_i hc
        rw [if_neg hc]; exact one h
  case slice t x lo hi mx =>
    cases mx with
    | some m => exact same h
    | none =>
      simp only [opE] at h ⊢
      split at h
      · exact same h
      · exact still (fun z hz => sliceV_fill hp hz) h
  case binOp op t x y yt =>
    simp only [opE] at h ⊢
    split at h
    · rename_i hc
      rw [if_pos hc]
      split at h
      · exact one h
      · exact one h
      · cases h
    · rename_i hc
      rw [if_neg hc]; exact same h
  case call c =>
    obtain ⟨callee, args, ats⟩ := c
    cases callee with
    | builtin bb =>
      simp only [opE] at h ⊢
      split at h
      · exact appendV_fill hp hn h
      · split at h
        · rename_i hc; rw [if_pos hc]; exact one h
        · cases h
      · split at h
        · rename_i hc; rw [if_pos hc]; exact one h
        · cases h
      · exact still (fun z hz => sliceData_fill hp hz) h
      · exact strData_fill hp h
      · exact same h
    | _ => exact same h
  all_goals (simp only [opE] at h ⊢; exact same h)

theorem freeze_fill (hp : H[p]? = some .free) : ∀ k, (∀ v v', freeze H k v = some v' → freeze (H.set p b) k v = some v') ∧ (∀ v v', freezes H k v = some v' → freezes (H.set p b) k v = some v') ∧
    (∀ v v', freezess H k v = some v' → freezess (H.set p b) k v = some v')
  | 0 => ⟨fun v v' h => by simp [freeze] at h, fun v v' h => by simp [freezes] at h, fun v v' h => by simp [freezess] at h⟩
  | k + 1 => by
    obtain ⟨i1, i2, i3⟩ := freeze_fill hp k
    refine ⟨fun v v' h => ?_, fun v v' h => ?_, fun v v' h => ?_⟩
    · cases v with
      | agg cs => simp only [freeze, Option.map_eq_some_iff] at h ⊢; obtain ⟨x, hx, rfl⟩ := h; exact ⟨x, i2 _ _ hx, rfl⟩
      | tup cs => simp only [freeze, Option.map_eq_some_iff] at h ⊢; obtain ⟨x, hx, rfl⟩ := h; exact ⟨x, i2 _ _ hx, rfl⟩
      | fn f cs => simp only [freeze, Option.map_eq_some_iff] at h ⊢; obtain ⟨x, hx, rfl⟩ := h; exact ⟨x, i2 _ _ hx, rfl⟩
      | own id ver off len =>
        simp only [freeze, Option.bind_eq_some_iff] at h ⊢
        obtain ⟨rs, hrs, h⟩ := h
        refine ⟨rs, rowsOf_fill hp hrs, ?_⟩
        split at h
        · rename_i hc; rw [if_pos hc]; exact h
        · rename_i hc
          rw [if_neg hc]
          simp only [Option.map_eq_some_iff] at h ⊢
          obtain ⟨x, hx, rfl⟩ := h
          exact ⟨x, i3 _ _ hx, rfl⟩
      | ptr id ver r off =>
        simp only [freeze] at h ⊢
        split at h
        case h_2 => cases h
        rename_i hid
        simp only [get_fill hp hid (by simp)]
        split at h
        case isFalse => cases h
        rename_i hc
        rw [if_pos hc]
        simp only [Option.bind_eq_some_iff] at h ⊢
        obtain ⟨cs, hcs, h⟩ := h
        refine ⟨cs, hcs, ?_⟩
        split at h
        · rename_i hc2
          rw [if_pos hc2]
          simp only [Option.map_eq_some_iff] at h ⊢
          obtain ⟨x, hx, rfl⟩ := h
          exact ⟨x, i2 _ _ hx, rfl⟩
        · cases h
      | lit x => simpa [freeze] using h
      | arr x => simpa [freeze] using h
      | row x => simpa [freeze] using h
      | _ => simp [freeze] at h
    · cases v with
      | nil => simpa [freezes] using h
      | cons x xs =>
        simp only [freezes, Option.bind_eq_some_iff, Option.map_eq_some_iff] at h ⊢
        obtain ⟨y, hy, ys, hys, rfl⟩ := h
        exact ⟨y, i1 _ _ hy, ys, i2 _ _ hys, rfl⟩
    · cases v with
      | nil => simpa [freezess] using h
      | cons x xs =>
        simp only [freezess, Option.bind_eq_some_iff, Option.map_eq_some_iff] at h ⊢
        obtain ⟨y, hy, ys, hys, rfl⟩ := h
        exact ⟨y, i2 _ _ hy, ys, i3 _ _ hys, rfl⟩
theorem freezeAll_fill (hp : H[p]? = some .free) : ∀ v v', freezeAll H v = some v' → freezeAll (H.set p b) v = some v'
  | [], v', h => by simpa [freezeAll] using h
  | x :: xs, v', h => by
    simp only [freezeAll, Option.bind_eq_some_iff, Option.map_eq_some_iff] at h ⊢
    obtain ⟨y, hy, ys, hys, rfl⟩ := h
    exact ⟨y, (freeze_fill hp 1000).1 _ _ hy, ys, freezeAll_fill hp _ _ hys, rfl⟩

def FillCall (call : FuncId → List V → Heap → Option (V × Heap)) : Prop :=
  ∀ (f : FuncId) (args : List V) (H : Heap) (v : V) (H' : Heap) (p : Nat) (b : Blk), call f args H = some (v, H') → H[p]? = some .free → call f args (H.set p b) = some (v, H'.set p b) ∧ H'[p]? = some .free
def FillCode (code : Option Nat → Code → St → Option (X × St)) : Prop :=
  ∀ (ro : Option Nat) (c : Code) (s : St) (x : X) (s' : St) (p : Nat) (b : Blk), code ro c s = some (x, s') → s.H[p]? = some .free →
    code ro c ⟨s.tmps, s.H.set p b, s.ds⟩ = some (x, ⟨s'.tmps, s'.H.set p b, s'.ds⟩) ∧ s'.H[p]? = some .free
def PrimFill (E : Env) : Prop :=
  ∀ (f : FuncId) (q : List V → Heap → Option (V × Heap)), E.prim f = some q → FillCall (fun _ args H => q args H)

theorem callE_fill {self : Self} (hc : FillCall self.call) (hq : PrimFill E) (hp : H[p]? = some .free) {f : FuncId} {args : List V} {nid : Nat} (hn : nid ≠ p) (hn2 : nid + 1 ≠ p) {v : V}
    (h : callE E self f args nid H = some (v, H')) : callE E self f args nid (H.set p b) = some (v, H'.set p b) ∧ H'[p]? = some .free := by
  unfold callE at h ⊢
  split at h
  · cases h
  rename_i hg
  rw [if_neg hg]
  split at h
  · rename_i q hqe
    split at h
    · cases h
    rename_i hb
    rw [if_neg hb]
    exact hq f q hqe f args H v H' p b h hp
  · rename_i hqe
    split at h
    · rename_i hb
      rw [if_pos hb]
      simp only [Option.bind_eq_some_iff] at h ⊢
      obtain ⟨xs, hxs, h⟩ := h
      split at h
      · rename_i hy
        simp only [Option.some.injEq, Prod.mk.injEq] at h
        obtain ⟨rfl, rfl⟩ := h
        exact ⟨⟨xs, hxs, by rw [hy]⟩, hp⟩
      · cases h
    rename_i hb
    rw [if_neg hb]
    split at h
    · rename_i hh
      rw [if_pos hh]
      exact hc f args H v H' p b h hp
    rename_i hh
    rw [if_neg hh]
    simp only [Option.bind_eq_some_iff] at h ⊢
    obtain ⟨args', ha, r, hr, h⟩ := h
    have ha2 : (if args.all noOwn then some args else freezeAll (H.set p b) args) = some args' := by
      split at ha
      · rename_i hno; rw [if_pos hno]; exact ha
      · rename_i hno; rw [if_neg hno]; exact freezeAll_fill hp _ _ ha
    split at h
    · rename_i hs
      simp only [Option.map_eq_some_iff, Prod.mk.injEq] at h
      obtain ⟨H1, h1, rfl, rfl⟩ := h
      have h2 : r.2.length ≤ 2 := by rw [Bool.and_eq_true] at hs; simpa using hs.2
      obtain ⟨q1, q2⟩ := placeAll_fill (b := b) hp (fun i hi => by
        have : i = 0 ∨ i = 1 := by omega
        rcases this with rfl | rfl
        · simpa using hn
        · exact hn2) h1
      refine ⟨⟨args', ha2, r, hr, ?_⟩, q2⟩
      rw [if_pos hs, q1]; rfl
    · cases h

theorem loopAt_fill (hp : H[p]? = some .free) {l : Nat} {o r : Bool} {pd : Option Code} (h : loopAt H l o r pd = some H') : loopAt (H.set p b) l o r pd = some (H'.set p b) ∧ H'[p]? = some .free := by
  unfold loopAt at h ⊢
  split at h
  case h_2 => cases h
  rename_i hid
  simp only [get_fill hp hid (by simp)]
  split at h
  case isFalse => cases h
  rename_i hc
  rw [if_pos hc]
  simp only [Option.some.injEq] at h; subst h
  exact ⟨by rw [set_swap (ne_free hp hid (by simp))], set_free hp (ne_free hp hid (by simp))⟩

theorem yieldE_fill {self : Self} (hc : FillCode self.code) (hp : H[p]? = some .free) {l : Nat} {args : List V} {v : V} (h : yieldE self l args H = some (v, H')) :
    yieldE self l args (H.set p b) = some (v, H'.set p b) ∧ H'[p]? = some .free := by
  unfold yieldE at h ⊢
  split at h
  case h_2 => cases h
  rename_i hid
  simp only [get_fill hp hid (by simp)]
  split at h
  case isFalse => cases h
  rename_i hl
  rw [if_pos hl]
  simp only [Option.bind_eq_some_iff] at h ⊢
  obtain ⟨⟨x1, s1⟩, h1, h⟩ := h
  obtain ⟨a1, a2⟩ := hc _ _ _ _ _ p b h1 hp
  cases x1 with
  | exit id => cases h
  | ret => cases h
  | pan y => cases h
  | normal =>
    simp only at h
    split at h
    · cases h
    rename_i hds
    simp only [Option.bind_eq_some_iff] at h
    obtain ⟨H1, hH1, ⟨x2, s2⟩, h2, h⟩ := h
    obtain ⟨b1, b2⟩ := loopAt_fill (b := b) a2 hH1
    obtain ⟨c1, c2⟩ := hc _ _ _ _ _ p b h2 b2
    have fin : ∀ (r : Bool) (pd : Option Code) (y : V), (loopAt s2.H l false r pd).map (fun H => (y, H)) = some (v, H') → (loopAt (s2.H.set p b) l false r pd).map (fun H => (y, H)) = some (v, H'.set p b) ∧ H'[p]? = some .free := by
      intro r pd y h
      simp only [Option.map_eq_some_iff, Prod.mk.injEq] at h
      obtain ⟨H3, h3, rfl, rfl⟩ := h
      obtain ⟨d1, d2⟩ := loopAt_fill (b := b) c2 h3
      rw [d1]; exact ⟨rfl, d2⟩
    cases x2 with
    | normal => obtain ⟨d1, d2⟩ := fin _ _ _ h; exact ⟨⟨_, a1, by simp only [if_neg hds, Option.bind_eq_some_iff]; exact ⟨_, b1, _, c1, d1⟩⟩, d2⟩
    | ret => obtain ⟨d1, d2⟩ := fin _ _ _ h; exact ⟨⟨_, a1, by simp only [if_neg hds, Option.bind_eq_some_iff]; exact ⟨_, b1, _, c1, d1⟩⟩, d2⟩
    | exit id => obtain ⟨d1, d2⟩ := fin _ _ _ h; exact ⟨⟨_, a1, by simp only [if_neg hds, Option.bind_eq_some_iff]; exact ⟨_, b1, _, c1, d1⟩⟩, d2⟩
    | pan y => cases h

theorem stepE_fill {self : Self} (hcall : FillCall self.call) (hcode : FillCode self.code) (hq : PrimFill E) (hp : H[p]? = some .free) {tmps : List V} {nid : Nat} (hn : nid ≠ p) (hn2 : nid + 1 ≠ p) {o : Oper} {v : V}
    (h : stepE E self tmps nid H o = some (v, H')) : stepE E self tmps nid (H.set p b) o = some (v, H'.set p b) ∧ H'[p]? = some .free := by
  obtain ⟨dst, op, ty, pos, after, guard⟩ := o
  by_cases hc : ∃ g args ats, op = .call { callee := .value g, args := args, argTypes := ats }
  · obtain ⟨g, args, ats, rfl⟩ := hc
    simp only [stepE] at h ⊢
    split at h
    · exact callE_fill hcall hq hp hn hn2 h
    · exact yieldE_fill hcode hp h
    · cases h
  · have e : ∀ H, stepE E self tmps nid H { dst := dst, op := op, type := ty, pos := pos, after := after, guard := guard } = opE E tmps nid H { dst := dst, op := op, type := ty, pos := pos, after := after, guard := guard } := by
      intro H
      cases op with
      | call c =>
        obtain ⟨callee, args, ats⟩ := c
        cases callee with
        | value g => exact absurd ⟨_, _, _, rfl⟩ hc
        | _ => rfl
      | _ => rfl
    rw [e] at h ⊢
    exact opE_fill hp hn h
end
end Go.Proofs.YtpmdlaojndejfaaGreatDoor.E

/- A free place that is filled changes nothing: regions that draw, code, functions. -/
set_option linter.unusedVariables false
set_option linter.unusedSimpArgs false
namespace Go.Proofs.YtpmdlaojndejfaaGreatDoor.E
open Go

theorem maskH_len : ∀ (ps : List Nat) (H : Heap), (maskH H ps).length = H.length
  | [], H => rfl
  | p :: ps, H => by simp [maskH, maskH_len ps]
theorem maskH_get : ∀ (ps : List Nat) (H : Heap) (i : Nat), (maskH H ps)[i]? = if i ∈ ps ∧ i < H.length then some .free else H[i]?
  | [], H, i => by simp [maskH]
  | p :: ps, H, i => by
    simp only [maskH]
    rw [maskH_get ps]
    by_cases h1 : i ∈ ps ∧ i < H.length
    · rw [if_pos (by simpa using h1), if_pos ⟨List.mem_cons_of_mem _ h1.1, h1.2⟩]
    · rw [if_neg (by simpa using h1)]
      by_cases h2 : i = p
      · subst h2
        by_cases h3 : i < H.length
        · rw [if_pos ⟨by simp, h3⟩]; simp [h3]
        · rw [if_neg (by intro h; exact h3 h.2), List.getElem?_eq_none (by simp; omega), List.getElem?_eq_none (Nat.le_of_not_lt h3)]
      · rw [if_neg (by rintro ⟨h, h'⟩; rcases List.mem_cons.1 h with h | h; exact h2 h; exact h1 ⟨h, h'⟩), List.getElem?_set_ne (Ne.symm h2)]
theorem unmaskH_len : ∀ (ps : List Nat) (H H' : Heap), (unmaskH H H' ps).length = H'.length
  | [], H, H' => rfl
  | p :: ps, H, H' => by
    simp only [unmaskH]
    split
    · simp [unmaskH_len ps]
    · exact unmaskH_len ps H H'
theorem unmaskH_get : ∀ (ps : List Nat) (H H' : Heap) (i : Nat), (unmaskH H H' ps)[i]? = if i ∈ ps ∧ i < H'.length ∧ i < H.length then H[i]? else H'[i]?
  | [], H, H', i => by simp [unmaskH]
  | p :: ps, H, H', i => by
    simp only [unmaskH]
    split
    · rename_i b hb
      have hp : p < H.length := (List.getElem?_eq_some_iff.1 hb).1
      by_cases h2 : i = p
      · subst h2
        by_cases h3 : i < H'.length
        · rw [if_pos ⟨by simp, h3, hp⟩, List.getElem?_set_self (by rw [unmaskH_len]; exact h3), hb]
        · rw [if_neg (by intro h; exact h3 h.2.1), List.getElem?_eq_none (by simp [unmaskH_len]; omega), List.getElem?_eq_none (Nat.le_of_not_lt h3)]
      · rw [List.getElem?_set_ne (Ne.symm h2), unmaskH_get ps]
        by_cases h1 : i ∈ ps ∧ i < H'.length ∧ i < H.length
        · rw [if_pos h1, if_pos ⟨List.mem_cons_of_mem _ h1.1, h1.2⟩]
        · rw [if_neg h1, if_neg (by rintro ⟨h, h'⟩; rcases List.mem_cons.1 h with h | h; exact h2 h; exact h1 ⟨h, h'⟩)]
    · rename_i hb
      have hp : H.length ≤ p := by
        rcases Nat.lt_or_ge p H.length with h | h
        · simp [h] at hb
        · exact h
      rw [unmaskH_get ps]
      by_cases h1 : i ∈ ps ∧ i < H'.length ∧ i < H.length
      · rw [if_pos h1, if_pos ⟨List.mem_cons_of_mem _ h1.1, h1.2⟩]
      · rw [if_neg h1, if_neg (by rintro ⟨h, h'⟩; rcases List.mem_cons.1 h with h | h; omega; exact h1 ⟨h, h'⟩)]

section
variable {E : Env} {H H' : Heap} {p : Nat} {b : Blk}

/-- What was reckoned on a view holds on the whole. -/
theorem unmask_step {self : Self} (hcall : FillCall self.call) (hcode : FillCode self.code) (hq : PrimFill E) {tmps : List V} {nid : Nat} {o : Oper} {v : V} :
    ∀ (ps : List Nat) (H Hv : Heap), nid ∉ ps → nid + 1 ∉ ps → stepE E self tmps nid (maskH H ps) o = some (v, Hv) → stepE E self tmps nid H o = some (v, unmaskH H Hv ps)
  | [], H, Hv, _, _, h => h
  | p :: ps, H, Hv, h1, h2, h => by
    simp only [maskH] at h
    have ih := unmask_step hcall hcode hq ps (H.set p .free) Hv (fun h => h1 (List.mem_cons_of_mem _ h)) (fun h => h2 (List.mem_cons_of_mem _ h)) h
    rcases Nat.lt_or_ge p H.length with hlt | hge
    · have hf : (H.set p .free)[p]? = some .free := by simp [hlt]
      obtain ⟨q1, q2⟩ := stepE_fill (b := H[p]) hcall hcode hq hf (fun e => h1 (by simp [e])) (fun e => h2 (by simp [e])) ih
      have e1 : (H.set p .free).set p H[p] = H := by simp
      rw [e1] at q1
      rw [q1]
      congr 2
      have e2 : H[p]? = some H[p] := by simp [hlt]
      simp only [unmaskH, e2]
      apply List.ext_getElem?
      intro i
      by_cases hi : i = p
      · subst hi
        have hl : i < Hv.length := by
          have := (List.getElem?_eq_some_iff.1 q2).1
          rw [unmaskH_len] at this; exact this
        rw [List.getElem?_set_self (by rw [unmaskH_len]; exact hl), List.getElem?_set_self (by rw [unmaskH_len]; exact hl)]
      · rw [List.getElem?_set_ne (Ne.symm hi), List.getElem?_set_ne (Ne.symm hi), unmaskH_get, unmaskH_get]
        simp [List.getElem?_set_ne (Ne.symm hi)]
    · have e1 : H.set p .free = H := by rw [List.set_eq_of_length_le hge]
      rw [e1] at ih
      rw [ih]
      have e2 : H[p]? = none := List.getElem?_eq_none hge
      simp only [unmaskH, e2]
end
end Go.Proofs.YtpmdlaojndejfaaGreatDoor.E

/- Regions that draw: if what stands unordered may be exchanged, the order of the text serves every order. -/
set_option linter.unusedVariables false
set_option linter.unusedSimpArgs false
namespace Go.Proofs.YtpmdlaojndejfaaGreatDoor.E
open Go

theorem ancM_bit (acc : List Nat) (l : List Nat) (i : Nat) (h : (ancM acc l).testBit i = true) : ∃ e ∈ l, e = i ∨ (acc.getD e 0).testBit i = true := by
  have key : ∀ (l : List Nat) (s : Nat), (l.foldl (fun s e => s ||| 2 ^ e ||| acc.getD e 0) s).testBit i = true → s.testBit i = true ∨ ∃ e ∈ l, e = i ∨ (acc.getD e 0).testBit i = true := by
    intro l
    induction l with
    | nil => intro s h; exact .inl h
    | cons x l ih =>
      intro s h
      simp only [List.foldl_cons] at h
      rcases ih _ h with h | ⟨e, he, h⟩
      · rw [Nat.testBit_or, Nat.testBit_or, Bool.or_eq_true, Bool.or_eq_true] at h
        rcases h with (h | h) | h
        · exact .inl h
        · exact .inr ⟨x, by simp, .inl (by rw [Nat.testBit_two_pow] at h; simpa using h)⟩
        · exact .inr ⟨x, by simp, .inr h⟩
      · exact .inr ⟨e, by simp [he], h⟩
  rcases key l 0 h with h | h
  · simp at h
  · exact h

theorem ancL_pre : ∀ (os : List Oper) (acc : List Nat), ∃ r, ancL acc os = acc ++ r ∧ r.length = os.length
  | [], acc => ⟨[], by simp [ancL], rfl⟩
  | o :: os, acc => by
    obtain ⟨r, h1, h2⟩ := ancL_pre os (acc ++ [ancM acc (dirs o)])
    exact ⟨ancM acc (dirs o) :: r, by simp [ancL, h1], by simp [h2]⟩
theorem ancL_get : ∀ (os : List Oper) (acc : List Nat) (k : Nat) (o : Oper), os[k]? = some o →
    (ancL acc os)[acc.length + k]? = some (ancM ((ancL acc os).take (acc.length + k)) (dirs o))
  | [], acc, k, o, h => by simp at h
  | o' :: os, acc, k, o, h => by
    cases k with
    | zero =>
      simp at h; subst h
      obtain ⟨r, h1, h2⟩ := ancL_pre os (acc ++ [ancM acc (dirs o')])
      simp only [ancL, h1, Nat.add_zero]
      rw [List.getElem?_append_left (by simp)]
      simp
    | succ k =>
      have := ancL_get os (acc ++ [ancM acc (dirs o')]) k o (by simpa using h)
      simp only [ancL]
      have e : (acc ++ [ancM acc (dirs o')]).length + k = acc.length + (k + 1) := by simp; omega
      rw [e] at this; exact this

/-- Whoever waits, waits by an edge, or by one who waits. -/
theorem waits_edge {ops : List Oper} {j i : Nat} (h : waits ops j i = true) : ∃ o, ops[j]? = some o ∧ ∃ e ∈ dirs o, e = i ∨ waits ops e i = true := by
  unfold waits ancS at h
  have hj : j < (ancL [] ops).length := by
    rcases Nat.lt_or_ge j (ancL [] ops).length with h' | h'
    · exact h'
    · rw [List.getD, List.getElem?_eq_none h'] at h; simp at h
  obtain ⟨r, h1, h2⟩ := ancL_pre ops []
  have hj' : j < ops.length := by rw [h1] at hj; simpa [h2] using hj
  have ho : ops[j]? = some ops[j] := by simp [hj']
  have hg := ancL_get ops [] j _ ho
  simp only [List.length_nil, Nat.zero_add] at hg
  rw [List.getD, hg] at h
  obtain ⟨e, he, h⟩ := ancM_bit _ _ _ h
  refine ⟨_, ho, e, he, h.imp id fun h => ?_⟩
  unfold waits ancS
  rw [List.getD, List.getElem?_take] at h
  split at h
  · exact h
  · simp at h

section
variable {step : Nat → St → Option St} {ops : Array Oper} {sN : St}

def runN (step : Nat → St → Option St) : List Nat → St → Option St
  | [], s => some s
  | i :: is, s => (step i s).bind fun s' => runN step is s'

def anyD (step : Nat → St → Option St) (ops : Array Oper) (sN : St) : Nat → Array Bool → St → Prop
  | 0, listed, s => Region.ready .any ops listed = [] ∧ s = sN
  | k + 1, listed, s => (Region.ready .any ops listed = [] → s = sN) ∧ ∀ i ∈ Region.ready .any ops listed, ∃ s', step i s = some s' ∧ anyD step ops sN k (listed.setIfInBounds i true) s'

def ClosedD (ops : Array Oper) (listed : Array Bool) : Prop := ∀ j, listed.getD j false = true → ∀ i, waits ops.toList j i = true → listed.getD i false = true

theorem ready_waits {listed : Array Bool} (hc : ClosedD ops listed) {j : Nat} (hj : j ∈ Region.ready .any ops listed) {i : Nat} (hw : waits ops.toList j i = true) : listed.getD i false = true := by
  obtain ⟨_, o, ho, hall⟩ := mem_ready.1 hj
  obtain ⟨o', ho', e, he, h⟩ := waits_edge hw
  have : ops.toList[j]? = some o := by simpa using ho
  rw [this] at ho'; cases ho'
  simp only [dirs, List.mem_map, List.mem_filter] at he
  obtain ⟨ed, ⟨h1, h2⟩, rfl⟩ := he
  have hl := hall ed (Array.mem_toList_iff.1 h1) h2
  rcases h with rfl | h
  · exact hl
  · exact hc _ hl _ h

theorem ClosedD.set {listed : Array Bool} (hc : ClosedD ops listed) {j : Nat} (hj : j ∈ Region.ready .any ops listed) : ClosedD ops (listed.setIfInBounds j true) := by
  intro m hm i hw
  by_cases e : m = j
  · subst e
    have := ready_waits hc hj hw
    exact getD_set_true this
  · rw [getD_set_ne false (Ne.symm e)] at hm
    exact getD_set_true (hc m hm i hw)

def CommD (step : Nat → St → Option St) (i j : Nat) : Prop :=
  ∀ s s1 s2, step i s = some s1 → step j s1 = some s2 → ∃ s1', step j s = some s1' ∧ step i s1' = some s2

theorem anyD_first {i : Nat} (hcomm : ∀ j, i < j → j < ops.size → waits ops.toList j i = false → CommD step i j) : ∀ (k : Nat) (listed : Array Bool) (s s1 : St), ClosedD ops listed → (∀ m, m < i → listed.getD m true = true) →
    listed.size = ops.size → i ∈ Region.ready .any ops listed → step i s = some s1 → anyD step ops sN k (listed.setIfInBounds i true) s1 → anyD step ops sN (k + 1) listed s := by
  intro k
  induction k with
  | zero =>
    intro listed s s1 hc hl hsz hr h1 H
    unfold anyD
    refine ⟨fun h => (by rw [h] at hr; cases hr), fun j hj => ?_⟩
    by_cases hji : j = i
    · subst hji; exact ⟨s1, h1, H⟩
    · have := ready_mono hj hji
      unfold anyD at H
      rw [H.1] at this; cases this
  | succ k ih =>
    intro listed s s1 hc hl hsz hr h1 H
    unfold anyD
    refine ⟨fun h => (by rw [h] at hr; cases hr), fun j hj => ?_⟩
    by_cases hji : j = i
    · subst hji; exact ⟨s1, h1, H⟩
    · have H0 := H
      unfold anyD at H0
      obtain ⟨s2, h2, H2⟩ := H0.2 j (ready_mono hj hji)
      have hun := (mem_ready.1 hj).1
      have hjl : j < ops.size := by
        rw [← hsz]
        rcases Nat.lt_or_ge j listed.size with h | h
        · exact h
        · simp [Array.getElem?_eq_none h] at hun
      have hij : i < j := by
        rcases Nat.lt_or_ge i j with h | h
        · exact h
        · have : j < i := by omega
          rw [hl j this] at hun; cases hun
      have hnw : waits ops.toList j i = false := by
        cases hw : waits ops.toList j i with
        | false => rfl
        | true =>
          have h3 := ready_waits hc hj hw
          have h4 := (mem_ready.1 hr).1
          rcases Nat.lt_or_ge i listed.size with h | h
          · simp [h] at h3 h4; rw [h3] at h4; cases h4
          · simp [Array.getElem?_eq_none h] at h4
      obtain ⟨s1', h3, h4⟩ := hcomm j hij hjl hnw s s1 s2 h1 h2
      refine ⟨s1', h3, ih (listed.setIfInBounds j true) s1' s2 (hc.set hj) (fun m hm => ?_) (by simpa using hsz) (ready_mono hr (Ne.symm hji)) h4 ?_⟩
      · have := hl m hm
        by_cases e : j = m
        · subst e; simp [hsz ▸ hjl]
        · rw [getD_set_ne true e]; exact this
      · rw [Array.setIfInBounds_comm _ _ hji]; exact H2

theorem anyD_lex (hdir : ∀ (j : Nat) (o : Oper), ops[j]? = some o → ∀ e ∈ dirs o, e < j)
    (hcomm : ∀ i j, i < j → j < ops.size → waits ops.toList j i = false → CommD step i j) : ∀ (n k : Nat) (listed : Array Bool) (s : St), k + n = ops.size → listed.size = ops.size →
    (∀ m, listed.getD m true = false ↔ k ≤ m ∧ m < ops.size) → runN step (List.range' k n) s = some sN → anyD step ops sN n listed s
  | 0, k, listed, s, hk, hsz, hl, h => by
    simp [runN] at h; subst h
    unfold anyD
    refine ⟨?_, rfl⟩
    apply List.eq_nil_iff_forall_not_mem.2
    intro m hm
    have := (mem_ready.1 hm).1
    have := (hl m).1 this; omega
  | n + 1, k, listed, s, hk, hsz, hl, h => by
    simp only [List.range'_succ, runN, Option.bind_eq_some_iff] at h
    obtain ⟨s1, h1, h2⟩ := h
    have hlt : k < ops.size := by omega
    have listedT : ∀ m, m < k → listed.getD m false = true := by
      intro m hm
      have : ¬ (listed.getD m true = false) := by rw [hl m]; omega
      have hms : m < listed.size := by omega
      simp [hms] at this ⊢; exact this
    have hr : k ∈ Region.ready .any ops listed := by
      rw [mem_ready]
      refine ⟨(hl k).2 ⟨Nat.le_refl _, hlt⟩, ops[k], by simp [hlt], fun e he hb => listedT _ ?_⟩
      refine hdir k ops[k] (by simp [hlt]) e.on ?_
      simp only [dirs, List.mem_map, List.mem_filter]
      exact ⟨e, ⟨Array.mem_toList_iff.2 he, hb⟩, rfl⟩
    have hcl : ClosedD ops listed := by
      intro j hj i hw
      have hjk : j < k := by
        rcases Nat.lt_or_ge j k with h | h
        · exact h
        · have hjs : j < listed.size := by
            rcases Nat.lt_or_ge j listed.size with h' | h'
            · exact h'
            · simp [Array.getElem?_eq_none h'] at hj
          have := (hl j).2 ⟨h, by omega⟩
          simp [hjs] at this hj; rw [hj] at this; cases this
      -- whoever waits stands behind
      have key : ∀ j, ∀ i, waits ops.toList j i = true → i < j := by
        intro j
        induction j using Nat.strongRecOn with
        | _ j ih =>
          intro i hw
          obtain ⟨o, ho, e, he, h⟩ := waits_edge hw
          have hej := hdir j o (by simpa using ho) e he
          rcases h with rfl | h
          · exact hej
          · have := ih e hej i h; omega
      exact listedT i (by have := key j i hw; omega)
    have ih := anyD_lex hdir hcomm n (k + 1) (listed.setIfInBounds k true) s1 (by omega) (by simpa using hsz) (fun m => ?_) h2
    · refine anyD_first (fun j hij hjl hnw => hcomm k j hij hjl hnw) n listed s s1 hcl (fun m hm => ?_) hsz hr h1 ih
      have hms : m < listed.size := by omega
      have := listedT m hm
      simp [hms] at this ⊢; exact this
    · by_cases e : k = m
      · subst e
        constructor
        · intro h; simp [hsz ▸ hlt] at h
        · intro ⟨h, _⟩; omega
      · rw [getD_set_ne true e, hl m]; omega
end
end Go.Proofs.YtpmdlaojndejfaaGreatDoor.E

/- Regions that draw: what an operation leans on, what it writes. -/
set_option linter.unusedVariables false
set_option linter.unusedSimpArgs false
namespace Go.Proofs.YtpmdlaojndejfaaGreatDoor.E
open Go

section
variable {E : Env} {self : Self} {H H' : Heap} {tmps tmps' : List V} {o : Oper} {nid : Nat} {v : V}

theorem evalO_put {x : Operand} {dst : Option Tmp} (h : ∀ d, dst = some d → x ≠ .tmp d) : evalO (put tmps dst v) x = evalO tmps x := by
  cases dst with
  | none => rfl
  | some d =>
    cases x with
    | tmp t =>
      have hne : d ≠ t := fun e => h d rfl (e ▸ rfl)
      simp [evalO, put, List.getD, List.getElem?_set_ne hne]
    | _ => rfl
theorem put_comm {x y : Option Tmp} (v u : V) (h : ∀ d, x = some d → y ≠ some d) : put (put tmps x v) y u = put (put tmps y u) x v := by
  cases x with
  | none => rfl
  | some d =>
    cases y with
    | none => rfl
    | some e =>
      have hne : d ≠ e := fun he => h d rfl (he ▸ rfl)
      simp only [put]
      exact List.set_comm _ _ hne
theorem wantedV_put {ops : Array Oper} (dst : Option Tmp) (v : V) (h : ∀ d, dst = some d → d ∉ o.looksAt ops) :
    Region.wanted o (yieldedV ops (put tmps dst v)) = Region.wanted o (yieldedV ops tmps) := by
  cases dst with
  | none => rfl
  | some d =>
    unfold Region.wanted
    cases hg : o.guard with
    | none => rfl
    | some gw =>
      obtain ⟨g, want⟩ := gw
      have hy : yieldedV ops (put tmps (some d) v) g = yieldedV ops tmps g := by
        unfold yieldedV
        cases ht : (ops[g]?).bind (·.dst) with
        | none => rfl
        | some t =>
          have hne : d ≠ t := fun e => h d rfl (by subst e; simp [Oper.looksAt, hg, ht])
          simp [put, List.getElem?_set_ne hne]
      simp only [hy]

theorem all_congr' {α : Type} {f g : α → Bool} : ∀ {l : List α}, (∀ x ∈ l, f x = g x) → l.all f = l.all g
  | [], _ => rfl
  | x :: l, h => by simp only [List.all_cons]; rw [h x (by simp), all_congr' fun y hy => h y (List.mem_cons_of_mem _ hy)]

theorem toOps_congr {P : Program} (h : ∀ x ∈ o.op.operands, evalO tmps x = evalO tmps' x) : toOps P tmps o = toOps P tmps' o := by
  unfold toOps
  have h1 : o.op.operands.toList.all (fun x => (toValue? (evalO tmps x)).isSome) = o.op.operands.toList.all (fun x => (toValue? (evalO tmps' x)).isSome) :=
    all_congr' fun x hx => by rw [h x (by simpa using hx)]
  rw [h1]
  cases hn : noSel o.op with
  | false => simp
  | true =>
    rw [execOp_congr (ρ := fun x => (toValue? (evalO tmps x)).getD undef) (ρ' := fun x => (toValue? (evalO tmps' x)).getD undef) o (fun cs b e => by rw [e] at hn; simp [noSel] at hn) (fun x hx => by simp only [h x hx])]

theorem map_congr' {α β : Type} {f g : α → β} {l : List α} (h : ∀ x ∈ l, f x = g x) : l.map f = l.map g := List.map_congr_left h

theorem opE_congr (h : ∀ x ∈ o.op.operands, evalO tmps x = evalO tmps' x) : opE E tmps nid H o = opE E tmps' nid H o := by
  have ht : ∀ P, toOps P tmps o = toOps P tmps' o := fun P => toOps_congr h
  obtain ⟨dst, op, type, pos, after, guard⟩ := o
  have pairs : ∀ ps : Array (Nat × Operand), (∀ x ∈ ps.map (·.2), evalO tmps x = evalO tmps' x) → (ps.toList.map fun (i, x) => (i, evalO tmps x)) = (ps.toList.map fun (i, x) => (i, evalO tmps' x)) := fun ps hp =>
    List.map_congr_left fun p hm => by
      obtain ⟨i, x⟩ := p
      simp only [hp x (Array.mem_map.2 ⟨(i, x), Array.mem_toList_iff.1 hm, rfl⟩)]
  have lst : ∀ l : Array Operand, (∀ x ∈ l, evalO tmps x = evalO tmps' x) → l.toList.map (evalO tmps) = l.toList.map (evalO tmps') := fun l hl => List.map_congr_left fun x hx => hl x (by simpa using hx)
  cases op <;> simp only [Op.operands] at h
  case build t ps => simp only [opE]; rw [pairs ps fun x hx => h x (by simpa using hx)]
  case buildSlice t n ps => simp only [opE]; rw [pairs ps fun x hx => h x (by simpa using hx)]
  case makeFunc fn first captured =>
    cases fn <;> simp only [opE, ht]
    rw [lst captured fun x hx => h x (by simp [hx])]
  case call c =>
    have ha := lst c.args fun x hx => h x (by simp [Call.operands, hx])
    obtain ⟨callee, args, ats⟩ := c
    cases callee <;> simp only [opE, ht]
    simp only at ha
    rw [ha]
  case slice t x lo hi mx =>
    have h1 : evalO tmps x = evalO tmps' x := h x (by simp)
    cases mx with
    | some m => simp only [opE, ht]
    | none =>
      have h2 : lo.map (evalO tmps) = lo.map (evalO tmps') := by cases lo with | none => rfl | some l => simp only [Option.map_some]; rw [h l (by simp)]
      have h3 : hi.map (evalO tmps) = hi.map (evalO tmps') := by cases hi with | none => rfl | some l => simp only [Option.map_some]; rw [h l (by simp)]
      simp only [opE, ht, h1, h2, h3]
  case makeMap t r => cases r <;> simp only [opE, ht]
  case next x b => cases b <;> simp only [opE, ht, h x (by simp)]
  all_goals simp only [opE, ht]
  all_goals (first | rfl | (simp_all; done))

theorem stepE_congr (h : ∀ x ∈ o.op.operands, evalO tmps x = evalO tmps' x) : stepE E self tmps nid H o = stepE E self tmps' nid H o := by
  have h0 := opE_congr (E := E) (nid := nid) (H := H) h
  obtain ⟨dst, op, type, pos, after, guard⟩ := o
  cases op <;> first | exact h0 | skip
  rename_i c
  obtain ⟨callee, args, ats⟩ := c
  cases callee <;> first | exact h0 | skip
  rename_i g
  simp only [Op.operands, Call.operands] at h
  have ha : args.toList.map (evalO tmps) = args.toList.map (evalO tmps') := List.map_congr_left fun x hx => h x (by simp at hx; simp [hx])
  simp only [stepE, h g (by simp), ha]

/-- What an operation computes is bound to no memory. -/
theorem pure_op {chk : Bool} (hk : kindD E chk o = .pure) (h : stepE E self tmps nid H o = some (v, H')) : H' = H ∧ ∀ nid2 H2, stepE E self tmps nid2 H2 o = some (v, H2) := by
  obtain ⟨dst, op, type, pos, after, guard⟩ := o
  have mp : ∀ {x : Option V}, x.map (fun z => (z, H)) = some (v, H') → H' = H ∧ ∀ H2 : Heap, x.map (fun z => (z, H2)) = some (v, H2) := by
    intro x h
    simp only [Option.map_eq_some_iff, Prod.mk.injEq] at h
    obtain ⟨z, rfl, rfl, rfl⟩ := h
    exact ⟨rfl, fun H2 => rfl⟩
  have one : ∀ {z : V}, some (z, H) = some (v, H') → H' = H ∧ ∀ H2 : Heap, some (z, H2) = some (v, H2) := by
    intro z h
    simp only [Option.some.injEq, Prod.mk.injEq] at h
    obtain ⟨rfl, rfl⟩ := h
    exact ⟨rfl, fun H2 => rfl⟩
  cases op
  case move x => exact ⟨(one h).1, fun _ H2 => (one h).2 H2⟩
  case assign x => exact ⟨(one h).1, fun _ H2 => (one h).2 H2⟩
  case binOp op t x y yt =>
    simp only [stepE, opE] at h ⊢
    split at h
    · rename_i hc
      simp only [if_pos hc]
      split at h
      · exact ⟨(one h).1, fun _ H2 => (one h).2 H2⟩
      · exact ⟨(one h).1, fun _ H2 => (one h).2 H2⟩
      · cases h
    · rename_i hc
      simp only [if_neg hc]
      exact ⟨(mp h).1, fun _ H2 => (mp h).2 H2⟩
  case makeFunc fn first caps =>
    cases fn with
    | func f =>
      simp only [stepE, opE] at h ⊢
      split at h
      · rename_i hc
        simp only [if_pos hc]
        exact ⟨(one h).1, fun _ H2 => (one h).2 H2⟩
      · cases h
    | _ => exact ⟨(mp h).1, fun _ H2 => (mp h).2 H2⟩
  case call c =>
    obtain ⟨callee, args, ats⟩ := c
    cases callee with
    | value g =>
      exfalso
      cases g <;> simp [kindD] at hk
      split at hk <;> cases hk
    | invoke r m => exfalso; simp [kindD] at hk
    | builtin bb =>
      cases bb <;> first | (exfalso; simp [kindD] at hk; done) | (exfalso; cases chk <;> simp [kindD] at hk; done) | skip
      all_goals
        simp only [stepE, opE] at h ⊢
        first
        | exact ⟨(mp h).1, fun _ H2 => (mp h).2 H2⟩
        | skip
      split at h
      · rename_i heq _; cases heq
      · split at h
        · rename_i hc; simp only [if_pos hc]; exact ⟨(one h).1, fun _ H2 => (one h).2 H2⟩
        · cases h
      · split at h
        · rename_i hc; simp only [if_pos hc]; exact ⟨(one h).1, fun _ H2 => (one h).2 H2⟩
        · cases h
      · rename_i heq _; cases heq
      · rename_i heq _; cases heq
      · exact ⟨(mp h).1, fun _ H2 => (mp h).2 H2⟩
  case pick c x y =>
    simp only [stepE, opE] at h ⊢
    split at h
    · exact ⟨(one h).1, fun _ H2 => (one h).2 H2⟩
    · cases h
  case nilCheck x =>
    simp only [stepE, opE] at h ⊢
    split at h
    · exact ⟨(one h).1, fun _ H2 => (one h).2 H2⟩
    · exact ⟨(one h).1, fun _ H2 => (one h).2 H2⟩
    · exact ⟨(one h).1, fun _ H2 => (one h).2 H2⟩
    · cases h
  case extract x i =>
    simp only [stepE, opE] at h ⊢
    split at h
    · exact ⟨(mp h).1, fun _ H2 => (mp h).2 H2⟩
    · cases h
  case slice t x lo hi mx => exfalso; cases mx <;> simp [kindD] at hk
  case makeMap t r => exfalso; cases r <;> simp [kindD] at hk
  case store t x y => exfalso; simp only [kindD] at hk; split at hk <;> cases hk
  all_goals first
    | (exfalso; simp [kindD] at hk; done)
    | exact ⟨(mp h).1, fun _ H2 => (mp h).2 H2⟩

/-- What an operation reads it leaves as it is. -/
theorem read_op {chk : Bool} (hk : kindD E chk o = .read) (h : stepE E self tmps nid H o = some (v, H')) : H' = H := by
  obtain ⟨dst, op, type, pos, after, guard⟩ := o
  have mp : ∀ {x : Option V}, x.map (fun z => (z, H)) = some (v, H') → H' = H := by
    intro x h
    simp only [Option.map_eq_some_iff, Prod.mk.injEq] at h
    obtain ⟨z, rfl, rfl, rfl⟩ := h
    rfl
  cases op
  case load t x => exact mp h
  case lookup t m k ok => exact mp h
  case indexAddr t x i => exact mp h
  case slice t x lo hi mx =>
    cases mx with
    | some m => simp [kindD] at hk
    | none =>
      simp only [stepE, opE] at h
      split at h <;> exact mp h
  case makeMap t r => exfalso; cases r <;> simp [kindD] at hk
  case store t x y => exfalso; simp only [kindD] at hk; split at hk <;> cases hk
  case call c =>
    obtain ⟨callee, args, ats⟩ := c
    cases callee with
    | value g => exfalso; cases g <;> simp [kindD] at hk; split at hk <;> cases hk
    | invoke r m => exfalso; simp [kindD] at hk
    | builtin bb =>
      cases bb <;> first | (exfalso; simp [kindD] at hk; done) | (exfalso; cases chk <;> simp [kindD] at hk; done) | skip
      simp only [stepE, opE] at h
      split at h
      · rename_i heq _; cases heq
      · rename_i heq _; cases heq
      · rename_i heq _; cases heq
      · exact mp h
      · rename_i heq _; cases heq
      · exact mp h
  all_goals (exfalso; simp [kindD] at hk; done)

/-- A new block. -/
theorem new_op {chk : Bool} (hk : kindD E chk o = .new) (h : stepE E self tmps nid H o = some (v, H')) :
    ∃ b, place H nid b = some H' ∧ ∀ H2 H3, place H2 nid b = some H3 → stepE E self tmps nid H2 o = some (v, H3) := by
  obtain ⟨dst, op, type, pos, after, guard⟩ := o
  have plc : ∀ {c : Blk} {z : V}, (place H nid c).map (fun H => (z, H)) = some (v, H') → ∃ b, place H nid b = some H' ∧ ∀ H2 H3, place H2 nid b = some H3 → (place H2 nid c).map (fun H => (z, H)) = some (v, H3) := by
    intro c z h
    simp only [Option.map_eq_some_iff, Prod.mk.injEq] at h
    obtain ⟨H1, h1, rfl, rfl⟩ := h
    exact ⟨c, h1, fun H2 H3 e => by rw [e]; rfl⟩
  cases op
  case alloc t =>
    simp only [stepE, opE, Option.bind_eq_some_iff] at h ⊢
    obtain ⟨z, hz, h⟩ := h
    split at h
    · cases h
    rename_i hc
    obtain ⟨b, q1, q2⟩ := plc h
    exact ⟨b, q1, fun H2 H3 e => ⟨z, hz, by rw [if_neg hc]; exact q2 H2 H3 e⟩⟩
  case box t x =>
    simp only [stepE, opE] at h ⊢
    split at h
    · cases h
    rename_i hc
    simp only [if_neg hc]; exact plc h
  case buildSlice t n ps =>
    simp only [stepE, opE] at h ⊢
    split at h
    case h_2 => cases h
    split at h
    case isFalse => cases h
    rename_i hc
    simp only [if_pos hc]
    simp only [Option.bind_eq_some_iff] at h ⊢
    obtain ⟨z, hz, h⟩ := h
    split at h
    · cases h
    rename_i hc2
    simp only [Option.bind_eq_some_iff] at h
    obtain ⟨cs, hcs, h⟩ := h
    obtain ⟨b, q1, q2⟩ := plc h
    refine ⟨b, q1, fun H2 H3 e => ⟨z, hz, ?_⟩⟩
    rw [if_neg hc2]
    simp only [Option.bind_eq_some_iff]
    exact ⟨cs, hcs, q2 H2 H3 e⟩
  case makeSlice t l c =>
    simp only [stepE, opE] at h ⊢
    split at h
    case h_2 => cases h
    split at h
    case isFalse => cases h
    rename_i hc
    simp only [if_pos hc]
    simp only [Option.bind_eq_some_iff] at h ⊢
    obtain ⟨z, hz, h⟩ := h
    split at h
    · cases h
    rename_i hc2
    obtain ⟨b, q1, q2⟩ := plc h
    exact ⟨b, q1, fun H2 H3 e => ⟨z, hz, by rw [if_neg hc2]; exact q2 H2 H3 e⟩⟩
  case makeMap t r =>
    cases r with
    | none => exact plc h
    | some r => simp [kindD] at hk
  case slice t x lo hi mx => exfalso; cases mx <;> simp [kindD] at hk
  case store t x y => exfalso; simp only [kindD] at hk; split at hk <;> cases hk
  case call c =>
    exfalso
    obtain ⟨callee, args, ats⟩ := c
    cases callee with
    | value g => cases g <;> simp [kindD] at hk; split at hk <;> cases hk
    | invoke r m => simp [kindD] at hk
    | builtin bb => cases bb <;> first | (simp [kindD] at hk; done) | (cases chk <;> simp [kindD] at hk)
  all_goals (exfalso; simp [kindD] at hk; done)

theorem call_op {chk : Bool} (hk : kindD E chk o = .call) (h : stepE E self tmps nid H o = some (v, H')) : ∃ K : Heap, K.length ≤ 2 ∧ placeAll H nid K = some H' := by
  obtain ⟨dst, op, type, pos, after, guard⟩ := o
  cases op
  case call c =>
    obtain ⟨callee, args, ats⟩ := c
    cases callee with
    | value g =>
      cases g with
      | func f =>
        simp only [kindD] at hk
        split at hk
        case isFalse => cases hk
        rename_i hc
        obtain ⟨hc1, hc2⟩ := hc
        have hc2 : E.prim f = none := by simpa using hc2
        simp only [stepE, evalO, List.append_nil] at h
        unfold callE at h
        split at h
        · cases h
        rw [hc2] at h
        simp only at h
        split at h
        · simp only [Option.bind_eq_some_iff] at h
          obtain ⟨xs, hxs, h⟩ := h
          split at h
          · simp only [Option.some.injEq, Prod.mk.injEq] at h
            exact ⟨[], by simp, by simp [placeAll, h.2]⟩
          · cases h
        rw [if_neg (by simp [hc1])] at h
        simp only [Option.bind_eq_some_iff] at h
        obtain ⟨args', ha, r, hr, h⟩ := h
        split at h
        · rename_i hs
          simp only [Option.map_eq_some_iff, Prod.mk.injEq] at h
          obtain ⟨H1, h1, _, rfl⟩ := h
          exact ⟨r.2, by rw [Bool.and_eq_true] at hs; simpa using hs.2, h1⟩
        · cases h
      | _ => simp [kindD] at hk
    | invoke r m => exfalso; simp [kindD] at hk
    | builtin bb => exfalso; cases bb <;> first | (simp [kindD] at hk; done) | (cases chk <;> simp [kindD] at hk)
  case slice t x lo hi mx => exfalso; cases mx <;> simp [kindD] at hk
  case makeMap t r => exfalso; cases r <;> simp [kindD] at hk
  case store t x y => exfalso; simp only [kindD] at hk; split at hk <;> cases hk
  all_goals (exfalso; simp [kindD] at hk; done)

theorem store_op {chk : Bool} (hk : kindD E chk o = .store) {sid : Nat} (hsid : storeAt tmps o sid = true) (h : stepE E self tmps nid H o = some (v, H')) : chk = true ∧ ∃ b, H' = H.set sid b := by
  obtain ⟨dst, op, type, pos, after, guard⟩ := o
  cases op
  case store t x y =>
    refine ⟨by cases chk <;> simp [kindD] at hk ⊢, ?_⟩
    simp only [stepE, opE, Option.map_eq_some_iff, Prod.mk.injEq] at h
    obtain ⟨H1, h1, _, rfl⟩ := h
    unfold storeAt at hsid
    simp only at hsid
    generalize evalO tmps x = a at hsid h1
    cases a <;> simp at hsid
    subst hsid
    simp only [storeT] at h1
    split at h1
    case h_2 => cases h1
    split at h1
    case isFalse => cases h1
    simp only [Option.bind_eq_some_iff] at h1
    obtain ⟨cs, _, h1⟩ := h1
    split at h1
    · simp only [Option.some.injEq] at h1; exact ⟨_, h1.symm⟩
    · cases h1
  case slice t x lo hi mx => exfalso; cases mx <;> simp [kindD] at hk
  case makeMap t r => exfalso; cases r <;> simp [kindD] at hk
  case call c =>
    exfalso
    obtain ⟨callee, args, ats⟩ := c
    cases callee with
    | value g => cases g <;> simp [kindD] at hk; split at hk <;> cases hk
    | invoke r m => simp [kindD] at hk
    | builtin bb => cases bb <;> first | (simp [kindD] at hk; done) | (cases chk <;> simp [kindD] at hk)
  all_goals (exfalso; simp [kindD] at hk; done)
theorem appendV_eff {P : Program} {ts : Array TypeId} {x y : V} (h : appendV P nid H ts x y = some (v, H')) : (∃ id ver off len b, x = .own id ver off len ∧ H' = H.set id b) ∨ (∃ b, place H nid b = some H') ∨ H' = H := by
  unfold appendV at h
  simp only [Option.bind_eq_some_iff] at h
  obtain ⟨e, _, z, _, nr, _, h⟩ := h
  split at h
  case isFalse => cases h
  split at h
  · split at h
    · simp only [Option.some.injEq, Prod.mk.injEq] at h; exact .inr (.inr h.2.symm)
    · simp only [Option.map_eq_some_iff, Prod.mk.injEq] at h
      obtain ⟨H1, h1, _, rfl⟩ := h
      exact .inr (.inl ⟨_, h1⟩)
  · split at h
    · split at h
      case isFalse => cases h
      split at h
      · simp only [Option.some.injEq, Prod.mk.injEq] at h; exact .inr (.inr h.2.symm)
      split at h
      · simp only [Option.some.injEq, Prod.mk.injEq] at h; exact .inl ⟨_, _, _, _, _, rfl, h.2.symm⟩
      split at h
      · simp only [Option.some.injEq, Prod.mk.injEq] at h; exact .inl ⟨_, _, _, _, _, rfl, h.2.symm⟩
      · cases h
    · cases h
  · cases h

theorem app_op {chk : Bool} (hk : kindD E chk o = .app) {sid : Nat} (hsid : storeAt tmps o sid = true) (h : stepE E self tmps nid H o = some (v, H')) : chk = true ∧ ((∃ b, H' = H.set sid b) ∨ (∃ b, place H nid b = some H') ∨ H' = H) := by
  obtain ⟨dst, op, type, pos, after, guard⟩ := o
  cases op
  case call c =>
    obtain ⟨callee, args, ats⟩ := c
    cases callee with
    | value g => exfalso; cases g <;> simp [kindD] at hk; split at hk <;> cases hk
    | invoke r m => simp [kindD] at hk
    | builtin bb =>
      cases bb
      case append =>
        refine ⟨by cases chk <;> simp [kindD] at hk ⊢, ?_⟩
        simp only [storeAt] at hsid
        simp only [stepE, opE] at h
        split at h
        · rename_i x y hargs
          rw [hargs] at hsid
          rcases appendV_eff h with ⟨id, ver, off, len, b, rfl, rfl⟩ | q | q
          · simp only [beq_iff_eq] at hsid
            subst hsid
            exact .inl ⟨b, rfl⟩
          · exact .inr (.inl q)
          · exact .inr (.inr q)
        all_goals first
          | (rename_i heq _; cases heq; done)
          | (simp only [Option.map_eq_some_iff, Prod.mk.injEq] at h; obtain ⟨z, _, _, rfl⟩ := h; exact .inr (.inr rfl))
      all_goals (exfalso; simp [kindD] at hk; done)
  case store t x y => exfalso; cases chk <;> simp [kindD] at hk
  case slice t x lo hi mx => exfalso; cases mx <;> simp [kindD] at hk
  case makeMap t r => exfalso; cases r <;> simp [kindD] at hk
  all_goals (exfalso; simp [kindD] at hk; done)
end
end Go.Proofs.YtpmdlaojndejfaaGreatDoor.E

/- Regions that draw: operations of which neither waits for the other may be exchanged. -/
set_option linter.unusedVariables false
set_option linter.unusedSimpArgs false
namespace Go.Proofs.YtpmdlaojndejfaaGreatDoor.E
open Go

section
variable {E : Env} {self : Self} {ops : Array Oper} {r : DRun}

def stepD (E : Env) (self : Self) (ops : Array Oper) (r : DRun) (i : Nat) (s : St) : Option St := (ops[i]?).bind fun o => stepI E self ops r (itemS E r.chk ops.toList i o) s

def effD (E : Env) (ops : Array Oper) (r : DRun) (i : Nat) : List Nat :=
  match ops[i]? with
  | some o => (if makes E o then [r.base + (offS E ops.toList).getD i 0, r.base + (offS E ops.toList).getD i 0 + 1] else []) ++ (if kindD E r.chk o = .store ∨ kindD E r.chk o = .app then [r.sid.getD i 0] else [])
  | none => []

theorem mem_hid {i j k : Nat} {o oj : Oper} (hj : ops[j]? = some oj) (hu : unordered ops.toList i j = true) (hk : k ∈ effD E ops r j) : k ∈ hidI r (itemS E r.chk ops.toList i o) := by
  have hjl : j < ops.toList.length := by simpa using (Array.getElem?_eq_some_iff.1 hj).1
  have hj' : ops.toList[j]? = some oj := by simpa using hj
  simp only [effD, hj, List.mem_append] at hk
  simp only [hidI, itemS, List.mem_append, List.mem_map]
  rcases hk with hk | hk
  · left
    split at hk
    · rename_i hm
      have hmem : ∀ d, (d = (offS E ops.toList).getD j 0 ∨ d = (offS E ops.toList).getD j 0 + 1) → d ∈ hidN E ops.toList i := by
        intro d hd
        simp only [hidN, List.mem_flatMap, List.mem_range]
        refine ⟨j, hjl, ?_⟩
        rw [hj']
        simp only [Option.map_some, hm, hu, if_true]
        simpa using hd
      simp only [List.mem_cons, List.not_mem_nil, or_false] at hk
      rcases hk with rfl | rfl
      · exact ⟨_, hmem _ (.inl rfl), rfl⟩
      · exact ⟨_, hmem _ (.inr rfl), rfl⟩
    · simp at hk
  · right
    split at hk
    · rename_i hs
      simp only [List.mem_singleton] at hk
      subst hk
      refine ⟨j, ?_, rfl⟩
      simp only [hidS, List.mem_filter, List.mem_range]
      refine ⟨hjl, ?_⟩
      rw [hj']
      rcases hs with hs | hs <;> simp [hs, hu]
    · simp at hk

theorem offL_bound {no : Nat} : ∀ {l : List Oper} {base k : Nat} {o : Oper}, l[k]? = some o → dry E o = false → base ≤ (offL E no base l).getD k 0 ∧ (offL E no base l).getD k 0 + 2 ≤ base + slotsN E l
  | [], base, k, o, h, hd => by simp at h
  | x :: l, base, 0, o, h, hd => by
    simp only [List.getElem?_cons_zero, Option.some.injEq] at h; subst h
    simp only [offL, hd, slotsN]
    simp
  | x :: l, base, k + 1, o, h, hd => by
    simp only [List.getElem?_cons_succ] at h
    simp only [offL, slotsN]
    split
    · have := offL_bound (no := no) (base := base) h hd
      simp only [List.getD_cons_succ]; omega
    · have := offL_bound (no := no) (base := base + 2) h hd
      simp only [List.getD_cons_succ]; omega

theorem kind_true {o : Oper} {chk : Bool} (h : kindD E chk o ≠ .other) : kindD E true o = kindD E chk o := by
  cases chk with
  | true => rfl
  | false =>
    obtain ⟨dst, op, type, pos, after, guard⟩ := o
    cases op <;> first | rfl | skip
    case makeMap t r => cases r <;> rfl
    case slice t x lo hi mx => cases mx <;> rfl
    case call c =>
      obtain ⟨callee, args, ats⟩ := c
      cases callee with
      | value g => cases g <;> rfl
      | invoke r m => rfl
      | builtin bb => cases bb <;> first | rfl | (exfalso; simp [kindD] at h; done)
    exfalso; simp [kindD] at h

theorem store_kind {o : Oper} {chk : Bool} (hk : kindD E chk o = .store) : chk = true := by
  cases chk with
  | true => rfl
  | false =>
    exfalso
    obtain ⟨dst, op, type, pos, after, guard⟩ := o
    cases op
    case call c =>
      obtain ⟨callee, args, ats⟩ := c
      cases callee with
      | value g => cases g <;> simp [kindD] at hk; split at hk <;> cases hk
      | invoke r m => simp [kindD] at hk
      | builtin bb => cases bb <;> simp [kindD] at hk
    case slice t x lo hi mx => cases mx <;> simp [kindD] at hk
    case makeMap t rr => cases rr <;> simp [kindD] at hk
    all_goals (simp [kindD] at hk; done)

theorem app_kind {o : Oper} {chk : Bool} (hk : kindD E chk o = .app) : chk = true := by
  cases chk with
  | true => rfl
  | false =>
    exfalso
    obtain ⟨dst, op, type, pos, after, guard⟩ := o
    cases op
    case call c =>
      obtain ⟨callee, args, ats⟩ := c
      cases callee with
      | value g => cases g <;> simp [kindD] at hk; split at hk <;> cases hk
      | invoke r m => simp [kindD] at hk
      | builtin bb => cases bb <;> simp [kindD] at hk
    case slice t x lo hi mx => cases mx <;> simp [kindD] at hk
    case makeMap t rr => cases rr <;> simp [kindD] at hk
    all_goals (simp [kindD] at hk; done)

/-- What comes of an operation on its view. -/
def DOut (E : Env) (self : Self) (ops : Array Oper) (r : DRun) (it : DItem) (s : St) (v : V) (Hv : Heap) : Prop :=
  (Region.wanted it.o (yieldedV ops s.tmps) = true ∧ okI r it s.tmps s.H.length = true ∧ stepE E self s.tmps (posI r it s.H.length) (maskH s.H (hidI r it)) it.o = some (v, Hv) ∧ (it.dry || decide (r.base + r.room ≤ Hv.length)) = true) ∨
  (Region.wanted it.o (yieldedV ops s.tmps) = false ∧ v = un ∧ Hv = maskH s.H (hidI r it))

theorem unmask_mask (H : Heap) (ps : List Nat) : unmaskH H (maskH H ps) ps = H := by
  apply List.ext_getElem?
  intro i
  rw [unmaskH_get, maskH_get, maskH_len]
  by_cases h : i ∈ ps ∧ i < H.length
  · rw [if_pos ⟨h.1, h.2, h.2⟩]
  · rw [if_neg (fun h' => h ⟨h'.1, h'.2.1⟩), if_neg h]

theorem stepI_out {it : DItem} {s s' : St} : stepI E self ops r it s = some s' ↔ ∃ v Hv, DOut E self ops r it s v Hv ∧ s' = ⟨put s.tmps it.o.dst v, unmaskH s.H Hv (hidI r it), s.ds⟩ := by
  unfold stepI DOut
  constructor
  · intro h
    split at h
    · rename_i hw
      split at h
      case isFalse => cases h
      rename_i hok
      simp only [Option.bind_eq_some_iff] at h
      obtain ⟨⟨v, Hv⟩, h1, h⟩ := h
      split at h
      · rename_i hp
        simp only [Option.some.injEq] at h
        exact ⟨v, Hv, .inl ⟨hw, hok, h1, hp⟩, h.symm⟩
      · cases h
    · rename_i hw
      simp only [Option.some.injEq] at h
      refine ⟨un, _, .inr ⟨by simpa using hw, rfl, rfl⟩, ?_⟩
      rw [unmask_mask]; exact h.symm
  · rintro ⟨v, Hv, ⟨hw, hok, h1, hp⟩ | ⟨hw, rfl, rfl⟩, rfl⟩
    · rw [if_pos hw, if_pos hok, h1]
      simp only [Option.bind_some]
      rw [if_pos hp]
    · rw [if_neg (by simp [hw]), unmask_mask]

/-- Two frames that an operation cannot tell apart. -/
def Alike (ops : Array Oper) (o : Oper) (t t' : List V) : Prop := Region.wanted o (yieldedV ops t') = Region.wanted o (yieldedV ops t) ∧ ∀ x ∈ o.op.operands, evalO t' x = evalO t x
theorem Alike.symm {o : Oper} {t t' : List V} (h : Alike ops o t t') : Alike ops o t' t := ⟨h.1.symm, fun x hx => (h.2 x hx).symm⟩
theorem alike_put {o : Oper} {t : List V} {d : Option Tmp} {u : V} (h : ∀ d', d = some d' → d' ∉ o.looksAt ops) : Alike ops o t (put t d u) :=
  ⟨wantedV_put d u h, fun x hx => evalO_put fun d' hd hxd => h d' hd (by
    subst hxd
    exact List.mem_append_left _ (List.mem_filterMap.2 ⟨.tmp d', by simpa using hx, rfl⟩))⟩

theorem storeAt_alike {o : Oper} {t t' : List V} (h : Alike ops o t t') (sid : Nat) : storeAt t' o sid = storeAt t o sid := by
  obtain ⟨dst, op, type, pos, after, guard⟩ := o
  cases op <;> first | rfl | skip
  case store t x y =>
    simp only [storeAt]
    rw [h.2 _ (by simp [Op.operands])]
  case call c =>
    obtain ⟨callee, args, ats⟩ := c
    cases callee with
    | value g => rfl
    | invoke r m => rfl
    | builtin bb =>
      cases bb <;> first | rfl | skip
      simp only [storeAt]
      have : args.toList.map (evalO t') = args.toList.map (evalO t) := List.map_congr_left fun x hx => h.2 x (by simpa [Op.operands, Call.operands] using hx)
      rw [this]

theorem mask_same {H H' : Heap} {ps : List Nat} (hl : H'.length = H.length) (hk : ∀ k, k ∉ ps → H'[k]? = H[k]?) : maskH H' ps = maskH H ps := by
  apply List.ext_getElem?
  intro k
  rw [maskH_get, maskH_get, hl]
  by_cases h : k ∈ ps
  · by_cases h2 : k < H.length
    · rw [if_pos ⟨h, h2⟩, if_pos ⟨h, h2⟩]
    · rw [if_neg (fun x => h2 x.2), if_neg (fun x => h2 x.2), List.getElem?_eq_none (by omega), List.getElem?_eq_none (by omega)]
  · rw [if_neg (fun x => h x.1), if_neg (fun x => h x.1), hk k h]

theorem DOut.see {it : DItem} {s s' : St} {v : V} {Hv : Heap} (ho : DOut E self ops r it s v Hv) (ht : Alike ops it.o s.tmps s'.tmps) (hl : s'.H.length = s.H.length) (hk : ∀ k, k ∉ hidI r it → s'.H[k]? = s.H[k]?) :
    DOut E self ops r it s' v Hv := by
  have hm := mask_same hl hk
  unfold DOut okI at ho ⊢
  rw [ht.1, hm, hl, storeAt_alike ht, stepE_congr (tmps := s'.tmps) (tmps' := s.tmps) ht.2]
  exact ho

theorem place_in {H H' : Heap} {nid : Nat} {b : Blk} (h : place H nid b = some H') (hn : nid < H.length) : H[nid]? = some .free ∧ H' = H.set nid b := by
  unfold place at h
  rw [if_neg (by omega)] at h
  split at h
  · rename_i e
    simp only [Option.some.injEq] at h
    exact ⟨e, h.symm⟩
  · cases h
theorem place_of {H : Heap} {nid : Nat} {b : Blk} (h : H[nid]? = some .free) : place H nid b = some (H.set nid b) := by
  unfold place
  have : nid < H.length := (List.getElem?_eq_some_iff.1 h).1
  rw [if_neg (by omega), h]

theorem placeAll_in : ∀ {K H H' : Heap} {nid : Nat}, placeAll H nid K = some H' → nid + K.length ≤ H.length → H'.length = H.length ∧ ∀ k, (k < nid ∨ nid + K.length ≤ k) → H'[k]? = H[k]?
  | [], H, H', nid, h, hn => by simp only [placeAll, Option.some.injEq] at h; subst h; exact ⟨rfl, fun _ _ => rfl⟩
  | b :: K, H, H', nid, h, hn => by
    simp only [placeAll, Option.bind_eq_some_iff] at h
    obtain ⟨H1, h1, h2⟩ := h
    simp only [List.length_cons] at hn
    obtain ⟨_, rfl⟩ := place_in h1 (by omega)
    obtain ⟨q1, q2⟩ := placeAll_in h2 (by simp; omega)
    refine ⟨by simpa using q1, fun k hk => ?_⟩
    simp only [List.length_cons] at hk
    rw [q2 k (by omega), List.getElem?_set_ne (by omega)]


theorem off_in (hroom : r.room = slotsN E ops.toList) {i : Nat} {o : Oper} (hi : ops[i]? = some o) (hd : dry E o = false) : (offS E ops.toList).getD i 0 + 2 ≤ r.room := by
  have := offL_bound (E := E) (no := slotsN E ops.toList + 1000000) (l := ops.toList) (base := 0) (k := i) (o := o) (by simpa using hi) hd
  rw [hroom]; unfold offS; omega

/-- What an operation writes. -/
theorem DOut.eff (hroom : r.room = slotsN E ops.toList) {i : Nat} {o : Oper} {s : St} {v : V} {Hv : Heap} (hi : ops[i]? = some o) (hk : kindD E r.chk o ≠ .other) (ho : DOut E self ops r (itemS E r.chk ops.toList i o) s v Hv) :
    Hv.length = s.H.length ∧ ∀ k, k ∉ effD E ops r i → Hv[k]? = (maskH s.H (hidI r (itemS E r.chk ops.toList i o)))[k]? := by
  rcases ho with ⟨hw, hok, h1, hp⟩ | ⟨hw, rfl, rfl⟩
  case inr => exact ⟨maskH_len _ _, fun _ _ => rfl⟩
  have hl := maskH_len (hidI r (itemS E r.chk ops.toList i o)) s.H
  have hkt := kind_true (E := E) hk
  generalize maskH s.H (hidI r (itemS E r.chk ops.toList i o)) = Hm at h1 hl ⊢
  have same : Hv = Hm → Hv.length = s.H.length ∧ ∀ k, k ∉ effD E ops r i → Hv[k]? = Hm[k]? := by rintro rfl; exact ⟨hl, fun _ _ => rfl⟩
  have h1 : stepE E self s.tmps (posI r (itemS E r.chk ops.toList i o) s.H.length) Hm o = some (v, Hv) := h1
  have nd : dry E o = false → r.base + r.room ≤ s.H.length ∧ posI r (itemS E r.chk ops.toList i o) s.H.length = r.base + (offS E ops.toList).getD i 0 ∧ r.base + (offS E ops.toList).getD i 0 + 2 ≤ Hm.length := by
    intro hd
    have h2 := off_in hroom hi hd
    have h3 : r.base + r.room ≤ s.H.length := by
      simp only [okI, itemS, hd, Bool.false_or, Bool.and_eq_true, decide_eq_true_eq] at hok
      exact hok.2.1.1
    refine ⟨h3, ?_, by omega⟩
    simp [posI, itemS, hd]
  cases hkk : kindD E r.chk o with
  | other => exact absurd hkk hk
  | pure => exact same (pure_op hkk h1).1
  | read => exact same (read_op hkk h1)
  | new =>
    have hd : dry E o = false := by simp [dry, hkt, hkk]
    obtain ⟨n1, n2, n3⟩ := nd hd
    rw [n2] at h1
    obtain ⟨b, hb, _⟩ := new_op hkk h1
    obtain ⟨_, rfl⟩ := place_in hb (by omega)
    refine ⟨by simpa using hl, fun k hkm => ?_⟩
    rw [List.getElem?_set_ne]
    rintro rfl
    exact hkm (by simp [effD, hi, makes, hkt, hkk, hd])
  | call =>
    obtain ⟨K, hK, hpl⟩ := call_op hkk h1
    cases hd : dry E o with
    | false =>
      obtain ⟨n1, n2, n3⟩ := nd hd
      rw [n2] at hpl
      obtain ⟨q1, q2⟩ := placeAll_in hpl (by omega)
      refine ⟨by omega, fun k hkm => q2 k ?_⟩
      have : k ≠ r.base + (offS E ops.toList).getD i 0 ∧ k ≠ r.base + (offS E ops.toList).getD i 0 + 1 := by
        constructor <;> rintro rfl <;> exact hkm (by simp [effD, hi, makes, hkt, hkk, hd])
      omega
    | true =>
      have hpos : posI r (itemS E r.chk ops.toList i o) s.H.length = s.H.length + 1 := by simp [posI, itemS, hd]
      rw [hpos] at hpl
      cases K with
      | nil => simp only [placeAll, Option.some.injEq] at hpl; exact same hpl.symm
      | cons b K =>
        simp only [placeAll, Option.bind_eq_some_iff] at hpl
        obtain ⟨H1, e, _⟩ := hpl
        unfold place at e
        rw [if_neg (by omega), List.getElem?_eq_none (by omega)] at e
        cases e
  | store =>
    have hst : r.chk = true ∧ ∃ b, Hv = Hm.set (r.sid.getD i 0) b := by
      have hc : r.chk = true := store_kind hkk
      have hsa : storeAt s.tmps o (r.sid.getD i 0) = true := by
        simp only [okI, itemS, hc, Bool.not_true, Bool.false_or, Bool.and_eq_true] at hok
        exact hok.1
      exact store_op hkk hsa h1
    obtain ⟨hc, b, rfl⟩ := hst
    refine ⟨by simpa using hl, fun k hkm => ?_⟩
    rw [List.getElem?_set_ne]
    rintro rfl
    exact hkm (by simp [effD, hi, hkk])
  | app =>
    have hd : dry E o = false := by simp [dry, hkt, hkk]
    obtain ⟨n1, n2, n3⟩ := nd hd
    rw [n2] at h1
    have hst : r.chk = true ∧ ((∃ b, Hv = Hm.set (r.sid.getD i 0) b) ∨ (∃ b, place Hm (r.base + (offS E ops.toList).getD i 0) b = some Hv) ∨ Hv = Hm) := by
      have hsa : storeAt s.tmps o (r.sid.getD i 0) = true := by
        have hc : r.chk = true := by
          exact app_kind hkk
        simp only [okI, itemS, hc, Bool.not_true, Bool.false_or, Bool.and_eq_true] at hok
        exact hok.1
      exact app_op hkk hsa h1
    obtain ⟨hc, ⟨b, rfl⟩ | ⟨b, hb⟩ | rfl⟩ := hst
    · refine ⟨by simpa using hl, fun k hkm => ?_⟩
      rw [List.getElem?_set_ne]
      rintro rfl
      exact hkm (by simp [effD, hi, hkk])
    · obtain ⟨_, rfl⟩ := place_in hb (by omega)
      refine ⟨by simpa using hl, fun k hkm => ?_⟩
      rw [List.getElem?_set_ne]
      rintro rfl
      exact hkm (by simp [effD, hi, makes, hkt, hkk, hd])
    · exact same rfl
end
end Go.Proofs.YtpmdlaojndejfaaGreatDoor.E
