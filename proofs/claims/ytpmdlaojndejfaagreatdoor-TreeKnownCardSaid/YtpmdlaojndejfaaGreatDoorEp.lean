/- The evaluator against the machine: code, functions: the theorem. -/
import Derived.RangeFuncLeaves
import Derived.Test.YtpmdlaojndejfaaGreatDoorEo
set_option linter.unusedVariables false
set_option linter.unusedSimpArgs false
namespace Go.Proofs.YtpmdlaojndejfaaGreatDoor.E
open Go

section
variable {N A : Nat → Prop} {ι : Nat → Lk} {H H' : Heap} {w : World}

theorem args_rel {tmps : List V} {a : Act} (ht : TR A ι H w tmps a.tmps) (args : Array Operand) : TR A ι H w (args.toList.map (evalO tmps)) (args.map a.eval) := by
  refine ⟨by simp, fun i x cv p q => ?_⟩
  simp only [List.getElem?_map, Option.map_eq_some_iff] at p
  obtain ⟨y, hy, rfl⟩ := p
  have : args[i]? = some y := by simpa using hy
  simp [this] at q; subst q
  exact ht.eval y
theorem TR.append {l1 l2 : List V} {a1 a2 : Array Value} (h1 : TR A ι H w l1 a1) (h2 : TR A ι H w l2 a2) : TR A ι H w (l1 ++ l2) (a1 ++ a2) := by
  refine ⟨by simp [h1.1, h2.1], fun i x cv p q => ?_⟩
  rcases Nat.lt_or_ge i l1.length with g | g
  · rw [List.getElem?_append_left g] at p
    rw [Array.getElem?_append_left (h1.1 ▸ g)] at q
    exact h1.2 i x cv p q
  · rw [List.getElem?_append_right g] at p
    rw [Array.getElem?_append_right (h1.1 ▸ g)] at q
    rw [h1.1] at p
    exact h2.2 _ x cv p q

theorem stepE_sound {E : Env} {self : Self} (hself : Sound E self.call) (hcode : CodeSound E self.code) (hprim : PrimSound E) (hs : SR N A ι H w) (hg : GR E A ι H w) {tmps : List V} {a : Act} (ht : TR A ι H w tmps a.tmps)
    {nid : Nat} {o : Oper} {v : V} (h : stepE E self tmps nid H o = some (v, H')) : StepOut E.P N A ι H w (execOp a.eval o) v H' ∧ (∀ c, o.op ≠ .defer c) := by
  obtain ⟨dst, op, ty, pos, after, guard⟩ := o
  by_cases hc : ∃ g args ats, op = .call { callee := .value g, args := args, argTypes := ats }
  · obtain ⟨g, args, ats, rfl⟩ := hc
    refine ⟨?_, by simp⟩
    simp only [stepE] at h
    have hgv := ht.eval g
    have har := args_rel ht args
    split at h
    · rename_i f caps e
      rw [e] at hgv
      generalize hev : a.eval g = cg at hgv
      cases hgv with
      | fn _ _ vs hl hv =>
        have hx : execOp a.eval { dst := dst, op := .call { callee := .value g, args := args, argTypes := ats }, type := ty, pos := pos, after := after, guard := guard } = callFunc f (args.map a.eval ++ vs) := by
          simp only [execOp, resolve, hev, Deferred.ofValue]
          show callFunc f ((#[] ++ args.map a.eval) ++ vs) = _
          simp
        rw [hx]
        exact callE_sound hself hprim hs hg (TR.append har ⟨hl, hv⟩) h
    · rename_i l e
      rw [e] at hgv
      generalize hev : a.eval g = cg at hgv
      have hb : ∃ b, cg = .func (.yield b) #[] #[] := by cases hgv; exact ⟨_, rfl⟩
      obtain ⟨b, rfl⟩ := hb
      have hx : execOp a.eval { dst := dst, op := .call { callee := .value g, args := args, argTypes := ats }, type := ty, pos := pos, after := after, guard := guard } = Instr.yield b (args.map a.eval) := by
        simp only [execOp, resolve, hev, Deferred.ofValue]
        show Instr.yield b (#[] ++ args.map a.eval) = _
        simp
      rw [hx]
      obtain ⟨L, h1, h2⟩ := yieldE_sound hcode hs hg hgv har h
      exact .inr (.inr ⟨_, _, _, _, _, h1, h2⟩)
    · cases h
  · have h' : opE E tmps nid H { dst := dst, op := op, type := ty, pos := pos, after := after, guard := guard } = some (v, H') := by
      cases op with
      | call c =>
        obtain ⟨callee, args, ats⟩ := c
        cases callee with
        | value g => exact absurd ⟨_, _, _, rfl⟩ hc
        | _ => exact h
      | _ => exact h
    refine ⟨.inl (opE_sound hs hg ht h'), fun c e => ?_⟩
    simp only at e
    subst e
    simp [opE, toOps, noSel] at h'

theorem yielded_eq {ops : Array Oper} {tmps : List V} {vs : Array Value} (ht : TR A ι H w tmps vs) (j : Nat) : yieldedV ops tmps j = yielded ops vs j := by
  unfold yieldedV yielded
  cases h : (ops[j]?).bind (·.dst) with
  | none => rfl
  | some t =>
    simp only [Option.bind_some]
    rcases Nat.lt_or_ge t tmps.length with g | g
    · have e1 : tmps[t]? = some tmps[t] := by simp [g]
      have e2 : vs[t]? = some (vs[t]'(ht.1 ▸ g)) := by simp
      have hv := ht.2 t _ _ e1 e2
      rw [e1, e2]
      generalize tmps[t] = x at hv
      generalize vs[t]'(ht.1 ▸ g) = cx at hv
      cases hv with
      | lit _ => cases cx <;> rfl
      | _ => rfl
    · rw [List.getElem?_eq_none g, Array.getElem?_eq_none (ht.1 ▸ g)]

theorem wanted_eq {ops : Array Oper} {tmps : List V} {vs : Array Value} (ht : TR A ι H w tmps vs) (o : Oper) : Region.wanted o (yieldedV ops tmps) = Region.wanted o (yielded ops vs) := by
  have : yieldedV ops tmps = yielded ops vs := funext fun j => yielded_eq ht j
  rw [this]

/-- One operation, in whatever stands behind it. -/
theorem op_wp {P : Program} {cro : Option Nat} {n : Nat} {o : Oper} {a : Act} {v : V} (h : StepOut P N A ι H w (execOp a.eval o) v H') (hd : ∀ c, o.op ≠ .defer c) {next : Act → World → Prop} {Q : Exit → Act → World → Prop}
    (hn : ∀ cv w' N' A' ι', Ext N A ι H w N' A' ι' H' w' → VR A' ι' H' w' v cv → next (a.put o.dst cv) w') : o.wpIn (W cro) n P a w next Q := by
  refine ⟨fun _ _ => trivial, ?_⟩
  have hsem : o.semAt (W cro).round a.eval = execOp a.eval o := Oper.semAt_eq _ _ _ hd
  rw [hsem]
  rcases h with ⟨nx, cv, w', N', A', ι', h1, h2, h3, h4⟩ | ⟨f, cargs, h1, h2⟩ | ⟨l, f, tmps, asg, body, h1, h2⟩
  · rw [h1]
    rcases h2 with rfl | ⟨rfl, rfl⟩
    · exact hn _ _ _ _ _ h3 h4
    · exact hn _ _ _ _ _ h3 h4
  · rw [h1]
    refine ⟨fun h => by simp [W, Fence.wide] at h, calls_W (h2.mono ?_)⟩
    rintro e w' ⟨cv, N', A', ι', rfl, k1, k2⟩
    exact hn _ _ _ _ _ k1 k2
  · rw [h1]
    refine ⟨fun h => by simp [W, Fence.wide] at h, round_W ((h2 _).mono ?_)⟩
    rintro e w' ⟨cv, N', A', ι', rfl, k1, k2⟩
    exact hn _ _ _ _ _ k1 k2

theorem regionE_sound {E : Env} {self : Self} (hself : Sound E self.call) (hcode : CodeSound E self.code) (hprim : PrimSound E) {ops : Array Oper} {cro : Option Nat} {n : Nat} {Q : Exit → Act → World → Prop} :
    ∀ (l : List Oper) (s s' : St) (N A : Nat → Prop) (ι : Nat → Lk) (w : World) (a : Act), regionE E self ops l s = some s' → SR N A ι s.H w → GR E A ι s.H w → TR A ι s.H w s.tmps a.tmps → DR A ι s.H w s.ds a.defers →
      (∀ a' w' N' A' ι', Ext N A ι s.H w N' A' ι' s'.H w' → TR A' ι' s'.H w' s'.tmps a'.tmps → DR A' ι' s'.H w' s'.ds a'.defers → Q .normal a' w') → wpListIn (W cro) n E.P ops Q l a w
  | [], s, s', N, A, ι, w, a, h, hs, hg, ht, hd, hq => by
    simp only [regionE, Option.some.injEq] at h; subst h
    exact hq a w N A ι (Ext.refl hs) ht hd
  | o :: l, s, s', N, A, ι, w, a, h, hs, hg, ht, hd, hq => by
    simp only [regionE] at h
    simp only [wpListIn]
    rw [← wanted_eq ht o]
    split at h
    · rename_i hw
      rw [if_pos hw]
      simp only [Option.bind_eq_some_iff] at h
      obtain ⟨⟨v, H1⟩, h1, h2⟩ := h
      obtain ⟨k1, k2⟩ := stepE_sound hself hcode hprim hs hg ht h1
      refine op_wp k1 k2 fun cv w1 N1 A1 ι1 e1 hv => ?_
      have t1 := TR.put (ds := a.defers) (ht.keep e1.keep) hv o.dst
      have dd : (a.put o.dst cv).defers = a.defers := by cases o.dst <;> rfl
      exact regionE_sound hself hcode hprim l _ s' N1 A1 ι1 w1 (a.put o.dst cv) h2 e1.sr (GR.keep hs hg e1) t1 (by rw [dd]; exact hd.keep e1.keep) fun a' w' N' A' ι' e t d => hq a' w' N' A' ι' (e1.trans e) t d
    · rename_i hw
      rw [if_neg hw]
      refine ⟨fun _ _ => trivial, ?_⟩
      have t1 := TR.put (ds := a.defers) ht (VR.lit undef) o.dst
      have dd : (a.put o.dst undef).defers = a.defers := by cases o.dst <;> rfl
      exact regionE_sound hself hcode hprim l _ s' N A ι w (a.put o.dst undef) h hs hg t1 (by rw [dd]; exact hd) hq

/-- Where a loop over a function begins. -/
theorem loopBegin_sound {P : Program} (hs : SR N A ι H w) {ro cro : Option Nat} (hro : RoR A ι H w ro cro) {ds : List Nat} {dl : List Deferred} (hd : DR A ι H w ds dl) {tmps : List V} {vs : Array Value} (ht : TR A ι H w tmps vs)
    {ps : Array Tmp} {asg body : Code} {l : Nat} {H0 : Heap} {ds' : List Nat} (h : loopBegin ro H ds (.loop true none tmps ps.toList asg body) = some (l, H0, ds')) (fn : FuncId) :
    ∃ b mark w1 ι1, (Instr.enterLoop fn vs ps asg body cro).run P w = .ok (b, mark) w1 ∧ Ext N A ι H w N A ι1 H0 w1 ∧ VR A ι1 H0 w1 (.yld l) (.func (.yield b) #[] #[]) ∧ DR A ι1 H0 w1 ds' (mark ++ dl) := by
  have loopR : ∀ (N A : Nat → Prop) (ι : Nat → Lk) (H H1 : Heap) (w : World) (D : Nat), SR N A ι H w → TR A ι H w tmps vs → place H H.length (.loop true none tmps ps.toList asg body) = some H1 →
      Ext N A ι H w N A (upd ι H.length ⟨w.heap.size, 0, 0⟩) H1 (w.alloc (.loop { state := .ready, pending := none, fn, tmps := vs, params := ps, assign := asg, body, defers := D })) := by
    intro N A ι H H1 w D hs ht hp
    refine newObj_sound hs hp _ fun keep => ⟨_, by rw [upd_same]; exact alloc_new w _, rfl, rfl, by simp, rfl, rfl, ht.1.symm, fun i x cv a b => keep _ _ (ht.2 i x cv a b)⟩
  cases ro with
  | none =>
    cases cro with
    | some b => exact hro.elim
    | none =>
      simp only [loopBegin, Option.some.injEq, Prod.mk.injEq] at h
      obtain ⟨rfl, rfl, rfl⟩ := h
      have p1 : place H H.length .dfr = some (H ++ [.dfr]) := by simp [place]
      have e1 := newObj_sound hs p1 (.deferred (some [])) fun keep => by simp only [BR, upd_same]; exact alloc_new w _
      have p2 : place (H ++ [Blk.dfr]) (H ++ [Blk.dfr]).length (.loop true none tmps ps.toList asg body) = some (H ++ [.dfr] ++ [.loop true none tmps ps.toList asg body]) := by simp [place]
      have e2 := loopR N A _ _ _ _ w.heap.size e1.sr (ht.keep e1.keep) p2
      refine ⟨(w.alloc (.deferred (some []))).heap.size, [{ target := .collected w.heap.size, args := #[] }], ((w.alloc (.deferred (some []))).alloc (.loop { state := .ready, pending := none, fn, tmps := vs, params := ps, assign := asg, body, defers := w.heap.size })), (upd (upd ι H.length ⟨w.heap.size, 0, 0⟩) (H ++ [Blk.dfr]).length ⟨(w.alloc (.deferred (some []))).heap.size, 0, 0⟩), ?_, ?_, ?_, ?_⟩
      · simp [Instr.enterLoop]
      · have := e1.trans e2
        simpa using this
      · have := VR.yld (A := A) (ι := upd (upd ι H.length ⟨w.heap.size, 0, 0⟩) (H ++ [Blk.dfr]).length ⟨(w.alloc (.deferred (some []))).heap.size, 0, 0⟩) (H := H ++ [.dfr, .loop true none tmps ps.toList asg body]) (w := (w.alloc (.deferred (some []))).alloc (.loop { state := .ready, pending := none, fn, tmps := vs, params := ps, assign := asg, body, defers := w.heap.size })) (H.length + 1) (.loop true none tmps ps.toList asg body) (by simp) (by simp) (by simp)
        have e3 : (H ++ [Blk.dfr]).length = H.length + 1 := by simp
        rw [e3] at this ⊢
        rw [upd_same] at this
        exact this
      · refine ⟨by simp [hd.1], fun i d D a b => ?_⟩
        cases i with
        | zero =>
          simp at a b; subst a b
          refine ⟨_, rfl, ?_⟩
          have := VR.mp (A := A) (ι := upd (upd ι H.length ⟨w.heap.size, 0, 0⟩) (H ++ [Blk.dfr]).length ⟨(w.alloc (.deferred (some []))).heap.size, 0, 0⟩) (H := H ++ [.dfr, .loop true none tmps ps.toList asg body]) (w := (w.alloc (.deferred (some []))).alloc (.loop { state := .ready, pending := none, fn, tmps := vs, params := ps, assign := asg, body, defers := w.heap.size })) H.length .dfr (by simp) (by simp) (by simp)
          rw [upd_ne _ _ (by simp), upd_same] at this
          exact this
        | succ i =>
          obtain ⟨x, p, q⟩ := hd.2 i d D (by simpa using a) (by simpa using b)
          refine ⟨x, p, ?_⟩
          have := e2.keep _ _ (e1.keep _ _ q)
          simpa using this
  | some r =>
    cases cro with
    | none => exact hro.elim
    | some b =>
      simp only [loopBegin] at h
      split at h
      case h_2 => cases h
      rename_i hid
      simp only [Option.some.injEq, Prod.mk.injEq] at h
      obtain ⟨rfl, rfl, rfl⟩ := h
      have hb : b = (ι r).b := by cases hro; rfl
      subst hb
      obtain ⟨L, l1, _⟩ := hs.live r _ hid
      have p2 : place H H.length (.loop true none tmps ps.toList asg body) = some (H ++ [.loop true none tmps ps.toList asg body]) := by simp [place]
      have e2 := loopR N A ι H _ w L.defers hs ht p2
      refine ⟨w.heap.size, [], _, _, ?_, e2, ?_, ?_⟩
      · simp [Instr.enterLoop, run_getLoop l1]
      · have := VR.yld (A := A) (ι := upd ι H.length ⟨w.heap.size, 0, 0⟩) (H := H ++ [.loop true none tmps ps.toList asg body]) (w := w.alloc (.loop { state := .ready, pending := none, fn, tmps := vs, params := ps, assign := asg, body, defers := L.defers })) H.length (.loop true none tmps ps.toList asg body) (by simp) (by simp) (by simp)
        rw [upd_same] at this
        exact this
      · exact hd.keep e2.keep

theorem loopEnd_sound {P : Program} (hs : SR N A ι H w) {l b : Nat} (hl : VR A ι H w (.yld l) (.func (.yield b) #[] #[])) {x : X} (h : loopEnd H l = some (x, H')) :
    ∃ jump w' ι', (Instr.endLoop b).run P w = .ok jump w' ∧ Ext N A ι H w N A ι' H' w' ∧ (match x with | .normal => jump = none | .ret => jump = some .ret | .exit id => jump = some (.exit id)) := by
  have hb : b = (ι l).b := by cases hl; rfl
  subst hb
  have turn : ∀ (ready : Bool) (pend : Option Code) (tmps : List V) (ps : List Tmp) (asg body : Code) (L : Loop), H[l]? = some (.loop ready pend tmps ps asg body) → w.heap[(ι l).b]? = some (.loop L) →
      Ext N A ι H w N A (upd ι l (ι l)) (H.set l .gone) { w with heap := w.heap.setIfInBounds (ι l).b (.loop { L with state := .exhausted }) } := by
    intro ready pend tmps ps asg body L hid hL
    exact Ext.turn hs hid trivial (L := ι l) (.inl rfl) (fun k _ hk => by simp [Array.getElem?_setIfInBounds_ne (Ne.symm hk)]) (by simp) rfl rfl rfl (by simp [Later, upd_same]) fun keep => trivial
  have run : ∀ (L : Loop), w.heap[(ι l).b]? = some (.loop L) → L.state ≠ .busy → (Instr.endLoop (ι l).b).run P w = .ok L.pending { w with heap := w.heap.setIfInBounds (ι l).b (.loop { L with state := .exhausted }) } := by
    intro L hL hst
    have hst' : (L.state == LoopState.busy) = false := by cases hL : L.state <;> first | rfl | exact absurd hL hst
    have := run_setObj (P := P) (o' := .loop { L with state := .exhausted }) hL (fun _ _ _ e => by cases e)
    simp [Instr.endLoop, run_getLoop hL, hst, this]
  unfold loopEnd at h
  split at h
  · rename_i tmps ps asg body hid
    simp only [Option.some.injEq, Prod.mk.injEq] at h
    obtain ⟨rfl, rfl⟩ := h
    obtain ⟨L, l1, l2, l3, _⟩ := hs.live l _ hid
    exact ⟨_, _, _, run L l1 (by rw [l2]; simp), turn _ _ _ _ _ _ L hid l1, l3⟩
  · rename_i rd tmps ps asg body hid
    simp only [Option.some.injEq, Prod.mk.injEq] at h
    obtain ⟨rfl, rfl⟩ := h
    obtain ⟨L, l1, l2, l3, _⟩ := hs.live l _ hid
    exact ⟨_, _, _, run L l1 (by rw [l2]; cases rd <;> simp), turn _ _ _ _ _ _ L hid l1, l3⟩
  · rename_i rd id tmps ps asg body hid
    simp only [Option.some.injEq, Prod.mk.injEq] at h
    obtain ⟨rfl, rfl⟩ := h
    obtain ⟨L, l1, l2, l3, _⟩ := hs.live l _ hid
    exact ⟨_, _, _, run L l1 (by rw [l2]; cases rd <;> simp), turn _ _ _ _ _ _ L hid l1, l3⟩
  · cases h
end
end Go.Proofs.YtpmdlaojndejfaaGreatDoor.E
