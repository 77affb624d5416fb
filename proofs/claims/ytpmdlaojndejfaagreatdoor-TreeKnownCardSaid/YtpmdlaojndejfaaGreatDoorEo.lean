/- The evaluator's steps against the machine's: calls, rounds of loops over functions, regions. -/
import Derived.TacticsIn
import Derived.RangeFuncCalls
import Derived.Test.YtpmdlaojndejfaaGreatDoorEn
set_option linter.unusedVariables false
set_option linter.unusedSimpArgs false
namespace Go.Proofs.YtpmdlaojndejfaaGreatDoor.E
open Go

abbrev W (cro : Option Nat) : Fence := { Fence.wide with round := cro }
theorem calls_W {cro : Option Nat} {n : Nat} {P : Program} {f : FuncId} {args : Array Value} {w : World} {R : Ending → World → Prop} (h : Calls P f args w R) : CallsIn (W cro) n P f args w R := by
  have h1 : CallsIn Fence.wide n P f args w R := callsIn_wide.2 h
  cases cro with
  | none => exact h1
  | some l => exact CallsIn.inRound l h1
theorem round_W {cro : Option Nat} {n : Nat} {P : Program} {l : Nat} {f : FuncId} {tmps : Array Value} {asg body : Code} {w : World} {R : Ending → World → Prop} (h : RoundIn Fence.wide n P l f tmps asg body w R) :
    RoundIn (W cro) n P l f tmps asg body w R := by
  cases cro with
  | none => exact h
  | some l => exact h

/-- A loop's body, walked from where the loop has begun. -/
def LoopWp (F : Fence) (n : Nat) (P : Program) (c : Code) (Q : Exit → Act → World → Prop) (a : Act) (w : World) : Prop :=
  ∀ (b : Frame) (k : List Item) (cs : List Frame), b.roundOf = F.round → F.fn b.fn → F.room (cs.length + 1 + n) →
    ∃ e a' w', Q e a' w' ∧ ArrivesIn (Machine.fenced P F) P (lone (b.atR a (.code c :: .inLoop c :: k)) cs w) b k cs e a' w'
theorem LoopWp.wp {F : Fence} {n : Nat} {P : Program} {c : Code} {Q : Exit → Act → World → Prop} {a : Act} {w : World} (h : LoopWp F n P c Q a w) : (Code.loop c).wpIn F n P Q a w := by
  intro b k cs hro hb hr
  obtain ⟨e, a', w', hq, harr⟩ := h b k cs hro hb hr
  exact ⟨e, a', w', hq, .of_steps (.one (fenced_calm hb hr rfl) stepR_loop) harr⟩
theorem LoopWp.mono {F : Fence} {n : Nat} {P : Program} {c : Code} {Q Q' : Exit → Act → World → Prop} {a : Act} {w : World} (h : LoopWp F n P c Q a w) (hq : ∀ e a w, Q e a w → Q' e a w) : LoopWp F n P c Q' a w :=
  fun b k cs hro hb hr => let ⟨e, a', w', q, r⟩ := h b k cs hro hb hr; ⟨e, a', w', hq _ _ _ q, r⟩
theorem LoopWp.of {F : Fence} {n : Nat} {P : Program} {c : Code} {Q : Exit → Act → World → Prop} {a : Act} {w : World} (h : c.wpIn F n P (Exit.then (LoopWp F n P c Q) Q) a w) : LoopWp F n P c Q a w := by
  intro b k cs hro hb hr
  obtain ⟨e, a₁, w₁, hq, harr⟩ := h b (.inLoop c :: k) cs hro hb hr
  cases e with
  | normal =>
    obtain ⟨e₂, a₂, w₂, hq₂, harr₂⟩ := hq b k cs hro hb hr
    exact ⟨e₂, a₂, w₂, hq₂, .of_steps (StepsIn.trans harr (.one (fenced_calm hb hr rfl) stepR_inLoop)) harr₂⟩
  | exit id => exact ⟨_, a₁, w₁, hq, .pass (x := .inLoop c) rfl (fun _ _ => .inl (by simp)) harr⟩
  | goto l => exact ⟨_, a₁, w₁, hq, .pass (x := .inLoop c) rfl (fun _ _ => .inl (by simp)) harr⟩
  | ret => exact ⟨_, a₁, w₁, hq, .pass (x := .inLoop c) rfl (fun _ _ => .inl (by simp)) harr⟩
  | panic ch => exact ⟨_, a₁, w₁, hq, .pass (x := .inLoop c) rfl (fun _ _ => .inl (by simp)) harr⟩
  | outgrown => exact ⟨_, a₁, w₁, hq, .pass (x := .inLoop c) rfl (fun _ _ => .inl (by simp)) harr⟩

def CW (F : Fence) (n : Nat) (P : Program) (c : Code) (Q : Exit → Act → World → Prop) (a : Act) (w : World) : Prop :=
  match c with
  | .loop b => LoopWp F n P b Q a w
  | c => c.wpIn F n P Q a w
theorem CW.wp {F : Fence} {n : Nat} {P : Program} {c : Code} {Q : Exit → Act → World → Prop} {a : Act} {w : World} (h : CW F n P c Q a w) : c.wpIn F n P Q a w := by
  cases c <;> first | exact h | exact LoopWp.wp h

section
variable {N A : Nat → Prop} {ι : Nat → Lk} {H H' : Heap} {w : World}

def DR (A : Nat → Prop) (ι : Nat → Lk) (H : Heap) (w : World) (ds : List Nat) (dl : List Deferred) : Prop :=
  ds.length = dl.length ∧ ∀ (i d : Nat) (D : Deferred), ds[i]? = some d → dl[i]? = some D → ∃ b, D = { target := .collected b, args := #[] } ∧ VR A ι H w (.mp d) (.map (some b))
theorem DR.keep {A' : Nat → Prop} {ι' : Nat → Lk} {H' : Heap} {w' : World} (k : ∀ v cv, VR A ι H w v cv → VR A' ι' H' w' v cv) {ds : List Nat} {dl : List Deferred} (h : DR A ι H w ds dl) : DR A' ι' H' w' ds dl :=
  ⟨h.1, fun i d D a b => by obtain ⟨x, p, q⟩ := h.2 i d D a b; exact ⟨x, p, k _ _ q⟩⟩
theorem DR.nil : DR A ι H w [] [] := ⟨rfl, fun i d D a => by simp at a⟩

def RoR (A : Nat → Prop) (ι : Nat → Lk) (H : Heap) (w : World) : Option Nat → Option Nat → Prop
  | none, none => True
  | some id, some b => VR A ι H w (.yld id) (.func (.yield b) #[] #[])
  | _, _ => False
theorem RoR.keep {A' : Nat → Prop} {ι' : Nat → Lk} {H' : Heap} {w' : World} (k : ∀ v cv, VR A ι H w v cv → VR A' ι' H' w' v cv) {r c : Option Nat} (h : RoR A ι H w r c) : RoR A' ι' H' w' r c := by
  cases r <;> cases c <;> first | exact h | exact k _ _ h

def XR : X → Exit → Prop
  | .normal, .normal => True
  | .exit id, .exit id' => id = id'
  | .ret, .ret => True
  | _, _ => False

/-- What code comes to. -/
def XQ (N A : Nat → Prop) (ι : Nat → Lk) (H : Heap) (w : World) (x : X) (s' : St) : Exit → Act → World → Prop :=
  fun e a' w' => XR x e ∧ ∃ N' A' ι', Ext N A ι H w N' A' ι' s'.H w' ∧ TR A' ι' s'.H w' s'.tmps a'.tmps ∧ DR A' ι' s'.H w' s'.ds a'.defers

def CodeSound (E : Env) (code : Option Nat → Code → St → Option (X × St)) : Prop :=
  ∀ (ro : Option Nat) (c : Code) (s : St) (x : X) (s' : St), code ro c s = some (x, s') → ∀ (N A : Nat → Prop) (ι : Nat → Lk) (w : World) (cro : Option Nat) (a : Act) (n : Nat),
    SR N A ι s.H w → GR E A ι s.H w → TR A ι s.H w s.tmps a.tmps → RoR A ι s.H w ro cro → DR A ι s.H w s.ds a.defers → CW (W cro) n E.P c (XQ N A ι s.H w x s') a w

/-- What is told of library functions. -/
def PrimSound (E : Env) : Prop :=
  ∀ (f : FuncId) (p : List V → Heap → Option (V × Heap)), E.prim f = some p → Sound E (fun g args H => if g = f then p args H else none)

def StepOut (P : Program) (N A : Nat → Prop) (ι : Nat → Lk) (H : Heap) (w : World) (s : Sem Next) (v : V) (H' : Heap) : Prop :=
  OpOut P N A ι H w s v H' ∨ (∃ f cargs, s.run P w = .ok (.enter f cargs) w ∧ Calls P f cargs w (Res N A ι H w v H')) ∨
  ∃ l f tmps asg body, s.run P w = .ok (.round l f tmps asg body) w ∧ ∀ n, RoundIn Fence.wide n P l f tmps asg body w (Res N A ι H w v H')

theorem run_callFunc {P : Program} {f : FuncId} (h1 : goodFn P f = true) (h2 : bodyless P f = false) (args : Array Value) (w : World) : (callFunc f args).run P w = .ok (.enter f args) w := by
  unfold goodFn at h1
  unfold bodyless at h2
  cases hf : P.funcs[f]? with
  | none => rw [hf] at h1; cases h1
  | some fn =>
    rw [hf] at h1 h2
    simp only [Bool.not_eq_true'] at h1
    have h1' : ¬ (fn.name = "runtime.NumGoroutine") := fun e => by rw [e] at h1; simp at h1
    have h2' : ¬ (fn.body = none) := fun e => by simp [e] at h2
    simp [callFunc, hf, h1', h2']

theorem values_eq : ∀ {args : List V} {xs : List Value} {cargs : Array Value}, valuesOf args = some xs → TR A ι H w args cargs → cargs = xs.toArray := by
  have key : ∀ (args : List V) (xs : List Value), valuesOf args = some xs → xs.length = args.length ∧ ∀ (i : Nat) (v : V) (x : Value), args[i]? = some v → xs[i]? = some x → toValue? v = some x := by
    intro args
    induction args with
    | nil => intro xs h; simp [valuesOf] at h; subst h; exact ⟨rfl, fun i v x a => by simp at a⟩
    | cons v vs ih =>
      intro xs h
      simp only [valuesOf, Option.bind_eq_some_iff, Option.map_eq_some_iff] at h
      obtain ⟨x, hx, ys, hys, rfl⟩ := h
      obtain ⟨q1, q2⟩ := ih ys hys
      refine ⟨by simp [q1], fun i v' x' a b => ?_⟩
      cases i with
      | zero => simp at a b; subst a b; exact hx
      | succ i => simp at a b; exact q2 i v' x' a b
  intro args xs cargs h ht
  obtain ⟨q1, q2⟩ := key args xs h
  apply Array.ext_getElem?
  intro i
  rcases Nat.lt_or_ge i args.length with hi | hi
  · have hi' : i < cargs.size := ht.1 ▸ hi
    have e1 : args[i]? = some args[i] := by simp [hi]
    have e2 : cargs[i]? = some cargs[i] := by simp [hi']
    have e3 : xs[i]? = some (xs[i]'(q1 ▸ hi)) := by simp
    rw [e2, toValue_eq (q2 i _ _ e1 e3) (ht.2 i _ _ e1 e2)]
    simp [q1 ▸ hi]
  · rw [Array.getElem?_eq_none (ht.1 ▸ hi), Array.getElem?_eq_none (by simp; omega)]

theorem callE_sound {E : Env} {self : Self} (hself : Sound E self.call) (hprim : PrimSound E) (hs : SR N A ι H w) (hg : GR E A ι H w) {f : FuncId} {args : List V} {cargs : Array Value} (ht : TR A ι H w args cargs) {nid : Nat} {v : V}
    (h : callE E self f args nid H = some (v, H')) : StepOut E.P N A ι H w (callFunc f cargs) v H' := by
  unfold callE at h
  split at h
  · cases h
  rename_i hgood
  have hgood : goodFn E.P f = true := by simpa using hgood
  split at h
  · rename_i p hp
    split at h
    · cases h
    rename_i hb
    have hb : bodyless E.P f = false := by simpa using hb
    exact .inr (.inl ⟨f, cargs, run_callFunc hgood hb cargs w, hprim f p hp f args H v H' (by simpa using h) N A ι w cargs hs hg ht⟩)
  · split at h
    · simp only [Option.bind_eq_some_iff] at h
      obtain ⟨xs, hxs, h⟩ := h
      split at h
      · rename_i y hy
        simp only [Option.some.injEq, Prod.mk.injEq] at h
        obtain ⟨rfl, rfl⟩ := h
        rw [values_eq hxs ht]
        exact .inl (.still hs (run_of_pure E.P _ _ hy w) (.ofValue y))
      · cases h
    rename_i hb
    have hb : bodyless E.P f = false := by simpa using hb
    split at h
    · exact .inr (.inl ⟨f, cargs, run_callFunc hgood hb cargs w, hself f args H v H' h N A ι w cargs hs hg ht⟩)
    · simp only [Option.bind_eq_some_iff] at h
      obtain ⟨args', h1, r, h2, h⟩ := h
      split at h
      · rename_i h3
        rw [Bool.and_eq_true] at h3
        obtain ⟨h3, _⟩ := h3
        simp only [Option.map_eq_some_iff, Prod.mk.injEq] at h
        obtain ⟨H2, h4, rfl, rfl⟩ := h
        exact .inr (.inl ⟨f, cargs, run_callFunc hgood hb cargs w, pure_sound hself hs hg ht h1 h2 h3 h4⟩)
      · cases h

theorem setAll_sound : ∀ {ps : List Tmp} {vs : List V} {xs : List Value} {ts : List V} {tx : Array Value}, TR A ι H w ts tx → vs.length = xs.length →
    (∀ (i : Nat) (v : V) (x : Value), vs[i]? = some v → xs[i]? = some x → VR A ι H w v x) →
    TR A ι H w (setAll ts ps vs) ((ps.zip xs).foldl (fun t (p : Tmp × Value) => t.setIfInBounds p.1 p.2) tx)
  | [], vs, xs, ts, tx, ht, hl, hv => by cases vs <;> exact ht
  | p :: ps, [], xs, ts, tx, ht, hl, hv => by
    have : xs = [] := List.length_eq_zero_iff.1 (by simpa using hl.symm)
    subst this; exact ht
  | p :: ps, v :: vs, [], ts, tx, ht, hl, hv => by simp at hl
  | p :: ps, v :: vs, x :: xs, ts, tx, ht, hl, hv => by
    simp only [setAll, List.zip_cons_cons, List.foldl_cons]
    refine setAll_sound ?_ (by simpa using hl) fun i v x a b => hv (i + 1) v x (by simpa using a) (by simpa using b)
    exact TR.put (ds := []) ht (hv 0 v x (by simp) (by simp)) (some p)

theorem run_getLoop {P : Program} {b : Nat} {L : Loop} (h : w.heap[b]? = some (.loop L)) : (Instr.getLoop b).run P w = .ok L w := by
  simp [Instr.getLoop, run_getObj h (fun _ _ _ e => by cases e)]

/-- A loop's record is turned. -/
theorem loopAt_sound {P : Program} (hs : SR N A ι H w) {l : Nat} {old ready : Bool} {pend : Option Code} (h : loopAt H l old ready pend = some H') {L : Loop} (hL : w.heap[(ι l).b]? = some (.loop L)) :
    L.state = (if old then .ready else .busy) ∧ L.pending = none ∧ ∀ st, st = (if ready then LoopState.ready else match pend with | none => .busy | some _ => .done) →
      ∃ ι', (setObj (ι l).b (.loop { L with state := st, pending := pend })).run P w = .ok () { w with heap := w.heap.setIfInBounds (ι l).b (.loop { L with state := st, pending := pend }) } ∧
        Ext N A ι H w N A ι' H' { w with heap := w.heap.setIfInBounds (ι l).b (.loop { L with state := st, pending := pend }) } := by
  unfold loopAt at h
  split at h
  case h_2 => cases h
  rename_i r tmps ps asg body hid
  split at h
  case isFalse => cases h
  rename_i hr
  subst hr
  simp only [Option.some.injEq] at h; subst h
  obtain ⟨L', l1, l2, l3, l4, l5, l6, l7, l8⟩ := hs.live l _ hid
  rw [l1] at hL
  cases hL
  have hlt : (ι l).b < w.heap.size := (Array.getElem?_eq_some_iff.1 l1).1
  refine ⟨l2, l3, fun st hst => ⟨upd ι l (ι l), run_setObj l1 (fun _ _ _ e => by cases e), ?_⟩⟩
  refine Ext.turn hs hid trivial (L := ι l) (.inl rfl) (fun k _ hk => by simp [Array.getElem?_setIfInBounds_ne (Ne.symm hk)]) (by simp) rfl rfl rfl (by simp [Later, upd_same]) fun keep => ?_
  exact ⟨{ L with state := st, pending := pend }, by rw [upd_same]; simp [hlt], hst, rfl, l4, l5, l6, l7, fun i x cv a b => keep _ _ (l8 i x cv a b)⟩

theorem yieldE_sound {E : Env} {self : Self} (hcode : CodeSound E self.code) (hs : SR N A ι H w) (hg : GR E A ι H w) {l b : Nat} (hl : VR A ι H w (.yld l) (.func (.yield b) #[] #[])) {args : List V} {cargs : Array Value}
    (ht : TR A ι H w args cargs) {v : V} (h : yieldE self l args H = some (v, H')) :
    ∃ L : Loop, (Instr.yield b cargs).run E.P w = .ok (.round b L.fn ((L.params.zip cargs).foldl (fun tmps (t, a) => tmps.setIfInBounds t a) L.tmps) L.assign L.body) w ∧
      ∀ n, RoundIn Fence.wide n E.P b L.fn ((L.params.zip cargs).foldl (fun tmps (t, a) => tmps.setIfInBounds t a) L.tmps) L.assign L.body w (Res N A ι H w v H') := by
  have hb : b = (ι l).b := by cases hl; rfl
  subst hb
  unfold yieldE at h
  split at h
  case h_2 => cases h
  rename_i tmps ps asg body hid
  split at h
  case isFalse => cases h
  rename_i hlen
  obtain ⟨L, l1, l2, l3, l4, l5, l6, l7, l8⟩ := hs.live l _ hid
  refine ⟨L, ?_, fun n => roundIn_of_wpIn trivial ?_⟩
  · have : cargs.size = L.params.size := by rw [l4, ← ht.1, hlen]; simp
    simp [Instr.yield, run_getLoop l1, this]
  simp only [Option.bind_eq_some_iff] at h
  obtain ⟨⟨x1, s1⟩, h1, h⟩ := h
  cases x1 with
  | exit id => cases h
  | ret => cases h
  | normal =>
  simp only at h
  split at h
  · cases h
  rename_i hds
  have hds : s1.ds = [] := by simpa using hds
  simp only [Option.bind_eq_some_iff] at h
  obtain ⟨H1, hH1, ⟨x2, s2⟩, h2, h⟩ := h
  have t0 : TR A ι H w (setAll tmps ps args) ((L.params.zip cargs).foldl (fun tmps (t, a) => tmps.setIfInBounds t a) L.tmps) := by
    have := setAll_sound (ps := ps) (xs := cargs.toList) (⟨l7.symm, l8⟩ : TR A ι H w tmps L.tmps) (by simpa using ht.1) (fun i v x a b => ht.2 i v x a (by simpa using b))
    rw [l4]
    rw [← Array.foldl_toList]
    simpa [Array.toList_zip] using this
  have c1 := (hcode (some l) asg _ _ _ h1 N A ι w (some (ι l).b) { tmps := (L.params.zip cargs).foldl (fun tmps (t, a) => tmps.setIfInBounds t a) L.tmps, defers := [] } n hs hg t0 hl DR.nil).wp
  rw [l5, l6]
  refine wpIn_mono c1 fun e a1 w1 hq => ?_
  obtain ⟨hx, N1, A1, ι1, e1, t1, d1⟩ := hq
  cases e with
  | normal =>
    -- the round begins
    have hl1 := e1.keep _ _ hl
    have hb1 : (ι1 l).b = (ι l).b := by
      generalize (ι l).b = b0 at hl1
      cases hl1; rfl
    have hk1 : ∃ L1 : Loop, w1.heap[(ι1 l).b]? = some (.loop L1) := by
      unfold loopAt at hH1
      split at hH1
      case h_2 => cases hH1
      rename_i hid1
      obtain ⟨L1, q1, _⟩ := e1.sr.live l _ hid1
      exact ⟨L1, q1⟩
    obtain ⟨L1, k1⟩ := hk1
    obtain ⟨m1, m2, m3⟩ := loopAt_sound (P := E.P) e1.sr hH1 k1
    obtain ⟨ι2, m4, m5⟩ := m3 .busy rfl
    rw [hb1] at k1 m4 m5
    have hL1 : { L1 with state := LoopState.busy, pending := none } = { L1 with state := LoopState.busy } := by rw [← m2]
    rw [hL1] at m4 m5
    refine ⟨_, by simp [Instr.beginRound, run_getLoop k1, m4, show L1.state = .ready from m1]; rfl, ?_⟩
    have e2 := e1.trans m5
    have hd1 : a1.defers = [] := by
      have := d1.1; rw [hds] at this; exact List.length_eq_zero_iff.1 this.symm
    have c2 := (hcode (some l) body _ _ _ h2 N1 A1 ι2 _ (some (ι l).b) a1 n m5.sr (GR.keep e1.sr (GR.keep hs hg e1) m5) (t1.keep m5.keep) (e2.keep _ _ hl) (by rw [hd1]; exact DR.nil)).wp
    refine wpIn_mono c2 fun ex a2 w2 hq => ?_
    obtain ⟨hx2, N2, A2, ι3, e3, t2, d2⟩ := hq
    have e4 := e2.trans e3
    have hl3 := e4.keep _ _ hl
    have hb3 : (ι3 l).b = (ι l).b := by
      generalize (ι l).b = b0 at hl3
      cases hl3; rfl
    -- the round ends
    have fin : ∀ (old ready : Bool) (pend : Option Code) (H3 : Heap), loopAt s2.H l false ready pend = some H3 → ready = pend.isNone → 
        ∃ w3, (Instr.endRound (ι l).b pend).run E.P w2 = .ok (.bool pend.isNone) w3 ∧ Res N A ι H w (.lit (.bool ready)) H3 (.returned (.bool pend.isNone)) w3 := by
      intro old ready pend H3 hla hre
      have hk3 : ∃ L3 : Loop, w2.heap[(ι3 l).b]? = some (.loop L3) := by
        unfold loopAt at hla
        split at hla
        case h_2 => cases hla
        rename_i hid1
        obtain ⟨L1, q1, _⟩ := e3.sr.live l _ hid1
        exact ⟨L1, q1⟩
      obtain ⟨L3, k3⟩ := hk3
      obtain ⟨_, _, q3⟩ := loopAt_sound (P := E.P) e3.sr hla k3
      cases pend with
      | none =>
        obtain ⟨ι4, q4, q5⟩ := q3 .ready (by subst hre; rfl)
        rw [hb3] at k3 q4 q5
        refine ⟨_, by simp [Instr.endRound, run_getLoop k3, q4], .bool true, N2, A2, ι4, rfl, e4.trans q5, ?_⟩
        rw [hre]; exact .lit _
      | some c =>
        obtain ⟨ι4, q4, q5⟩ := q3 .done (by subst hre; rfl)
        rw [hb3] at k3 q4 q5
        refine ⟨_, by simp [Instr.endRound, run_getLoop k3, q4], .bool false, N2, A2, ι4, rfl, e4.trans q5, ?_⟩
        rw [hre]; exact .lit _
    cases x2 with
    | normal =>
      cases ex <;> simp [XR] at hx2
      simp only [Option.map_eq_some_iff, Prod.mk.injEq] at h
      obtain ⟨H3, hla, rfl, rfl⟩ := h
      obtain ⟨w3, r1, r2⟩ := fin false true none H3 hla rfl
      exact ⟨_, w3, r1, r2⟩
    | ret =>
      cases ex <;> simp [XR] at hx2
      simp only [Option.map_eq_some_iff, Prod.mk.injEq] at h
      obtain ⟨H3, hla, rfl, rfl⟩ := h
      obtain ⟨w3, r1, r2⟩ := fin false false (some .ret) H3 hla rfl
      exact ⟨_, w3, r1, r2⟩
    | exit id =>
      cases ex <;> simp [XR] at hx2
      subst hx2
      simp only [Option.map_eq_some_iff, Prod.mk.injEq] at h
      obtain ⟨H3, hla, rfl, rfl⟩ := h
      obtain ⟨w3, r1, r2⟩ := fin false false (some (.exit id)) H3 hla rfl
      exact ⟨_, w3, r1, r2⟩
  | _ => exact hx.elim
end
end Go.Proofs.YtpmdlaojndejfaaGreatDoor.E
