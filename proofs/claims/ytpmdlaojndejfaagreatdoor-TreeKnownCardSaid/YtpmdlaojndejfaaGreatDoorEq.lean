/- The evaluator against the machine: the theorem. -/
import Derived.Test.YtpmdlaojndejfaaGreatDoorFa
set_option linter.unusedVariables false
set_option linter.unusedSimpArgs false
namespace Go.Proofs.YtpmdlaojndejfaaGreatDoor.E
open Go

section
variable {N A : Nat → Prop} {ι : Nat → Lk} {H H' : Heap} {w : World}

theorem XQ.of {N1 A1 : Nat → Prop} {ι1 : Nat → Lk} {H1 : Heap} {w1 : World} {x : X} {s' : St} (e1 : Ext N A ι H w N1 A1 ι1 H1 w1) {e : Exit} {a' : Act} {w' : World} (h : XQ N1 A1 ι1 H1 w1 x s' e a' w') : XQ N A ι H w x s' e a' w' := by
  obtain ⟨hx, N', A', ι', e2, t, d⟩ := h
  exact ⟨hx, N', A', ι', e1.trans e2, t, d⟩

theorem codeE_sound {E : Env} {self : Self} (hself : Sound E self.call) (hcode : CodeSound E self.code) (hprim : PrimSound E) (fcall : FillCall self.call) (fcode : FillCode self.code) (fprim : PrimFill E) : CodeSound E (codeE E self) := by
  intro ro c
  induction c with
  | skip =>
    intro s x s' h N A ι w cro a n hs hg ht hro hd
    simp only [codeE, Option.some.injEq, Prod.mk.injEq] at h
    obtain ⟨rfl, rfl⟩ := h
    exact wpIn_skip ⟨trivial, N, A, ι, Ext.refl hs, ht, hd⟩
  | region id ops draw =>
    intro s x s' h N A ι w cro a n hs hg ht hro hd
    simp only [codeE] at h
    split at h
    · rename_i hdraw
      subst hdraw
      simp only [Option.map_eq_some_iff, Prod.mk.injEq] at h
      obtain ⟨s1, h1, rfl, rfl⟩ := h
      exact regionD_sound hself hcode hprim fcall fcode fprim h1 hs hg ht hd fun a' w' N' A' ι' e t d => ⟨trivial, N', A', ι', e, t, d⟩
    rename_i hdraw
    have hdraw : draw = false := by simpa using hdraw
    subst hdraw
    simp only [Option.map_eq_some_iff, Prod.mk.injEq] at h
    obtain ⟨s1, h1, rfl, rfl⟩ := h
    exact wpIn_region_list (regionE_sound hself hcode hprim ops.toList s s1 N A ι w a h1 hs hg ht hd fun a' w' N' A' ι' e t d => ⟨trivial, N', A', ι', e, t, d⟩)
  | seq c1 c2 ih1 ih2 =>
    intro s x s' h N A ι w cro a n hs hg ht hro hd
    simp only [codeE, Option.bind_eq_some_iff] at h
    obtain ⟨⟨x1, s1⟩, h1, h⟩ := h
    refine wpIn_seq (wpIn_mono (ih1 s x1 s1 h1 N A ι w cro a n hs hg ht hro hd).wp fun e a1 w1 hq => ?_)
    obtain ⟨hx, N1, A1, ι1, e1, t1, d1⟩ := hq
    cases x1 with
    | normal =>
      cases e <;> simp [XR] at hx
      simp only at h
      exact wpIn_mono (ih2 s1 x s' h N1 A1 ι1 w1 cro a1 n e1.sr (GR.keep hs hg e1) t1 (hro.keep e1.keep) d1).wp fun e a2 w2 hq => hq.of e1
    | exit id =>
      cases e <;> simp [XR] at hx
      subst hx
      simp only [Option.some.injEq, Prod.mk.injEq] at h
      obtain ⟨rfl, rfl⟩ := h
      exact ⟨rfl, N1, A1, ι1, e1, t1, d1⟩
    | ret =>
      cases e <;> simp [XR] at hx
      simp only [Option.some.injEq, Prod.mk.injEq] at h
      obtain ⟨rfl, rfl⟩ := h
      exact ⟨trivial, N1, A1, ι1, e1, t1, d1⟩
  | cond cc c1 c2 ih1 ih2 =>
    intro s x s' h N A ι w cro a n hs hg ht hro hd
    simp only [codeE] at h
    split at h
    case h_2 => cases h
    rename_i t hc
    have e : a.eval cc = .bool t := litOf_eq (v := .lit (.bool t)) rfl (hc ▸ ht.eval cc)
    refine wpIn_cond e ?_
    cases t
    · exact (ih2 s x s' h N A ι w cro a n hs hg ht hro hd).wp
    · exact (ih1 s x s' h N A ι w cro a n hs hg ht hro hd).wp
  | block id b ih =>
    intro s x s' h N A ι w cro a n hs hg ht hro hd
    simp only [codeE, Option.bind_eq_some_iff] at h
    obtain ⟨⟨x1, s1⟩, h1, h⟩ := h
    refine wpIn_block (wpIn_mono (ih s x1 s1 h1 N A ι w cro a n hs hg ht hro hd).wp fun e a1 w1 hq => ?_)
    obtain ⟨hx, N1, A1, ι1, e1, t1, d1⟩ := hq
    cases x1 with
    | normal =>
      cases e <;> simp [XR] at hx
      simp only [Option.some.injEq, Prod.mk.injEq] at h
      obtain ⟨rfl, rfl⟩ := h
      exact ⟨trivial, N1, A1, ι1, e1, t1, d1⟩
    | exit i =>
      cases e <;> simp [XR] at hx
      subst hx
      simp only at h
      simp only [Exit.inBlock]
      split at h
      · rename_i hi
        rw [if_pos hi]
        simp only [Option.some.injEq, Prod.mk.injEq] at h
        obtain ⟨rfl, rfl⟩ := h
        exact ⟨trivial, N1, A1, ι1, e1, t1, d1⟩
      · rename_i hi
        rw [if_neg hi]
        simp only [Option.some.injEq, Prod.mk.injEq] at h
        obtain ⟨rfl, rfl⟩ := h
        exact ⟨rfl, N1, A1, ι1, e1, t1, d1⟩
    | ret =>
      cases e <;> simp [XR] at hx
      simp only [Option.some.injEq, Prod.mk.injEq] at h
      obtain ⟨rfl, rfl⟩ := h
      exact ⟨trivial, N1, A1, ι1, e1, t1, d1⟩
  | loop b ih =>
    intro s x s' h N A ι w cro a n hs hg ht hro hd
    simp only [codeE, Option.bind_eq_some_iff] at h
    obtain ⟨⟨x1, s1⟩, h1, h⟩ := h
    refine LoopWp.of (wpIn_mono (ih s x1 s1 h1 N A ι w cro a n hs hg ht hro hd).wp fun e a1 w1 hq => ?_)
    obtain ⟨hx, N1, A1, ι1, e1, t1, d1⟩ := hq
    cases x1 with
    | normal =>
      cases e <;> simp [XR] at hx
      simp only at h
      have h2 : LoopWp (W cro) n E.P b (XQ N1 A1 ι1 s1.H w1 x s') a1 w1 := hcode ro (.loop b) s1 x s' h N1 A1 ι1 w1 cro a1 n e1.sr (GR.keep hs hg e1) t1 (hro.keep e1.keep) d1
      exact h2.mono fun e a2 w2 hq => hq.of e1
    | exit i =>
      cases e <;> simp [XR] at hx
      subst hx
      simp only [Option.some.injEq, Prod.mk.injEq] at h
      obtain ⟨rfl, rfl⟩ := h
      exact ⟨rfl, N1, A1, ι1, e1, t1, d1⟩
    | ret =>
      cases e <;> simp [XR] at hx
      simp only [Option.some.injEq, Prod.mk.injEq] at h
      obtain ⟨rfl, rfl⟩ := h
      exact ⟨trivial, N1, A1, ι1, e1, t1, d1⟩
  | exit id =>
    intro s x s' h N A ι w cro a n hs hg ht hro hd
    simp only [codeE, Option.some.injEq, Prod.mk.injEq] at h
    obtain ⟨rfl, rfl⟩ := h
    exact wpIn_exit ⟨rfl, N, A, ι, Ext.refl hs, ht, hd⟩
  | ret =>
    intro s x s' h N A ι w cro a n hs hg ht hro hd
    simp only [codeE, Option.some.injEq, Prod.mk.injEq] at h
    obtain ⟨rfl, rfl⟩ := h
    exact wpIn_ret ⟨trivial, N, A, ι, Ext.refl hs, ht, hd⟩
  | rangeFunc g ps asg body ih1 ih2 =>
    intro s x s' h N A ι w cro a n hs hg ht hro hd
    simp only [codeE] at h
    split at h
    case h_2 => cases h
    rename_i f caps hgv
    split at h
    · cases h
    rename_i hfn
    rw [not_or] at hfn
    obtain ⟨hgood, hbody⟩ := hfn
    have hgood : goodFn E.P f = true := by simpa using hgood
    have hbody : bodyless E.P f = false := by simpa using hbody
    simp only [Option.bind_eq_some_iff, Option.map_eq_some_iff, Prod.mk.injEq] at h
    obtain ⟨⟨l, H0, ds⟩, h1, ⟨v, H1⟩, h2, ⟨x1, H2⟩, h3, rfl, rfl⟩ := h
    have hgr := ht.eval g
    rw [hgv] at hgr
    generalize hev : a.eval g = cg at hgr
    cases hgr with
    | fn _ _ vs hl hv =>
    refine wpIn_rangeFunc fun fn _ => ?_
    obtain ⟨b, mark, w1, ι1, k1, k2, k3, k4⟩ := loopBegin_sound (P := E.P) hs hro hd ht h1 fn
    refine ⟨b, mark, w1, { target := .fn (.func f) vs, args := #[.func (.yield b) #[] #[]] }, w1, f, #[.func (.yield b) #[] #[]] ++ vs, w1, k1, ?_, fun _ _ => trivial, ?_, fun h => by simp [W, Fence.wide] at h, ?_⟩
    · simp only [rangeCall, resolve, hev, Deferred.ofValue]
      show Sem.run E.P (pure _) w1 = _
      simp [Act.eval]
    · simp only [invoke]
      exact run_callFunc hgood hbody _ w1
    · have ta : TR A ι1 H0 w1 (.yld l :: caps) (#[.func (.yield b) #[] #[]] ++ vs) :=
        TR.append (l1 := [.yld l]) ⟨rfl, fun i x cv p q => by
          cases i with
          | zero => simp at p q; subst p q; exact k3
          | succ i => simp at p⟩ (TR.keep k2.keep ⟨hl, hv⟩)
      refine calls_W ((hself f (.yld l :: caps) H0 v H1 h2 N A ι1 w1 _ k2.sr (GR.keep hs hg k2) ta).mono ?_)
      rintro e w3 ⟨cv, N3, A3, ι3, rfl, e3, _⟩
      obtain ⟨jump, w4, ι4, m1, m2, m3⟩ := loopEnd_sound (P := E.P) e3.sr (e3.keep _ _ k3) h3
      have e4 := k2.trans (e3.trans m2)
      have t4 := ht.keep e4.keep
      have d4 := k4.keep fun v cv x => m2.keep _ _ (e3.keep _ _ x)
      refine ⟨jump, w4, m1, ?_⟩
      cases x1 with
      | normal =>
        simp only at m3; subst m3
        exact ⟨trivial, N3, A3, ι4, e4, t4, d4⟩
      | ret =>
        simp only at m3; subst m3
        exact wpIn_ret ⟨trivial, N3, A3, ι4, e4, t4, d4⟩
      | exit id =>
        simp only at m3; subst m3
        exact wpIn_exit ⟨rfl, N3, A3, ι4, e4, t4, d4⟩
  | scope b ih =>
    intro s x s' h
    simp [codeE] at h
  | label l => intro s x s' h; simp [codeE] at h
  | goto l => intro s x s' h; simp [codeE] at h
  | refuse y => intro s x s' h; simp [codeE] at h

theorem unmark_sound {P : Program} {fn : Func} {tmps : Array Value} {R : Ending → World → Prop} {n : Nat} : ∀ {ds : List Nat} {dl : List Deferred} {N A : Nat → Prop} {ι : Nat → Lk} {H H' : Heap} {w : World}, unmark H ds = some H' → SR N A ι H w → DR A ι H w ds dl →
    (∀ w' ι', Ext N A ι H w N A ι' H' w' → ∃ v, (results fn tmps).run P w' = .ok v w' ∧ R (.returned v) w') → LeavesInM Fence.wide n P fn tmps R dl .returning w
  | [], dl, N, A, ι, H, H', w, h, hs, hd, hr => by
    simp only [unmark, Option.some.injEq] at h; subst h
    have : dl = [] := List.length_eq_zero_iff.1 hd.1.symm
    subst this
    exact hr w ι (Ext.refl hs)
  | d :: ds, [], N, A, ι, H, H', w, h, hs, hd, hr => by simp [DR] at hd
  | d :: ds, D :: dl, N, A, ι, H, H', w, h, hs, hd, hr => by
    simp only [unmark] at h
    split at h
    case h_2 => cases h
    rename_i hid
    obtain ⟨b, rfl, hb⟩ := hd.2 0 d D (by simp) (by simp)
    have hb' : b = (ι d).b := by cases hb; rfl
    subst hb'
    have hk := hs.live d _ hid
    simp only [BR] at hk
    have hst := run_setObj (P := P) (o' := .deferred none) hk (fun _ _ _ e => by cases e)
    have e1 : Ext N A ι H w N A (upd ι d (ι d)) (H.set d .gone) { w with heap := w.heap.setIfInBounds (ι d).b (.deferred none) } :=
      Ext.turn hs hid trivial (L := ι d) (.inl rfl) (fun k _ hk => by simp [Array.getElem?_setIfInBounds_ne (Ne.symm hk)]) (by simp) rfl rfl rfl (by simp [Later, upd_same]) fun keep => trivial
    refine ⟨by simp, .inl ⟨(ι d).b, { w with heap := w.heap.setIfInBounds (ι d).b (.deferred none) }, rfl, by simp [Instr.takeDeferred, run_getObj hk (fun _ _ _ e => by cases e), hst], ?_⟩⟩
    refine unmark_sound h e1.sr ⟨by simpa using hd.1, fun i d' D' p q => ?_⟩ fun w' ι' e2 => hr w' ι' (e1.trans e2)
    obtain ⟨b', p', q'⟩ := hd.2 (i + 1) d' D' (by simpa using p) (by simpa using q)
    exact ⟨b', p', e1.keep _ _ q'⟩

def resSem (tmps : Array Value) : ResultVar → Sem Value
  | .tmp t => pure (tmps.getD t undef)
  | .cell b t => do loadVar t (← asAddr (tmps.getD b undef))
theorem results_eq (fn : Func) (tmps : Array Value) : results fn tmps = (do let vs ← fn.results.mapM (resSem tmps); pure (if h : vs.size = 1 then vs[0] else .tuple vs)) := rfl

theorem resE_sound {E : Env} (hs : SR N A ι H w) (hg : GR E A ι H w) {tmps : List V} {a : Act} (ht : TR A ι H w tmps a.tmps) : ∀ {rs : List ResultVar} {vs : List V}, resE E tmps H rs = some vs →
    ∃ xs : List Value, (rs.mapM (resSem a.tmps)).run E.P w = .ok xs w ∧ vs.length = xs.length ∧ ∀ (i : Nat) (v : V) (x : Value), vs[i]? = some v → xs[i]? = some x → VR A ι H w v x
  | [], vs, h => by simp [resE] at h; subst h; exact ⟨[], by simp, rfl, fun i v x a => by simp at a⟩
  | .tmp t :: rs, vs, h => by
    simp only [resE, Option.map_eq_some_iff] at h
    obtain ⟨vs', h1, rfl⟩ := h
    obtain ⟨xs, r1, r2, r3⟩ := resE_sound hs hg ht h1
    have hr : (resSem a.tmps (.tmp t)).run E.P w = .ok (a.eval (.tmp t)) w := rfl
    refine ⟨a.eval (.tmp t) :: xs, by simp only [List.mapM_cons, Sem.run_bind, hr, Result.andThen_ok, r1, Sem.run_pure], by simp [r2], fun i v x p q => ?_⟩
    cases i with
    | zero => simp only [List.getElem?_cons_zero, Option.some.injEq] at p q; rw [← p, ← q]; exact ht.eval (.tmp t)
    | succ i => simp only [List.getElem?_cons_succ] at p q; exact r3 i v x p q
  | .cell b t :: rs, vs, h => by
    simp only [resE, Option.bind_eq_some_iff, Option.map_eq_some_iff] at h
    obtain ⟨v0, h0, vs', h1, rfl⟩ := h
    obtain ⟨xs, r1, r2, r3⟩ := resE_sound hs hg ht h1
    obtain ⟨cv, q1, q2⟩ := loadAt_sound hs hg (ht.eval (.tmp b)) h0
    have hld : (resSem a.tmps (.cell b t)).run E.P w = .ok cv w := by
      have e : a.eval (.tmp b) = a.tmps.getD b undef := rfl
      rw [e] at q1
      simp only [resSem]
      generalize a.tmps.getD b undef = z at q1 ⊢
      cases z <;> simp [Instr.loadAt, Instr.sureAddr] at q1
      rename_i ad
      cases ad with
      | none => simp [Instr.sureAddr] at q1
      | some ad => simpa [Instr.sureAddr, asAddr] using q1
    refine ⟨cv :: xs, by simp only [List.mapM_cons, Sem.run_bind, hld, Result.andThen_ok, r1, Sem.run_pure], by simp [r2], fun i v x p q => ?_⟩
    cases i with
    | zero => simp only [List.getElem?_cons_zero, Option.some.injEq] at p q; rw [← p, ← q]; exact q2
    | succ i => simp only [List.getElem?_cons_succ] at p q; exact r3 i v x p q

theorem bodyE_sound {E : Env} {self : Self} (hself : Sound E self.call) (hcode : CodeSound E self.code) (hprim : PrimSound E) (fcall : FillCall self.call) (fcode : FillCode self.code) (fprim : PrimFill E) : Sound E (bodyE E self) := by
  intro f args H v H' h N A ι w cargs hs hg ht
  simp only [bodyE, Option.bind_eq_some_iff] at h
  obtain ⟨fn, hfn, c, hc, ⟨x, s⟩, h1, h⟩ := h
  have hx : x ≠ .exit 0 ∧ ∀ id, x ≠ .exit id := by
    constructor
    · rintro rfl; cases h
    · rintro id rfl; cases h
  have h' : (unmark s.H s.ds).bind (fun H' => (resE E s.tmps H' fn.results.toList).map fun | [v] => (v, H') | vs => (.tup vs, H')) = some (v, H') := by
    cases x with
    | normal => exact h
    | ret => exact h
    | exit id => cases h
  simp only [Option.bind_eq_some_iff, Option.map_eq_some_iff] at h'
  obtain ⟨H1, h2, vs, h3, h4⟩ := h'
  have t0 : TR A ι H w (args ++ List.replicate (fn.ntmps - args.length) un) (cargs ++ Array.replicate (fn.ntmps - cargs.size) undef) := by
    rw [ht.1]
    refine TR.append ht ⟨by simp, fun i x cv p q => ?_⟩
    have hi : i < fn.ntmps - cargs.size := by have := (List.getElem?_eq_some_iff.1 p).1; simpa using this
    rw [List.getElem?_replicate, if_pos hi] at p
    rw [Array.getElem?_replicate, if_pos hi] at q
    cases p; cases q; exact .lit _
  have hcw := (codeE_sound hself hcode hprim fcall fcode fprim none c _ x s h1 N A ι w none { tmps := cargs ++ Array.replicate (fn.ntmps - cargs.size) undef, defers := [] } 1 hs hg t0 trivial DR.nil).wp
  refine callsIn_wide.1 (callsIn_of_wp_marks (n := 1) hfn hc trivial (wpIn_mono hcw ?_))
  rintro e a' w1 ⟨hxr, N1, A1, ι1, e1, t1, d1⟩
  have fin : LeavesInM Fence.wide 1 E.P fn a'.tmps (Res N A ι H w v H') a'.defers .returning w1 := by
    refine unmark_sound h2 e1.sr d1 fun w2 ι2 e2 => ?_
    have e3 := e1.trans e2
    obtain ⟨xs, r1, r2, r3⟩ := resE_sound e2.sr (GR.keep e1.sr (GR.keep hs hg e1) e2) (a := a') (t1.keep e2.keep) h3
    have hres : (results fn a'.tmps).run E.P w2 = .ok (if h : xs.toArray.size = 1 then xs.toArray[0] else .tuple xs.toArray) w2 := by
      rw [results_eq, Array.mapM_eq_mapM_toList]
      simp only [Sem.run_bind, Sem.run_map, r1, Result.andThen_ok, Sem.run_pure]
    refine ⟨_, hres, _, N1, A1, ι2, rfl, ?_, ?_⟩
    · have : H' = H1 := by
        match vs, h4 with
        | [], h4 => simp at h4; exact h4.2.symm
        | [_], h4 => simp at h4; exact h4.2.symm
        | _ :: _ :: _, h4 => simp at h4; exact h4.2.symm
      rw [this]; exact e3
    · match vs, xs, r2, r3, h4 with
      | [v1], [x1], r2, r3, h4 =>
        simp at h4
        obtain ⟨rfl, rfl⟩ := h4
        simpa using r3 0 v1 x1 (by simp) (by simp)
      | [], [], r2, r3, h4 =>
        simp at h4
        obtain ⟨rfl, rfl⟩ := h4
        exact .tup _ _ rfl fun i c cv p => by simp at p
      | v1 :: v2 :: vs, x1 :: x2 :: xs, r2, r3, h4 =>
        simp at h4
        obtain ⟨rfl, rfl⟩ := h4
        rw [dif_neg (by simp)]
        exact .tup _ _ (by simpa using r2) fun i c cv p q => r3 i c cv p (by simpa using q)
  cases x with
  | normal => cases e <;> simp [XR] at hxr; exact fin
  | ret => cases e <;> simp [XR] at hxr; exact fin
  | exit id => exact absurd rfl (hx.2 id)

theorem run_sound {E : Env} (hprim : PrimSound E) (fprim : PrimFill E) : ∀ k, Sound E (run E k).call ∧ CodeSound E (run E k).code
  | 0 => ⟨fun f args H v H' h => by simp [run] at h, fun ro c s x s' h => by simp [run] at h⟩
  | k + 1 => by
    obtain ⟨h1, h2⟩ := run_sound hprim fprim k
    obtain ⟨f1, f2⟩ := run_fill fprim k
    exact ⟨bodyE_sound h1 h2 hprim f1 f2 fprim, codeE_sound h1 h2 hprim f1 f2 fprim⟩
end
end Go.Proofs.YtpmdlaojndejfaaGreatDoor.E
