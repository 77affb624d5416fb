/- The evaluator's operations against the machine's: all that call nothing. -/
import Derived.Test.YtpmdlaojndejfaaGreatDoorEi
set_option linter.unusedVariables false
set_option linter.unusedSimpArgs false
namespace Go.Proofs.YtpmdlaojndejfaaGreatDoor.E
open Go

section
variable {P : Program} {N A : Nat → Prop} {ι : Nat → Lk} {H H' : Heap} {w : World}

theorem GR.keep {E : Env} {N' A' : Nat → Prop} {ι' : Nat → Lk} {H' : Heap} {w' : World} (hs : SR N A ι H w) (hg : GR E A ι H w) (e : Ext N A ι H w N' A' ι' H' w') : GR E A' ι' H' w' := by
  intro g cs h
  obtain ⟨h1, h2⟩ := hg g cs h
  refine ⟨e.sub g h1, fun j c hc => ?_⟩
  obtain ⟨cv, p, q⟩ := h2 j c hc
  refine ⟨cv, ?_, q.keep ⟨e.sub, fun b hb => (e.nn b (hs.an b hb)).2, fun id blk h => by simp at h⟩⟩
  rw [← p]; exact cell_same (e.nn g (hs.an g h1)).2

theorem toOps_sound {tmps : List V} {a : Act} (ht : TR A ι H w tmps a.tmps) {o : Oper} {v : V} (h : toOps P tmps o = some v) :
    ∃ nx cv, (execOp a.eval o).run P w = .ok nx w ∧ (nx = .value cv ∨ nx = .skip ∧ cv = undef) ∧ VR A ι H w v cv := by
  unfold toOps at h
  split at h
  case isFalse => cases h
  rename_i hc
  rw [Bool.and_eq_true] at hc
  obtain ⟨hsel, hall⟩ := hc
  have hcong : execOp a.eval o = execOp (fun x => (toValue? (evalO tmps x)).getD undef) o := by
    refine execOp_congr o (fun cs b e => by rw [e] at hsel; cases hsel) fun x hx => ?_
    have h1 := List.all_eq_true.1 hall x (Array.mem_toList_iff.2 hx)
    obtain ⟨y, hy⟩ := Option.isSome_iff_exists.1 h1
    rw [hy]; exact toValue_eq hy (ht.eval x)
  split at h
  · rename_i x hx
    simp only [Option.some.injEq] at h; subst h
    exact ⟨_, x, by rw [hcong]; exact run_of_pure P _ _ hx w, .inl rfl, .ofValue x⟩
  · rename_i hx
    simp only [Option.some.injEq] at h; subst h
    exact ⟨_, undef, by rw [hcong]; exact run_of_pure P _ _ hx w, .inr ⟨rfl, rfl⟩, .lit _⟩
  · cases h

def OpOut (P : Program) (N A : Nat → Prop) (ι : Nat → Lk) (H : Heap) (w : World) (s : Sem Next) (v : V) (H' : Heap) : Prop :=
  ∃ nx cv w' N' A' ι', s.run P w = .ok nx w' ∧ (nx = .value cv ∨ nx = .skip ∧ cv = undef) ∧ Ext N A ι H w N' A' ι' H' w' ∧ VR A' ι' H' w' v cv

theorem OpOut.tt (hs : SR N A ι H w) {s : Sem Next} {v : V} (h : ∃ nx cv, s.run P w = .ok nx w ∧ (nx = .value cv ∨ nx = .skip ∧ cv = undef) ∧ VR A ι H w v cv) : OpOut P N A ι H w s v H := by
  obtain ⟨nx, cv, h1, h2, h3⟩ := h
  exact ⟨nx, cv, w, N, A, ι, h1, h2, Ext.refl hs, h3⟩
theorem OpOut.still (hs : SR N A ι H w) {s : Sem Next} {v : V} {cv : Value} (h : s.run P w = .ok (.value cv) w) (hv : VR A ι H w v cv) : OpOut P N A ι H w s v H :=
  ⟨_, cv, w, N, A, ι, h, .inl rfl, Ext.refl hs, hv⟩
theorem OpOut.of {s : Sem Value} {v : V} (h : Out P N A ι H w s v H') {t : Sem Next} (ht : t = (do pure (.value (← s)))) : OpOut P N A ι H w t v H' := by
  obtain ⟨cv, w', N', A', ι', h1, h2, h3⟩ := h
  exact ⟨_, cv, w', N', A', ι', by rw [ht]; simp [h1], .inl rfl, h2, h3⟩
theorem OpOut.ofs (hs : SR N A ι H w) {s : Sem Value} {v : V} (h : ∃ cv, s.run P w = .ok cv w ∧ VR A ι H w v cv) {t : Sem Next} (ht : t = (do pure (.value (← s)))) : OpOut P N A ι H w t v H := by
  obtain ⟨cv, h1, h2⟩ := h
  exact .still hs (by rw [ht]; simp [h1]) h2
theorem OpOut.ofu {s : Sem Unit} (h : ∃ w' ι', s.run P w = .ok () w' ∧ Ext N A ι H w N A ι' H' w') {t : Sem Next} (ht : t = (do s; pure .skip)) : OpOut P N A ι H w t un H' := by
  obtain ⟨w', ι', h1, h2⟩ := h
  exact ⟨_, undef, w', N, A, ι', by rw [ht]; simp [h1], .inr ⟨rfl, rfl⟩, h2, .lit _⟩

theorem PR.of {tmps : List V} {a : Act} (ht : TR A ι H w tmps a.tmps) (ps : Array (Nat × Operand)) :
    PR A ι H w (ps.toList.map fun (i, x) => (i, evalO tmps x)) (ps.map fun (i, x) => (i, a.eval x)).toList := by
  rw [Array.toList_map]
  induction ps.toList with
  | nil => trivial
  | cons p l ih => exact ⟨rfl, ht.eval p.2, ih⟩

theorem OR.of {tmps : List V} {a : Act} (ht : TR A ι H w tmps a.tmps) (x : Option Operand) : OR A ι H w (x.map (evalO tmps)) (x.map a.eval) := by
  cases x with
  | none => trivial
  | some x => exact ht.eval x

/-- A new block that is no cells. -/
theorem newObj_sound (hs : SR N A ι H w) {nid : Nat} {blk : Blk} (hp : place H nid blk = some H') (o : Obj)
    (hb : (∀ v cv, VR A ι H w v cv → VR A (upd ι nid ⟨w.heap.size, 0, 0⟩) H' (w.alloc o) v cv) → BR A (upd ι nid ⟨w.heap.size, 0, 0⟩) H' (w.alloc o) nid blk) :
    Ext N A ι H w N A (upd ι nid ⟨w.heap.size, 0, 0⟩) H' (w.alloc o) :=
  Ext.alloc hs hp (L := ⟨w.heap.size, 0, 0⟩) rfl (fun k hk => alloc_lt w _ k hk) (by simp) rfl rfl rfl hb

theorem next_sound (hs : SR N A ι H w) {id : Nat} {s : ByteArray} {pos : Nat} (hid : H[id]? = some (.iter s pos)) {cx : Value} (hx : VR A ι H w (.it id) cx) (t : TypeId) :
    if pos < s.size then Out P N A ι H w (Instr.next cx true t) (.tup [.lit (.bool true), .lit (goInt pos), .lit (.int .i32 (Utf8.decode s pos).1)]) (H.set id (.iter s (pos + (Utf8.decode s pos).2)))
    else Out P N A ι H w (Instr.next cx true t) (.tup [.lit (.bool false)]) H := by
  cases hx with
  | it _ blk hid' hf hr =>
    have hb := hs.live id _ hid
    simp only [BR] at hb
    have hlt : (ι id).b < w.heap.size := (Array.getElem?_eq_some_iff.1 hb).1
    have hg := run_getObj (P := P) hb (fun _ _ _ e => by cases e)
    split
    · rename_i hpos
      have hst := run_setObj (P := P) (o' := .stringIter s (pos + (Utf8.decode s pos).2)) hb (fun _ _ _ e => by cases e)
      refine ⟨.tuple #[.bool true, goInt pos, .int .i32 (Utf8.decode s pos).1], { w with heap := w.heap.setIfInBounds (ι id).b (.stringIter s (pos + (Utf8.decode s pos).2)) }, N, A, upd ι id (ι id), by simp [Instr.next, hg, hpos, hst],
        Ext.turn hs hid trivial (L := ι id) (.inl rfl) (fun k _ hk => by simp [Array.getElem?_setIfInBounds_ne (Ne.symm hk)]) (by simp) rfl rfl rfl (by simp [Later, upd_same]) (fun keep => by simp only [BR, upd_same]; simp [hlt]), ?_⟩
      refine .tup _ _ (by simp) fun i c cv a b => ?_
      match i with
      | 0 => simp at a b; subst a b; exact .lit _
      | 1 => simp at a b; subst a b; exact .lit _
      | 2 => simp at a b; subst a b; exact .lit _
      | i + 3 => simp at a
    · rename_i hpos
      refine Out.still hs (cv := .tuple #[.bool false]) (by simp [Instr.next, hg, hpos]) ?_
      refine .tup _ _ (by simp) fun i c cv a b => ?_
      match i with
      | 0 => simp at a b; subst a b; exact .lit _
      | i + 1 => simp at a

theorem fieldV_sound {s f : Nat} {x v : V} {cx : Value} (hx : VR A ι H w x cx) (h : fieldV P s f x = some v) :
    ∃ cv, (Instr.field s cx f).run P w = .ok cv w ∧ VR A ι H w v cv := by
  unfold fieldV at h
  simp only [Option.bind_eq_some_iff] at h
  obtain ⟨fd, h1, h2⟩ := h
  unfold fieldT at h1
  split at h1
  case h_2 => cases h1
  rename_i fs hu
  cases hx with
  | agg cs vs hl hv =>
    simp only [partT] at h2
    split at h2
    case isFalse => cases h2
    rename_i hsome
    obtain ⟨d, hd⟩ := Option.isSome_iff_exists.1 hsome
    obtain ⟨i, hi⟩ := und_info hd
    split at h2
    · rename_i ha
      split at h2
      · rename_i hle
        simp only [Option.some.injEq] at h2; subst h2
        refine ⟨.agg (vs.extract fd.offset (fd.offset + sizeT P fd.type)), by simp [Instr.field, run_underlying hu, h1, asAgg, part, run_isAggT hd, ha, run_sizeT hi], ?_⟩
        refine .agg _ _ (by simp; omega) fun k c cv a b => ?_
        rw [List.getElem?_take] at a
        split at a
        · rename_i g
          rw [List.getElem?_drop] at a
          refine hv _ _ _ a ?_
          rw [Array.getElem?_extract] at b
          split at b
          · exact b
          · cases b
        · cases a
      · cases h2
    · rename_i ha
      have hlt := (List.getElem?_eq_some_iff.1 h2).1
      have e : vs[fd.offset]? = some (vs[fd.offset]'(hl ▸ hlt)) := by simp
      exact ⟨_, by simp [Instr.field, run_underlying hu, h1, asAgg, part, run_isAggT hd, ha, e], hv _ _ _ h2 e⟩
  | _ => simp at h2
end
end Go.Proofs.YtpmdlaojndejfaaGreatDoor.E
