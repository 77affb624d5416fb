/- A call that works on memory of its own. -/
import Derived.Test.YtpmdlaojndejfaaGreatDoorEm
set_option linter.unusedVariables false
set_option linter.unusedSimpArgs false
namespace Go.Proofs.YtpmdlaojndejfaaGreatDoor.E
open Go

section
variable {N A : Nat → Prop} {ι : Nat → Lk} {H H' : Heap} {w : World}

/-- What a call comes to. -/
def Res (N A : Nat → Prop) (ι : Nat → Lk) (H : Heap) (w : World) (v : V) (H' : Heap) : Ending → World → Prop :=
  fun e w' => ∃ cv N' A' ι', e = .returned cv ∧ Ext N A ι H w N' A' ι' H' w' ∧ VR A' ι' H' w' v cv

def Sound (E : Env) (call : FuncId → List V → Heap → Option (V × Heap)) : Prop :=
  ∀ (f : FuncId) (args : List V) (H : Heap) (v : V) (H' : Heap), call f args H = some (v, H') → ∀ (N A : Nat → Prop) (ι : Nat → Lk) (w : World) (cargs : Array Value),
    SR N A ι H w → GR E A ι H w → TR A ι H w args cargs → Calls E.P f cargs w (Res N A ι H w v H')

theorem CC.shifted {A1 A2 : Nat → Prop} {K : Heap} {LK : List Lk} {ι2 : Nat → Lk} {H2 : Heap} {w : World} {nid : Nat} {c : V} {cv : Value} (h : CC A1 K LK w c cv)
    (hA : (∀ b, A1 b → A2 b) ∨ noShareC c = true) (hK : ∀ i, i < K.length → H2[nid + i]? = K[i]? ∧ ι2 (nid + i) = lk LK i) : VR A2 ι2 H2 w (shiftC nid c) cv := by
  rcases h with h | ⟨i, len, rfl, hi, h⟩
  · cases h with
    | lit _ => exact .lit _
    | own _ _ _ _ _ _ _ hid => simp at hid
    | ptr _ _ _ _ _ _ hid => simp at hid
    | yld _ _ hid => simp at hid
    | mp _ _ hid => simp at hid
    | it _ _ hid => simp at hid
    | arr rows b o cap sz hA' hcap hsz hc hv =>
      rcases hA with hA | hA
      · exact VR.pure hA (.arr rows b o cap sz hA' hcap hsz hc hv)
      · simp [noShareC] at hA
    | row cells b o hA' hc hv =>
      rcases hA with hA | hA
      · exact VR.pure hA (.row cells b o hA' hc hv)
      · simp [noShareC] at hA
    | fn f cs vs hl hv =>
      rcases hA with hA | hA
      · exact VR.pure hA (.fn f cs vs hl hv)
      · simp [noShareC] at hA
    | tup cs vs hl hv =>
      rcases hA with hA | hA
      · exact VR.pure hA (.tup cs vs hl hv)
      · simp [noShareC] at hA
    | agg cs vs hl hv =>
      rcases hA with hA | hA
      · exact VR.pure hA (.agg cs vs hl hv)
      · simp [noShareC] at hA
  · obtain ⟨k1, k2⟩ := hK i hi
    cases h with
    | own _ _ _ _ a cap blk hid hf hh =>
      refine .own (nid + i) 0 0 len a cap blk (by rw [k1]; exact hid) hf fun sz ver' rs e => ?_
      rw [k2]; exact hh sz ver' rs e

theorem CA.shifted {A1 A2 : Nat → Prop} {K : Heap} {LK : List Lk} {ι2 : Nat → Lk} {H2 : Heap} {w : World} {nid : Nat} {c : V} {cv : Value} (h : CA A1 K LK w c cv)
    (hA : (∀ b, A1 b → A2 b) ∨ c.cells.all noShareC = true) (hK : ∀ i, i < K.length → H2[nid + i]? = K[i]? ∧ ι2 (nid + i) = lk LK i) : VR A2 ι2 H2 w (shiftA nid c) cv := by
  by_cases ha : ∃ cs, c = .agg cs
  · obtain ⟨cs, rfl⟩ := ha
    obtain ⟨vs, rfl, hl, hv⟩ := h
    refine .agg _ _ (by simpa using hl) fun i c x a b => ?_
    simp only [List.getElem?_map, Option.map_eq_some_iff] at a
    obtain ⟨c0, a0, rfl⟩ := a
    exact (hv i c0 x a0 b).shifted (hA.imp id fun h => List.all_eq_true.1 h c0 (List.mem_of_getElem? a0)) hK
  · have e1 : shiftA nid c = shiftC nid c := by cases c <;> first | rfl | exact absurd ⟨_, rfl⟩ ha
    have e2 : c.cells = [c] := by cases c <;> first | rfl | exact absurd ⟨_, rfl⟩ ha
    have h' : CC A1 K LK w c cv := by cases c <;> first | exact h | exact absurd ⟨_, rfl⟩ ha
    rw [e1]
    exact h'.shifted (hA.imp id fun h => by rw [e2] at h; simpa using h) hK

theorem CT.shifted {A1 A2 : Nat → Prop} {K : Heap} {LK : List Lk} {ι2 : Nat → Lk} {H2 : Heap} {w : World} {nid : Nat} {c : V} {cv : Value} (h : CT A1 K LK w c cv)
    (hA : (∀ b, A1 b → A2 b) ∨ (tops c).all noShareC = true) (hK : ∀ i, i < K.length → H2[nid + i]? = K[i]? ∧ ι2 (nid + i) = lk LK i) : VR A2 ι2 H2 w (shift nid c) cv := by
  by_cases ha : ∃ cs, c = .tup cs
  · obtain ⟨cs, rfl⟩ := ha
    obtain ⟨vs, rfl, hl, hv⟩ := h
    refine .tup _ _ (by simpa using hl) fun i c x a b => ?_
    simp only [List.getElem?_map, Option.map_eq_some_iff] at a
    obtain ⟨c0, a0, rfl⟩ := a
    refine (hv i c0 x a0 b).shifted (hA.imp id fun h => ?_) hK
    simp only [tops, List.all_flatMap] at h
    exact List.all_eq_true.1 h c0 (List.mem_of_getElem? a0)
  · have e1 : shift nid c = shiftA nid c := by cases c <;> first | rfl | exact absurd ⟨_, rfl⟩ ha
    have e2 : tops c = c.cells := by cases c <;> first | rfl | exact absurd ⟨_, rfl⟩ ha
    have h' : CA A1 K LK w c cv := by cases c <;> first | exact h | exact absurd ⟨_, rfl⟩ ha
    rw [e1]
    exact h'.shifted (hA.imp id fun h => by rw [e2] at h; exact h) hK

theorem pure_sound {E : Env} {self : Self} (hself : Sound E self.call) (hs : SR N A ι H w) (hg : GR E A ι H w) {f : FuncId} {args args' : List V} {cargs : Array Value} (ht : TR A ι H w args cargs)
    {nid : Nat} {r : V × Heap} {H2 : Heap} (h1 : (if args.all noOwn then some args else freezeAll H args) = some args') (h2 : pcall self f args' = some r)
    (h3 : (args.all noOwn || (tops r.1).all noShareC) = true) (h4 : placeAll H nid r.2 = some H2) : Calls E.P f cargs w (Res N A ι H w (shift nid r.1) H2) := by
  -- the callee's view
  have hAc : ∃ Ac : Nat → Prop, (∀ b, A b → Ac b) ∧ (∀ b, Ac b → b < w.heap.size) ∧ TR Ac ι [] w args' cargs ∧ ((∀ b, Ac b → A b) ∨ (tops r.1).all noShareC = true) := by
    split at h1
    · rename_i hno
      simp only [Option.some.injEq] at h1; subst h1
      exact ⟨A, fun _ h => h, fun b hb => hs.lt b (hs.an b hb), ⟨ht.1, fun i x cv a b => noOwn_pure ι (List.all_eq_true.1 hno x (List.mem_of_getElem? a)) (ht.2 i x cv a b)⟩, .inl fun _ h => h⟩
    · rename_i hno
      have hno' : args.all noOwn = false := by simpa using hno
      rw [hno', Bool.false_or] at h3
      refine ⟨AF A ι H, fun b hb => .inl hb, fun b hb => ?_, freezeAll_sound hs ι args args' cargs h1 ht, .inr h3⟩
      rcases hb with hb | ⟨id, blk, hid, hal, rfl⟩
      · exact hs.lt b (hs.an b hb)
      · exact (hs.live id blk hid).lt hal
  obtain ⟨Ac, a1, a2, htc, a3⟩ := hAc
  have hsc : SR (fun b => b < w.heap.size) Ac ι [] w := ⟨fun id blk h => by simp at h, fun i j bi bj h => by simp at h, fun i bi h => by simp at h, a2, fun b hb => hb⟩
  have hgc : GR E Ac ι [] w := fun g cs hcs => ⟨a1 g (hg g cs hcs).1, fun j c hc => by
    obtain ⟨cv, p, q⟩ := (hg g cs hcs).2 j c hc
    exact ⟨cv, p, q.pure a1⟩⟩
  simp only [pcall, Option.bind_eq_some_iff] at h2
  obtain ⟨⟨v, Hc⟩, hcall, h2⟩ := h2
  refine (hself f args' [] v Hc hcall _ Ac ι w cargs hsc hgc htc).mono ?_
  rintro e w' ⟨cv, N', A', ι', rfl, ex, hv⟩
  -- what is handed back
  have hres : ∃ (AX : Nat → Prop) (ids : List Nat) (LK : List Lk), TI ι' Hc w' ids r.2 LK ∧ nodup ids = true ∧ CT AX r.2 LK w' r.1 cv ∧ (∀ b, A' b → AX b) ∧
      (∀ b, AX b → A' b ∨ (ids = [] ∧ ∃ id blk, Hc[id]? = some blk ∧ blk.alive ∧ b = (ι' id).b)) := by
    split at h2
    · rename_i hc
      rw [Bool.and_eq_true] at hc
      obtain ⟨LK, t1, t2⟩ := tr_sound (v' := r.1) (K' := r.2) ex.sr.live hv (fun c hcm => List.all_eq_true.1 hc.1 c hcm) h2
      exact ⟨A', _, LK, t1, hc.2, t2, fun _ h => h, fun b hb => .inl hb⟩
    · simp only [Option.map_eq_some_iff] at h2
      obtain ⟨x, hx, rfl⟩ := h2
      have fz := (freeze_sound ex.sr (lk []) 1000).1 v x cv hx hv
      exact ⟨AF A' ι' Hc, [], [], ⟨rfl, rfl, fun i id h => by simp at h⟩, rfl, CT.frozen fz, fun b hb => .inl hb, fun b hb => hb.imp id fun h => ⟨rfl, h⟩⟩
  obtain ⟨AX, ids, LK, ti, hnd, hct, x1, x2⟩ := hres
  have hfresh : ∀ (id : Nat) (blk : Blk), Hc[id]? = some blk → blk.alive → w.heap.size ≤ (ι' id).b := by
    intro id blk hid hal
    rcases Nat.lt_or_ge (ι' id).b w.heap.size with h | h
    · exact absurd (ex.nn _ h).1 (ex.sr.apart id blk hid hal)
    · exact h
  have hAX : ∀ b, AX b → Ac b ∨ w.heap.size ≤ b := by
    intro b hb
    rcases x2 b hb with h | ⟨_, id, blk, hid, hal, rfl⟩
    · exact ex.aa b h
    · exact .inr (hfresh id blk hid hal)
  obtain ⟨pl1, pl2⟩ := placeAll_get h4
  let A2 : Nat → Prop := fun b => A b ∨ (w.heap.size ≤ b ∧ AX b)
  let N2 : Nat → Prop := fun b => N b ∨ (w.heap.size ≤ b ∧ AX b)
  let ι2 : Nat → Lk := fun i => if nid ≤ i ∧ i < nid + r.2.length then lk LK (i - nid) else ι i
  have hin : ∀ i, i < r.2.length → ι2 (nid + i) = lk LK i := by
    intro i hi
    simp only [ι2]
    rw [if_pos ⟨by omega, by omega⟩]; congr 1; omega
  have hout : ∀ (j : Nat) (blk : Blk), H[j]? = some blk → blk ≠ .free → ι2 j = ι j ∧ H2[j]? = some blk := by
    intro j blk hj hf
    have hno : ¬ (nid ≤ j ∧ j < nid + r.2.length) := by
      intro ⟨g1, g2⟩
      have := (pl1 (j - nid) (by omega)).2
      rw [show nid + (j - nid) = j by omega, hj] at this
      rcases this with h | h
      · cases h
      · cases h; exact hf rfl
    refine ⟨by simp only [ι2]; rw [if_neg hno], ?_⟩
    rw [pl2 j (by omega)]; exact hj
  have ww : ∀ b, b < w.heap.size → w'.heap[b]? = w.heap[b]? := fun b hb => (ex.nn b hb).2
  have keeps : Keeps A A2 ι ι2 H H2 w w' := ⟨fun b hb => .inl hb, fun b hb => ww b (hs.lt b (hs.an b hb)), fun id blk hid hf =>
    ⟨blk, (hout id blk hid hf).2, .same (hout id blk hid hf).1 blk⟩⟩
  have keep : ∀ v cv, VR A ι H w v cv → VR A2 ι2 H2 w' v cv := fun v cv x => x.keep keeps
  have alf : ∀ b : Blk, b.alive → b ≠ .free := fun b ha e => by subst e; exact ha
  -- a block of the new memory: an old one, or one that was handed back
  have cas : ∀ (id : Nat) (blk : Blk), H2[id]? = some blk → (∃ i, i < r.2.length ∧ id = nid + i ∧ r.2[i]? = some blk) ∨ (¬ (nid ≤ id ∧ id < nid + r.2.length) ∧ H[id]? = some blk) := by
    intro id blk hid
    by_cases g : nid ≤ id ∧ id < nid + r.2.length
    · refine .inl ⟨id - nid, by omega, by omega, ?_⟩
      rw [← (pl1 (id - nid) (by omega)).1, show nid + (id - nid) = id by omega]; exact hid
    · exact .inr ⟨g, by rw [← pl2 id (by omega)]; exact hid⟩
  have tid : ∀ i, i < r.2.length → ∃ id, ids[i]? = some id := fun i hi => ⟨ids[i]'(by rw [← ti.l1]; exact hi), by simp⟩
  refine ⟨cv, N2, A2, ι2, rfl, ⟨⟨?_, ?_, ?_, ?_, ?_⟩, keep, fun b hb => ⟨.inl hb, ww b (hs.lt b hb)⟩, fun b hb => hb.imp id And.left, fun b hb => .inl hb, ex.size, ex.os, ex.tape, ex.output⟩, ?_⟩
  · intro id blk hid
    rcases cas id blk hid with ⟨i, hi, rfl, hki⟩ | ⟨g, hid0⟩
    · obtain ⟨id0, hid0⟩ := tid i hi
      obtain ⟨sz, rs, blk0, k1, k2, k3, k4, cs, e, m1, m2, m3, m4, m5⟩ := ti.each i id0 hid0
      rw [k1] at hki; cases hki
      refine ⟨cs, e, by rw [hin i hi]; exact m1, by rw [hin i hi]; exact m2, m3, by rw [hin i hi]; exact m4, fun j k rr c a b => ?_, .zero (Nat.zero_div _)⟩
      rw [hin i hi]
      obtain ⟨x, p, rfl⟩ := m5 j k rr c a b
      exact ⟨x, p, .lit x⟩
    · have hi2 : ι2 id = ι id := by simp only [ι2]; rw [if_neg g]
      exact BR.keep keep hi2 (fun ha => ww _ ((hs.live id blk hid0).lt ha)) (hs.live id blk hid0)
  · intro i j bi bj hi hj ai aj e
    rcases cas i bi hi with ⟨i', hi', rfl, _⟩ | ⟨gi, hi0⟩ <;> rcases cas j bj hj with ⟨j', hj', rfl, _⟩ | ⟨gj, hj0⟩
    · rw [hin i' hi', hin j' hj'] at e
      obtain ⟨d1, hd1⟩ := tid i' hi'
      obtain ⟨d2, hd2⟩ := tid j' hj'
      obtain ⟨_, _, b1, _, k2, k3, k4, _⟩ := ti.each i' d1 hd1
      obtain ⟨_, _, b2, _, l2, l3, l4, _⟩ := ti.each j' d2 hd2
      have e3 : d1 = d2 := ex.sr.inj d1 d2 b1 b2 k2 l2 k3 l3 (by rw [← k4, ← l4]; exact e)
      subst e3
      rw [nodup_spec hnd i' j' d1 hd1 hd2]
    · rw [hin i' hi'] at e
      have hj2 : ι2 j = ι j := by simp only [ι2]; rw [if_neg gj]
      rw [hj2] at e
      obtain ⟨d1, hd1⟩ := tid i' hi'
      obtain ⟨_, _, b1, _, k2, k3, k4, _⟩ := ti.each i' d1 hd1
      have h5 := hfresh d1 b1 k2 k3
      have h6 := (hs.live j bj hj0).lt aj
      omega
    · rw [hin j' hj'] at e
      have hi2 : ι2 i = ι i := by simp only [ι2]; rw [if_neg gi]
      rw [hi2] at e
      obtain ⟨d1, hd1⟩ := tid j' hj'
      obtain ⟨_, _, b1, _, k2, k3, k4, _⟩ := ti.each j' d1 hd1
      have h5 := hfresh d1 b1 k2 k3
      have h6 := (hs.live i bi hi0).lt ai
      omega
    · have hi2 : ι2 i = ι i := by simp only [ι2]; rw [if_neg gi]
      have hj2 : ι2 j = ι j := by simp only [ι2]; rw [if_neg gj]
      rw [hi2, hj2] at e
      exact hs.inj i j bi bj hi0 hj0 ai aj e
  · intro i bi hi ai hn
    rcases cas i bi hi with ⟨i', hi', rfl, _⟩ | ⟨gi, hi0⟩
    · rw [hin i' hi'] at hn
      obtain ⟨d1, hd1⟩ := tid i' hi'
      obtain ⟨_, _, b1, _, k2, k3, k4, _⟩ := ti.each i' d1 hd1
      have h5 := hfresh d1 b1 k2 k3
      rcases hn with hn | ⟨_, hn⟩
      · have := hs.lt _ hn; omega
      · rcases x2 _ hn with h | ⟨h, _⟩
        · rw [k4] at h; exact ex.sr.apart d1 b1 k2 k3 (ex.sr.an _ h)
        · rw [h] at hd1; simp at hd1
    · have hi2 : ι2 i = ι i := by simp only [ι2]; rw [if_neg gi]
      rw [hi2] at hn
      have h6 := (hs.live i bi hi0).lt ai
      rcases hn with hn | ⟨hn, _⟩
      · exact hs.apart i bi hi0 ai hn
      · omega
  · intro b hb; exact hb.imp (hs.an b) id
  · intro b hb
    rcases hb with hb | ⟨_, hb⟩
    · exact Nat.lt_of_lt_of_le (hs.lt b hb) ex.size
    · rcases x2 b hb with h | ⟨_, id, blk, hid, hal, rfl⟩
      · exact ex.sr.lt b (ex.sr.an b h)
      · exact (ex.sr.live id blk hid).lt hal
  · refine hct.shifted ?_ fun i hi => ⟨(pl1 i hi).1, hin i hi⟩
    rcases a3 with a3 | a3
    · refine .inl fun b hb => ?_
      rcases hAX b hb with h | h
      · exact .inl (a3 b h)
      · exact .inr ⟨h, hb⟩
    · exact .inr a3
end
end Go.Proofs.YtpmdlaojndejfaaGreatDoor.E
