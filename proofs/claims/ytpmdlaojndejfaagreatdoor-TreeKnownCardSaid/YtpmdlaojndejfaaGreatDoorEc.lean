/- What keeps the relation: a new block, a block that is written. -/
import Derived.Below
import Derived.Test.YtpmdlaojndejfaaGreatDoorEb
namespace Go.Proofs.YtpmdlaojndejfaaGreatDoor.E
open Go

def upd (ι : Nat → Lk) (id : Nat) (L : Lk) : Nat → Lk := fun i => if i = id then L else ι i
theorem upd_same (ι : Nat → Lk) (id : Nat) (L : Lk) : upd ι id L id = L := by simp [upd]
theorem upd_ne (ι : Nat → Lk) {id i : Nat} (L : Lk) (h : i ≠ id) : upd ι id L i = ι i := by simp [upd, h]

theorem place_get {H H' : Heap} {nid : Nat} {b : Blk} (h : place H nid b = some H') :
    H'[nid]? = some b ∧ (∀ i, i ≠ nid → H'[i]? = H[i]?) ∧ (H[nid]? = none ∨ H[nid]? = some .free) := by
  unfold place at h
  split at h
  · rename_i e
    simp only [Option.some.injEq] at h
    subst h; subst e
    refine ⟨by simp, fun i hi => ?_, .inl (by simp)⟩
    rcases Nat.lt_or_ge i H.length with hl | hl
    · rw [List.getElem?_append_left hl]
    · rw [List.getElem?_eq_none (by simp; omega), List.getElem?_eq_none hl]
  · split at h
    · rename_i e
      simp only [Option.some.injEq] at h
      subst h
      have hl : nid < H.length := (List.getElem?_eq_some_iff.1 e).1
      refine ⟨by simp [hl], fun i hi => by rw [List.getElem?_set_ne (Ne.symm hi)], .inr e⟩
    · cases h

theorem BR.lt {A : Nat → Prop} {ι : Nat → Lk} {H : Heap} {w : World} {id : Nat} {blk : Blk} (h : BR A ι H w id blk) (ha : blk.alive) : (ι id).b < w.heap.size := by
  have key : ∀ o, w.heap[(ι id).b]? = some o → (ι id).b < w.heap.size := fun o e => (Array.getElem?_eq_some_iff.1 e).1
  cases blk with
  | free => exact ha.elim
  | gone => exact ha.elim
  | rows _ _ _ => obtain ⟨_, _, h, _⟩ := h; exact key _ h
  | map _ _ => obtain ⟨_, h, _⟩ := h; exact key _ h
  | iter _ _ => exact key _ h
  | dfr => exact key _ h
  | loop _ _ _ _ _ _ => obtain ⟨_, h, _⟩ := h; exact key _ h

theorem Later.same {ι ι' : Nat → Lk} {id : Nat} (h : ι' id = ι id) (b : Blk) : Later ι ι' id b b := by
  cases b <;> simp [Later, h]

section
variable {N A : Nat → Prop} {ι : Nat → Lk} {H H' : Heap} {w w' : World}

/-- A new block. -/
theorem Ext.alloc (h : SR N A ι H w) {nid : Nat} {blk : Blk} (hp : place H nid blk = some H') {L : Lk} (hL : L.b = w.heap.size)
    (hw : ∀ k, k < w.heap.size → w'.heap[k]? = w.heap[k]?) (hs : w.heap.size ≤ w'.heap.size) (ho : w'.os = w.os) (ht : w'.tape = w.tape) (hu : w'.output = w.output)
    (hb : (∀ v cv, VR A ι H w v cv → VR A (upd ι nid L) H' w' v cv) → BR A (upd ι nid L) H' w' nid blk) :
    Ext N A ι H w N A (upd ι nid L) H' w' := by
  obtain ⟨p1, p2, p3⟩ := place_get hp
  have ne : ∀ (id : Nat) (b : Blk), H[id]? = some b → b ≠ .free → id ≠ nid := by
    rintro id b hbb hff rfl
    rcases p3 with p3 | p3 <;> rw [p3] at hbb
    · cases hbb
    · cases hbb; exact hff rfl
  have k : Keeps A A ι (upd ι nid L) H H' w w' := ⟨fun _ h => h, fun b hb => hw b (h.lt b (h.an b hb)), fun id b hb hf =>
    ⟨b, by rw [p2 id (ne id b hb hf)]; exact hb, .same (upd_ne ι L (ne id b hb hf)) b⟩⟩
  have keep : ∀ v cv, VR A ι H w v cv → VR A (upd ι nid L) H' w' v cv := fun v cv x => x.keep k
  have alf : ∀ b : Blk, b.alive → b ≠ .free := fun b ha e => by subst e; exact ha
  refine ⟨⟨?_, ?_, ?_, h.an, fun b hb => Nat.lt_of_lt_of_le (h.lt b hb) hs⟩, keep, fun b hb => ⟨hb, hw b (h.lt b hb)⟩, fun b hb => .inl hb, fun b hb => hb, hs, ho, ht, hu⟩
  · intro id b hid
    by_cases e : id = nid
    · subst e; rw [p1] at hid; cases hid; exact hb keep
    · rw [p2 id e] at hid
      exact BR.keep keep (upd_ne ι L e) (fun ha => hw _ ((h.live id b hid).lt ha)) (h.live id b hid)
  · intro i j bi bj hi hj ai aj e
    by_cases ei : i = nid <;> by_cases ej : j = nid
    · rw [ei, ej]
    · subst ei
      rw [upd_same, upd_ne ι L ej, hL] at e
      rw [p2 j ej] at hj
      have := (h.live j bj hj).lt aj; omega
    · subst ej
      rw [upd_same, upd_ne ι L ei, hL] at e
      rw [p2 i ei] at hi
      have := (h.live i bi hi).lt ai; omega
    · rw [upd_ne ι L ei, upd_ne ι L ej] at e
      rw [p2 i ei] at hi; rw [p2 j ej] at hj
      exact h.inj i j bi bj hi hj ai aj e
  · intro i bi hi ai hn
    by_cases ei : i = nid
    · subst ei; rw [upd_same, hL] at hn; exact Nat.lt_irrefl _ (h.lt _ hn)
    · rw [upd_ne ι L ei] at hn; rw [p2 i ei] at hi; exact h.apart i bi hi ai hn

/-- A block that is written, or moved to a new block of the machine's. -/
theorem Ext.turn (h : SR N A ι H w) {id : Nat} {blk blk' : Blk} (hid : H[id]? = some blk) (hal : blk.alive) {L : Lk} (hL : L.b = (ι id).b ∨ L.b = w.heap.size)
    (hw : ∀ k, k < w.heap.size → k ≠ L.b → w'.heap[k]? = w.heap[k]?) (hs : w.heap.size ≤ w'.heap.size) (ho : w'.os = w.os) (ht : w'.tape = w.tape) (hu : w'.output = w.output)
    (hl : Later ι (upd ι id L) id blk blk')
    (hb : (∀ v cv, VR A ι H w v cv → VR A (upd ι id L) (H.set id blk') w' v cv) → BR A (upd ι id L) (H.set id blk') w' id blk') :
    Ext N A ι H w N A (upd ι id L) (H.set id blk') w' := by
  have hlt : id < H.length := (List.getElem?_eq_some_iff.1 hid).1
  have p1 : (H.set id blk')[id]? = some blk' := by simp [hlt]
  have p2 : ∀ i, i ≠ id → (H.set id blk')[i]? = H[i]? := fun i hi => by rw [List.getElem?_set_ne (Ne.symm hi)]
  have nL : ∀ b, N b → b ≠ L.b := by
    intro b hb e
    rcases hL with hL | hL
    · exact h.apart id blk hid hal (by rw [← hL, ← e]; exact hb)
    · have := h.lt b hb; omega
  have k : Keeps A A ι (upd ι id L) H (H.set id blk') w w' := ⟨fun _ h => h, fun b hb => hw b (h.lt b (h.an b hb)) (nL b (h.an b hb)), fun i b hbb hff => by
    by_cases e : i = id
    · subst e; rw [hid] at hbb; cases hbb; exact ⟨blk', p1, hl⟩
    · exact ⟨b, by rw [p2 i e]; exact hbb, .same (upd_ne ι L e) b⟩⟩
  have keep : ∀ v cv, VR A ι H w v cv → VR A (upd ι id L) (H.set id blk') w' v cv := fun v cv x => x.keep k
  have oth : ∀ (i : Nat) (b : Blk), i ≠ id → H[i]? = some b → b.alive → (ι i).b ≠ L.b := by
    intro i b hi hb ha e
    rcases hL with hL | hL
    · exact hi (h.inj i id b blk hb hid ha hal (e.trans hL))
    · have := (h.live i b hb).lt ha; omega
  refine ⟨⟨?_, ?_, ?_, h.an, fun b hb => Nat.lt_of_lt_of_le (h.lt b hb) hs⟩, keep, fun b hb => ⟨hb, hw b (h.lt b hb) (nL b hb)⟩, fun b hb => .inl hb, fun b hb => hb, hs, ho, ht, hu⟩
  · intro i b hi
    by_cases e : i = id
    · subst e; rw [p1] at hi; cases hi; exact hb keep
    · rw [p2 i e] at hi
      exact BR.keep keep (upd_ne ι L e) (fun ha => hw _ ((h.live i b hi).lt ha) (oth i b e hi ha)) (h.live i b hi)
  · intro i j bi bj hi hj ai aj e
    by_cases ei : i = id <;> by_cases ej : j = id
    · rw [ei, ej]
    · subst ei
      rw [upd_same, upd_ne ι L ej] at e
      rw [p2 j ej] at hj
      exact absurd e.symm (oth j bj ej hj aj)
    · subst ej
      rw [upd_same, upd_ne ι L ei] at e
      rw [p2 i ei] at hi
      exact absurd e (oth i bi ei hi ai)
    · rw [upd_ne ι L ei, upd_ne ι L ej] at e
      rw [p2 i ei] at hi; rw [p2 j ej] at hj
      exact h.inj i j bi bj hi hj ai aj e
  · intro i bi hi ai hn
    by_cases ei : i = id
    · subst ei; rw [upd_same] at hn; exact nL _ hn rfl
    · rw [upd_ne ι L ei] at hn; rw [p2 i ei] at hi; exact h.apart i bi hi ai hn
end

/-! Cells of the machine's. -/
theorem alloc_lt (w : World) (o : Obj) (k : Nat) (h : k < w.heap.size) : (w.alloc o).heap[k]? = w.heap[k]? := Go.RowKit.Below.heap_alloc w o k h
theorem alloc_new (w : World) (o : Obj) : (w.alloc o).heap[w.heap.size]? = some o := by show (w.heap.push o)[w.heap.size]? = _; simp

/-- Values of a frame. -/
def TR (A : Nat → Prop) (ι : Nat → Lk) (H : Heap) (w : World) (ts : List V) (vs : Array Value) : Prop :=
  ts.length = vs.size ∧ ∀ (i : Nat) (x : V) (cv : Value), ts[i]? = some x → vs[i]? = some cv → VR A ι H w x cv

section
variable {A : Nat → Prop} {ι : Nat → Lk} {H : Heap} {w : World}
theorem TR.keep {A' : Nat → Prop} {ι' : Nat → Lk} {H' : Heap} {w' : World} (k : ∀ v cv, VR A ι H w v cv → VR A' ι' H' w' v cv) {ts : List V} {vs : Array Value} (h : TR A ι H w ts vs) :
    TR A' ι' H' w' ts vs := ⟨h.1, fun i x cv a b => k _ _ (h.2 i x cv a b)⟩
theorem TR.put {ts : List V} {vs : Array Value} (h : TR A ι H w ts vs) {v : V} {cv : Value} (hv : VR A ι H w v cv) (dst : Option Tmp) (ds : List Deferred) :
    TR A ι H w (put ts dst v) ((({ tmps := vs, defers := ds } : Act).put dst cv).tmps) := by
  cases dst with
  | none => exact h
  | some d =>
    refine ⟨by simp [E.put, Act.put, h.1], fun i x c a b => ?_⟩
    simp only [E.put, Act.put] at a b
    by_cases e : d = i
    · subst e
      have hd : d < ts.length := by
        have := (List.getElem?_eq_some_iff.1 a).1; simpa using this
      rw [List.getElem?_set_self hd] at a
      rw [Array.getElem?_setIfInBounds_self_of_lt (h.1 ▸ hd)] at b
      cases a; cases b; exact hv
    · rw [List.getElem?_set_ne e] at a
      rw [Array.getElem?_setIfInBounds_ne e] at b
      exact h.2 i x c a b

theorem VR.ofValue (v : Value) : VR A ι H w (E.ofValue v) v := by
  unfold E.ofValue
  split
  · rename_i cs
    refine .agg _ _ (by simp) fun i c cv h1 h2 => ?_
    simp only [List.getElem?_map, Option.map_eq_some_iff] at h1
    obtain ⟨x, hx, rfl⟩ := h1
    have : cs[i]? = some x := by simpa using hx
    rw [this] at h2; cases h2; exact .lit _
  · rename_i f a b
    split
    · rename_i e
      have ea : a = #[] := Array.eq_empty_of_size_eq_zero e.1
      have eb : b = #[] := Array.eq_empty_of_size_eq_zero e.2
      subst ea; subst eb
      exact .fn _ _ _ (by simp) (fun i c cv h1 _ => by simp at h1)
    · exact .lit _
  · exact .lit _

theorem TR.eval {ts : List V} {a : Act} (h : TR A ι H w ts a.tmps) (x : Operand) : VR A ι H w (evalO ts x) (a.eval x) := by
  cases x with
  | tmp t =>
    simp only [evalO, Act.eval]
    rcases Nat.lt_or_ge t ts.length with hl | hl
    · have hl' : t < a.tmps.size := h.1 ▸ hl
      refine h.2 t _ _ ?_ ?_
      · simp [hl]
      · simp [hl']
    · have hl' : a.tmps.size ≤ t := h.1 ▸ hl
      simp [List.getD, List.getElem?_eq_none hl, Array.getD_eq_getD_getElem?, Array.getElem?_eq_none hl', un]
      exact .lit _
  | const v => exact .ofValue v
  | global g => exact .lit _
  | func f => exact .fn _ _ _ (by simp) (fun i c cv h1 _ => by simp at h1)

theorem litOf_eq {v : V} {x cv : Value} (h : litOf v = some x) (hv : VR A ι H w v cv) : cv = x := by
  cases hv <;> simp [litOf] at h
  exact h
theorem litsOf_len : ∀ {cs : List V} {l : List Value}, litsOf cs = some l → l.length = cs.length ∧ ∀ (i : Nat) (c : V) (x : Value), cs[i]? = some c → l[i]? = some x → litOf c = some x
  | [], l, h => by simp [litsOf] at h; subst h; simp
  | v :: vs, l, h => by
    simp only [litsOf, Option.bind_eq_some_iff] at h
    obtain ⟨x, hx, xs, hxs, h⟩ := h
    simp only [Option.some.injEq] at h; subst h
    obtain ⟨h1, h2⟩ := litsOf_len hxs
    refine ⟨by simp [h1], fun i c y hc hy => ?_⟩
    cases i with
    | zero => simp at hc hy; subst hc hy; exact hx
    | succ i => simp at hc hy; exact h2 i c y hc hy
theorem toValue_eq {v : V} {x cv : Value} (h : toValue? v = some x) (hv : VR A ι H w v cv) : cv = x := by
  cases hv with
  | lit v => simpa [toValue?] using h
  | agg cs vs hl hv =>
    simp only [toValue?, Option.map_eq_some_iff] at h
    obtain ⟨l, h1, rfl⟩ := h
    obtain ⟨h2, h3⟩ := litsOf_len h1
    congr 1
    apply Array.ext_getElem?
    intro i
    rcases Nat.lt_or_ge i cs.length with hi | hi
    · have e1 : cs[i]? = some cs[i] := by simp [hi]
      have e2 : vs[i]? = some (vs[i]'(hl ▸ hi)) := by simp [hl ▸ hi]
      have e3 : l[i]? = some (l[i]'(h2 ▸ hi)) := by simp
      have := litOf_eq (h3 i _ _ e1 e3) (hv i _ _ e1 e2)
      rw [e2, this]; simp [h2 ▸ hi]
    · rw [Array.getElem?_eq_none (hl ▸ hi), Array.getElem?_eq_none (by simp; omega)]
  | _ => simp [toValue?] at h

theorem run_of_pure (P : Program) {α : Type} : ∀ (s : Sem α) (a : α), pureRun P s = some a → ∀ w, s.run P w = .ok a w := by
  intro s
  induction s with
  | pure b => intro a h w; simp [pureRun] at h; subst h; rfl
  | program k ih => intro a h w; simp only [pureRun] at h; simp only [Sem.run]; exact ih _ a h w
  | mark m k ih => intro a h w; simp only [pureRun] at h; simp only [Sem.run]; exact ih a h w
  | _ => intro a h; simp [pureRun] at h
end
end Go.Proofs.YtpmdlaojndejfaaGreatDoor.E
