/- The evaluator's values and memory against the machine's: the relation, and what keeps it. -/
import Derived.Test.YtpmdlaojndejfaaGreatDoorEa
namespace Go.Proofs.YtpmdlaojndejfaaGreatDoor.E
open Go

/-- Where a block of the evaluator's lies: the machine's block, the first cell, how many cells the machine's block has. -/
structure Lk where
  b : Nat
  o : Nat
  n : Nat

inductive VR (A : Nat → Prop) (ι : Nat → Lk) : Heap → World → V → Value → Prop
  | lit {H : Heap} {w : World} (v : Value) : VR A ι H w (.lit v) v
  | arr {H : Heap} {w : World} (rows : List (List V)) (b o cap sz : Nat) (hA : A b) (hcap : rows.length ≤ cap) (hsz : ∀ (i : Nat) (r : List V), rows[i]? = some r → r.length = sz)
      (hc : ∀ (i j : Nat) (r : List V) (c : V), rows[i]? = some r → r[j]? = some c → ∃ cv, w.cell? ⟨b, o + i * sz + j, none⟩ = some cv)
      (hv : ∀ (i j : Nat) (r : List V) (c : V) (cv : Value), rows[i]? = some r → r[j]? = some c → w.cell? ⟨b, o + i * sz + j, none⟩ = some cv → VR A ι [] w c cv) :
      VR A ι H w (.arr rows) (.slice (some ⟨b, o, none⟩) rows.length cap)
  | row {H : Heap} {w : World} (cells : List V) (b o : Nat) (hA : A b)
      (hc : ∀ (j : Nat) (c : V), cells[j]? = some c → ∃ cv, w.cell? ⟨b, o + j, none⟩ = some cv)
      (hv : ∀ (j : Nat) (c : V) (cv : Value), cells[j]? = some c → w.cell? ⟨b, o + j, none⟩ = some cv → VR A ι [] w c cv) :
      VR A ι H w (.row cells) (.pointer (some ⟨b, o, none⟩))
  | agg {H : Heap} {w : World} (cs : List V) (vs : Array Value) (hl : cs.length = vs.size) (hv : ∀ (i : Nat) (c : V) (cv : Value), cs[i]? = some c → vs[i]? = some cv → VR A ι H w c cv) :
      VR A ι H w (.agg cs) (.agg vs)
  | tup {H : Heap} {w : World} (cs : List V) (vs : Array Value) (hl : cs.length = vs.size) (hv : ∀ (i : Nat) (c : V) (cv : Value), cs[i]? = some c → vs[i]? = some cv → VR A ι H w c cv) :
      VR A ι H w (.tup cs) (.tuple vs)
  | own {H : Heap} {w : World} (id ver off len : Nat) (a : Addr) (cap : Nat) (blk : Blk) (hid : H[id]? = some blk) (hf : blk ≠ .free)
      (h : ∀ sz ver' rs, blk = .rows sz ver' rs → ver < ver' ∨ (ver = ver' ∧ off + len ≤ rs.length ∧ rs.length ≤ off + cap ∧
        (ι id).o + (off + cap) * sz ≤ (ι id).n ∧ (cap = 0 ∨ a = ⟨(ι id).b, (ι id).o + off * sz, none⟩) ∧ a.block = (ι id).b ∧ a.spot = none)) :
      VR A ι H w (.own id ver off len) (.slice (some a) len cap)
  | ptr {H : Heap} {w : World} (id ver r off : Nat) (a : Addr) (blk : Blk) (hid : H[id]? = some blk) (hf : blk ≠ .free)
      (h : ∀ sz ver' rs, blk = .rows sz ver' rs → ver < ver' ∨ (ver = ver' ∧ a = ⟨(ι id).b, (ι id).o + r * sz + off, none⟩)) :
      VR A ι H w (.ptr id ver r off) (.pointer (some a))
  | fn {H : Heap} {w : World} (f : FuncId) (cs : List V) (vs : Array Value) (hl : cs.length = vs.size) (hv : ∀ (i : Nat) (c : V) (cv : Value), cs[i]? = some c → vs[i]? = some cv → VR A ι H w c cv) :
      VR A ι H w (.fn f cs) (.func (.func f) #[] vs)
  | yld {H : Heap} {w : World} (id : Nat) (blk : Blk) (hid : H[id]? = some blk) (hf : blk ≠ .free) (hr : ∀ sz ver rs, blk ≠ .rows sz ver rs) :
      VR A ι H w (.yld id) (.func (.yield (ι id).b) #[] #[])
  | mp {H : Heap} {w : World} (id : Nat) (blk : Blk) (hid : H[id]? = some blk) (hf : blk ≠ .free) (hr : ∀ sz ver rs, blk ≠ .rows sz ver rs) :
      VR A ι H w (.mp id) (.map (some (ι id).b))
  | it {H : Heap} {w : World} (id : Nat) (blk : Blk) (hid : H[id]? = some blk) (hf : blk ≠ .free) (hr : ∀ sz ver rs, blk ≠ .rows sz ver rs) :
      VR A ι H w (.it id) (.pointer (some ⟨(ι id).b, 0, none⟩))

def Blk.alive : Blk → Prop
  | .free | .gone => False
  | _ => True

/-- What a version tells of the machine's block. -/
def TagOk (ver : Nat) (e : TypeId) (L : Lk) (k : Nat) : Prop := (∀ t : Nat, ver / TAG = 2 * t + 1 → @Eq Nat e t ∧ L.o = 0 ∧ L.n = k) ∧ ∀ t : Nat, ver / TAG = 2 * t + 2 → @Eq Nat e t ∧ L.o = 0
theorem TagOk.zero {ver : Nat} {e : TypeId} {L : Lk} {k : Nat} (h : ver / TAG = 0) : TagOk ver e L k := ⟨fun t ht => by omega, fun t ht => by omega⟩

def BR (A : Nat → Prop) (ι : Nat → Lk) (H : Heap) (w : World) (id : Nat) : Blk → Prop
  | .free | .gone => True
  | .rows sz ver rs => ∃ cs e, w.heap[(ι id).b]? = some (.cells cs e (0, 0)) ∧ cs.size = (ι id).n ∧ (∀ (i : Nat) (r : List V), rs[i]? = some r → r.length = sz) ∧
      (ι id).o + rs.length * sz ≤ cs.size ∧ (∀ (i j : Nat) (r : List V) (c : V), rs[i]? = some r → r[j]? = some c → (∃ cv, cs[(ι id).o + i * sz + j]? = some cv ∧ VR A ι H w c cv)) ∧ TagOk ver e (ι id) (rs.length * sz)
  | .map es clock => ∃ es', w.heap[(ι id).b]? = some (.map es' clock) ∧ es'.size = es.length ∧
      ∀ (i : Nat) (k v : V), es[i]? = some (k, v) → ∃ e, es'[i]? = some e ∧ VR A ι H w k e.key ∧ VR A ι H w v e.val
  | .iter s pos => w.heap[(ι id).b]? = some (.stringIter s pos)
  | .dfr => w.heap[(ι id).b]? = some (.deferred (some []))
  | .loop ready pend tmps ps asg body => ∃ L : Loop, w.heap[(ι id).b]? = some (.loop L) ∧
      L.state = (if ready then .ready else match pend with | none => .busy | some _ => .done) ∧ L.pending = pend ∧ L.params = ps.toArray ∧ L.assign = asg ∧ L.body = body ∧
      L.tmps.size = tmps.length ∧ ∀ (i : Nat) (x : V) (cv : Value), tmps[i]? = some x → L.tmps[i]? = some cv → VR A ι H w x cv

structure SR (N A : Nat → Prop) (ι : Nat → Lk) (H : Heap) (w : World) : Prop where
  live : ∀ (id : Nat) (blk : Blk), H[id]? = some blk → BR A ι H w id blk
  inj : ∀ (i j : Nat) (bi bj : Blk), H[i]? = some bi → H[j]? = some bj → bi.alive → bj.alive → (ι i).b = (ι j).b → i = j
  apart : ∀ (i : Nat) (bi : Blk), H[i]? = some bi → bi.alive → ¬ N (ι i).b
  an : ∀ b, A b → N b
  lt : ∀ b, N b → b < w.heap.size

/-- What has become of a block. -/
def Later (ι ι' : Nat → Lk) (id : Nat) : Blk → Blk → Prop
  | .rows sz ver rs, .rows sz' ver' rs' => ver < ver' ∨ (ver = ver' ∧ sz = sz' ∧ rs.length = rs'.length ∧ ι' id = ι id)
  | .rows _ _ _, b => b = .gone
  | .free, _ => True
  | _, b => (∀ sz ver rs, b ≠ .rows sz ver rs) ∧ b ≠ .free ∧ ι' id = ι id

structure Keeps (A A' : Nat → Prop) (ι ι' : Nat → Lk) (H H' : Heap) (w w' : World) : Prop where
  aa : ∀ b, A b → A' b
  ww : ∀ b, A b → w'.heap[b]? = w.heap[b]?
  hh : ∀ (id : Nat) (blk : Blk), H[id]? = some blk → blk ≠ .free → ∃ blk', H'[id]? = some blk' ∧ Later ι ι' id blk blk'

theorem cell_same {w w' : World} {a : Addr} (h : w'.heap[a.block]? = w.heap[a.block]?) : w'.cell? a = w.cell? a := by
  simp only [World.cell?, h]

theorem VR.keep {A A' : Nat → Prop} {ι ι' : Nat → Lk} {H H' : Heap} {w w' : World} (k : Keeps A A' ι ι' H H' w w') {v : V} {cv : Value} (h : VR A ι H w v cv) :
    VR A' ι' H' w' v cv := by
  induction h generalizing H' with
  | lit v => exact .lit v
  | @arr H w rows b o cap sz hA hcap hsz hc hv ih =>
    have e : ∀ n, w'.cell? ⟨b, n, none⟩ = w.cell? ⟨b, n, none⟩ := fun n => cell_same (k.ww b hA)
    exact .arr rows b o cap sz (k.aa b hA) hcap hsz (fun i j r c h1 h2 => by rw [e]; exact hc i j r c h1 h2) (fun i j r c cv h1 h2 h3 => ih i j r c cv h1 h2 (by rw [← e]; exact h3) ⟨k.aa, k.ww, fun id blk h => by simp at h⟩)
  | @row H w cells b o hA hc hv ih =>
    have e : ∀ n, w'.cell? ⟨b, n, none⟩ = w.cell? ⟨b, n, none⟩ := fun n => cell_same (k.ww b hA)
    exact .row cells b o (k.aa b hA) (fun j c h1 => by rw [e]; exact hc j c h1) (fun j c cv h1 h3 => ih j c cv h1 (by rw [← e]; exact h3) ⟨k.aa, k.ww, fun id blk h => by simp at h⟩)
  | agg cs vs hl hv ih => exact .agg cs vs hl fun i c cv a b => ih i c cv a b k
  | tup cs vs hl hv ih => exact .tup cs vs hl fun i c cv a b => ih i c cv a b k
  | fn f cs vs hl hv ih => exact .fn f cs vs hl fun i c cv a b => ih i c cv a b k
  | own id ver off len a cap blk hid hf h =>
    obtain ⟨blk', h1, h2⟩ := k.hh id blk hid hf
    cases blk with
    | free => exact absurd rfl hf
    | rows sz ver0 rs =>
      have h0 := h sz ver0 rs rfl
      cases blk' with
      | rows sz' ver' rs' =>
        refine .own id ver off len a cap _ h1 (by simp) fun s v r e => ?_
        cases e
        rcases h2 with h2 | ⟨e1, e2, e3, e4⟩
        · rcases h0 with h0 | ⟨h0, _⟩
          · exact .inl (by omega)
          · exact .inl (by omega)
        · subst e1 e2; rw [e4, ← e3]; exact h0
      | free => simp [Later] at h2
      | gone => exact .own id ver off len a cap _ h1 (by simp) (fun _ _ _ e => by cases e)
      | map _ _ => simp [Later] at h2
      | iter _ _ => simp [Later] at h2
      | dfr => simp [Later] at h2
      | loop _ _ _ _ _ _ => simp [Later] at h2
    | _ => exact .own id ver off len a cap blk' h1 (by simp [Later] at h2; exact h2.2.1) (fun s v r e => absurd e (by simp [Later] at h2; exact h2.1 s v r))
  | ptr id ver r off a blk hid hf h =>
    obtain ⟨blk', h1, h2⟩ := k.hh id blk hid hf
    cases blk with
    | free => exact absurd rfl hf
    | rows sz ver0 rs =>
      have h0 := h sz ver0 rs rfl
      cases blk' with
      | rows sz' ver' rs' =>
        refine .ptr id ver r off a _ h1 (by simp) fun s v r e => ?_
        cases e
        rcases h2 with h2 | ⟨e1, e2, e3, e4⟩
        · rcases h0 with h0 | ⟨h0, _⟩
          · exact .inl (by omega)
          · exact .inl (by omega)
        · subst e1 e2; rw [e4]; exact h0
      | free => simp [Later] at h2
      | gone => exact .ptr id ver r off a _ h1 (by simp) (fun _ _ _ e => by cases e)
      | map _ _ => simp [Later] at h2
      | iter _ _ => simp [Later] at h2
      | dfr => simp [Later] at h2
      | loop _ _ _ _ _ _ => simp [Later] at h2
    | _ => exact .ptr id ver r off a blk' h1 (by simp [Later] at h2; exact h2.2.1) (fun s v r e => absurd e (by simp [Later] at h2; exact h2.1 s v r))
  | yld id blk hid hf hr =>
    obtain ⟨blk', h1, h2⟩ := k.hh id blk hid hf
    have h3 : (∀ sz ver rs, blk' ≠ .rows sz ver rs) ∧ blk' ≠ .free ∧ ι' id = ι id := by
      cases blk <;> first | exact absurd rfl hf | exact absurd rfl (hr _ _ _) | exact h2
    rw [← h3.2.2]; exact .yld id blk' h1 h3.2.1 h3.1
  | mp id blk hid hf hr =>
    obtain ⟨blk', h1, h2⟩ := k.hh id blk hid hf
    have h3 : (∀ sz ver rs, blk' ≠ .rows sz ver rs) ∧ blk' ≠ .free ∧ ι' id = ι id := by
      cases blk <;> first | exact absurd rfl hf | exact absurd rfl (hr _ _ _) | exact h2
    rw [← h3.2.2]; exact .mp id blk' h1 h3.2.1 h3.1
  | it id blk hid hf hr =>
    obtain ⟨blk', h1, h2⟩ := k.hh id blk hid hf
    have h3 : (∀ sz ver rs, blk' ≠ .rows sz ver rs) ∧ blk' ≠ .free ∧ ι' id = ι id := by
      cases blk <;> first | exact absurd rfl hf | exact absurd rfl (hr _ _ _) | exact h2
    rw [← h3.2.2]; exact .it id blk' h1 h3.2.1 h3.1

/-- What leans on no memory of the evaluator's own. -/
theorem VR.pure {A A' : Nat → Prop} {ι ι' : Nat → Lk} {H : Heap} {w : World} (hA : ∀ b, A b → A' b) {v : V} {cv : Value} (h : VR A ι [] w v cv) : VR A' ι' H w v cv :=
  h.keep ⟨hA, fun _ _ => rfl, fun id blk h => by simp at h⟩

/-- What one step of the program has done. -/
structure Ext (N A : Nat → Prop) (ι : Nat → Lk) (H : Heap) (w : World) (N' A' : Nat → Prop) (ι' : Nat → Lk) (H' : Heap) (w' : World) : Prop where
  sr : SR N' A' ι' H' w'
  keep : ∀ v cv, VR A ι H w v cv → VR A' ι' H' w' v cv
  nn : ∀ b, N b → N' b ∧ w'.heap[b]? = w.heap[b]?
  aa : ∀ b, A' b → A b ∨ w.heap.size ≤ b
  sub : ∀ b, A b → A' b
  size : w.heap.size ≤ w'.heap.size
  os : w'.os = w.os
  tape : w'.tape = w.tape
  output : w'.output = w.output

theorem Ext.refl {N A : Nat → Prop} {ι : Nat → Lk} {H : Heap} {w : World} (h : SR N A ι H w) : Ext N A ι H w N A ι H w :=
  ⟨h, fun _ _ h => h, fun _ h => ⟨h, rfl⟩, fun _ h => .inl h, fun _ h => h, Nat.le_refl _, rfl, rfl, rfl⟩

theorem Ext.trans {N A : Nat → Prop} {ι : Nat → Lk} {H : Heap} {w : World} {N' A' : Nat → Prop} {ι' : Nat → Lk} {H' : Heap} {w' : World} {N2 A2 : Nat → Prop} {ι2 : Nat → Lk} {H2 : Heap} {w2 : World}
    (h : Ext N A ι H w N' A' ι' H' w') (k : Ext N' A' ι' H' w' N2 A2 ι2 H2 w2) : Ext N A ι H w N2 A2 ι2 H2 w2 :=
  ⟨k.sr, fun v cv x => k.keep v cv (h.keep v cv x), fun b hb => ⟨(k.nn b (h.nn b hb).1).1, (k.nn b (h.nn b hb).1).2.trans (h.nn b hb).2⟩,
    fun b hb => (k.aa b hb).elim (h.aa b) (fun x => .inr (Nat.le_trans h.size x)), fun b hb => k.sub b (h.sub b hb), Nat.le_trans h.size k.size, k.os.trans h.os, k.tape.trans h.tape, k.output.trans h.output⟩

/-- The relation of the blocks, kept. -/
theorem BR.keep {A A' : Nat → Prop} {ι ι' : Nat → Lk} {H H' : Heap} {w w' : World} (k : ∀ v cv, VR A ι H w v cv → VR A' ι' H' w' v cv) {id : Nat} {blk : Blk}
    (hi : ι' id = ι id) (hw : blk.alive → w'.heap[(ι id).b]? = w.heap[(ι id).b]?) (h : BR A ι H w id blk) : BR A' ι' H' w' id blk := by
  cases blk with
  | free => trivial
  | gone => trivial
  | rows sz ver rs =>
    obtain ⟨cs, e, h1, h2, h3, h4, h5, h6⟩ := h
    refine ⟨cs, e, ?_, ?_, h3, ?_, ?_, by rw [hi]; exact h6⟩
    · rw [hi, hw trivial]; exact h1
    · rw [hi]; exact h2
    · rw [hi]; exact h4
    · rw [hi]; intro i j r c a b
      obtain ⟨cv, p, q⟩ := h5 i j r c a b
      exact ⟨cv, p, k _ _ q⟩
  | map es clock =>
    obtain ⟨es', h1, h2, h3⟩ := h
    refine ⟨es', ?_, h2, fun i kk v a => ?_⟩
    · rw [hi, hw trivial]; exact h1
    · obtain ⟨e, p, q, r⟩ := h3 i kk v a
      exact ⟨e, p, k _ _ q, k _ _ r⟩
  | iter s pos => simp only [BR] at h ⊢; rw [hi, hw trivial]; exact h
  | dfr => simp only [BR] at h ⊢; rw [hi, hw trivial]; exact h
  | loop ready pend tmps ps asg body =>
    obtain ⟨L, h1, h2, h3, h4, h5, h6, h7, h8⟩ := h
    refine ⟨L, ?_, h2, h3, h4, h5, h6, h7, fun i x cv a b => k _ _ (h8 i x cv a b)⟩
    rw [hi, hw trivial]; exact h1

theorem Later.refl (ι : Nat → Lk) (id : Nat) (b : Blk) : Later ι ι id b b := by
  cases b <;> simp [Later]

end Go.Proofs.YtpmdlaojndejfaaGreatDoor.E
