/- The evaluator's operations against the machine's: append, slices of slices, new slices. -/
import Derived.Test.YtpmdlaojndejfaaGreatDoorEf
set_option linter.unusedVariables false
namespace Go.Proofs.YtpmdlaojndejfaaGreatDoor.E
open Go

section
variable {P : Program} {N A : Nat → Prop} {ι : Nat → Lk} {H H' : Heap} {w : World}

theorem grow_le (need : Nat) : ∀ (r c : Nat), Builtin.growBy need r c ≤ max c (need + (need + 768) / 4)
  | 0, c => by simp [Builtin.growBy]; omega
  | r + 1, c => by
    simp only [Builtin.growBy]
    split
    · omega
    · have := grow_le need r (c + (c + 768) / 4)
      omega
theorem next_le {need c : Nat} (h : ¬ need ≤ c) : Builtin.nextslicecap need c ≤ 2 * need + 192 := by
  unfold Builtin.nextslicecap
  split
  · omega
  · split
    · omega
    · have := grow_le need 4 c; omega

theorem args_some {ts : Array TypeId} {e : TypeId} (h : appendArgs P ts = some e) :
    ∃ t u d, ts[0]? = some t ∧ ts[1]? = some u ∧ P.underlying t = some (.slice e) ∧ P.underlying u = some d ∧ ((∃ x, d = .slice x) ∨ d = .string) := by
  unfold appendArgs at h
  split at h
  · rename_i t u h0 h1
    split at h
    · rename_i e' u' hu hv
      simp only [Option.some.injEq] at h; subst h
      exact ⟨t, u, _, h0, h1, hu, hv, .inl ⟨_, rfl⟩⟩
    · rename_i e' hu hv
      simp only [Option.some.injEq] at h; subst h
      exact ⟨t, u, _, h0, h1, hu, hv, .inr rfl⟩
    · cases h
  · cases h

theorem run_append_in {ts : Array TypeId} {ty e : TypeId} (ha : appendArgs P ts = some e) {i : TypeInfo} (hi : P.info? e = some i) {base : Option Addr} {sLen sCap n : Nat} {cx : Value} {new : List Value}
    (hn : (Builtin.lenOf cx).run P w = .ok n w) (hnew : (Builtin.firstCells (sizeT P e) n cx).run P w = .ok new.toArray w) (hfit : sLen + n ≤ sCap) {w' : World}
    (hst : base = none ∧ w' = w ∨ ∃ a, base = some a ∧ (storeCells (a.add (sLen * sizeT P e)) new).run P w = .ok () w') :
    (Builtin.append_ ts ty #[.slice base sLen sCap, cx]).run P w = .ok (.slice base (sLen + n) sCap) w' := by
  obtain ⟨t, u, d, h0, h1, hu, hv, hd⟩ := args_some ha
  unfold Builtin.append_
  rcases hst with ⟨rfl, rfl⟩ | ⟨a, rfl, hst⟩
  · rcases hd with ⟨x, rfl⟩ | rfl <;> simp [h0, h1, run_underlying hu, run_underlying hv, run_sizeT hi, hn, hnew, hfit]
  · rcases hd with ⟨x, rfl⟩ | rfl <;> simp [h0, h1, run_underlying hu, run_underlying hv, run_sizeT hi, hn, hnew, hfit, hst]

theorem run_append_grow {ts : Array TypeId} {ty e : TypeId} (ha : appendArgs P ts = some e) {i : TypeInfo} (hi : P.info? e = some i) {zv : Value} (hzv : i.zero = some zv) (hbytes : i.bytes ≤ 1000000)
    {base : Option Addr} {sLen sCap n : Nat} {cx : Value} {old new : List Value}
    (hn : (Builtin.lenOf cx).run P w = .ok n w) (hbound : sLen + n ≤ 2000000) (hfit : ¬ sLen + n ≤ sCap)
    (hold : ∀ w2 : World, w2.heap = w.heap → (Builtin.firstCells (sizeT P e) sLen (.slice base sLen sCap)).run P w2 = .ok old.toArray w2)
    (hnew : ∀ w2 : World, w2.heap = w.heap → (Builtin.firstCells (sizeT P e) n cx).run P w2 = .ok new.toArray w2) :
    ∃ cap, sLen + n ≤ cap ∧ (Builtin.append_ ts ty #[.slice base sLen sCap, cx]).run P w =
      .ok (.slice (some ⟨w.heap.size, 0, none⟩) (sLen + n) cap) (w.drew.alloc (.cells ((old ++ new).toArray ++ Builtin.zeroCells zv.cells (cap - (sLen + n))) e)) := by
  obtain ⟨t, u, d, h0, h1, hu, hv, hd⟩ := args_some ha
  have hsmall : ¬ (Builtin.nextslicecap (sLen + n) sCap * i.bytes > 2 ^ 48) := by
    have h1 := next_le hfit
    have h2 : Builtin.nextslicecap (sLen + n) sCap * i.bytes ≤ 5000000 * 1000000 := Nat.mul_le_mul (by omega) hbytes
    omega
  have hmax : ¬ (9223372036854775807 < (sLen : Int) + (n : Int) ∧ i.bytes = 0) := by
    intro ⟨h, _⟩
    omega
  have hsm : ¬ 281474976710656 < Builtin.nextslicecap (sLen + n) sCap * i.bytes := by simpa using hsmall
  refine ⟨(Question.appendCap (sLen + n) sCap e).cut (w.tape w.drawn (.appendCap (sLen + n) sCap e)), by simp [Question.cut], ?_⟩
  unfold Builtin.append_
  have ho := hold w.drew rfl
  have hw := hnew w.drew rfl
  have ti : ∀ w : World, (typeInfo e).run P w = .ok i w := fun w => by simp [typeInfo, hi]
  have zi : ∀ w : World, (zeroValue e).run P w = .ok zv w := fun w => by simp [zeroValue, typeInfo, hi, hzv]
  rcases hd with ⟨x, rfl⟩ | rfl
  · simp [h0, h1, run_underlying hu, run_underlying hv, run_sizeT hi, hn, hfit, ti, zi, Question.forced, newRow, hmax, hsm, ho, hw]
    congr 2; apply Array.ext'; simp
  · simp [h0, h1, run_underlying hu, run_underlying hv, run_sizeT hi, hn, hfit, ti, zi, Question.forced, newRow, hmax, hsm, ho, hw]
    congr 2; apply Array.ext'; simp

theorem VR.sr_keep {A' : Nat → Prop} {ι' : Nat → Lk} {H' : Heap} {w w' : World} (e : Ext N A ι H w N A' ι' H' w') {v : V} {cv : Value} (h : VR A ι H w v cv) : VR A' ι' H' w' v cv := e.keep _ _ h

/-- What an operation comes to. -/
def Out (P : Program) (N A : Nat → Prop) (ι : Nat → Lk) (H : Heap) (w : World) (s : Sem Value) (v : V) (H' : Heap) : Prop :=
  ∃ cv w' N' A' ι', s.run P w = .ok cv w' ∧ Ext N A ι H w N' A' ι' H' w' ∧ VR A' ι' H' w' v cv

theorem Out.still (hs : SR N A ι H w) {s : Sem Value} {v : V} {cv : Value} (h : s.run P w = .ok cv w) (hv : VR A ι H w v cv) : Out P N A ι H w s v H :=
  ⟨cv, w, N, A, ι, h, Ext.refl hs, hv⟩

theorem VR.drew {v : V} {cv : Value} (h : VR A ι H w v cv) : VR A ι H w.drew v cv :=
  VR.keep (A := A) (A' := A) (ι := ι) (ι' := ι) (H := H) (H' := H) (w := w) (w' := w.drew) ⟨fun _ h => h, fun _ _ => rfl, fun id b hb _ => ⟨b, hb, .same rfl b⟩⟩ h
theorem Ext.drew (hs : SR N A ι H w) : Ext N A ι H w N A ι H w.drew :=
  ⟨⟨fun id b hb => BR.keep (w := w) (w' := w.drew) (fun v cv x => x.drew) rfl (fun _ => rfl) (hs.live id b hb), hs.inj, hs.apart, hs.an, hs.lt⟩,
    fun _ _ x => x.drew, fun b hb => ⟨hb, rfl⟩, fun b hb => .inl hb, fun b hb => hb, Nat.le_refl _, rfl, rfl, rfl⟩

/-- Rows stored behind a row. -/
theorem store_rows (P : Program) {b start : Nat} {xs : Array Value} {e : TypeId} (hb : w.heap[b]? = some (.cells xs e (0, 0))) {new : List Value} (hone : ∀ v ∈ new, v.oneCell' = true) (hfit : start + new.length ≤ xs.size) :
    ∃ (w' : World) (xs' : Array Value), (storeCells ⟨b, start, none⟩ new).run P w = .ok () w' ∧ w'.heap[b]? = some (.cells xs' e (0, 0)) ∧ xs'.size = xs.size ∧
      (∀ k, xs'[k]? = if k < start then xs[k]? else if k < start + new.length then new[k - start]? else xs[k]?) ∧
      (∀ k, k ≠ b → w'.heap[k]? = w.heap[k]?) ∧ w'.heap.size = w.heap.size ∧ w'.os = w.os ∧ w'.tape = w.tape ∧ w'.output = w.output := by
  have hrun := run_storeCells_at (P := P) b start e new 0 xs w hb (by simpa using hfit) hone
  simp only [Nat.add_zero] at hrun
  refine ⟨_, _, hrun, setRow_heap w _ xs _ e _ hb, ?_, fun k => ?_, fun k hk => setRow_other _ _ _ _ hk, by simp, rfl, rfl, rfl⟩
  · simp; omega
  · have := seg_get xs.toList new start (by simpa using hfit) k
    simpa using this

theorem append_sound (hs : SR N A ι H w) {nid : Nat} {ts : Array TypeId} {ty : TypeId} {s x v : V} {cs cx : Value} (hsv : VR A ι H w s cs) (hxv : VR A ι H w x cx)
    (h : appendV P nid H ts s x = some (v, H')) : Out P N A ι H w (Builtin.append_ ts ty #[cs, cx]) v H' := by
  simp only [appendV, Option.bind_eq_some_iff] at h
  obtain ⟨e, ha, z, hz, nr, hnr, h⟩ := h
  obtain ⟨i, zv, hi, hzv, rfl⟩ := zeroT_some hz
  split at h
  case isFalse => cases h
  rename_i hc
  obtain ⟨c1, c2, c3, c4, c5, c6⟩ := hc
  have c4' : i.bytes ≤ 1000000 := by simpa [Program.bytesOf, hi] using c4
  have hzc : zv.cells.size = sizeT P e := by
    rw [← c2]; exact ((cells_rel (A := A) (ι := ι) (H := H) (w := w) (VR.ofValue zv) c3).1.1).symm
  have hl : ∀ (i : Nat) (r : List V), nr[i]? = some r → r.length = sizeT P e := fun i r a => by
    have := List.all_eq_true.1 c6 r (List.mem_of_getElem? a)
    simp at this; exact this.1
  have hsc : ∀ (i : Nat) (r : List V), nr[i]? = some r → r.all scalarV = true := fun i r a => by
    have := List.all_eq_true.1 c6 r (List.mem_of_getElem? a)
    simp at this ⊢; exact this.2
  obtain ⟨hn, new, n1, n2, n3, n4⟩ := firstCells_sound (P := P) hs hxv hnr c1 hl hsc
  split at h
  · -- nil
    cases hsv with
    | lit _ =>
      split at h
      · rename_i h0
        simp only [Option.some.injEq, Prod.mk.injEq] at h
        obtain ⟨rfl, rfl⟩ := h
        refine Out.still hs (cv := .slice none 0 0) ?_ (.lit _)
        have := run_append_in (ty := ty) (base := none) (sLen := 0) (sCap := 0) (w' := w) ha hi hn (n3 w rfl) (by omega) (.inl ⟨rfl, rfl⟩)
        rw [h0] at this; exact this
      · rename_i h0
        simp only [Option.map_eq_some_iff, Prod.mk.injEq] at h
        obtain ⟨H1, hp, rfl, rfl⟩ := h
        obtain ⟨cap, k1, k2⟩ := run_append_grow (ty := ty) (w := w) (base := none) (sLen := 0) (sCap := 0) (old := []) ha hi hzv c4' hn (by omega) (by omega) (fun w2 _ => by simp [Builtin.firstCells]) n3
        simp only [List.nil_append, Nat.zero_add] at k2 k1
        have hsz : (new.toArray ++ Builtin.zeroCells zv.cells (cap - nr.length)).size = cap * sizeT P e := by
          simp [Builtin.zeroCells, n1, hzc, ← Nat.add_mul]; congr 1; omega
        obtain ⟨p1, _, _⟩ := place_get hp
        have ex0 := Ext.drew hs
        have ex := newRow_sound ex0.sr hp (new.toArray ++ Builtin.zeroCells zv.cells (cap - nr.length)) e hl (by rw [hsz]; exact Nat.mul_le_mul_right _ k1) (fun i j r c a b => by
          obtain ⟨cv, p, q⟩ := n4 i j r c a b
          refine ⟨cv, ?_, q.drew⟩
          have hlt := (List.getElem?_eq_some_iff.1 p).1
          rw [Array.getElem?_append_left (by simpa using hlt)]; simpa using p) ⟨fun t ht => by rw [Nat.mul_div_cancel _ (by decide)] at ht; omega, fun t ht => by rw [Nat.mul_div_cancel _ (by decide)] at ht; exact ⟨by omega, rfl⟩⟩
        refine ⟨_, _, N, A, _, k2, ex0.trans ex, ?_⟩
        refine .own _ _ _ _ _ _ _ p1 (by simp) fun s v r e' => ?_
        cases e'
        refine .inr ⟨rfl, by simp, by omega, by rw [upd_same, hsz]; simp, .inr ?_, by simp [upd_same], rfl⟩
        rw [upd_same]; simp
  · -- own
    rename_i id ver off len
    split at h
    case h_2 => cases h
    rename_i sz ver' rs hid
    split at h
    case isFalse => cases h
    rename_i hcond
    obtain ⟨rfl, rfl, d1, d2⟩ := hcond
    cases hsv with
    | own _ _ _ _ a cap blk hid' hf hh =>
    rw [hid] at hid'; cases hid'
    rcases hh _ _ _ rfl with hq | ⟨_, q1, q2, q3, q4, q5⟩
    · omega
    obtain ⟨xs, el, b1, b2, b3, b4, b5, b6⟩ := hs.live id _ hid
    split at h
    · -- nothing is appended
      rename_i h0
      simp only [Option.some.injEq, Prod.mk.injEq] at h
      obtain ⟨rfl, rfl⟩ := h
      have hnew : new = [] := List.length_eq_zero_iff.1 (by rw [n1, h0]; simp)
      subst hnew
      refine Out.still hs (cv := .slice (some a) len cap) ?_ (.own id ver' off len a cap _ hid hf hh)
      have := run_append_in (ty := ty) (base := some a) (sLen := len) (sCap := cap) (w' := w) ha hi hn (n3 w rfl) (by omega) (.inr ⟨a, rfl, by simp [storeCells]⟩)
      rw [h0] at this; exact this
    rename_i h0
    have pos : 0 < sizeT P e := Nat.pos_of_ne_zero c1
    split at h
    · -- in its place
      rename_i hin
      simp only [Option.some.injEq, Prod.mk.injEq] at h
      obtain ⟨rfl, rfl⟩ := h
      have ha' := q4.resolve_left (by omega)
      subst ha'
      have hfit : (ι id).o + (off + len) * sizeT P e + new.length ≤ xs.size := by
        have : (off + len + nr.length) * sizeT P e ≤ rs.length * sizeT P e := Nat.mul_le_mul_right _ hin
        rw [Nat.add_mul] at this; rw [n1]; omega
      obtain ⟨w', xs', r1, r2, r3, r4, r5, r6, r7, r8, r9⟩ := store_rows (w := w) P b1 n2 hfit
      have hrun := run_append_in (ty := ty) (base := some ⟨(ι id).b, (ι id).o + off * sizeT P e, none⟩) (sLen := len) (sCap := cap) (w' := w') ha hi hn (n3 w rfl) (by omega) (.inr ⟨_, rfl, by
        rw [add_none, Nat.add_assoc, ← Nat.add_mul]; exact r1⟩)
      have seg := seg_get rs nr (off + len) hin
      have slen := seg_len rs nr (off + len) hin
      refine ⟨_, w', N, A, upd ι id (ι id), hrun, Ext.turn hs hid trivial (L := ι id) (.inl rfl) (fun k _ hk => r5 k hk) (by omega) r7 r8 r9 ?_ ?_, ?_⟩
      · simp only [Later, upd_same]; exact .inr ⟨trivial, trivial, slen.symm, trivial⟩
      · intro keep
        refine ⟨xs', el, by rw [upd_same]; exact r2, by rw [upd_same]; omega, fun i r a => ?_, by rw [upd_same, slen]; omega, fun i j r c a a' => ?_, by rw [upd_same, slen]; exact b6⟩
        · rw [seg] at a
          split at a
          · exact b3 _ _ a
          · split at a
            · exact hl _ _ a
            · exact b3 _ _ a
        · rw [upd_same, r4]
          have hr : r.length = sizeT P e := by
            rw [seg] at a
            split at a
            · exact b3 _ _ a
            · split at a
              · exact hl _ _ a
              · exact b3 _ _ a
          have hj : j < sizeT P e := hr ▸ (List.getElem?_eq_some_iff.1 a').1
          rw [seg] at a
          split at a
          · rename_i g1
            have := row_in (sz := sizeT P e) (j := j) g1 hj
            rw [if_pos (by omega)]
            obtain ⟨cv, p, q⟩ := b5 i j r c a a'
            exact ⟨cv, p, keep _ _ q⟩
          · rename_i g1
            have g1' : (off + len) * sizeT P e ≤ i * sizeT P e := Nat.mul_le_mul_right _ (by omega)
            rw [if_neg (by omega)]
            split at a
            · rename_i g2
              have g3 : i * sizeT P e + j < (off + len + nr.length) * sizeT P e := row_in g2 hj
              rw [Nat.add_mul] at g3
              rw [if_pos (by rw [n1]; omega)]
              obtain ⟨cv, p, q⟩ := n4 _ j r c a a'
              have e1 : (ι id).o + i * sizeT P e + j - ((ι id).o + (off + len) * sizeT P e) = (i - (off + len)) * sizeT P e + j := by
                rw [Nat.sub_mul]; omega
              rw [e1]
              exact ⟨cv, p, keep _ _ q⟩
            · rename_i g2
              have g3 : (off + len + nr.length) * sizeT P e ≤ i * sizeT P e := Nat.mul_le_mul_right _ (by omega)
              rw [Nat.add_mul] at g3
              rw [if_neg (by rw [n1]; omega)]
              obtain ⟨cv, p, q⟩ := b5 i j r c a a'
              exact ⟨cv, p, keep _ _ q⟩
      · have hlt : id < H.length := (List.getElem?_eq_some_iff.1 hid).1
        refine .own id ver' off (len + nr.length) _ cap (.rows (sizeT P e) ver' (rs.take (off + len) ++ nr ++ rs.drop (off + len + nr.length))) (by simp [hlt]) (by simp) fun s v r e' => ?_
        cases e'
        exact .inr ⟨rfl, by rw [slen]; omega, by rw [slen]; omega, by rw [upd_same]; exact q3, .inr (by rw [upd_same]), by rw [upd_same], rfl⟩
    · -- longer than before
      rename_i hin
      split at h
      case isFalse => cases h
      rename_i hvok
      simp only [Option.some.injEq, Prod.mk.injEq] at h
      obtain ⟨rfl, rfl⟩ := h
      have hlt : id < H.length := (List.getElem?_eq_some_iff.1 hid).1
      have htl : ((rs.drop off).take len).length = len := by simp; omega
      have hget : ∀ (i : Nat) (r : List V), ((rs.drop off).take len ++ nr)[i]? = some r → (i < len ∧ rs[off + i]? = some r) ∨ (len ≤ i ∧ nr[i - len]? = some r) := by
        intro i r a
        rcases Nat.lt_or_ge i len with g | g
        · rw [List.getElem?_append_left (by omega), List.getElem?_take, if_pos g, List.getElem?_drop] at a
          exact .inl ⟨g, a⟩
        · rw [List.getElem?_append_right (by omega), htl] at a
          exact .inr ⟨g, a⟩
      by_cases hcap : len + nr.length ≤ cap
      · have ha' := q4.resolve_left (by omega)
        subst ha'
        have hfit : (ι id).o + (off + len) * sizeT P e + new.length ≤ xs.size := by
          have : (off + (len + nr.length)) * sizeT P e ≤ (off + cap) * sizeT P e := Nat.mul_le_mul_right _ (by omega)
          rw [← Nat.add_assoc, Nat.add_mul] at this; rw [n1]; omega
        obtain ⟨w', xs', r1, r2, r3, r4, r5, r6, r7, r8, r9⟩ := store_rows (w := w) P b1 n2 hfit
        have hrun := run_append_in (ty := ty) (base := some ⟨(ι id).b, (ι id).o + off * sizeT P e, none⟩) (sLen := len) (sCap := cap) (w' := w') ha hi hn (n3 w rfl) hcap (.inr ⟨_, rfl, by
          rw [add_none, Nat.add_assoc, ← Nat.add_mul]; exact r1⟩)
        refine ⟨_, w', N, A, upd ι id ⟨(ι id).b, (ι id).o + off * sizeT P e, (ι id).n⟩, hrun, Ext.turn hs hid trivial (L := ⟨(ι id).b, (ι id).o + off * sizeT P e, (ι id).n⟩) (.inl rfl) (fun k _ hk => r5 k hk) (by omega) r7 r8 r9 ?_ ?_, ?_⟩
        · simp only [Later]; exact .inl (by omega)
        · intro keep
          refine ⟨xs', el, by rw [upd_same]; exact r2, by rw [upd_same]; simp; omega, fun i r a => ?_, ?_, fun i j r c a a' => ?_, ?_⟩
          · rcases hget i r a with ⟨_, g⟩ | ⟨_, g⟩
            · exact b3 _ _ g
            · exact hl _ _ g
          · rw [upd_same]; simp only [List.length_append, htl]
            have : (off + (len + nr.length)) * sizeT P e ≤ (off + cap) * sizeT P e := Nat.mul_le_mul_right _ (by omega)
            rw [Nat.add_mul] at this; omega
          · rw [upd_same, r4]
            have hr : r.length = sizeT P e := by
              rcases hget i r a with ⟨_, g⟩ | ⟨_, g⟩
              · exact b3 _ _ g
              · exact hl _ _ g
            have hj : j < sizeT P e := hr ▸ (List.getElem?_eq_some_iff.1 a').1
            rcases hget i r a with ⟨g1, g⟩ | ⟨g1, g⟩
            · have := row_in (sz := sizeT P e) (j := j) (i := off + i) (n := off + len) (by omega) hj
              rw [Nat.add_mul] at this
              rw [if_pos (by simp only; omega)]
              obtain ⟨cv, p, q⟩ := b5 (off + i) j r c g a'
              refine ⟨cv, ?_, keep _ _ q⟩
              rw [Nat.add_mul] at p; rw [← p]; congr 1; simp only; omega
            · have g3 : len * sizeT P e ≤ i * sizeT P e := Nat.mul_le_mul_right _ g1
              have g2 : i < len + nr.length := by have := (List.getElem?_eq_some_iff.1 g).1; omega
              have g4 : i * sizeT P e + j < (len + nr.length) * sizeT P e := row_in g2 hj
              rw [Nat.add_mul] at g4
              have g5 : (off + len) * sizeT P e = off * sizeT P e + len * sizeT P e := Nat.add_mul _ _ _
              rw [if_neg (by simp only; omega), if_pos (by simp only; rw [n1]; omega)]
              obtain ⟨cv, p, q⟩ := n4 _ j r c g a'
              refine ⟨cv, ?_, keep _ _ q⟩
              rw [← p]; congr 1
              rw [Nat.sub_mul]; simp only; omega
          · rw [upd_same]
            rcases hvok with hv | ⟨hv1, hv2, rfl⟩
            · exact .zero hv
            · have := b6.2 e hv1
              exact ⟨fun t ht => by omega, fun t ht => ⟨by rw [this.1]; omega, by simp [this.2]⟩⟩
        · refine .own id (ver' + 1) 0 (len + nr.length) _ cap (.rows (sizeT P e) (ver' + 1) ((rs.drop off).take len ++ nr)) (by simp [hlt]) (by simp) fun s v r e' => ?_
          cases e'
          refine .inr ⟨rfl, by simp only [List.length_append, htl]; omega, by simp only [List.length_append, htl]; omega, ?_, .inr ?_, by simp [upd_same], rfl⟩
          · rw [upd_same]; simp only [Nat.zero_add]; rw [Nat.add_mul] at q3; omega
          · rw [upd_same]; simp
      · -- a new block
        have hsub := (hs.live id _ hid).sub off len
        have hold : ∃ old : List Value, old.length = len * sizeT P e ∧ (∀ w2 : World, w2.heap = w.heap → (Builtin.firstCells (sizeT P e) len (.slice (some a) len cap)).run P w2 = .ok old.toArray w2) ∧
            ∀ (i j : Nat) (r : List V) (c : V), ((rs.drop off).take len)[i]? = some r → r[j]? = some c → ∃ cv, old[i * sizeT P e + j]? = some cv ∧ VR A ι H w c cv := by
          rcases q4 with q4 | q4
          · have h0 : len = 0 := by omega
            subst h0
            exact ⟨[], by simp, fun w2 _ => by simp [Builtin.firstCells, loadCells, loadCellsFrom], fun i j r c a => by simp at a⟩
          · subst q4
            obtain ⟨L, l1, l2, l3⟩ := rows_read (P := P) c1 hsub.1 hsub.2
            rw [htl] at l1 l2
            exact ⟨L, l1, fun w2 hw => by simp only [Builtin.firstCells]; exact l2 w2 hw, l3⟩
        obtain ⟨old, o1, o2, o3⟩ := hold
        obtain ⟨cap', k1, k2⟩ := run_append_grow (ty := ty) (w := w) (base := some a) (sLen := len) (sCap := cap) (old := old) ha hi hzv c4' hn (by omega) hcap o2 n3
        have hsz : ((old ++ new).toArray ++ Builtin.zeroCells zv.cells (cap' - (len + nr.length))).size = cap' * sizeT P e := by
          simp [Builtin.zeroCells, n1, o1, hzc, ← Nat.add_mul]; congr 1; omega
        have ex0 := Ext.drew hs
        refine ⟨_, _, N, A, upd ι id ⟨w.heap.size, 0, cap' * sizeT P e⟩, k2, ex0.trans (Ext.turn ex0.sr hid trivial (L := ⟨w.heap.size, 0, cap' * sizeT P e⟩) (.inr rfl) (fun k hk _ => alloc_lt w.drew _ k hk) (by simp) rfl rfl rfl ?_ ?_), ?_⟩
        · simp only [Later]; exact .inl (by omega)
        · intro keep
          refine ⟨_, e, by rw [upd_same]; exact alloc_new w.drew _, by rw [upd_same]; exact hsz, fun i r a => ?_, ?_, fun i j r c a a' => ?_, ?_⟩
          · rcases hget i r a with ⟨_, g⟩ | ⟨_, g⟩
            · exact b3 _ _ g
            · exact hl _ _ g
          · rw [upd_same, hsz]; simp only [List.length_append, htl, Nat.zero_add]; exact Nat.mul_le_mul_right _ k1
          · rw [upd_same]
            have hr : r.length = sizeT P e := by
              rcases hget i r a with ⟨_, g⟩ | ⟨_, g⟩
              · exact b3 _ _ g
              · exact hl _ _ g
            have hj : j < sizeT P e := hr ▸ (List.getElem?_eq_some_iff.1 a').1
            simp only [Nat.zero_add]
            rcases Nat.lt_or_ge i len with g | g
            · rw [List.getElem?_append_left (by omega)] at a
              obtain ⟨cv, p, q⟩ := o3 i j r c a a'
              have hlo := (List.getElem?_eq_some_iff.1 p).1
              refine ⟨cv, ?_, keep _ _ q.drew⟩
              rw [Array.getElem?_append_left (by simp; omega)]
              simp only [List.getElem?_toArray]
              rw [List.getElem?_append_left hlo]; exact p
            · rw [List.getElem?_append_right (by omega), htl] at a
              obtain ⟨cv, p, q⟩ := n4 _ j r c a a'
              have hlo := (List.getElem?_eq_some_iff.1 p).1
              have g3 : len * sizeT P e ≤ i * sizeT P e := Nat.mul_le_mul_right _ g
              have e1 : i * sizeT P e + j - old.length = (i - len) * sizeT P e + j := by rw [o1, Nat.sub_mul]; omega
              refine ⟨cv, ?_, keep _ _ q.drew⟩
              rw [Array.getElem?_append_left (by simp; omega)]
              simp only [List.getElem?_toArray]
              rw [List.getElem?_append_right (by omega), e1]; exact p
          · rw [upd_same]
            rcases hvok with hv | ⟨hv1, hv2, _⟩
            · exact .zero hv
            · exact ⟨fun t ht => by omega, fun t ht => ⟨by omega, rfl⟩⟩
        · refine .own id (ver' + 1) 0 (len + nr.length) _ cap' (.rows (sizeT P e) (ver' + 1) ((rs.drop off).take len ++ nr)) (by simp [hlt]) (by simp) fun s v r e' => ?_
          cases e'
          refine .inr ⟨rfl, by simp only [List.length_append, htl]; omega, by simp only [List.length_append, htl]; omega, ?_, .inr ?_, by simp [upd_same], rfl⟩
          · rw [upd_same]; simp
          · rw [upd_same]; simp
  · cases h
end
end Go.Proofs.YtpmdlaojndejfaaGreatDoor.E
