/- The evaluator's operations against the machine's: reading. -/
import Derived.Laws.CopyRow
import Derived.Laws.Entries
import Derived.Laws.Cells
import Derived.Orders
import Derived.Test.YtpmdlaojndejfaaGreatDoorEc
set_option linter.unusedVariables false
namespace Go.Proofs.YtpmdlaojndejfaaGreatDoor.E
open Go

theorem exists_list {p : Nat → Value → Prop} : ∀ n, (∀ j, j < n → ∃ v, p j v) → ∃ L : List Value, L.length = n ∧ ∀ (j : Nat) (v : Value), L[j]? = some v → p j v
  | 0, _ => ⟨[], rfl, fun j v h => by simp at h⟩
  | n + 1, h => by
    obtain ⟨L, h1, h2⟩ := exists_list n fun j hj => h j (by omega)
    obtain ⟨v, hv⟩ := h n (by omega)
    refine ⟨L ++ [v], by simp [h1], fun j x hx => ?_⟩
    rcases Nat.lt_or_ge j n with hj | hj
    · rw [List.getElem?_append_left (by omega)] at hx; exact h2 j x hx
    · have hlt := (List.getElem?_eq_some_iff.1 hx).1
      have e : j = n := by simp at hlt; omega
      subst e
      rw [List.getElem?_append_right (by omega)] at hx
      simp [h1] at hx; subst hx; exact hv

theorem add_none (b o n : Nat) : (⟨b, o, none⟩ : Addr).add n = ⟨b, o + n, none⟩ := by
  unfold Addr.add
  split
  · rename_i h; simp [h]
  · rfl

section
variable {P : Program} {A : Nat → Prop} {ι : Nat → Lk} {H : Heap} {w : World}

theorem und_info {t : TypeId} {d : TypeDesc} (h : P.underlying t = some d) : ∃ i, P.info? t = some i := by
  unfold Program.underlying at h
  cases hi : P.info? t with
  | none => rw [hi] at h; simp at h
  | some i => exact ⟨i, rfl⟩
theorem run_sizeT {t : TypeId} {i : TypeInfo} (h : P.info? t = some i) (w : World) : (sizeOf t).run P w = .ok (sizeT P t) w := by
  simp [sizeOf, typeInfo, h, sizeT, Program.cellsOf]
theorem run_isAggT {t : TypeId} {d : TypeDesc} (h : P.underlying t = some d) (w : World) : (isAgg t).run P w = .ok (aggT P t) w := by
  unfold isAgg aggT
  simp only [Sem.run_bind, run_underlying h, Result.andThen_ok, h]
  cases d <;> simp
theorem size_info {t : TypeId} (h : sizeT P t ≠ 0) : ∃ i, P.info? t = some i := by
  unfold sizeT Program.cellsOf at h
  cases hi : P.info? t with
  | none => rw [hi] at h; simp at h
  | some i => exact ⟨i, rfl⟩

/-- A variable's cells, read. -/
theorem loadVar_sound {t : TypeId} {cs : List V} {off : Nat} {x : V} (h : partT P t cs off = some x) {b base : Nat}
    (hc : ∀ (j : Nat) (c : V), cs[j]? = some c → ∃ cv, w.cell? ⟨b, base + j, none⟩ = some cv ∧ VR A ι H w c cv) :
    ∃ cv, (loadVar t ⟨b, base + off, none⟩).run P w = .ok cv w ∧ VR A ι H w x cv := by
  unfold partT at h
  split at h
  case isFalse => cases h
  rename_i hsome
  obtain ⟨d, hd⟩ := Option.isSome_iff_exists.1 hsome
  obtain ⟨i, hi⟩ := und_info hd
  unfold loadVar
  simp only [Sem.run_bind, run_isAggT hd, Result.andThen_ok]
  split at h
  · rename_i ha
    rw [if_pos ha]
    split at h
    · rename_i hl
      simp only [Option.some.injEq] at h; subst h
      obtain ⟨L, h1, h2⟩ := exists_list (p := fun j v => ∃ c, cs[off + j]? = some c ∧ w.cell? ⟨b, base + off + j, none⟩ = some v ∧ VR A ι H w c v) (sizeT P t) fun j hj => by
        have hlt : off + j < cs.length := by omega
        obtain ⟨cv, p, q⟩ := hc (off + j) _ (List.getElem?_eq_getElem hlt)
        exact ⟨cv, _, List.getElem?_eq_getElem hlt, by rw [Nat.add_assoc]; exact p, q⟩
      have hr := run_loadCells_list (P := P) w ⟨b, base + off, none⟩ L (fun j v hv => by
        rw [add_none]; obtain ⟨c, p, q, r⟩ := h2 j v hv; exact q)
      rw [h1] at hr
      refine ⟨.agg L.toArray, by simp [run_sizeT hi, hr], ?_⟩
      refine .agg _ _ (by simp [h1]; omega) fun j c cv e1 e2 => ?_
      obtain ⟨c', p, q, r⟩ := h2 j cv (by simpa using e2)
      have : c = c' := by
        rw [List.getElem?_take] at e1
        split at e1
        · rw [List.getElem?_drop, p] at e1; cases e1; rfl
        · cases e1
      subst this; exact r
    · cases h
  · rename_i ha
    rw [if_neg ha]
    obtain ⟨cv, p, q⟩ := hc off x h
    exact ⟨cv, by simp [p], q⟩

/-- What a block says of its cells. -/
theorem BR.cells {id sz ver : Nat} {rs : List (List V)} (h : BR A ι H w id (.rows sz ver rs)) {r : Nat} {cs : List V} (hr : rs[r]? = some cs) (j : Nat) (c : V) (hc : cs[j]? = some c) :
    ∃ cv, w.cell? ⟨(ι id).b, (ι id).o + r * sz + j, none⟩ = some cv ∧ VR A ι H w c cv := by
  obtain ⟨xs, e, h1, h2, h3, h4, h5, _⟩ := h
  obtain ⟨cv, p, q⟩ := h5 r j cs c hr hc
  exact ⟨cv, by simp [World.cell?, h1, p], q⟩

/-- The listed variables. -/
def GR (E : Env) (A : Nat → Prop) (ι : Nat → Lk) (H : Heap) (w : World) : Prop :=
  ∀ (g : Nat) (cs : List V), E.glob g = some cs → A g ∧ ∀ (j : Nat) (c : V), cs[j]? = some c → ∃ cv, w.cell? ⟨g, 0 + j, none⟩ = some cv ∧ VR A ι [] w c cv

theorem loadAt_sound {E : Env} {N : Nat → Prop} (hs : SR N A ι H w) (hg : GR E A ι H w) {t : TypeId} {a x : V} {ca : Value} (ha : VR A ι H w a ca)
    (h : loadT E H t a = some x) : ∃ cv, (Instr.loadAt t ca).run E.P w = .ok cv w ∧ VR A ι H w x cv := by
  cases ha with
  | ptr id ver r off a blk hid hf hh =>
    simp only [loadT, hid] at h
    cases blk with
    | rows sz ver' rs =>
      simp only at h
      split at h
      · rename_i e; subst e
        simp only [Option.bind_eq_some_iff] at h
        obtain ⟨cs, hcs, hp⟩ := h
        rcases hh sz _ rs rfl with hh | ⟨_, hh⟩
        · omega
        · subst hh
          obtain ⟨cv, p, q⟩ := loadVar_sound hp (b := (ι id).b) (base := (ι id).o + r * sz) (fun j c hc => (hs.live id _ hid).cells hcs j c hc)
          exact ⟨cv, by simpa [Instr.loadAt, Instr.sureAddr] using p, q⟩
      · cases h
    | _ => cases h
  | row cells b o hA hc hv =>
    simp only [loadT] at h
    obtain ⟨cv, p, q⟩ := loadVar_sound (A := A) (ι := ι) (H := H) (w := w) h (b := b) (base := o) (fun j c hj => by
      obtain ⟨cv, e⟩ := hc j c hj
      exact ⟨cv, e, (hv j c cv hj e).pure fun _ h => h⟩)
    exact ⟨cv, by simpa [Instr.loadAt, Instr.sureAddr] using p, q⟩
  | lit v =>
    unfold loadT at h
    split at h
    · rename_i e; cases e
    · rename_i e; cases e
    · rename_i g e
      cases e
      simp only [Option.bind_eq_some_iff] at h
      obtain ⟨cs, hcs, hp⟩ := h
      obtain ⟨cv, p, q⟩ := loadVar_sound (A := A) (ι := ι) (H := H) (w := w) hp (b := g) (base := 0) (fun j c hj => by
        obtain ⟨cv, e, q⟩ := (hg g cs hcs).2 j c hj
        exact ⟨cv, e, q.pure fun _ h => h⟩)
      exact ⟨cv, by simpa [Instr.loadAt, Instr.sureAddr] using p, q⟩
    · cases h
  | _ => simp [loadT] at h

theorem fieldAt_sound {s f : Nat} {a x : V} {ca : Value} (ha : VR A ι H w a ca) (h : fieldA P s f a = some x) :
    ∃ cv, (Instr.fieldAt s ca f).run P w = .ok cv w ∧ VR A ι H w x cv := by
  unfold fieldA at h
  simp only [Option.bind_eq_some_iff] at h
  obtain ⟨fd, h1, h2⟩ := h
  split at h2
  · cases h2
  rename_i hz
  obtain ⟨i, hi⟩ := size_info hz
  unfold fieldT at h1
  split at h1
  · rename_i fs hu
    cases ha with
    | ptr id ver r off a blk hid hf hh =>
      simp only [Option.some.injEq] at h2; subst h2
      refine ⟨.pointer (some (a.add fd.offset)), by simp [Instr.fieldAt, run_underlying hu, h1, Instr.sureAddr, fieldPlace, run_sizeT hi, hz], ?_⟩
      refine .ptr id ver r _ _ blk hid hf fun sz ver' rs e => ?_
      rcases hh sz ver' rs e with hq | ⟨hq, he⟩
      · exact .inl hq
      · exact .inr ⟨hq, by rw [he]; rw [add_none]; simp [Nat.add_assoc]⟩
    | row cells b o hA hc hv =>
      simp only [Option.some.injEq] at h2; subst h2
      refine ⟨.pointer (some ⟨b, o + fd.offset, none⟩), by simp [Instr.fieldAt, run_underlying hu, h1, Instr.sureAddr, fieldPlace, run_sizeT hi, hz, add_none], ?_⟩
      refine .row _ _ _ hA (fun j c hj => ?_) (fun j c cv hj e => ?_)
      · rw [List.getElem?_drop] at hj; obtain ⟨cv, e⟩ := hc _ _ hj; exact ⟨cv, by rw [Nat.add_assoc]; exact e⟩
      · rw [List.getElem?_drop] at hj; exact hv _ _ _ hj (by rw [← Nat.add_assoc]; exact e)
    | _ => simp at h2
  · cases h1

theorem intOf_eq {v : V} {n : Int} {cv : Value} (h : intOf v = some n) (hv : VR A ι H w v cv) : ∃ k, cv = .int k n := by
  cases hv with
  | lit _ => cases cv <;> simp [intOf] at h; subst h; exact ⟨_, rfl⟩
  | _ => simp [intOf] at h

theorem indexAt_sound {N : Nat → Prop} (hs : SR N A ι H w) {t : Nat} {x i y : V} {cx ci : Value} (hx : VR A ι H w x cx) (hi : VR A ι H w i ci) (h : indexA P H t x i = some y) :
    ∃ cv, (Instr.indexAt t cx ci).run P w = .ok cv w ∧ VR A ι H w y cv := by
  unfold indexA at h
  simp only [Option.bind_eq_some_iff] at h
  obtain ⟨n, hn, h⟩ := h
  obtain ⟨k, rfl⟩ := intOf_eq hn hi
  split at h
  · cases h
  rename_i hn0
  split at h
  · -- own
    rename_i e id ver off len hu
    split at h
    · rename_i hlt
      split at h
      · rename_i sz ver' rs hid
        split at h
        · rename_i hv
          obtain ⟨rfl, rfl, hz⟩ := hv
          obtain ⟨ki, hki⟩ := size_info hz
          simp only [Option.some.injEq] at h; subst h
          cases hx with
          | own _ _ _ _ a cap blk hid' hf hh =>
            rw [hid] at hid'; cases hid'
            rcases hh _ _ _ rfl with hh | ⟨_, h1, h2, h3, h4, _⟩
            · omega
            · have ha : a = ⟨(ι id).b, (ι id).o + off * sizeT P e, none⟩ := h4.resolve_left (by omega)
              subst ha
              have h0 : 0 ≤ n ∧ n < (len : Int) := ⟨by omega, by omega⟩
              refine ⟨.pointer (some ⟨(ι id).b, (ι id).o + off * sizeT P e + n.toNat * sizeT P e, none⟩), by simp [Instr.indexAt, asIntOf, run_underlying hu, h0, run_sizeT hki, add_none], ?_⟩
              refine .ptr id _ _ _ _ _ hid (by simp) fun s v r e' => ?_
              cases e'
              exact .inr ⟨rfl, by simp [Nat.add_mul, Nat.add_assoc]⟩
        · cases h
      · cases h
    · cases h
  · -- arr
    rename_i e rows hu
    simp only [Option.bind_eq_some_iff] at h
    obtain ⟨r, hr, h⟩ := h
    split at h
    · rename_i hl
      obtain ⟨hl, hz⟩ := hl
      obtain ⟨ki, hki⟩ := size_info hz
      simp only [Option.some.injEq] at h; subst h
      have hlt : n.toNat < rows.length := (List.getElem?_eq_some_iff.1 hr).1
      cases hx with
      | arr _ b o cap sz hA hcap hsz' hc hv =>
        have h0 : 0 ≤ n ∧ n < (rows.length : Int) := ⟨by omega, by omega⟩
        have hz : sz = sizeT P e := (hsz' _ _ hr).symm.trans hl
        subst hz
        refine ⟨.pointer (some ⟨b, o + n.toNat * sizeT P e, none⟩), by simp [Instr.indexAt, asIntOf, run_underlying hu, h0, run_sizeT hki, add_none], ?_⟩
        exact .row _ _ _ hA (fun j c hj => hc _ j r c hr hj) (fun j c cv hj e' => hv _ j r c cv hr hj e')
    · cases h
  · -- array, ptr
    rename_i ln e id ver r off hu
    split at h
    · rename_i hlt
      obtain ⟨hlt, hz⟩ := hlt
      obtain ⟨ki, hki⟩ := size_info hz
      simp only [Option.some.injEq] at h; subst h
      cases hx with
      | ptr _ _ _ _ a blk hid hf hh =>
        have h0 : 0 ≤ n ∧ n < (ln : Int) := ⟨by omega, by omega⟩
        refine ⟨.pointer (some (a.add (n.toNat * sizeT P e))), by simp [Instr.indexAt, asIntOf, run_underlying hu, h0, run_sizeT hki, Instr.sureAddr], ?_⟩
        refine .ptr id ver r _ _ blk hid hf fun sz ver' rs e' => ?_
        rcases hh sz ver' rs e' with hq | ⟨hq, he⟩
        · exact .inl hq
        · exact .inr ⟨hq, by rw [he]; rw [add_none]; simp [Nat.add_assoc]⟩
    · cases h
  · -- array, row
    rename_i ln e cs hu
    split at h
    · rename_i hlt
      obtain ⟨hlt, hz⟩ := hlt
      obtain ⟨ki, hki⟩ := size_info hz
      simp only [Option.some.injEq] at h; subst h
      cases hx with
      | row _ b o hA hc hv =>
        have h0 : 0 ≤ n ∧ n < (ln : Int) := ⟨by omega, by omega⟩
        refine ⟨.pointer (some ⟨b, o + n.toNat * sizeT P e, none⟩), by simp [Instr.indexAt, asIntOf, run_underlying hu, h0, run_sizeT hki, Instr.sureAddr, add_none], ?_⟩
        refine .row _ _ _ hA (fun j c hj => ?_) (fun j c cv hj e' => ?_)
        · rw [List.getElem?_drop] at hj; obtain ⟨cv, e'⟩ := hc _ _ hj; exact ⟨cv, by rw [Nat.add_assoc]; exact e'⟩
        · rw [List.getElem?_drop] at hj; exact hv _ _ _ hj (by rw [← Nat.add_assoc]; exact e')
    · cases h
  · cases h
end
end Go.Proofs.YtpmdlaojndejfaaGreatDoor.E
