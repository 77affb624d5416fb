/- The evaluator's operations against the machine's: slices of slices, new slices, maps, texts by code points. -/
import Derived.Test.YtpmdlaojndejfaaGreatDoorEg
set_option linter.unusedVariables false
set_option linter.unusedSimpArgs false
namespace Go.Proofs.YtpmdlaojndejfaaGreatDoor.E
open Go

section
variable {P : Program} {N A : Nat → Prop} {ι : Nat → Lk} {H H' : Heap} {w : World}

/-- Two values that may be there, related. -/
def OR (A : Nat → Prop) (ι : Nat → Lk) (H : Heap) (w : World) : Option V → Option Value → Prop
  | none, none => True
  | some v, some cv => VR A ι H w v cv
  | _, _ => False

theorem bound_eq {d l : Nat} {o : Option V} {co : Option Value} (h : boundOf d o = some l) (hr : OR A ι H w o co) : (co = none ∧ l = d) ∨ ∃ k, co = some (.int k l) := by
  cases o with
  | none =>
    cases co with
    | none => simp [boundOf] at h; exact .inl ⟨rfl, h.symm⟩
    | some _ => exact hr.elim
  | some v =>
    cases co with
    | none => exact hr.elim
    | some cv =>
      simp only [boundOf, Option.bind_eq_some_iff] at h
      obtain ⟨n, hn, h⟩ := h
      split at h
      · rename_i h0
        simp only [Option.some.injEq] at h
        obtain ⟨k, rfl⟩ := intOf_eq hn hr
        refine .inr ⟨k, ?_⟩
        rw [← h, Int.toNat_of_nonneg h0]
      · cases h

theorem run_bounds {len cap l h : Nat} {lo hi : Option V} {clo chi : Option Value} (hl : boundOf 0 lo = some l) (hh : boundOf len hi = some h) (rl : OR A ι H w lo clo) (rh : OR A ι H w hi chi)
    (h1 : l ≤ h) (h2 : h ≤ cap) : (Instr.sliceBounds true len cap clo chi none).run P w = .ok (l, h, cap) w := by
  have sb : ∀ (k : IntKind) (n y : Nat) (code : BoundsCode), n ≤ y → (Instr.sliceBound (.int k n) y code).run P w = .ok n w := by
    intro k n y code hle
    simp [Instr.sliceBound, asIntOf, hle]
  rcases bound_eq hl rl with ⟨rfl, rfl⟩ | ⟨k, rfl⟩ <;> rcases bound_eq hh rh with ⟨rfl, rfl⟩ | ⟨k', rfl⟩ <;>
    simp [Instr.sliceBounds, sb _ _ _ _ h1, sb _ _ _ _ h2]

theorem sliceAt_sound (hs : SR N A ι H w) {t : TypeId} {x v : V} {cx : Value} {lo hi : Option V} {clo chi : Option Value} (hx : VR A ι H w x cx) (rl : OR A ι H w lo clo) (rh : OR A ι H w hi chi)
    (h : sliceV P H t x lo hi = some v) : ∃ cv, (Instr.sliceAt t cx clo chi none).run P w = .ok cv w ∧ VR A ι H w v cv := by
  unfold sliceV at h
  split at h
  · rename_i e id ver off len hu
    simp only [Option.bind_eq_some_iff] at h
    obtain ⟨l, hl, hh', hhi, h⟩ := h
    split at h
    · rename_i sz ver' rs hid
      split at h
      · rename_i hc
        obtain ⟨rfl, rfl, hz, c1, c2⟩ := hc
        simp only [Option.some.injEq] at h; subst h
        cases hx with
        | own _ _ _ _ a cap blk hid' hf hh =>
          rw [hid] at hid'; cases hid'
          rcases hh _ _ _ rfl with hq | ⟨_, q1, q2, q3, q4, q5⟩
          · omega
          have hb := run_bounds (P := P) (cap := cap) hl hhi rl rh c1 (by omega)
          refine ⟨.slice (some (if cap = l then a else a.add (l * sizeT P e))) (hh' - l) (cap - l), ?_, ?_⟩
          · simp [Instr.sliceAt, run_underlying hu, Instr.slice, hb, run_sizeT' hz]
            split <;> rfl
          · refine .own id ver' _ _ _ _ _ hid (by simp) fun s v r e' => ?_
            cases e'
            refine .inr ⟨rfl, by omega, by omega, ?_, ?_, ?_, ?_⟩
            · have : off + l + (cap - l) = off + cap := by omega
              rw [this]; exact q3
            · rcases q4 with q4 | q4
              · exact .inl (by omega)
              · by_cases hcl : cap = l
                · exact .inl (by omega)
                · rw [if_neg hcl, q4, add_none, Nat.add_mul, Nat.add_assoc]; exact .inr rfl
            · split
              · exact q5.1
              · unfold Addr.add; split <;> exact q5.1
            · split
              · exact q5.2
              · unfold Addr.add; split
                · exact q5.2
                · rfl
      · cases h
    · cases h
  · rename_i e rows hu
    simp only [Option.bind_eq_some_iff] at h
    obtain ⟨l, hl, hh', hhi, h⟩ := h
    split at h
    · rename_i hc
      obtain ⟨c1, c2, hz, c3⟩ := hc
      simp only [Option.some.injEq] at h; subst h
      cases hx with
      | arr _ b o cap sz hA hcap hsz hc hv =>
        have hb := run_bounds (P := P) (cap := cap) hl hhi rl rh c1 (by omega)
        have key : ∀ (i : Nat) (r : List V), ((rows.drop l).take (hh' - l))[i]? = some r → i < hh' - l ∧ rows[l + i]? = some r := by
          intro i r a
          rw [List.getElem?_take] at a
          split at a
          · rename_i g; rw [List.getElem?_drop] at a; exact ⟨g, a⟩
          · cases a
        have hlen : ((rows.drop l).take (hh' - l)).length = hh' - l := by simp; omega
        have hsz' : ∀ (i : Nat) (r : List V), rows[i]? = some r → sz = sizeT P e := fun i r a => by
          have := List.all_eq_true.1 c3 r (List.mem_of_getElem? a)
          simp at this
          exact (hsz i r a).symm.trans this
        refine ⟨.slice (some (if cap = l then ⟨b, o, none⟩ else (⟨b, o, none⟩ : Addr).add (l * sizeT P e))) (hh' - l) (cap - l), ?_, ?_⟩
        · simp [Instr.sliceAt, run_underlying hu, Instr.slice, hb, run_sizeT' hz]
          split <;> rfl
        · by_cases hcl : cap = l
          · rw [if_pos hcl]
            have h0 : hh' - l = 0 := by omega
            have hnil : (rows.drop l).take (hh' - l) = [] := by rw [h0]; simp
            have := VR.arr (A := A) (ι := ι) (H := H) (w := w) ((rows.drop l).take (hh' - l)) b o (cap - l) sz hA (by rw [hlen]; omega) (fun i r a => by rw [hnil] at a; simp at a) (fun i j r c a => by rw [hnil] at a; simp at a) (fun i j r c cv a => by rw [hnil] at a; simp at a)
            rw [hlen] at this; exact this
          · rw [if_neg hcl, add_none]
            have := VR.arr (A := A) (ι := ι) (H := H) (w := w) ((rows.drop l).take (hh' - l)) b (o + l * sizeT P e) (cap - l) sz hA (by rw [hlen]; omega) (fun i r a => hsz _ _ (key i r a).2) (fun i j r c a a' => by
              have g := key i r a
              have e1 := hsz' _ _ g.2
              obtain ⟨cv, p⟩ := hc _ _ _ _ g.2 a'
              refine ⟨cv, ?_⟩
              rw [← p, e1, Nat.add_mul]; congr 2; omega) (fun i j r c cv a a' p => by
              have g := key i r a
              have e1 := hsz' _ _ g.2
              refine hv _ _ _ _ _ g.2 a' ?_
              rw [← p, e1, Nat.add_mul]; congr 2; omega)
            rw [hlen] at this; exact this
    · cases h
  · cases h

theorem toRows_get {sz n : Nat} {cs : List V} (hl : cs.length = n * sz) {i : Nat} {r : List V} (h : (toRows sz n cs)[i]? = some r) :
    i < n ∧ r.length = sz ∧ ∀ (j : Nat) (c : V), r[j]? = some c → j < sz ∧ cs[i * sz + j]? = some c := by
  simp only [toRows, List.getElem?_map, Option.map_eq_some_iff] at h
  obtain ⟨k, hk, rfl⟩ := h
  have hi : i < n := by have := (List.getElem?_eq_some_iff.1 hk).1; simpa using this
  have e : k = i := by rw [List.getElem?_range hi] at hk; exact (Option.some.inj hk).symm
  subst e
  have : (k + 1) * sz ≤ n * sz := Nat.mul_le_mul_right _ hi
  rw [Nat.add_mul] at this
  refine ⟨hi, by simp; omega, fun j c hc => ?_⟩
  rw [List.getElem?_take] at hc
  split at hc
  · rename_i g; rw [List.getElem?_drop] at hc; exact ⟨g, hc⟩
  · cases hc

theorem buildSlice_sound (hs : SR N A ι H w) {nid n : Nat} {t e : TypeId} {ps : List (Nat × V)} {qs : Array (Nat × Value)} (hp : PR A ι H w ps qs.toList) (hu : P.underlying t = some (.slice e))
    (hn : n * sizeT P e ≤ 1000000) (hz : sizeT P e ≠ 0) {z : V} (hz0 : zeroT P e = some z) (hzl : z.cells.length = sizeT P e) (hzs : z.cells.all scalarV = true) {cs : List V}
    (hf : fillV (fun i => some (i * sizeT P e, sizeT P e)) ((List.range (n * sizeT P e)).map fun i => z.cells.getD (i % z.cells.length) un) ps = some cs)
    (hpl : place H nid (.rows (sizeT P e) 0 (toRows (sizeT P e) n cs)) = some H') : Out P N A ι H w (Instr.buildSlice t n qs) (.own nid 0 0 n) H' := by
  obtain ⟨i, zv, hi, hzv, rfl⟩ := zeroT_some hz0
  have hcr := (cells_rel (A := A) (ι := ι) (H := H) (w := w) (VR.ofValue zv) hzs).1
  have hzc : zv.cells.size = sizeT P e := hcr.1.symm.trans hzl
  have hisz : i.size = sizeT P e := by simp [sizeT, Program.cellsOf, hi]
  have key : ∀ zz : Array Value, (0 < n * sizeT P e → zz = zv.cells) → TR A ι H w ((List.range (n * sizeT P e)).map fun i => (ofValue zv).cells.getD (i % (ofValue zv).cells.length) un) ((Array.range (n * sizeT P e)).map (zz[· % zz.size]!)) := by
    intro zz hzz
    refine ⟨by simp, fun k c cv a b => ?_⟩
    simp only [List.getElem?_map, Option.map_eq_some_iff] at a
    obtain ⟨k', hk, rfl⟩ := a
    have hk' : k < n * sizeT P e := by have := (List.getElem?_eq_some_iff.1 hk).1; simpa using this
    have ek : k' = k := by rw [List.getElem?_range hk'] at hk; exact (Option.some.inj hk).symm
    subst ek
    have e0 := hzz (by omega)
    subst e0
    simp [hk'] at b
    subst b
    have hm : k' % sizeT P e < sizeT P e := Nat.mod_lt _ (by omega)
    rw [hzl, hzc]
    have g1 : k' % sizeT P e < (ofValue zv).cells.length := by omega
    have g2 : k' % sizeT P e < zv.cells.size := by omega
    refine hcr.2 (k' % sizeT P e) _ _ ?_ ?_
    · simp [g1]
    · simp [g2]
  have hrunz : ∃ zz : Array Value, (0 < n * sizeT P e → zz = zv.cells) ∧ ∀ ys, Instr.fill (fun i => some (i * sizeT P e, sizeT P e)) ((Array.range (n * sizeT P e)).map (zz[· % zz.size]!)) qs.toList = some ys →
      (Instr.buildSlice t n qs).run P w = .ok (.slice (some ⟨w.heap.size, 0, none⟩) n n) (w.alloc (.cells ys e)) := by
    by_cases h0 : n * sizeT P e = 0
    · refine ⟨#[], fun h => by omega, fun ys hy => ?_⟩
      rw [h0] at hy
      have hs2 : ¬ (n * i.size > 2 ^ 24) := by rw [hisz]; omega
      simp [Instr.buildSlice, run_underlying hu, sizeOf, typeInfo, zeroValue, hi, hzv, hisz, h0, newRow]
      simp at hy
      simp [hy]
    · refine ⟨zv.cells, fun _ => rfl, fun ys hy => ?_⟩
      exact run_buildSlice w t e n qs ys i zv hu hi hzv (by rw [hisz]; omega) (by rw [hisz]; exact h0) (by rw [hisz]; exact hy)
  obtain ⟨zz, hzz, hrun⟩ := hrunz
  obtain ⟨ys, p, q, r⟩ := fill_sound _ ps qs.toList _ _ cs hp (key zz hzz) hf
  have hys : ys.size = n * sizeT P e := by rw [r]; simp
  have hcl : cs.length = n * sizeT P e := q.1.trans hys
  obtain ⟨p1, _, _⟩ := place_get hpl
  have ex := newRow_sound hs hpl ys e (fun i r a => (toRows_get hcl a).2.1) (by rw [hys]; simp [toRows]) (fun i j r c a a' => by
    obtain ⟨g1, g2, g3⟩ := toRows_get hcl a
    obtain ⟨g4, g5⟩ := g3 j c a'
    have hlt := (List.getElem?_eq_some_iff.1 g5).1
    exact ⟨ys[i * sizeT P e + j]'(by omega), by simp, q.2 _ _ _ g5 (by simp)⟩) (.zero (Nat.zero_div _))
  refine ⟨_, _, N, A, _, hrun ys p, ex, ?_⟩
  refine .own _ _ _ _ _ _ _ p1 (by simp) fun s v r e' => ?_
  cases e'
  exact .inr ⟨rfl, by simp [toRows], by simp [toRows], by rw [upd_same]; simp [hys], .inr (by rw [upd_same]; simp), by rw [upd_same], rfl⟩

theorem makeSlice_sound (hs : SR N A ι H w) {nid : Nat} {n : Int} {t e : TypeId} {cl cc : Value} {k k' : IntKind} (hcl : cl = .int k n) (hcc : cc = .int k' n) (hu : P.underlying t = some (.slice e))
    (h0 : 0 ≤ n) (h1 : n ≤ 1000000) (hz : sizeT P e ≠ 0) (hb : P.bytesOf e ≤ 1000000) {z : V} (hz0 : zeroT P e = some z) (hzl : z.cells.length = sizeT P e) (hzs : z.cells.all scalarV = true)
    (hpl : place H nid (.rows (sizeT P e) 0 (List.replicate n.toNat z.cells)) = some H') : Out P N A ι H w (Instr.makeSlice t cl cc) (.own nid 0 0 n.toNat) H' := by
  subst hcl hcc
  obtain ⟨i, zv, hi, hzv, rfl⟩ := zeroT_some hz0
  have hcr := (cells_rel (A := A) (ι := ι) (H := H) (w := w) (VR.ofValue zv) hzs).1
  have hzc : zv.cells.size = sizeT P e := hcr.1.symm.trans hzl
  have hisz : i.size = sizeT P e := by simp [sizeT, Program.cellsOf, hi]
  have hb' : i.bytes ≤ 1000000 := by simpa [Program.bytesOf, hi] using hb
  obtain ⟨m, rfl⟩ := Int.eq_ofNat_of_zero_le h0
  simp only [Int.toNat_natCast] at hpl ⊢
  have hm : m ≤ 1000000 := by omega
  have hwrap : IntKind.i64.wrap (m : Int) = m := by
    have e : (m : Int) % (2 ^ 64 : Int) = m := Int.emod_eq_of_lt (by omega) (by omega)
    simp only [IntKind.wrap, show IntKind.i64.bits = 64 from rfl, show IntKind.i64.signed = true from rfl]
    rw [e, if_neg]
    have h63 : (2 : Int) ^ (64 - 1) = 9223372036854775808 := rfl
    rw [h63, Bool.true_and, decide_eq_true_eq]
    omega
  have hmul : (i.bytes : Int) * (m : Int) ≤ 1000000000000 := by
    have h1 : i.bytes * m ≤ 1000000 * 1000000 := Nat.mul_le_mul hb' hm
    have h2 : ((i.bytes * m : Nat) : Int) ≤ ((1000000000000 : Nat) : Int) := Int.ofNat_le.2 h1
    rw [Int.natCast_mul] at h2
    exact h2
  have htl : ¬ (281474976710656 < (i.bytes : Int) * (m : Int)) := by omega
  have hneg : ¬ ((m : Int) < 0) := by omega
  have ti : ∀ w : World, (typeInfo e).run P w = .ok i w := fun w => by simp [typeInfo, hi]
  have zi : ∀ w : World, (zeroValue e).run P w = .ok zv w := fun w => by simp [zeroValue, typeInfo, hi, hzv]
  have hrunz : ∃ zz : Array Value, (0 < m * sizeT P e → zz = zv.cells) ∧
      (Instr.makeSlice t (.int k (m : Int)) (.int k' (m : Int))).run P w = .ok (.slice (some ⟨w.heap.size, 0, none⟩) m m) (w.alloc (.cells ((Array.range (m * sizeT P e)).map (zz[· % zz.size]!)) e)) := by
    have w0 : IntKind.i64.wrap 0 = 0 := by decide
    by_cases hm0 : m = 0
    · subst hm0
      refine ⟨#[], fun h => by omega, ?_⟩
      simp [Instr.makeSlice, run_underlying hu, asInt, asIntOf, ti, zi, w0, run_sizeT' hz, newRow]
    · have hne : ¬ (m * sizeT P e = 0) := fun h => (Nat.mul_eq_zero.1 h).elim hm0 hz
      refine ⟨zv.cells, fun _ => rfl, ?_⟩
      unfold Instr.makeSlice
      simp only [run_underlying hu, asInt, asIntOf, ti, zi, hwrap, run_sizeT' hz, Sem.run_bind, Sem.run_pure, Result.andThen_ok]
      split
      · rename_i hcond
        exfalso
        simp only [Bool.or_eq_true, decide_eq_true_eq] at hcond
        have h48 : (2 : Int) ^ 48 = 281474976710656 := rfl
        rcases hcond with ((hc | hc) | hc) | hc
        · omega
        · rw [h48] at hc; omega
        · omega
        · omega
      · simp [run_sizeT' hz, zi, newRow]
        intro h; exact absurd h hne
  obtain ⟨zz, hzz, hrun⟩ := hrunz
  obtain ⟨p1, _, _⟩ := place_get hpl
  have hrep : ∀ (i : Nat) (r : List V), (List.replicate m (ofValue zv).cells)[i]? = some r → i < m ∧ r = (ofValue zv).cells := by
    intro i r a
    have hi : i < m := by have := (List.getElem?_eq_some_iff.1 a).1; simpa using this
    rw [List.getElem?_replicate, if_pos hi] at a
    exact ⟨hi, (Option.some.inj a).symm⟩
  have ex := newRow_sound hs hpl ((Array.range (m * sizeT P e)).map (zz[· % zz.size]!)) e (fun i r a => by rw [(hrep i r a).2]; exact hzl) (by simp) (fun i j r c a a' => by
    obtain ⟨g1, rfl⟩ := hrep i r a
    have hj : j < sizeT P e := hzl ▸ (List.getElem?_eq_some_iff.1 a').1
    have hk := row_in (sz := sizeT P e) g1 hj
    have e0 := hzz (by omega)
    subst e0
    have em : (i * sizeT P e + j) % sizeT P e = j := by rw [Nat.mul_comm, Nat.mul_add_mod, Nat.mod_eq_of_lt hj]
    have g2 : j < zv.cells.size := by omega
    exact ⟨zv.cells[j], by simp [hk, hzc, em, getElem!_pos zv.cells j g2], hcr.2 _ _ _ a' (by simp [g2])⟩) (.zero (Nat.zero_div _))
  refine ⟨_, _, N, A, _, hrun, ex, ?_⟩
  refine .own _ _ _ _ _ _ _ p1 (by simp) fun s v r e' => ?_
  cases e'
  exact .inr ⟨rfl, by simp, by simp, by rw [upd_same]; simp, .inr (by rw [upd_same]; simp), by rw [upd_same], rfl⟩
end
end Go.Proofs.YtpmdlaojndejfaaGreatDoor.E
