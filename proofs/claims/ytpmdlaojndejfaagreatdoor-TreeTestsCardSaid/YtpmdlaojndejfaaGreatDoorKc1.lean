/- The evaluator's operations against the machine's: writing, new blocks. -/
import Derived.Great.BuildSlice
import Derived.Test.YtpmdlaojndejfaaGreatDoorKc0
import Derived.Lib.UnsafeStr
set_option linter.unusedVariables false
namespace Go.Proofs.YtpmdlaojndejfaaGreatDoor.E
open Go

theorem seg_get {α : Type} (l m : List α) (k : Nat) (h : k + m.length ≤ l.length) (i : Nat) :
    (l.take k ++ m ++ l.drop (k + m.length))[i]? = if i < k then l[i]? else if i < k + m.length then m[i - k]? else l[i]? := by
  have hk : (l.take k).length = k := by simp; omega
  split
  · rename_i h1
    rw [List.append_assoc, List.getElem?_append_left (by omega), List.getElem?_take, if_pos h1]
  · rename_i h1
    split
    · rename_i h2
      rw [List.append_assoc, List.getElem?_append_right (by omega), List.getElem?_append_left (by omega), hk]
    · rename_i h2
      rw [List.getElem?_append_right (by simp; omega), List.getElem?_drop]
      congr 1
      simp; omega
theorem seg_len {α : Type} (l m : List α) (k : Nat) (h : k + m.length ≤ l.length) : (l.take k ++ m ++ l.drop (k + m.length)).length = l.length := by
  simp; omega

section
variable {P : Program} {N A : Nat → Prop} {ι : Nat → Lk} {H H' : Heap} {w : World}

theorem scalar_one {v : V} {cv : Value} (hv : VR A ι H w v cv) (hs : scalarV v = true) : cv.oneCell' = true := by
  cases hv with
  | lit _ => cases cv <;> simp_all [scalarV, Value.oneCell']
  | agg _ _ _ _ => simp [scalarV] at hs
  | tup _ _ _ _ => simp [scalarV] at hs
  | _ => rfl

theorem cells_rel {v : V} {cv : Value} (hv : VR A ι H w v cv) (hs : v.cells.all scalarV = true) :
    TR A ι H w v.cells cv.cells ∧ ∀ x ∈ cv.cells.toList, x.oneCell' = true := by
  have one : v.cells = [v] → TR A ι H w v.cells cv.cells ∧ ∀ x ∈ cv.cells.toList, x.oneCell' = true := by
    intro e
    rw [e] at hs
    have h1 := scalar_one hv (by simpa using hs)
    have e2 : cv.cells = #[cv] := by cases cv <;> simp_all [Value.cells, Value.oneCell']
    rw [e, e2]
    refine ⟨⟨rfl, fun i c x a b => ?_⟩, by simpa using h1⟩
    cases i with
    | zero => simp at a b; subst a b; exact hv
    | succ i => simp at a
  cases hv with
  | agg cs vs hl hv =>
    refine ⟨⟨hl, hv⟩, fun x hx => ?_⟩
    obtain ⟨i, hi, e⟩ := List.getElem_of_mem hx
    have hi' : i < cs.length := by rw [hl]; simpa [Value.cells] using hi
    have e1 : cs[i]? = some cs[i] := by simp [hi']
    have e2 : vs[i]? = some x := by
      rw [← e]; simp [Value.cells, show i < vs.size from hl ▸ hi']
    exact scalar_one (hv i _ _ e1 e2) (by
      have := List.all_eq_true.1 hs cs[i] (List.getElem_mem hi')
      exact this)
  | _ => exact one rfl

theorem run_sizeT' {t : TypeId} (h : sizeT P t ≠ 0) (w : World) : (sizeOf t).run P w = .ok (sizeT P t) w := by
  obtain ⟨i, hi⟩ := size_info h
  exact run_sizeT hi w

theorem row_far {i r sz j off n : Nat} (hj : j < sz) (ho : off + n ≤ sz) (hne : i ≠ r) : ¬ (r * sz + off ≤ i * sz + j ∧ i * sz + j < r * sz + off + n) := by
  intro ⟨h1, h2⟩
  rcases Nat.lt_or_gt_of_ne hne with h | h
  · have : (i + 1) * sz ≤ r * sz := Nat.mul_le_mul_right _ h
    rw [Nat.add_mul] at this; omega
  · have : (r + 1) * sz ≤ i * sz := Nat.mul_le_mul_right _ h
    rw [Nat.add_mul] at this; omega

theorem row_in {i sz j n : Nat} (hi : i < n) (hj : j < sz) : i * sz + j < n * sz := by
  have : (i + 1) * sz ≤ n * sz := Nat.mul_le_mul_right _ hi
  rw [Nat.add_mul] at this; omega

/-- A store. -/
theorem storeAt_sound {E : Env} (hs : SR N A ι H w) {t : TypeId} {a v : V} {ca cv : Value} (ha : VR A ι H w a ca) (hv : VR A ι H w v cv) (h : storeT E H t a v = some H') :
    ∃ w' ι', (Instr.storeAt t ca cv).run E.P w = .ok () w' ∧ Ext N A ι H w N A ι' H' w' := by
  cases ha with
  | ptr id ver r off a blk hid hf hh =>
    simp only [storeT, hid] at h
    cases blk with
    | rows sz ver' rs =>
      simp only at h
      split at h
      · rename_i hc
        obtain ⟨rfl, h1, h2, h3⟩ := hc
        simp only [Option.bind_eq_some_iff] at h
        obtain ⟨cs, hcs, h⟩ := h
        split at h
        · rename_i hle
          simp only [Option.some.injEq] at h; subst h
          rcases hh sz _ rs rfl with hq | ⟨_, hq⟩
          · omega
          subst hq
          obtain ⟨hcr, hone⟩ := cells_rel hv h3
          obtain ⟨xs, e, b1, b2, b3, b4, b5, b6⟩ := hs.live id _ hid
          have hrs : r < rs.length := (List.getElem?_eq_some_iff.1 hcs).1
          have hcl : cs.length = sz := b3 r cs hcs
          have hsz : cv.cells.size = v.cells.length := hcr.1.symm
          have hend : (ι id).o + r * sz + off + cv.cells.toList.length ≤ xs.size := by
            have : (r + 1) * sz ≤ rs.length * sz := Nat.mul_le_mul_right _ hrs
            rw [Nat.add_mul] at this; simp [hsz]; omega
          have hrun := run_storeCells_at (P := E.P) (ι id).b ((ι id).o + r * sz + off) e cv.cells.toList 0 xs w b1 (by simpa using hend) hone
          simp only [Nat.add_zero] at hrun
          refine ⟨w.setRow (ι id).b (xs.toList.take ((ι id).o + r * sz + off) ++ cv.cells.toList ++ xs.toList.drop ((ι id).o + r * sz + off + cv.cells.toList.length)).toArray, upd ι id (ι id), ?_, Ext.turn hs hid trivial (L := ι id) (.inl rfl) (fun k hk hne => setRow_other _ _ _ _ hne) (by simp) rfl rfl rfl ?_ ?_⟩
          · simp only [Instr.storeAt, Instr.sureAddr, storeVar, Sem.run_bind, Sem.run_pure, Result.andThen_ok, run_sizeT' h2]
            rw [if_neg (by rw [hsz]; simpa using h1)]
            exact hrun
          · simp [Later, upd_same]
          · intro keep
            have seg := seg_get xs.toList cv.cells.toList ((ι id).o + r * sz + off) (by simpa using hend)
            have seg2 := seg_get cs v.cells off hle
            refine ⟨_, e, by rw [upd_same]; exact setRow_heap w _ xs _ e _ b1, ?_, ?_, ?_, ?_, by rw [upd_same]; simpa using b6⟩
            · rw [upd_same, ← b2]; simp; simp at hend; omega
            · intro i r' hr'
              rw [List.getElem?_set] at hr'
              split at hr'
              · cases hr'; rw [seg_len cs v.cells off hle]; exact hcl
              · exact b3 i r' hr'
            · rw [upd_same]; simp at hend ⊢; omega
            · rw [upd_same]
              intro i j r' c hr' hc
              have hjl : j < r'.length := (List.getElem?_eq_some_iff.1 hc).1
              simp only [List.getElem?_toArray, seg]
              rw [List.getElem?_set] at hr'
              split at hr'
              · rename_i hir
                subst hir
                cases hr'
                rw [seg2] at hc
                rw [seg_len cs v.cells off hle] at hjl
                by_cases q1 : j < off
                · rw [if_pos q1] at hc
                  rw [if_pos (by omega)]
                  obtain ⟨x, p, q⟩ := b5 r j cs c hcs hc
                  exact ⟨x, by simpa using p, keep _ _ q⟩
                · rw [if_neg q1] at hc
                  rw [if_neg (by omega)]
                  by_cases q2 : j < off + v.cells.length
                  · rw [if_pos q2] at hc
                    rw [if_pos (by simp [hsz]; omega)]
                    have hlt : j - off < cv.cells.size := by rw [hsz]; omega
                    have e1 : (ι id).o + r * sz + j - ((ι id).o + r * sz + off) = j - off := by omega
                    rw [e1]
                    refine ⟨cv.cells[j - off], by simp [hlt], keep _ _ (hcr.2 _ _ _ hc (by simp [hlt]))⟩
                  · rw [if_neg q2] at hc
                    rw [if_neg (by simp [hsz]; omega)]
                    obtain ⟨x, p, q⟩ := b5 r j cs c hcs hc
                    exact ⟨x, by simpa using p, keep _ _ q⟩
              · rename_i hir
                have hj : j < sz := b3 i r' hr' ▸ hjl
                have far := row_far (i := i) (r := r) (off := off) (n := v.cells.length) hj (by omega) (fun e => hir e.symm)
                obtain ⟨x, p, q⟩ := b5 i j r' c hr' hc
                refine ⟨x, ?_, keep _ _ q⟩
                split
                · simpa using p
                · rw [if_neg (by simp [hsz]; omega)]; simpa using p
        · cases h
      · cases h
    | _ => cases h
  | _ => simp [storeT] at h

/-- A new block of cells. -/
theorem newRow_sound (hs : SR N A ι H w) {nid sz ver : Nat} {rs : List (List V)} (hp : place H nid (.rows sz ver rs) = some H') (cs : Array Value) (e : TypeId)
    (h1 : ∀ (i : Nat) (r : List V), rs[i]? = some r → r.length = sz) (h2 : rs.length * sz ≤ cs.size)
    (h3 : ∀ (i j : Nat) (r : List V) (c : V), rs[i]? = some r → r[j]? = some c → ∃ cv, cs[i * sz + j]? = some cv ∧ VR A ι H w c cv) (htag : TagOk ver e ⟨w.heap.size, 0, cs.size⟩ (rs.length * sz)) :
    Ext N A ι H w N A (upd ι nid ⟨w.heap.size, 0, cs.size⟩) H' (w.alloc (.cells cs e)) := by
  refine Ext.alloc hs hp (L := ⟨w.heap.size, 0, cs.size⟩) rfl (fun k hk => alloc_lt w _ k hk) (by simp) rfl rfl rfl fun keep => ?_
  refine ⟨cs, e, by rw [upd_same]; exact alloc_new w _, by rw [upd_same], h1, by rw [upd_same]; simpa using h2, fun i j r c a b => ?_, by rw [upd_same]; exact htag⟩
  rw [upd_same]
  obtain ⟨cv, p, q⟩ := h3 i j r c a b
  exact ⟨cv, by simpa using p, keep _ _ q⟩

theorem newVar_sound (hs : SR N A ι H w) {nid ver : Nat} {v : V} {cv : Value} (hv : VR A ι H w v cv) (hsc : v.cells.all scalarV = true) (hp : place H nid (.rows v.cells.length ver [v.cells]) = some H') (t : TypeId) (hver : ver / TAG = 0 ∨ ver / TAG = 2 * t + 1) :
    ∃ w' ι', (newVar t cv).run P w = .ok ⟨w.heap.size, 0, none⟩ w' ∧ Ext N A ι H w N A ι' H' w' ∧ VR A ι' H' w' (.ptr nid ver 0 0) (.pointer (some ⟨w.heap.size, 0, none⟩)) := by
  obtain ⟨hcr, _⟩ := cells_rel hv hsc
  obtain ⟨p1, _, _⟩ := place_get hp
  refine ⟨_, _, by simp [newVar, newRow], newRow_sound hs hp cv.cells t ?_ ?_ ?_ ?_, ?_⟩
  · intro i r h; cases i with
    | zero => simp at h; subst h; rfl
    | succ i => simp at h
  · simp [hcr.1]
  · intro i j r c h h'
    cases i with
    | zero =>
      simp at h; subst h
      have hlt : j < cv.cells.size := hcr.1 ▸ (List.getElem?_eq_some_iff.1 h').1
      exact ⟨cv.cells[j], by simp [hlt], hcr.2 _ _ _ h' (by simp [hlt])⟩
    | succ i => simp at h
  · rcases hver with hv0 | hv0
    · exact .zero hv0
    · exact ⟨fun t' ht' => ⟨by omega, rfl, by simp [hcr.1]⟩, fun t' ht' => by omega⟩
  · exact .ptr _ _ _ _ _ _ p1 (by simp) fun s v r e => by cases e; exact .inr ⟨rfl, by simp [upd_same]⟩

theorem zeroT_some {t : TypeId} {z : V} (h : zeroT P t = some z) : ∃ i zv, P.info? t = some i ∧ i.zero = some zv ∧ z = ofValue zv := by
  simp only [zeroT, Option.map_eq_some_iff, Option.bind_eq_some_iff] at h
  obtain ⟨zv, ⟨i, h1, h2⟩, rfl⟩ := h
  exact ⟨i, zv, h1, h2, rfl⟩

/-! Filling. -/
theorem foldl_set (l : List Value) : ∀ (k : Nat) (cs : Array Value) (i : Nat), k + l.length ≤ cs.size →
    ((l.zipIdx 0).foldl (fun cs (x : Value × Nat) => cs.setIfInBounds (k + x.2) x.1) cs)[i]? = if k ≤ i ∧ i < k + l.length then l[i - k]? else cs[i]? := by
  suffices ∀ (l : List Value) (s k : Nat) (cs : Array Value) (i : Nat), k + s + l.length ≤ cs.size →
      ((l.zipIdx s).foldl (fun cs (x : Value × Nat) => cs.setIfInBounds (k + x.2) x.1) cs)[i]? = if k + s ≤ i ∧ i < k + s + l.length then l[i - (k + s)]? else cs[i]? from
    fun k cs i h => by simpa using this l 0 k cs i (by simpa using h)
  intro l
  induction l with
  | nil => intro s k cs i h; simp; intro a b; omega
  | cons x l ih =>
    intro s k cs i h
    simp only [List.zipIdx_cons, List.foldl_cons]
    rw [ih (s + 1) k _ i (by simp at h ⊢; omega)]
    simp only [List.length_cons]
    by_cases h1 : i = k + s
    · subst h1
      rw [if_neg (by omega), if_pos ⟨by omega, by omega⟩]
      simp at h
      simp [Array.getElem?_setIfInBounds_self_of_lt (show k + s < cs.size by omega)]
    · rw [Array.getElem?_setIfInBounds_ne (Ne.symm h1)]
      by_cases h2 : k + (s + 1) ≤ i ∧ i < k + (s + 1) + l.length
      · rw [if_pos h2, if_pos ⟨by omega, by omega⟩]
        have : i - (k + s) = i - (k + (s + 1)) + 1 := by omega
        rw [this]; simp
      · rw [if_neg h2, if_neg (by omega)]
theorem foldl_size (l : List (Value × Nat)) (k : Nat) : ∀ (cs : Array Value), (l.foldl (fun cs (x : Value × Nat) => cs.setIfInBounds (k + x.2) x.1) cs).size = cs.size := by
  induction l with
  | nil => intro cs; rfl
  | cons x l ih => intro cs; simp [ih]

def PR (A : Nat → Prop) (ι : Nat → Lk) (H : Heap) (w : World) : List (Nat × V) → List (Nat × Value) → Prop
  | [], [] => True
  | (i, v) :: l, (j, x) :: m => i = j ∧ VR A ι H w v x ∧ PR A ι H w l m
  | _, _ => False

theorem fill_sound (place : Nat → Option (Nat × Nat)) : ∀ (ps : List (Nat × V)) (qs : List (Nat × Value)) (cells : List V) (xs : Array Value) (out : List V),
    PR A ι H w ps qs → TR A ι H w cells xs → fillV place cells ps = some out → ∃ ys, Instr.fill place xs qs = some ys ∧ TR A ι H w out ys ∧ ys.size = xs.size
  | [], [], cells, xs, out, _, ht, h => by
    simp [fillV] at h; subst h
    exact ⟨xs, by simp [Instr.fill], ht, rfl⟩
  | (i, v) :: ps, (j, x) :: qs, cells, xs, out, hp, ht, h => by
    obtain ⟨rfl, hv, hp⟩ := hp
    simp only [fillV] at h
    simp only [Instr.fill]
    cases hpl : place i with
    | none => rw [hpl] at h; cases h
    | some os =>
      obtain ⟨off, size⟩ := os
      rw [hpl] at h
      simp only at h ⊢
      split at h
      · rename_i hc
        obtain ⟨c1, c2, c3⟩ := hc
        obtain ⟨hcr, hone⟩ := cells_rel hv c3
        have hsz : x.cells.size = size := hcr.1.symm.trans c1
        have hb : (decide (x.cells.size ≠ size) || decide (off + x.cells.size > xs.size)) = false := by
          have := ht.1
          simp [hsz]; omega
        rw [if_neg (by simpa using hb)]
        have hx : off + x.cells.toList.length ≤ xs.size := by have := ht.1; simp [hsz]; omega
        have e0 : (x.cells.zipIdx.foldl (fun cs (c, j) => cs.setIfInBounds (off + j) c) xs) = ((x.cells.toList.zipIdx 0).foldl (fun cs (x : Value × Nat) => cs.setIfInBounds (off + x.2) x.1) xs) := by
          rw [← Array.foldl_toList]; simp [Array.toList_zipIdx]
        have hlen : (cells.take off ++ v.cells ++ cells.drop (off + v.cells.length)).length = cells.length := seg_len _ _ _ (by omega)
        have hTR : TR A ι H w (cells.take off ++ v.cells ++ cells.drop (off + v.cells.length)) ((x.cells.toList.zipIdx 0).foldl (fun cs (x : Value × Nat) => cs.setIfInBounds (off + x.2) x.1) xs) := by
          refine ⟨hlen.trans (ht.1.trans (foldl_size _ _ _).symm), fun k c cv a b => ?_⟩
          rw [seg_get _ _ _ (by omega)] at a
          rw [foldl_set _ _ _ _ hx] at b
          by_cases k1 : k < off
          · rw [if_pos k1] at a
            rw [if_neg (by omega)] at b
            exact ht.2 _ _ _ a b
          · rw [if_neg k1] at a
            by_cases k2 : k < off + v.cells.length
            · rw [if_pos k2] at a
              rw [if_pos ⟨by omega, by simp [hsz]; omega⟩] at b
              exact hcr.2 _ _ _ a (by simpa using b)
            · rw [if_neg k2] at a
              rw [if_neg (by simp [hsz]; omega)] at b
              exact ht.2 _ _ _ a b
        obtain ⟨ys, p, q, r⟩ := fill_sound place ps qs _ _ out hp hTR h
        exact ⟨ys, by rw [← p, ← e0], q, by rw [r, foldl_size]⟩
      · cases h
  | [], _ :: _, _, _, _, hp, _, _ => hp.elim
  | _ :: _, [], _, _, _, hp, _, _ => hp.elim

theorem build_sound {t : TypeId} {ps : List (Nat × V)} {qs : Array (Nat × Value)} {v : V} (hp : PR A ι H w ps qs.toList) (h : buildV P t ps = some v) :
    ∃ cv, (Instr.build t qs).run P w = .ok cv w ∧ VR A ι H w v cv := by
  simp only [buildV, Option.bind_eq_some_iff] at h
  obtain ⟨z, hz0, h⟩ := h
  obtain ⟨i, zv, hi, hzv, rfl⟩ := zeroT_some hz0
  split at h
  · cases h
  rename_i hz
  have ht := (cells_rel (A := A) (ι := ι) (H := H) (w := w) (VR.ofValue zv) (by simpa using hz)).1
  split at h
  · rename_i fs hu
    simp only [Option.bind_eq_some_iff, Option.map_eq_some_iff] at h
    obtain ⟨pl, hpl, out, ho, rfl⟩ := h
    obtain ⟨ys, p, q, r⟩ := fill_sound _ ps qs.toList _ _ out hp ht ho
    refine ⟨.agg ys, run_build w t qs ys ?_, .agg _ _ q.1 q.2⟩
    simp only [Program.built, hi, hu, hzv]
    simp only [placesE] at hpl
    rw [hpl]; exact p
  · rename_i n e hu
    simp only [Option.bind_eq_some_iff, Option.map_eq_some_iff] at h
    obtain ⟨ie, hie, out, ho, rfl⟩ := h
    obtain ⟨ys, p, q, r⟩ := fill_sound _ ps qs.toList _ _ out hp ht ho
    refine ⟨.agg ys, run_build w t qs ys ?_, .agg _ _ q.1 q.2⟩
    simp only [Program.built, hi, hu, hzv, hie]; exact p
  · cases h
end
end Go.Proofs.YtpmdlaojndejfaaGreatDoor.E

/- The evaluator's operations against the machine's: slices, append. -/
set_option linter.unusedVariables false
namespace Go.Proofs.YtpmdlaojndejfaaGreatDoor.E
open Go

section
variable {P : Program} {N A : Nat → Prop} {ι : Nat → Lk} {H H' : Heap} {w : World}

theorem rows_read {sz : Nat} (hz : sz ≠ 0) {rows : List (List V)} (h1 : ∀ (i : Nat) (r : List V), rows[i]? = some r → r.length = sz) {b base : Nat}
    (hc : ∀ (i j : Nat) (r : List V) (c : V), rows[i]? = some r → r[j]? = some c → ∃ cv, w.cell? ⟨b, base + i * sz + j, none⟩ = some cv ∧ VR A ι H w c cv) :
    ∃ L : List Value, L.length = rows.length * sz ∧ (∀ w2 : World, w2.heap = w.heap → (loadCells ⟨b, base, none⟩ (rows.length * sz)).run P w2 = .ok L.toArray w2) ∧
      ∀ (i j : Nat) (r : List V) (c : V), rows[i]? = some r → r[j]? = some c → ∃ cv, L[i * sz + j]? = some cv ∧ VR A ι H w c cv := by
  obtain ⟨L, l1, l2⟩ := exists_list (p := fun k v => w.cell? ⟨b, base + k, none⟩ = some v ∧ ∀ (i j : Nat) (r : List V) (c : V), k = i * sz + j → rows[i]? = some r → r[j]? = some c → VR A ι H w c v) (rows.length * sz) fun k hk => by
    have hi : k / sz < rows.length := Nat.div_lt_of_lt_mul (by rw [Nat.mul_comm]; exact hk)
    have hj : k % sz < sz := Nat.mod_lt _ (by omega)
    have e1 : rows[k / sz]? = some rows[k / sz] := by simp [hi]
    have hl := h1 _ _ e1
    have e2 : (rows[k / sz])[k % sz]? = some ((rows[k / sz])[k % sz]'(by omega)) := by simp
    obtain ⟨cv, p, q⟩ := hc _ _ _ _ e1 e2
    have hk' : k / sz * sz + k % sz = k := by rw [Nat.mul_comm]; exact Nat.div_add_mod k sz
    refine ⟨cv, by rw [← hk', ← Nat.add_assoc]; exact p, fun i j r c e a a' => ?_⟩
    have hj' : j < sz := by
      have := (List.getElem?_eq_some_iff.1 a').1
      rw [h1 _ _ a] at this; exact this
    have ei : k / sz = i := by
      rw [e, Nat.mul_comm, Nat.mul_add_div (by omega), Nat.div_eq_of_lt hj']; rfl
    have ej : k % sz = j := by
      rw [e, Nat.mul_comm, Nat.mul_add_mod, Nat.mod_eq_of_lt hj']
    subst ei ej
    rw [e1] at a; cases a
    rw [e2] at a'; cases a'
    exact q
  refine ⟨L, l1, fun w2 hw => ?_, fun i j r c a a' => ?_⟩
  · have := run_loadCells_list (P := P) w2 ⟨b, base, none⟩ L (fun j v hv => by
      rw [add_none]
      have := (l2 j v hv).1
      simp only [World.cell?, hw] at this ⊢
      exact this)
    rw [l1] at this; exact this
  · have hi : i < rows.length := (List.getElem?_eq_some_iff.1 a).1
    have hj : j < sz := by
      have := (List.getElem?_eq_some_iff.1 a').1
      rw [h1 _ _ a] at this; exact this
    have hlt : i * sz + j < L.length := by rw [l1]; exact row_in hi hj
    exact ⟨L[i * sz + j], by simp [hlt], (l2 _ _ (by simp [hlt])).2 i j r c rfl a a'⟩

/-- A block's rows from some row on. -/
theorem BR.sub {id sz ver : Nat} {rs : List (List V)} (h : BR A ι H w id (.rows sz ver rs)) (off len : Nat) :
    (∀ (i : Nat) (r : List V), ((rs.drop off).take len)[i]? = some r → r.length = sz) ∧
    ∀ (i j : Nat) (r : List V) (c : V), ((rs.drop off).take len)[i]? = some r → r[j]? = some c → ∃ cv, w.cell? ⟨(ι id).b, (ι id).o + off * sz + i * sz + j, none⟩ = some cv ∧ VR A ι H w c cv := by
  have key : ∀ (i : Nat) (r : List V), ((rs.drop off).take len)[i]? = some r → rs[off + i]? = some r := by
    intro i r a
    rw [List.getElem?_take] at a
    split at a
    · rwa [List.getElem?_drop] at a
    · cases a
  refine ⟨fun i r a => ?_, fun i j r c a b => ?_⟩
  · obtain ⟨_, _, _, _, h3, _⟩ := h
    exact h3 _ _ (key i r a)
  · obtain ⟨cv, p, q⟩ := h.cells (key i r a) j c b
    refine ⟨cv, ?_, q⟩
    rw [Nat.add_mul, ← Nat.add_assoc] at p; exact p

/-- What append and copy read of a slice or a string. -/
def FC (P : Program) (A : Nat → Prop) (ι : Nat → Lk) (H : Heap) (w : World) (sz : Nat) (nr : List (List V)) (cx : Value) : Prop :=
  (Builtin.lenOf cx).run P w = .ok nr.length w ∧ ∃ L : List Value, L.length = nr.length * sz ∧ (∀ v ∈ L, v.oneCell' = true) ∧
    (∀ w2 : World, w2.heap = w.heap → (Builtin.firstCells sz nr.length cx).run P w2 = .ok L.toArray w2) ∧
    ∀ (i j : Nat) (r : List V) (c : V), nr[i]? = some r → r[j]? = some c → ∃ cv, L[i * sz + j]? = some cv ∧ VR A ι H w c cv

theorem firstCells_sound (hs : SR N A ι H w) {x : V} {cx : Value} (hx : VR A ι H w x cx) {nr : List (List V)} (h : rowsOfX H x = some nr) {sz : Nat} (hz : sz ≠ 0)
    (hl : ∀ (i : Nat) (r : List V), nr[i]? = some r → r.length = sz) (hsc : ∀ (i : Nat) (r : List V), nr[i]? = some r → r.all scalarV = true) :
    FC P A ι H w sz nr cx := by
  have one : ∀ L : List Value, L.length = nr.length * sz → (∀ (i j : Nat) (r : List V) (c : V), nr[i]? = some r → r[j]? = some c → ∃ cv, L[i * sz + j]? = some cv ∧ VR A ι H w c cv) → ∀ v ∈ L, v.oneCell' = true := by
    intro L h1 h2 v hv
    obtain ⟨k, hk, e⟩ := List.getElem_of_mem hv
    rw [h1] at hk
    have hi : k / sz < nr.length := Nat.div_lt_of_lt_mul (by rw [Nat.mul_comm]; exact hk)
    have hj : k % sz < sz := Nat.mod_lt _ (by omega)
    have e1 : nr[k / sz]? = some nr[k / sz] := by simp [hi]
    have hl' := hl _ _ e1
    have e2 : (nr[k / sz])[k % sz]? = some ((nr[k / sz])[k % sz]'(by omega)) := by simp
    obtain ⟨cv, p, q⟩ := h2 _ _ _ _ e1 e2
    have hk' : k / sz * sz + k % sz = k := by rw [Nat.mul_comm]; exact Nat.div_add_mod k sz
    rw [hk'] at p
    have : cv = v := by
      rw [← e]; rw [List.getElem?_eq_getElem (by rw [h1]; exact hk)] at p; exact (Option.some.inj p).symm
    subst this
    exact scalar_one q (List.all_eq_true.1 (hsc _ _ e1) _ (List.getElem_mem _))
  have fin : ∀ (b base n cap : Nat), n = nr.length → cx = .slice (some ⟨b, base, none⟩) n cap →
      (∀ (i j : Nat) (r : List V) (c : V), nr[i]? = some r → r[j]? = some c → ∃ cv, w.cell? ⟨b, base + i * sz + j, none⟩ = some cv ∧ VR A ι H w c cv) → FC P A ι H w sz nr cx := by
    intro b base n cap hn hcx hc
    obtain ⟨L, l1, l2, l3⟩ := rows_read (P := P) hz hl hc
    refine ⟨?_, L, l1, one L l1 l3, fun w2 hw => ?_, l3⟩
    · rw [hcx, hn]; simp [Builtin.lenOf]
    · rw [hcx]; simp only [Builtin.firstCells]; exact l2 w2 hw
  unfold rowsOfX at h
  split at h
  · -- a string's bytes
    rename_i s
    simp only [Option.some.injEq] at h; subst h
    cases hx with
    | lit _ =>
      have hz1 : sz = 1 ∨ s.data.toList = [] := by
        cases hb : s.data.toList with
        | nil => exact .inr rfl
        | cons a l => exact .inl (by have := hl 0 [.lit (.int .u8 a.toNat)] (by simp [hb]); simpa using this.symm)
      have hdata : (s.extract 0 s.data.toList.length).data = s.data := by
        have e : s.data.toList.length = s.size := by simp
        rw [e, ByteArray.data_extract]; simp [← ByteArray.size_data]
      refine ⟨by simp [Builtin.lenOf], s.data.toList.map fun b => .int .u8 b.toNat, ?_, ?_, fun w2 _ => ?_, fun i j r c a a' => ?_⟩
      · rcases hz1 with e | e
        · simp [e]
        · simp [e]
      · intro v hv; simp at hv; obtain ⟨a, _, rfl⟩ := hv; rfl
      · simp only [Builtin.firstCells, List.length_map, Sem.run_pure]
        rw [hdata]
        congr 1
        apply Array.ext'
        simp
      · simp only [List.getElem?_map, Option.map_eq_some_iff] at a
        obtain ⟨y, hy, rfl⟩ := a
        cases j with
        | zero =>
          simp at a'; subst a'
          rcases hz1 with e | e
          · exact ⟨.int .u8 y.toNat, by simp [e, hy], .lit _⟩
          · rw [e] at hy; simp at hy
        | succ j => simp at a'
  · unfold rowsOf at h
    split at h
    · -- nil
      simp only [Option.some.injEq] at h; subst h
      cases hx with
      | lit _ =>
        exact ⟨by simp [Builtin.lenOf], [], by simp, by simp, fun w2 _ => by simp [Builtin.firstCells], fun i j r c a => by simp at a⟩
    · -- arr
      simp only [Option.some.injEq] at h; subst h
      cases hx with
      | nilA p => exact ⟨by simp [Builtin.lenOf], [], by simp, by simp, fun w2 _ => by cases p <;> simp [Builtin.firstCells, loadCells, loadCellsFrom], fun i j r c a => by simp at a⟩
      | arr _ b o cap sz' hA hcap hsz hc hv =>
        refine fin b o _ cap rfl rfl fun i j r c a a' => ?_
        have e : sz' = sz := (hsz _ _ a).symm.trans (hl _ _ a)
        subst e
        obtain ⟨cv, p⟩ := hc _ _ _ _ a a'
        exact ⟨cv, p, (hv _ _ _ _ _ a a' p).pure fun _ h => h⟩
    · -- own
      rename_i id ver off len hno
      split at h
      · rename_i sz' ver' rs hid
        split at h
        · rename_i hcond
          obtain ⟨rfl, hle⟩ := hcond
          simp only [Option.some.injEq] at h
          cases hx with
          | own _ _ _ _ a cap blk hid' hf hh =>
            rw [hid] at hid'; cases hid'
            rcases hh _ _ _ rfl with hq | ⟨_, q1, q2, q3, q4, q5⟩
            · omega
            have hn : len = nr.length := by rw [← h]; simp; omega
            rcases q4 with q4 | q4
            · -- no room at all: nothing to read
              have h0 : len = 0 := by omega
              have hnr : nr = [] := List.length_eq_zero_iff.1 (by omega)
              subst hnr
              refine ⟨by simp [Builtin.lenOf, h0], [], by simp, by simp, fun w2 _ => by simp [Builtin.firstCells, loadCells, loadCellsFrom], fun i j r c a => by simp at a⟩
            · subst q4
              have hsub := (hs.live id _ hid).sub off len
              rw [h] at hsub
              refine fin _ _ _ cap hn rfl fun i j r c a a' => ?_
              have e : sz' = sz := (hsub.1 _ _ a).symm.trans (hl _ _ a)
              subst e
              exact hsub.2 i j r c a a'
        · cases h
      · cases h
    · cases h
end
end Go.Proofs.YtpmdlaojndejfaaGreatDoor.E

/- The evaluator's operations against the machine's: append, slices of slices, new slices. -/
set_option linter.unusedVariables false
namespace Go.Proofs.YtpmdlaojndejfaaGreatDoor.E
open Go

section
variable {P : Program} {N A : Nat → Prop} {ι : Nat → Lk} {H H' : Heap} {w : World}

theorem grow_le (need : Nat) : ∀ (r c : Nat), Builtin.growBy need r c ≤ max c (need + (need + 768) / 4)
  | 0, c => by simp [Builtin.growBy]; omega
  | r + 1, c => by
    simp only [Builtin.growBy]
    split
    · omega
    · have := grow_le need r (c + (c + 768) / 4)
      omega
theorem next_le {need c : Nat} (h : ¬ need ≤ c) : Builtin.nextslicecap need c ≤ 2 * need + 192 := by
  unfold Builtin.nextslicecap
  split
  · omega
  · split
    · omega
    · have := grow_le need 4 c; omega

theorem args_some {ts : Array TypeId} {e : TypeId} (h : appendArgs P ts = some e) :
    ∃ t u d, ts[0]? = some t ∧ ts[1]? = some u ∧ P.underlying t = some (.slice e) ∧ P.underlying u = some d ∧ ((∃ x, d = .slice x) ∨ d = .string) := by
  unfold appendArgs at h
  split at h
  · rename_i t u h0 h1
    split at h
    · rename_i e' u' hu hv
      simp only [Option.some.injEq] at h; subst h
      exact ⟨t, u, _, h0, h1, hu, hv, .inl ⟨_, rfl⟩⟩
    · rename_i e' hu hv
      simp only [Option.some.injEq] at h; subst h
      exact ⟨t, u, _, h0, h1, hu, hv, .inr rfl⟩
    · cases h
  · cases h

theorem run_append_in {ts : Array TypeId} {ty e : TypeId} (ha : appendArgs P ts = some e) {i : TypeInfo} (hi : P.info? e = some i) {base : Option Addr} {sLen sCap n : Nat} {cx : Value} {new : List Value}
    (hn : (Builtin.lenOf cx).run P w = .ok n w) (hnew : (Builtin.firstCells (sizeT P e) n cx).run P w = .ok new.toArray w) (hfit : sLen + n ≤ sCap) {w' : World}
    (hst : base = none ∧ w' = w ∨ ∃ a, base = some a ∧ (storeCells (a.add (sLen * sizeT P e)) new).run P w = .ok () w') :
    (Builtin.append_ ts ty #[.slice base sLen sCap, cx]).run P w = .ok (.slice base (sLen + n) sCap) w' := by
  obtain ⟨t, u, d, h0, h1, hu, hv, hd⟩ := args_some ha
  unfold Builtin.append_
  rcases hst with ⟨rfl, rfl⟩ | ⟨a, rfl, hst⟩
  · rcases hd with ⟨x, rfl⟩ | rfl <;> simp [h0, h1, run_underlying hu, run_underlying hv, run_sizeT hi, hn, hnew, hfit]
  · rcases hd with ⟨x, rfl⟩ | rfl <;> simp [h0, h1, run_underlying hu, run_underlying hv, run_sizeT hi, hn, hnew, hfit, hst]

theorem run_append_grow {ts : Array TypeId} {ty e : TypeId} (ha : appendArgs P ts = some e) {i : TypeInfo} (hi : P.info? e = some i) {zv : Value} (hzv : i.zero = some zv) (hbytes : i.bytes ≤ 1000000)
    {base : Option Addr} {sLen sCap n : Nat} {cx : Value} {old new : List Value}
    (hn : (Builtin.lenOf cx).run P w = .ok n w) (hbound : sLen + n ≤ 2000000) (hfit : ¬ sLen + n ≤ sCap)
    (hold : ∀ w2 : World, w2.heap = w.heap → (Builtin.firstCells (sizeT P e) sLen (.slice base sLen sCap)).run P w2 = .ok old.toArray w2)
    (hnew : ∀ w2 : World, w2.heap = w.heap → (Builtin.firstCells (sizeT P e) n cx).run P w2 = .ok new.toArray w2) :
    ∃ cap, sLen + n ≤ cap ∧ (Builtin.append_ ts ty #[.slice base sLen sCap, cx]).run P w =
      .ok (.slice (some ⟨w.heap.size, 0, none⟩) (sLen + n) cap) (w.drew.alloc (.cells ((old ++ new).toArray ++ Builtin.zeroCells zv.cells (cap - (sLen + n))) e)) := by
  obtain ⟨t, u, d, h0, h1, hu, hv, hd⟩ := args_some ha
  have hsmall : ¬ (Builtin.nextslicecap (sLen + n) sCap * i.bytes > 2 ^ 48) := by
    have h1 := next_le hfit
    have h2 : Builtin.nextslicecap (sLen + n) sCap * i.bytes ≤ 5000000 * 1000000 := Nat.mul_le_mul (by omega) hbytes
    omega
  have hmax : ¬ (9223372036854775807 < (sLen : Int) + (n : Int) ∧ i.bytes = 0) := by
    intro ⟨h, _⟩
    omega
  have hsm : ¬ 281474976710656 < Builtin.nextslicecap (sLen + n) sCap * i.bytes := by simpa using hsmall
  refine ⟨(Question.appendCap (sLen + n) sCap e).cut (w.tape w.drawn (.appendCap (sLen + n) sCap e)), by simp [Question.cut], ?_⟩
  unfold Builtin.append_
  have ho := hold w.drew rfl
  have hw := hnew w.drew rfl
  have ti : ∀ w : World, (typeInfo e).run P w = .ok i w := fun w => by simp [typeInfo, hi]
  have zi : ∀ w : World, (zeroValue e).run P w = .ok zv w := fun w => by simp [zeroValue, typeInfo, hi, hzv]
  rcases hd with ⟨x, rfl⟩ | rfl
  · simp [h0, h1, run_underlying hu, run_underlying hv, run_sizeT hi, hn, hfit, ti, zi, Question.forced, newRow, hmax, hsm, ho, hw]
    congr 2; apply Array.ext'; simp
  · simp [h0, h1, run_underlying hu, run_underlying hv, run_sizeT hi, hn, hfit, ti, zi, Question.forced, newRow, hmax, hsm, ho, hw]
    congr 2; apply Array.ext'; simp

theorem VR.sr_keep {A' : Nat → Prop} {ι' : Nat → Lk} {H' : Heap} {w w' : World} (e : Ext N A ι H w N A' ι' H' w') {v : V} {cv : Value} (h : VR A ι H w v cv) : VR A' ι' H' w' v cv := e.keep _ _ h

/-- What an operation comes to. -/
def Out (P : Program) (N A : Nat → Prop) (ι : Nat → Lk) (H : Heap) (w : World) (s : Sem Value) (v : V) (H' : Heap) : Prop :=
  ∃ cv w' N' A' ι', s.run P w = .ok cv w' ∧ Ext N A ι H w N' A' ι' H' w' ∧ VR A' ι' H' w' v cv

theorem Out.still (hs : SR N A ι H w) {s : Sem Value} {v : V} {cv : Value} (h : s.run P w = .ok cv w) (hv : VR A ι H w v cv) : Out P N A ι H w s v H :=
  ⟨cv, w, N, A, ι, h, Ext.refl hs, hv⟩

theorem VR.drew {v : V} {cv : Value} (h : VR A ι H w v cv) : VR A ι H w.drew v cv :=
  VR.keep (A := A) (A' := A) (ι := ι) (ι' := ι) (H := H) (H' := H) (w := w) (w' := w.drew) ⟨fun _ h => h, fun _ _ => rfl, fun id b hb _ => ⟨b, hb, .same rfl b⟩⟩ h
theorem Ext.drew (hs : SR N A ι H w) : Ext N A ι H w N A ι H w.drew :=
  ⟨⟨fun id b hb => BR.keep (w := w) (w' := w.drew) (fun v cv x => x.drew) rfl (fun _ => rfl) (hs.live id b hb), hs.inj, hs.apart, hs.an, hs.lt⟩,
    fun _ _ x => x.drew, fun b hb => ⟨hb, rfl⟩, fun b hb => .inl hb, fun b hb => hb, Nat.le_refl _, rfl, rfl, rfl⟩

/-- Rows stored behind a row. -/
theorem store_rows (P : Program) {b start : Nat} {xs : Array Value} {e : TypeId} (hb : w.heap[b]? = some (.cells xs e (0, 0))) {new : List Value} (hone : ∀ v ∈ new, v.oneCell' = true) (hfit : start + new.length ≤ xs.size) :
    ∃ (w' : World) (xs' : Array Value), (storeCells ⟨b, start, none⟩ new).run P w = .ok () w' ∧ w'.heap[b]? = some (.cells xs' e (0, 0)) ∧ xs'.size = xs.size ∧
      (∀ k, xs'[k]? = if k < start then xs[k]? else if k < start + new.length then new[k - start]? else xs[k]?) ∧
      (∀ k, k ≠ b → w'.heap[k]? = w.heap[k]?) ∧ w'.heap.size = w.heap.size ∧ w'.os = w.os ∧ w'.tape = w.tape ∧ w'.output = w.output := by
  have hrun := run_storeCells_at (P := P) b start e new 0 xs w hb (by simpa using hfit) hone
  simp only [Nat.add_zero] at hrun
  refine ⟨_, _, hrun, setRow_heap w _ xs _ e _ hb, ?_, fun k => ?_, fun k hk => setRow_other _ _ _ _ hk, by simp, rfl, rfl, rfl⟩
  · simp; omega
  · have := seg_get xs.toList new start (by simpa using hfit) k
    simpa using this

theorem append_sound (hs : SR N A ι H w) {nid : Nat} {ts : Array TypeId} {ty : TypeId} {s x v : V} {cs cx : Value} (hsv : VR A ι H w s cs) (hxv : VR A ι H w x cx)
    (h : appendV P nid H ts s x = some (v, H')) : Out P N A ι H w (Builtin.append_ ts ty #[cs, cx]) v H' := by
  simp only [appendV, Option.bind_eq_some_iff] at h
  obtain ⟨e, ha, z, hz, nr, hnr, h⟩ := h
  obtain ⟨i, zv, hi, hzv, rfl⟩ := zeroT_some hz
  split at h
  case isFalse => cases h
  rename_i hc
  obtain ⟨c1, c2, c3, c4, c5, c6⟩ := hc
  have c4' : i.bytes ≤ 1000000 := by simpa [Program.bytesOf, hi] using c4
  have hzc : zv.cells.size = sizeT P e := by
    rw [← c2]; exact ((cells_rel (A := A) (ι := ι) (H := H) (w := w) (VR.ofValue zv) c3).1.1).symm
  have hl : ∀ (i : Nat) (r : List V), nr[i]? = some r → r.length = sizeT P e := fun i r a => by
    have := List.all_eq_true.1 c6 r (List.mem_of_getElem? a)
    simp at this; exact this.1
  have hsc : ∀ (i : Nat) (r : List V), nr[i]? = some r → r.all scalarV = true := fun i r a => by
    have := List.all_eq_true.1 c6 r (List.mem_of_getElem? a)
    simp at this ⊢; exact this.2
  obtain ⟨hn, new, n1, n2, n3, n4⟩ := firstCells_sound (P := P) hs hxv hnr c1 hl hsc
  split at h
  · -- nil
    cases hsv with
    | lit _ =>
      split at h
      · rename_i h0
        simp only [Option.some.injEq, Prod.mk.injEq] at h
        obtain ⟨rfl, rfl⟩ := h
        refine Out.still hs (cv := .slice none 0 0) ?_ (.lit _)
        have := run_append_in (ty := ty) (base := none) (sLen := 0) (sCap := 0) (w' := w) ha hi hn (n3 w rfl) (by omega) (.inl ⟨rfl, rfl⟩)
        rw [h0] at this; exact this
      · rename_i h0
        simp only [Option.map_eq_some_iff, Prod.mk.injEq] at h
        obtain ⟨H1, hp, rfl, rfl⟩ := h
        obtain ⟨cap, k1, k2⟩ := run_append_grow (ty := ty) (w := w) (base := none) (sLen := 0) (sCap := 0) (old := []) ha hi hzv c4' hn (by omega) (by omega) (fun w2 _ => by simp [Builtin.firstCells]) n3
        simp only [List.nil_append, Nat.zero_add] at k2 k1
        have hsz : (new.toArray ++ Builtin.zeroCells zv.cells (cap - nr.length)).size = cap * sizeT P e := by
          simp [Builtin.zeroCells, n1, hzc, ← Nat.add_mul]; congr 1; omega
        obtain ⟨p1, _, _⟩ := place_get hp
        have ex0 := Ext.drew hs
        have ex := newRow_sound ex0.sr hp (new.toArray ++ Builtin.zeroCells zv.cells (cap - nr.length)) e hl (by rw [hsz]; exact Nat.mul_le_mul_right _ k1) (fun i j r c a b => by
          obtain ⟨cv, p, q⟩ := n4 i j r c a b
          refine ⟨cv, ?_, q.drew⟩
          have hlt := (List.getElem?_eq_some_iff.1 p).1
          rw [Array.getElem?_append_left (by simpa using hlt)]; simpa using p) ⟨fun t ht => by rw [Nat.mul_div_cancel _ (by decide)] at ht; omega, fun t ht => by rw [Nat.mul_div_cancel _ (by decide)] at ht; exact ⟨by omega, rfl⟩⟩
        refine ⟨_, _, N, A, _, k2, ex0.trans ex, ?_⟩
        refine .own _ _ _ _ _ _ _ p1 (by simp) fun s v r e' => ?_
        cases e'
        refine .inr ⟨rfl, by simp, by omega, by rw [upd_same, hsz]; simp, .inr ?_, by simp [upd_same], rfl⟩
        rw [upd_same]; simp
  · -- own
    rename_i id ver off len
    split at h
    case h_2 => cases h
    rename_i sz ver' rs hid
    split at h
    case isFalse => cases h
    rename_i hcond
    obtain ⟨rfl, rfl, d1, d2⟩ := hcond
    cases hsv with
    | own _ _ _ _ a cap blk hid' hf hh =>
    rw [hid] at hid'; cases hid'
    rcases hh _ _ _ rfl with hq | ⟨_, q1, q2, q3, q4, q5⟩
    · omega
    obtain ⟨xs, el, b1, b2, b3, b4, b5, b6⟩ := hs.live id _ hid
    split at h
    · -- nothing is appended
      rename_i h0
      simp only [Option.some.injEq, Prod.mk.injEq] at h
      obtain ⟨rfl, rfl⟩ := h
      have hnew : new = [] := List.length_eq_zero_iff.1 (by rw [n1, h0]; simp)
      subst hnew
      refine Out.still hs (cv := .slice (some a) len cap) ?_ (.own id ver' off len a cap _ hid hf hh)
      have := run_append_in (ty := ty) (base := some a) (sLen := len) (sCap := cap) (w' := w) ha hi hn (n3 w rfl) (by omega) (.inr ⟨a, rfl, by simp [storeCells]⟩)
      rw [h0] at this; exact this
    rename_i h0
    have pos : 0 < sizeT P e := Nat.pos_of_ne_zero c1
    split at h
    · -- in its place
      rename_i hin
      simp only [Option.some.injEq, Prod.mk.injEq] at h
      obtain ⟨rfl, rfl⟩ := h
      have ha' := q4.resolve_left (by omega)
      subst ha'
      have hfit : (ι id).o + (off + len) * sizeT P e + new.length ≤ xs.size := by
        have : (off + len + nr.length) * sizeT P e ≤ rs.length * sizeT P e := Nat.mul_le_mul_right _ hin
        rw [Nat.add_mul] at this; rw [n1]; omega
      obtain ⟨w', xs', r1, r2, r3, r4, r5, r6, r7, r8, r9⟩ := store_rows (w := w) P b1 n2 hfit
      have hrun := run_append_in (ty := ty) (base := some ⟨(ι id).b, (ι id).o + off * sizeT P e, none⟩) (sLen := len) (sCap := cap) (w' := w') ha hi hn (n3 w rfl) (by omega) (.inr ⟨_, rfl, by
        rw [add_none, Nat.add_assoc, ← Nat.add_mul]; exact r1⟩)
      have seg := seg_get rs nr (off + len) hin
      have slen := seg_len rs nr (off + len) hin
      refine ⟨_, w', N, A, upd ι id (ι id), hrun, Ext.turn hs hid trivial (L := ι id) (.inl rfl) (fun k _ hk => r5 k hk) (by omega) r7 r8 r9 ?_ ?_, ?_⟩
      · simp only [Later, upd_same]; exact .inr ⟨trivial, trivial, slen.symm, trivial⟩
      · intro keep
        refine ⟨xs', el, by rw [upd_same]; exact r2, by rw [upd_same]; omega, fun i r a => ?_, by rw [upd_same, slen]; omega, fun i j r c a a' => ?_, by rw [upd_same, slen]; exact b6⟩
        · rw [seg] at a
          split at a
          · exact b3 _ _ a
          · split at a
            · exact hl _ _ a
            · exact b3 _ _ a
        · rw [upd_same, r4]
          have hr : r.length = sizeT P e := by
            rw [seg] at a
            split at a
            · exact b3 _ _ a
            · split at a
              · exact hl _ _ a
              · exact b3 _ _ a
          have hj : j < sizeT P e := hr ▸ (List.getElem?_eq_some_iff.1 a').1
          rw [seg] at a
          split at a
          · rename_i g1
            have := row_in (sz := sizeT P e) (j := j) g1 hj
            rw [if_pos (by omega)]
            obtain ⟨cv, p, q⟩ := b5 i j r c a a'
            exact ⟨cv, p, keep _ _ q⟩
          · rename_i g1
            have g1' : (off + len) * sizeT P e ≤ i * sizeT P e := Nat.mul_le_mul_right _ (by omega)
            rw [if_neg (by omega)]
            split at a
            · rename_i g2
              have g3 : i * sizeT P e + j < (off + len + nr.length) * sizeT P e := row_in g2 hj
              rw [Nat.add_mul] at g3
              rw [if_pos (by rw [n1]; omega)]
              obtain ⟨cv, p, q⟩ := n4 _ j r c a a'
              have e1 : (ι id).o + i * sizeT P e + j - ((ι id).o + (off + len) * sizeT P e) = (i - (off + len)) * sizeT P e + j := by
                rw [Nat.sub_mul]; omega
              rw [e1]
              exact ⟨cv, p, keep _ _ q⟩
            · rename_i g2
              have g3 : (off + len + nr.length) * sizeT P e ≤ i * sizeT P e := Nat.mul_le_mul_right _ (by omega)
              rw [Nat.add_mul] at g3
              rw [if_neg (by rw [n1]; omega)]
              obtain ⟨cv, p, q⟩ := b5 i j r c a a'
              exact ⟨cv, p, keep _ _ q⟩
      · have hlt : id < H.length := (List.getElem?_eq_some_iff.1 hid).1
        refine .own id ver' off (len + nr.length) _ cap (.rows (sizeT P e) ver' (rs.take (off + len) ++ nr ++ rs.drop (off + len + nr.length))) (by simp [hlt]) (by simp) fun s v r e' => ?_
        cases e'
        exact .inr ⟨rfl, by rw [slen]; omega, by rw [slen]; omega, by rw [upd_same]; exact q3, .inr (by rw [upd_same]), by rw [upd_same], rfl⟩
    · -- longer than before
      rename_i hin
      split at h
      case isFalse => cases h
      rename_i hvok
      simp only [Option.some.injEq, Prod.mk.injEq] at h
      obtain ⟨rfl, rfl⟩ := h
      have hlt : id < H.length := (List.getElem?_eq_some_iff.1 hid).1
      have htl : ((rs.drop off).take len).length = len := by simp; omega
      have hget : ∀ (i : Nat) (r : List V), ((rs.drop off).take len ++ nr)[i]? = some r → (i < len ∧ rs[off + i]? = some r) ∨ (len ≤ i ∧ nr[i - len]? = some r) := by
        intro i r a
        rcases Nat.lt_or_ge i len with g | g
        · rw [List.getElem?_append_left (by omega), List.getElem?_take, if_pos g, List.getElem?_drop] at a
          exact .inl ⟨g, a⟩
        · rw [List.getElem?_append_right (by omega), htl] at a
          exact .inr ⟨g, a⟩
      by_cases hcap : len + nr.length ≤ cap
      · have ha' := q4.resolve_left (by omega)
        subst ha'
        have hfit : (ι id).o + (off + len) * sizeT P e + new.length ≤ xs.size := by
          have : (off + (len + nr.length)) * sizeT P e ≤ (off + cap) * sizeT P e := Nat.mul_le_mul_right _ (by omega)
          rw [← Nat.add_assoc, Nat.add_mul] at this; rw [n1]; omega
        obtain ⟨w', xs', r1, r2, r3, r4, r5, r6, r7, r8, r9⟩ := store_rows (w := w) P b1 n2 hfit
        have hrun := run_append_in (ty := ty) (base := some ⟨(ι id).b, (ι id).o + off * sizeT P e, none⟩) (sLen := len) (sCap := cap) (w' := w') ha hi hn (n3 w rfl) hcap (.inr ⟨_, rfl, by
          rw [add_none, Nat.add_assoc, ← Nat.add_mul]; exact r1⟩)
        refine ⟨_, w', N, A, upd ι id ⟨(ι id).b, (ι id).o + off * sizeT P e, (ι id).n⟩, hrun, Ext.turn hs hid trivial (L := ⟨(ι id).b, (ι id).o + off * sizeT P e, (ι id).n⟩) (.inl rfl) (fun k _ hk => r5 k hk) (by omega) r7 r8 r9 ?_ ?_, ?_⟩
        · simp only [Later]; exact .inl (by omega)
        · intro keep
          refine ⟨xs', el, by rw [upd_same]; exact r2, by rw [upd_same]; simp; omega, fun i r a => ?_, ?_, fun i j r c a a' => ?_, ?_⟩
          · rcases hget i r a with ⟨_, g⟩ | ⟨_, g⟩
            · exact b3 _ _ g
            · exact hl _ _ g
          · rw [upd_same]; simp only [List.length_append, htl]
            have : (off + (len + nr.length)) * sizeT P e ≤ (off + cap) * sizeT P e := Nat.mul_le_mul_right _ (by omega)
            rw [Nat.add_mul] at this; omega
          · rw [upd_same, r4]
            have hr : r.length = sizeT P e := by
              rcases hget i r a with ⟨_, g⟩ | ⟨_, g⟩
              · exact b3 _ _ g
              · exact hl _ _ g
            have hj : j < sizeT P e := hr ▸ (List.getElem?_eq_some_iff.1 a').1
            rcases hget i r a with ⟨g1, g⟩ | ⟨g1, g⟩
            · have := row_in (sz := sizeT P e) (j := j) (i := off + i) (n := off + len) (by omega) hj
              rw [Nat.add_mul] at this
              rw [if_pos (by simp only; omega)]
              obtain ⟨cv, p, q⟩ := b5 (off + i) j r c g a'
              refine ⟨cv, ?_, keep _ _ q⟩
              rw [Nat.add_mul] at p; rw [← p]; congr 1; simp only; omega
            · have g3 : len * sizeT P e ≤ i * sizeT P e := Nat.mul_le_mul_right _ g1
              have g2 : i < len + nr.length := by have := (List.getElem?_eq_some_iff.1 g).1; omega
              have g4 : i * sizeT P e + j < (len + nr.length) * sizeT P e := row_in g2 hj
              rw [Nat.add_mul] at g4
              have g5 : (off + len) * sizeT P e = off * sizeT P e + len * sizeT P e := Nat.add_mul _ _ _
              rw [if_neg (by simp only; omega), if_pos (by simp only; rw [n1]; omega)]
              obtain ⟨cv, p, q⟩ := n4 _ j r c g a'
              refine ⟨cv, ?_, keep _ _ q⟩
              rw [← p]; congr 1
              rw [Nat.sub_mul]; simp only; omega
          · rw [upd_same]
            rcases hvok with hv | ⟨hv1, hv2, rfl⟩
            · exact .zero hv
            · have := b6.2 e hv1
              exact ⟨fun t ht => by omega, fun t ht => ⟨by rw [this.1]; omega, by simp [this.2]⟩⟩
        · refine .own id (ver' + 1) 0 (len + nr.length) _ cap (.rows (sizeT P e) (ver' + 1) ((rs.drop off).take len ++ nr)) (by simp [hlt]) (by simp) fun s v r e' => ?_
          cases e'
          refine .inr ⟨rfl, by simp only [List.length_append, htl]; omega, by simp only [List.length_append, htl]; omega, ?_, .inr ?_, by simp [upd_same], rfl⟩
          · rw [upd_same]; simp only [Nat.zero_add]; rw [Nat.add_mul] at q3; omega
          · rw [upd_same]; simp
      · -- a new block
        have hsub := (hs.live id _ hid).sub off len
        have hold : ∃ old : List Value, old.length = len * sizeT P e ∧ (∀ w2 : World, w2.heap = w.heap → (Builtin.firstCells (sizeT P e) len (.slice (some a) len cap)).run P w2 = .ok old.toArray w2) ∧
            ∀ (i j : Nat) (r : List V) (c : V), ((rs.drop off).take len)[i]? = some r → r[j]? = some c → ∃ cv, old[i * sizeT P e + j]? = some cv ∧ VR A ι H w c cv := by
          rcases q4 with q4 | q4
          · have h0 : len = 0 := by omega
            subst h0
            exact ⟨[], by simp, fun w2 _ => by simp [Builtin.firstCells, loadCells, loadCellsFrom], fun i j r c a => by simp at a⟩
          · subst q4
            obtain ⟨L, l1, l2, l3⟩ := rows_read (P := P) c1 hsub.1 hsub.2
            rw [htl] at l1 l2
            exact ⟨L, l1, fun w2 hw => by simp only [Builtin.firstCells]; exact l2 w2 hw, l3⟩
        obtain ⟨old, o1, o2, o3⟩ := hold
        obtain ⟨cap', k1, k2⟩ := run_append_grow (ty := ty) (w := w) (base := some a) (sLen := len) (sCap := cap) (old := old) ha hi hzv c4' hn (by omega) hcap o2 n3
        have hsz : ((old ++ new).toArray ++ Builtin.zeroCells zv.cells (cap' - (len + nr.length))).size = cap' * sizeT P e := by
          simp [Builtin.zeroCells, n1, o1, hzc, ← Nat.add_mul]; congr 1; omega
        have ex0 := Ext.drew hs
        refine ⟨_, _, N, A, upd ι id ⟨w.heap.size, 0, cap' * sizeT P e⟩, k2, ex0.trans (Ext.turn ex0.sr hid trivial (L := ⟨w.heap.size, 0, cap' * sizeT P e⟩) (.inr rfl) (fun k hk _ => alloc_lt w.drew _ k hk) (by simp) rfl rfl rfl ?_ ?_), ?_⟩
        · simp only [Later]; exact .inl (by omega)
        · intro keep
          refine ⟨_, e, by rw [upd_same]; exact alloc_new w.drew _, by rw [upd_same]; exact hsz, fun i r a => ?_, ?_, fun i j r c a a' => ?_, ?_⟩
          · rcases hget i r a with ⟨_, g⟩ | ⟨_, g⟩
            · exact b3 _ _ g
            · exact hl _ _ g
          · rw [upd_same, hsz]; simp only [List.length_append, htl, Nat.zero_add]; exact Nat.mul_le_mul_right _ k1
          · rw [upd_same]
            have hr : r.length = sizeT P e := by
              rcases hget i r a with ⟨_, g⟩ | ⟨_, g⟩
              · exact b3 _ _ g
              · exact hl _ _ g
            have hj : j < sizeT P e := hr ▸ (List.getElem?_eq_some_iff.1 a').1
            simp only [Nat.zero_add]
            rcases Nat.lt_or_ge i len with g | g
            · rw [List.getElem?_append_left (by omega)] at a
              obtain ⟨cv, p, q⟩ := o3 i j r c a a'
              have hlo := (List.getElem?_eq_some_iff.1 p).1
              refine ⟨cv, ?_, keep _ _ q.drew⟩
              rw [Array.getElem?_append_left (by simp; omega)]
              simp only [List.getElem?_toArray]
              rw [List.getElem?_append_left hlo]; exact p
            · rw [List.getElem?_append_right (by omega), htl] at a
              obtain ⟨cv, p, q⟩ := n4 _ j r c a a'
              have hlo := (List.getElem?_eq_some_iff.1 p).1
              have g3 : len * sizeT P e ≤ i * sizeT P e := Nat.mul_le_mul_right _ g
              have e1 : i * sizeT P e + j - old.length = (i - len) * sizeT P e + j := by rw [o1, Nat.sub_mul]; omega
              refine ⟨cv, ?_, keep _ _ q.drew⟩
              rw [Array.getElem?_append_left (by simp; omega)]
              simp only [List.getElem?_toArray]
              rw [List.getElem?_append_right (by omega), e1]; exact p
          · rw [upd_same]
            rcases hvok with hv | ⟨hv1, hv2, _⟩
            · exact .zero hv
            · exact ⟨fun t ht => by omega, fun t ht => ⟨by omega, rfl⟩⟩
        · refine .own id (ver' + 1) 0 (len + nr.length) _ cap' (.rows (sizeT P e) (ver' + 1) ((rs.drop off).take len ++ nr)) (by simp [hlt]) (by simp) fun s v r e' => ?_
          cases e'
          refine .inr ⟨rfl, by simp only [List.length_append, htl]; omega, by simp only [List.length_append, htl]; omega, ?_, .inr ?_, by simp [upd_same], rfl⟩
          · rw [upd_same]; simp
          · rw [upd_same]; simp
  · cases h
end
end Go.Proofs.YtpmdlaojndejfaaGreatDoor.E

/- The evaluator's operations against the machine's: slices of slices, new slices, maps, texts by code points. -/
set_option linter.unusedVariables false
set_option linter.unusedSimpArgs false
namespace Go.Proofs.YtpmdlaojndejfaaGreatDoor.E
open Go

section
variable {P : Program} {N A : Nat → Prop} {ι : Nat → Lk} {H H' : Heap} {w : World}

/-- Two values that may be there, related. -/
def OR (A : Nat → Prop) (ι : Nat → Lk) (H : Heap) (w : World) : Option V → Option Value → Prop
  | none, none => True
  | some v, some cv => VR A ι H w v cv
  | _, _ => False

theorem bound_eq {d l : Nat} {o : Option V} {co : Option Value} (h : boundOf d o = some l) (hr : OR A ι H w o co) : (co = none ∧ l = d) ∨ ∃ k, co = some (.int k l) := by
  cases o with
  | none =>
    cases co with
    | none => simp [boundOf] at h; exact .inl ⟨rfl, h.symm⟩
    | some _ => exact hr.elim
  | some v =>
    cases co with
    | none => exact hr.elim
    | some cv =>
      simp only [boundOf, Option.bind_eq_some_iff] at h
      obtain ⟨n, hn, h⟩ := h
      split at h
      · rename_i h0
        simp only [Option.some.injEq] at h
        obtain ⟨k, rfl⟩ := intOf_eq hn hr
        refine .inr ⟨k, ?_⟩
        rw [← h, Int.toNat_of_nonneg h0]
      · cases h

theorem run_bounds {len cap l h : Nat} {lo hi : Option V} {clo chi : Option Value} (hl : boundOf 0 lo = some l) (hh : boundOf len hi = some h) (rl : OR A ι H w lo clo) (rh : OR A ι H w hi chi)
    (h1 : l ≤ h) (h2 : h ≤ cap) : (Instr.sliceBounds true len cap clo chi none).run P w = .ok (l, h, cap) w := by
  have sb : ∀ (k : IntKind) (n y : Nat) (code : BoundsCode), n ≤ y → (Instr.sliceBound (.int k n) y code).run P w = .ok n w := by
    intro k n y code hle
    simp [Instr.sliceBound, asIntOf, hle]
  rcases bound_eq hl rl with ⟨rfl, rfl⟩ | ⟨k, rfl⟩ <;> rcases bound_eq hh rh with ⟨rfl, rfl⟩ | ⟨k', rfl⟩ <;>
    simp [Instr.sliceBounds, sb _ _ _ _ h1, sb _ _ _ _ h2]

theorem sliceAt_sound (hs : SR N A ι H w) {t : TypeId} {x v : V} {cx : Value} {lo hi : Option V} {clo chi : Option Value} (hx : VR A ι H w x cx) (rl : OR A ι H w lo clo) (rh : OR A ι H w hi chi)
    (h : sliceV P H t x lo hi = some v) : ∃ cv, (Instr.sliceAt t cx clo chi none).run P w = .ok cv w ∧ VR A ι H w v cv := by
  unfold sliceV at h
  split at h
  · rename_i e id ver off len hu
    simp only [Option.bind_eq_some_iff] at h
    obtain ⟨l, hl, hh', hhi, h⟩ := h
    split at h
    · rename_i sz ver' rs hid
      split at h
      · rename_i hc
        obtain ⟨rfl, rfl, hz, c1, c2⟩ := hc
        simp only [Option.some.injEq] at h; subst h
        cases hx with
        | own _ _ _ _ a cap blk hid' hf hh =>
          rw [hid] at hid'; cases hid'
          rcases hh _ _ _ rfl with hq | ⟨_, q1, q2, q3, q4, q5⟩
          · omega
          have hb := run_bounds (P := P) (cap := cap) hl hhi rl rh c1 (by omega)
          refine ⟨.slice (some (if cap = l then a else a.add (l * sizeT P e))) (hh' - l) (cap - l), ?_, ?_⟩
          · simp [Instr.sliceAt, run_underlying hu, Instr.slice, hb, run_sizeT' hz]
            split <;> rfl
          · refine .own id ver' _ _ _ _ _ hid (by simp) fun s v r e' => ?_
            cases e'
            refine .inr ⟨rfl, by omega, by omega, ?_, ?_, ?_, ?_⟩
            · have : off + l + (cap - l) = off + cap := by omega
              rw [this]; exact q3
            · rcases q4 with q4 | q4
              · exact .inl (by omega)
              · by_cases hcl : cap = l
                · exact .inl (by omega)
                · rw [if_neg hcl, q4, add_none, Nat.add_mul, Nat.add_assoc]; exact .inr rfl
            · split
              · exact q5.1
              · unfold Addr.add; split <;> exact q5.1
            · split
              · exact q5.2
              · unfold Addr.add; split
                · exact q5.2
                · rfl
      · cases h
    · cases h
  · rename_i e rows hu
    simp only [Option.bind_eq_some_iff] at h
    obtain ⟨l, hl, hh', hhi, h⟩ := h
    split at h
    · rename_i hc
      obtain ⟨c1, c2, hz, c3⟩ := hc
      simp only [Option.some.injEq] at h; subst h
      cases hx with
      | nilA p =>
        have hb := run_bounds (P := P) (cap := 0) hl hhi rl rh c1 (by simpa using c2)
        have h0 : hh' = 0 := by simpa using c2
        have l0 : l = 0 := by omega
        subst h0; subst l0
        refine ⟨.slice p 0 0, ?_, ?_⟩
        · have hb' : Sem.run P (Instr.sliceBounds true 0 0 clo chi none) w = Result.ok (0, 0, 0) w := hb
          cases p <;> simp [Instr.sliceAt, run_underlying hu, Instr.slice, hb', run_sizeT' hz]
        · simp; exact .nilA p
      | arr _ b o cap sz hA hcap hsz hc hv =>
        have hb := run_bounds (P := P) (cap := cap) hl hhi rl rh c1 (by omega)
        have key : ∀ (i : Nat) (r : List V), ((rows.drop l).take (hh' - l))[i]? = some r → i < hh' - l ∧ rows[l + i]? = some r := by
          intro i r a
          rw [List.getElem?_take] at a
          split at a
          · rename_i g; rw [List.getElem?_drop] at a; exact ⟨g, a⟩
          · cases a
        have hlen : ((rows.drop l).take (hh' - l)).length = hh' - l := by simp; omega
        have hsz' : ∀ (i : Nat) (r : List V), rows[i]? = some r → sz = sizeT P e := fun i r a => by
          have := List.all_eq_true.1 c3 r (List.mem_of_getElem? a)
          simp at this
          exact (hsz i r a).symm.trans this
        refine ⟨.slice (some (if cap = l then ⟨b, o, none⟩ else (⟨b, o, none⟩ : Addr).add (l * sizeT P e))) (hh' - l) (cap - l), ?_, ?_⟩
        · simp [Instr.sliceAt, run_underlying hu, Instr.slice, hb, run_sizeT' hz]
          split <;> rfl
        · by_cases hcl : cap = l
          · rw [if_pos hcl]
            have h0 : hh' - l = 0 := by omega
            have hnil : (rows.drop l).take (hh' - l) = [] := by rw [h0]; simp
            have := VR.arr (A := A) (ι := ι) (H := H) (w := w) ((rows.drop l).take (hh' - l)) b o (cap - l) sz hA (by rw [hlen]; omega) (fun i r a => by rw [hnil] at a; simp at a) (fun i j r c a => by rw [hnil] at a; simp at a) (fun i j r c cv a => by rw [hnil] at a; simp at a)
            rw [hlen] at this; exact this
          · rw [if_neg hcl, add_none]
            have := VR.arr (A := A) (ι := ι) (H := H) (w := w) ((rows.drop l).take (hh' - l)) b (o + l * sizeT P e) (cap - l) sz hA (by rw [hlen]; omega) (fun i r a => hsz _ _ (key i r a).2) (fun i j r c a a' => by
              have g := key i r a
              have e1 := hsz' _ _ g.2
              obtain ⟨cv, p⟩ := hc _ _ _ _ g.2 a'
              refine ⟨cv, ?_⟩
              rw [← p, e1, Nat.add_mul]; congr 2; omega) (fun i j r c cv a a' p => by
              have g := key i r a
              have e1 := hsz' _ _ g.2
              refine hv _ _ _ _ _ g.2 a' ?_
              rw [← p, e1, Nat.add_mul]; congr 2; omega)
            rw [hlen] at this; exact this
    · cases h
  · cases h

theorem toRows_get {sz n : Nat} {cs : List V} (hl : cs.length = n * sz) {i : Nat} {r : List V} (h : (toRows sz n cs)[i]? = some r) :
    i < n ∧ r.length = sz ∧ ∀ (j : Nat) (c : V), r[j]? = some c → j < sz ∧ cs[i * sz + j]? = some c := by
  simp only [toRows, List.getElem?_map, Option.map_eq_some_iff] at h
  obtain ⟨k, hk, rfl⟩ := h
  have hi : i < n := by have := (List.getElem?_eq_some_iff.1 hk).1; simpa using this
  have e : k = i := by rw [List.getElem?_range hi] at hk; exact (Option.some.inj hk).symm
  subst e
  have : (k + 1) * sz ≤ n * sz := Nat.mul_le_mul_right _ hi
  rw [Nat.add_mul] at this
  refine ⟨hi, by simp; omega, fun j c hc => ?_⟩
  rw [List.getElem?_take] at hc
  split at hc
  · rename_i g; rw [List.getElem?_drop] at hc; exact ⟨g, hc⟩
  · cases hc

theorem buildSlice_sound (hs : SR N A ι H w) {nid n : Nat} {t e : TypeId} {ps : List (Nat × V)} {qs : Array (Nat × Value)} (hp : PR A ι H w ps qs.toList) (hu : P.underlying t = some (.slice e))
    (hn : n * sizeT P e ≤ 1000000) (hz : sizeT P e ≠ 0) {z : V} (hz0 : zeroT P e = some z) (hzl : z.cells.length = sizeT P e) (hzs : z.cells.all scalarV = true) {cs : List V}
    (hf : fillV (fun i => some (i * sizeT P e, sizeT P e)) ((List.range (n * sizeT P e)).map fun i => z.cells.getD (i % z.cells.length) un) ps = some cs)
    (hpl : place H nid (.rows (sizeT P e) 0 (toRows (sizeT P e) n cs)) = some H') : Out P N A ι H w (Instr.buildSlice t n qs) (.own nid 0 0 n) H' := by
  obtain ⟨i, zv, hi, hzv, rfl⟩ := zeroT_some hz0
  have hcr := (cells_rel (A := A) (ι := ι) (H := H) (w := w) (VR.ofValue zv) hzs).1
  have hzc : zv.cells.size = sizeT P e := hcr.1.symm.trans hzl
  have hisz : i.size = sizeT P e := by simp [sizeT, Program.cellsOf, hi]
  have key : ∀ zz : Array Value, (0 < n * sizeT P e → zz = zv.cells) → TR A ι H w ((List.range (n * sizeT P e)).map fun i => (ofValue zv).cells.getD (i % (ofValue zv).cells.length) un) ((Array.range (n * sizeT P e)).map (zz[· % zz.size]!)) := by
    intro zz hzz
    refine ⟨by simp, fun k c cv a b => ?_⟩
    simp only [List.getElem?_map, Option.map_eq_some_iff] at a
    obtain ⟨k', hk, rfl⟩ := a
    have hk' : k < n * sizeT P e := by have := (List.getElem?_eq_some_iff.1 hk).1; simpa using this
    have ek : k' = k := by rw [List.getElem?_range hk'] at hk; exact (Option.some.inj hk).symm
    subst ek
    have e0 := hzz (by omega)
    subst e0
    simp [hk'] at b
    subst b
    have hm : k' % sizeT P e < sizeT P e := Nat.mod_lt _ (by omega)
    rw [hzl, hzc]
    have g1 : k' % sizeT P e < (ofValue zv).cells.length := by omega
    have g2 : k' % sizeT P e < zv.cells.size := by omega
    refine hcr.2 (k' % sizeT P e) _ _ ?_ ?_
    · simp [g1]
    · simp [g2]
  have hrunz : ∃ zz : Array Value, (0 < n * sizeT P e → zz = zv.cells) ∧ ∀ ys, Instr.fill (fun i => some (i * sizeT P e, sizeT P e)) ((Array.range (n * sizeT P e)).map (zz[· % zz.size]!)) qs.toList = some ys →
      (Instr.buildSlice t n qs).run P w = .ok (.slice (some ⟨w.heap.size, 0, none⟩) n n) (w.alloc (.cells ys e)) := by
    by_cases h0 : n * sizeT P e = 0
    · refine ⟨#[], fun h => by omega, fun ys hy => ?_⟩
      rw [h0] at hy
      have hs2 : ¬ (n * i.size > 2 ^ 24) := by rw [hisz]; omega
      simp [Instr.buildSlice, run_underlying hu, sizeOf, typeInfo, zeroValue, hi, hzv, hisz, h0, newRow]
      simp at hy
      simp [hy]
    · refine ⟨zv.cells, fun _ => rfl, fun ys hy => ?_⟩
      exact run_buildSlice w t e n qs ys i zv hu hi hzv (by rw [hisz]; omega) (by rw [hisz]; exact h0) (by rw [hisz]; exact hy)
  obtain ⟨zz, hzz, hrun⟩ := hrunz
  obtain ⟨ys, p, q, r⟩ := fill_sound _ ps qs.toList _ _ cs hp (key zz hzz) hf
  have hys : ys.size = n * sizeT P e := by rw [r]; simp
  have hcl : cs.length = n * sizeT P e := q.1.trans hys
  obtain ⟨p1, _, _⟩ := place_get hpl
  have ex := newRow_sound hs hpl ys e (fun i r a => (toRows_get hcl a).2.1) (by rw [hys]; simp [toRows]) (fun i j r c a a' => by
    obtain ⟨g1, g2, g3⟩ := toRows_get hcl a
    obtain ⟨g4, g5⟩ := g3 j c a'
    have hlt := (List.getElem?_eq_some_iff.1 g5).1
    exact ⟨ys[i * sizeT P e + j]'(by omega), by simp, q.2 _ _ _ g5 (by simp)⟩) (.zero (Nat.zero_div _))
  refine ⟨_, _, N, A, _, hrun ys p, ex, ?_⟩
  refine .own _ _ _ _ _ _ _ p1 (by simp) fun s v r e' => ?_
  cases e'
  exact .inr ⟨rfl, by simp [toRows], by simp [toRows], by rw [upd_same]; simp [hys], .inr (by rw [upd_same]; simp), by rw [upd_same], rfl⟩

theorem makeSlice_sound (hs : SR N A ι H w) {nid : Nat} {n : Int} {t e : TypeId} {cl cc : Value} {k k' : IntKind} (hcl : cl = .int k n) (hcc : cc = .int k' n) (hu : P.underlying t = some (.slice e))
    (h0 : 0 ≤ n) (h1 : n ≤ 1000000) (hz : sizeT P e ≠ 0) (hb : P.bytesOf e ≤ 1000000) {z : V} (hz0 : zeroT P e = some z) (hzl : z.cells.length = sizeT P e) (hzs : z.cells.all scalarV = true)
    (hpl : place H nid (.rows (sizeT P e) 0 (List.replicate n.toNat z.cells)) = some H') : Out P N A ι H w (Instr.makeSlice t cl cc) (.own nid 0 0 n.toNat) H' := by
  subst hcl hcc
  obtain ⟨i, zv, hi, hzv, rfl⟩ := zeroT_some hz0
  have hcr := (cells_rel (A := A) (ι := ι) (H := H) (w := w) (VR.ofValue zv) hzs).1
  have hzc : zv.cells.size = sizeT P e := hcr.1.symm.trans hzl
  have hisz : i.size = sizeT P e := by simp [sizeT, Program.cellsOf, hi]
  have hb' : i.bytes ≤ 1000000 := by simpa [Program.bytesOf, hi] using hb
  obtain ⟨m, rfl⟩ := Int.eq_ofNat_of_zero_le h0
  simp only [Int.toNat_natCast] at hpl ⊢
  have hm : m ≤ 1000000 := by omega
  have hwrap : IntKind.i64.wrap (m : Int) = m := by
    have e : (m : Int) % (2 ^ 64 : Int) = m := Int.emod_eq_of_lt (by omega) (by omega)
    simp only [IntKind.wrap, show IntKind.i64.bits = 64 from rfl, show IntKind.i64.signed = true from rfl]
    rw [e, if_neg]
    have h63 : (2 : Int) ^ (64 - 1) = 9223372036854775808 := rfl
    rw [h63, Bool.true_and, decide_eq_true_eq]
    omega
  have hmul : (i.bytes : Int) * (m : Int) ≤ 1000000000000 := by
    have h1 : i.bytes * m ≤ 1000000 * 1000000 := Nat.mul_le_mul hb' hm
    have h2 : ((i.bytes * m : Nat) : Int) ≤ ((1000000000000 : Nat) : Int) := Int.ofNat_le.2 h1
    rw [Int.natCast_mul] at h2
    exact h2
  have htl : ¬ (281474976710656 < (i.bytes : Int) * (m : Int)) := by omega
  have hneg : ¬ ((m : Int) < 0) := by omega
  have ti : ∀ w : World, (typeInfo e).run P w = .ok i w := fun w => by simp [typeInfo, hi]
  have zi : ∀ w : World, (zeroValue e).run P w = .ok zv w := fun w => by simp [zeroValue, typeInfo, hi, hzv]
  have hrunz : ∃ zz : Array Value, (0 < m * sizeT P e → zz = zv.cells) ∧
      (Instr.makeSlice t (.int k (m : Int)) (.int k' (m : Int))).run P w = .ok (.slice (some ⟨w.heap.size, 0, none⟩) m m) (w.alloc (.cells ((Array.range (m * sizeT P e)).map (zz[· % zz.size]!)) e)) := by
    have w0 : IntKind.i64.wrap 0 = 0 := by decide
    by_cases hm0 : m = 0
    · subst hm0
      refine ⟨#[], fun h => by omega, ?_⟩
      simp [Instr.makeSlice, run_underlying hu, asInt, asIntOf, ti, zi, w0, run_sizeT' hz, newRow]
    · have hne : ¬ (m * sizeT P e = 0) := fun h => (Nat.mul_eq_zero.1 h).elim hm0 hz
      refine ⟨zv.cells, fun _ => rfl, ?_⟩
      unfold Instr.makeSlice
      simp only [run_underlying hu, asInt, asIntOf, ti, zi, hwrap, run_sizeT' hz, Sem.run_bind, Sem.run_pure, Result.andThen_ok]
      split
      · rename_i hcond
        exfalso
        simp only [Bool.or_eq_true, decide_eq_true_eq] at hcond
        have h48 : (2 : Int) ^ 48 = 281474976710656 := rfl
        rcases hcond with ((hc | hc) | hc) | hc
        · omega
        · rw [h48] at hc; omega
        · omega
        · omega
      · simp [run_sizeT' hz, zi, newRow]
        intro h; exact absurd h hne
  obtain ⟨zz, hzz, hrun⟩ := hrunz
  obtain ⟨p1, _, _⟩ := place_get hpl
  have hrep : ∀ (i : Nat) (r : List V), (List.replicate m (ofValue zv).cells)[i]? = some r → i < m ∧ r = (ofValue zv).cells := by
    intro i r a
    have hi : i < m := by have := (List.getElem?_eq_some_iff.1 a).1; simpa using this
    rw [List.getElem?_replicate, if_pos hi] at a
    exact ⟨hi, (Option.some.inj a).symm⟩
  have ex := newRow_sound hs hpl ((Array.range (m * sizeT P e)).map (zz[· % zz.size]!)) e (fun i r a => by rw [(hrep i r a).2]; exact hzl) (by simp) (fun i j r c a a' => by
    obtain ⟨g1, rfl⟩ := hrep i r a
    have hj : j < sizeT P e := hzl ▸ (List.getElem?_eq_some_iff.1 a').1
    have hk := row_in (sz := sizeT P e) g1 hj
    have e0 := hzz (by omega)
    subst e0
    have em : (i * sizeT P e + j) % sizeT P e = j := by rw [Nat.mul_comm, Nat.mul_add_mod, Nat.mod_eq_of_lt hj]
    have g2 : j < zv.cells.size := by omega
    exact ⟨zv.cells[j], by simp [hk, hzc, em, getElem!_pos zv.cells j g2], hcr.2 _ _ _ a' (by simp [g2])⟩) (.zero (Nat.zero_div _))
  refine ⟨_, _, N, A, _, hrun, ex, ?_⟩
  refine .own _ _ _ _ _ _ _ p1 (by simp) fun s v r e' => ?_
  cases e'
  exact .inr ⟨rfl, by simp, by simp, by rw [upd_same]; simp, .inr (by rw [upd_same]; simp), by rw [upd_same], rfl⟩
end
end Go.Proofs.YtpmdlaojndejfaaGreatDoor.E

/- The evaluator's operations against the machine's: maps, texts by code points, all operations that call nothing. -/
set_option linter.unusedVariables false
set_option linter.unusedSimpArgs false
namespace Go.Proofs.YtpmdlaojndejfaaGreatDoor.E
open Go

section
variable {P : Program} {N A : Nat → Prop} {ι : Nat → Lk} {H H' : Heap} {w : World}

def MR (A : Nat → Prop) (ι : Nat → Lk) (H : Heap) (w : World) (es : List (V × V)) (fs : List MapEntry) : Prop :=
  fs.length = es.length ∧ ∀ (i : Nat) (k v : V), es[i]? = some (k, v) → ∃ e, fs[i]? = some e ∧ VR A ι H w k e.key ∧ VR A ι H w v e.val

theorem findI_sound (d : TypeDesc) (k : Value) : ∀ (es : List (V × V)) (fs : List MapEntry) (i : Nat) (r : Option (Nat × V)), MR A ι H w es fs → findI d k es i = some r →
    match r with
    | none => Instr.findNow d k fs i = some none
    | some (j, v) => ∃ cv, Instr.findNow d k fs i = some (some (j, cv)) ∧ VR A ι H w v cv ∧ i ≤ j ∧ j - i < es.length ∧ ∃ e, fs[j - i]? = some e ∧ Instr.sameNow d k e.key = some true
  | [], fs, i, r, hm, h => by
    simp [findI] at h; subst h
    have : fs = [] := List.length_eq_zero_iff.1 (by simpa using hm.1)
    subst this; simp [Instr.findNow]
  | (k', v) :: es, fs, i, r, hm, h => by
    simp only [findI, Option.bind_eq_some_iff] at h
    obtain ⟨kv, hk, h⟩ := h
    obtain ⟨e, he, hkr, hvr⟩ := hm.2 0 k' v (by simp)
    cases fs with
    | nil => simp at he
    | cons f fs =>
      simp at he; subst he
      have e1 := litOf_eq hk hkr
      have hm' : MR A ι H w es fs := ⟨by simpa using hm.1, fun i k v a => by simpa using hm.2 (i + 1) k v (by simpa using a)⟩
      split at h
      · rename_i hs
        simp only [Option.some.injEq] at h; subst h
        refine ⟨f.val, by simp [Instr.findNow, e1, hs], hvr, Nat.le_refl _, by simp, f, by simp, by rw [e1]; exact hs⟩
      · rename_i hs
        have ih := findI_sound d k es fs (i + 1) r hm' h
        cases r with
        | none => simp only at ih ⊢; simp [Instr.findNow, e1, hs, ih]
        | some jv =>
          obtain ⟨j, v'⟩ := jv
          obtain ⟨cv, p, q, r1, r2, e2, r3, r4⟩ := ih
          refine ⟨cv, by simp [Instr.findNow, e1, hs, p], q, by omega, by simp; omega, e2, ?_, r4⟩
          have : j - i = (j - (i + 1)) + 1 := by omega
          rw [this]; simpa using r3
      · cases h

theorem keyDesc_some {t : TypeId} {d : TypeDesc} (h : keyDesc P t = some d) : P.underlying t = some d ∧ (d = .string ∨ ∃ k, d = .int k) := by
  unfold keyDesc at h
  split at h
  · rename_i hu; simp at h; subst h; exact ⟨hu, .inl rfl⟩
  · rename_i k hu; simp at h; subst h; exact ⟨hu, .inr ⟨k, rfl⟩⟩
  · cases h

theorem run_checkKey {t : TypeId} {d : TypeDesc} (h : keyDesc P t = some d) (b : Bool) (v : Value) (w : World) : (Instr.checkKey b 10000 t v).run P w = .ok () w := by
  obtain ⟨hu, hd⟩ := keyDesc_some h
  have e : (10000 : Nat) = 9999 + 1 := rfl
  rw [e]
  unfold Instr.checkKey
  rcases hd with rfl | ⟨k, rfl⟩ <;> simp [run_underlying hu]

theorem run_getObj {r : Nat} {o : Obj} (h : w.heap[r]? = some o) (hc : ∀ c e f, o ≠ .cells c e f) : (getObj r).run P w = .ok o w := by
  simp only [getObj, Sem.run, h]
theorem run_setObj {r : Nat} {o o' : Obj} (h : w.heap[r]? = some o) (hc : ∀ c e f, o ≠ .cells c e f) : (setObj r o').run P w = .ok () { w with heap := w.heap.setIfInBounds r o' } := by
  simp only [setObj, Sem.run, h]

theorem lookup_sound (hs : SR N A ι H w) {t : TypeId} {m k v : V} {cm ck : Value} {ok : Bool} (hm : VR A ι H w m cm) (hk : VR A ι H w k ck) (h : lookupV P H t m k ok = some v) :
    ∃ cv, (Instr.lookup t cm ck ok).run P w = .ok cv w ∧ VR A ι H w v cv := by
  unfold lookupV at h
  split at h
  case h_2 => cases h
  rename_i kt e id hu
  simp only [Option.bind_eq_some_iff] at h
  obtain ⟨d, hd, kv, hkv, h⟩ := h
  have e1 := litOf_eq hkv hk
  subst e1
  split at h
  case h_2 => cases h
  rename_i es c hid
  simp only [Option.bind_eq_some_iff] at h
  obtain ⟨r, hr, h⟩ := h
  cases hm with
  | mp _ blk hid' hf hrr =>
    obtain ⟨es', m1, m2, m3⟩ := hs.live id _ hid
    have hmr : MR A ι H w es es'.toList := ⟨by simpa using m2, fun i k v a => by simpa using m3 i k v a⟩
    have hf := findI_sound d ck es es'.toList 0 r hmr hr
    have hg := run_getObj (P := P) m1 (fun _ _ _ e => by cases e)
    have hkd := (keyDesc_some hd).1
    have hfk : ∀ x, Instr.findNow d ck es'.toList 0 = some x → (Instr.findKey kt ck es'.toList).run P w = .ok x w := by
      intro x hx; simp [Instr.findKey, run_underlying hkd, hx]
    cases r with
    | none =>
      simp only at hf h
      simp only [Option.map_eq_some_iff] at h
      obtain ⟨z, hz, rfl⟩ := h
      obtain ⟨i, zv, hi, hzv, rfl⟩ := zeroT_some hz
      refine ⟨if ok then .tuple #[zv, .bool false] else zv, by simp [Instr.lookup, run_underlying hu, hg, run_checkKey hd, hfk _ hf, zeroValue, typeInfo, hi, hzv], ?_⟩
      cases ok
      · exact .ofValue zv
      · refine .tup _ _ (by simp) fun i c cv a b => ?_
        match i with
        | 0 => simp at a b; subst a b; exact .ofValue zv
        | 1 => simp at a b; subst a b; exact .lit _
        | i + 2 => simp at a
    | some jv =>
      obtain ⟨j, v'⟩ := jv
      simp only at hf h
      obtain ⟨cv, p, q, _⟩ := hf
      simp only [Option.some.injEq] at h; subst h
      refine ⟨if ok then .tuple #[cv, .bool true] else cv, by simp [Instr.lookup, run_underlying hu, hg, run_checkKey hd, hfk _ p], ?_⟩
      cases ok
      · exact q
      · refine .tup _ _ (by simp) fun i c cv a b => ?_
        match i with
        | 0 => simp at a b; subst a b; exact q
        | 1 => simp at a b; subst a b; exact .lit _
        | i + 2 => simp at a

theorem bytes_beq (a b : ByteArray) : (a == b) = true ↔ a = b := by
  obtain ⟨x⟩ := a
  obtain ⟨y⟩ := b
  constructor
  · intro h
    have e : x = y := by simpa using (show (x == y) = true from h)
    rw [e]
  · intro h
    cases h
    show (x == x) = true
    simp

theorem sameBits_of {d : TypeDesc} {k k' : Value} (h : Instr.sameNow d k k' = some true) (n : Nat) : Instr.sameBits n k' k = true := by
  unfold Instr.sameNow at h
  split at h
  · rename_i j a j' b
    split at h
    · rename_i e; subst e
      simp at h; subst h
      cases n <;> simp [Instr.sameBits]
    · cases h
  · rename_i a b
    have e := (bytes_beq a b).1 (Option.some.inj h)
    subst e
    cases n <;> exact (bytes_beq a a).2 rfl
  · rename_i a b
    simp at h; subst h
    cases n <;> simp [Instr.sameBits]
  · cases h

theorem mapPut_sound (hs : SR N A ι H w) {t : TypeId} {m k v : V} {cm ck cv : Value} (hm : VR A ι H w m cm) (hk : VR A ι H w k ck) (hv : VR A ι H w v cv) (h : mapPut P H t m k v = some H') :
    ∃ w' ι', (Instr.mapUpdate t cm ck cv).run P w = .ok () w' ∧ Ext N A ι H w N A ι' H' w' := by
  unfold mapPut at h
  split at h
  case h_2 => cases h
  rename_i kt e id hu
  simp only [Option.bind_eq_some_iff] at h
  obtain ⟨d, hd, kv, hkv, h⟩ := h
  have e1 := litOf_eq hkv hk
  subst e1
  split at h
  case h_2 => cases h
  rename_i es c hid
  simp only [Option.bind_eq_some_iff] at h
  obtain ⟨r, hr, h⟩ := h
  cases hm with
  | mp _ blk hid' hf hrr =>
    obtain ⟨es', m1, m2, m3⟩ := hs.live id _ hid
    have hlt : (ι id).b < w.heap.size := (Array.getElem?_eq_some_iff.1 m1).1
    have hmr : MR A ι H w es es'.toList := ⟨by simpa using m2, fun i k v a => by simpa using m3 i k v a⟩
    have hf := findI_sound d ck es es'.toList 0 r hmr hr
    have hg := run_getObj (P := P) m1 (fun _ _ _ e => by cases e)
    have hkd := (keyDesc_some hd).1
    have hfk : ∀ x, Instr.findNow d ck es'.toList 0 = some x → (Instr.findKey kt ck es'.toList).run P w = .ok x w := by
      intro x hx; simp [Instr.findKey, run_underlying hkd, hx]
    have turn : ∀ (fs : Array MapEntry) (c' : Nat) (es2 : List (V × V)), fs.size = es2.length →
        (∀ (i : Nat) (k v : V), es2[i]? = some (k, v) → ∃ e, fs[i]? = some e ∧ VR A ι H w k e.key ∧ VR A ι H w v e.val) →
        Ext N A ι H w N A (upd ι id (ι id)) (H.set id (.map es2 c')) { w with heap := w.heap.setIfInBounds (ι id).b (.map fs c') } := by
      intro fs c' es2 h1 h2
      refine Ext.turn hs hid trivial (L := ι id) (.inl rfl) (fun k _ hk => by simp [Array.getElem?_setIfInBounds_ne (Ne.symm hk)]) (by simp) rfl rfl rfl ?_ ?_
      · simp [Later, upd_same]
      · intro keep
        refine ⟨fs, by rw [upd_same]; simp [hlt], h1, fun i k v a => ?_⟩
        obtain ⟨e, p, q, r⟩ := h2 i k v a
        exact ⟨e, p, keep _ _ q, keep _ _ r⟩
    cases r with
    | none =>
      simp only at hf h
      simp only [Option.some.injEq] at h; subst h
      refine ⟨_, _, ?_, turn (es'.push { key := ck, val := cv, born := c }) (c + 1) _ (by simp [m2]) fun i k v a => ?_⟩
      · have hst := run_setObj (P := P) (o' := .map (es'.push { key := ck, val := cv, born := c }) (c + 1)) m1 (fun _ _ _ e => by cases e)
        simp [Instr.mapUpdate, run_underlying hu, hg, run_checkKey hd, hfk _ hf, hst]
      · rcases Nat.lt_or_ge i es.length with hi | hi
        · rw [List.getElem?_append_left hi] at a
          obtain ⟨e, p, q, r⟩ := m3 i k v a
          exact ⟨e, by rw [Array.getElem?_push]; rw [if_neg (by omega)]; exact p, q, r⟩
        · rw [List.getElem?_append_right hi] at a
          have hi' : i - es.length = 0 := by
            have := (List.getElem?_eq_some_iff.1 a).1; simp at this; omega
          rw [hi'] at a
          simp at a
          obtain ⟨rfl, rfl⟩ := a
          exact ⟨{ key := ck, val := cv, born := c }, by rw [Array.getElem?_push, if_pos (by omega)], .lit _, hv⟩
    | some jv =>
      obtain ⟨j, v'⟩ := jv
      simp only at hf h
      obtain ⟨cv', p, q, r1, r2, en, r3, r4⟩ := hf
      simp only [Nat.sub_zero] at r2 r3
      simp only [Option.some.injEq] at h; subst h
      have hen : es'[j]? = some en := by simpa using r3
      refine ⟨_, _, ?_, turn (es'.modify j fun e => { e with key := ck, val := cv }) c _ (by simp [m2]) fun i k v a => ?_⟩
      · have hst := run_setObj (P := P) (o' := .map (es'.modify j fun e => { e with key := ck, val := cv }) c) m1 (fun _ _ _ e => by cases e)
        have hkt : (Instr.keyThatStays en.key ck).run P w = .ok ck w := by simp [Instr.keyThatStays, sameBits_of r4]
        simp [Instr.mapUpdate, run_underlying hu, hg, run_checkKey hd, hfk _ p, hen, hkt, hst]
      · rw [List.getElem?_set] at a
        rw [Array.getElem?_modify]
        split at a
        · rename_i e; subst e
          have hje : j < es.length := by omega
          rw [if_pos rfl, hen]
          simp only [hje, if_true, Option.some.injEq, Prod.mk.injEq] at a
          obtain ⟨a1, a2⟩ := a
          rw [← a1, ← a2]
          exact ⟨_, rfl, .lit _, hv⟩
        · rename_i hne
          rw [if_neg hne]
          exact m3 i k v a
end
end Go.Proofs.YtpmdlaojndejfaaGreatDoor.E

/- The evaluator's operations against the machine's: all that call nothing. -/
set_option linter.unusedVariables false
set_option linter.unusedSimpArgs false
namespace Go.Proofs.YtpmdlaojndejfaaGreatDoor.E
open Go

section
variable {P : Program} {N A : Nat → Prop} {ι : Nat → Lk} {H H' : Heap} {w : World}

theorem GR.keep {E : Env} {N' A' : Nat → Prop} {ι' : Nat → Lk} {H' : Heap} {w' : World} (hs : SR N A ι H w) (hg : GR E A ι H w) (e : Ext N A ι H w N' A' ι' H' w') : GR E A' ι' H' w' := by
  refine ⟨fun g cs h => ?_, ?_⟩
  case refine_2 =>
    obtain ⟨w0, h1, h2, h3⟩ := hg.world
    exact ⟨w0, h1, fun b hb => e.sub b (h2 b hb), h3.trans ⟨e.os, e.tape, e.output, e.size, fun b hb => (e.nn b (hs.an b (h2 b hb))).2⟩⟩
  obtain ⟨h1, h2⟩ := hg.glob g cs h
  refine ⟨e.sub g h1, fun j c hc => ?_⟩
  obtain ⟨cv, p, q⟩ := h2 j c hc
  refine ⟨cv, ?_, q.keep ⟨e.sub, fun b hb => (e.nn b (hs.an b hb)).2, fun id blk h => by simp at h⟩⟩
  rw [← p]; exact cell_same (e.nn g (hs.an g h1)).2

theorem toOps_sound {tmps : List V} {a : Act} (ht : TR A ι H w tmps a.tmps) {o : Oper} {v : V} (h : toOps P tmps o = some v) :
    ∃ nx cv, (execOp a.eval o).run P w = .ok nx w ∧ (nx = .value cv ∨ nx = .skip ∧ cv = undef) ∧ VR A ι H w v cv := by
  unfold toOps at h
  split at h
  case isFalse => cases h
  rename_i hc
  rw [Bool.and_eq_true] at hc
  obtain ⟨hsel, hall⟩ := hc
  have hcong : execOp a.eval o = execOp (fun x => (toValue? (evalO tmps x)).getD undef) o := by
    refine execOp_congr o (fun cs b e => by rw [e] at hsel; cases hsel) fun x hx => ?_
    have h1 := List.all_eq_true.1 hall x (Array.mem_toList_iff.2 hx)
    obtain ⟨y, hy⟩ := Option.isSome_iff_exists.1 h1
    rw [hy]; exact toValue_eq hy (ht.eval x)
  split at h
  · rename_i x hx
    simp only [Option.some.injEq] at h; subst h
    exact ⟨_, x, by rw [hcong]; exact run_of_pure P _ _ hx w, .inl rfl, .ofValue x⟩
  · rename_i hx
    simp only [Option.some.injEq] at h; subst h
    exact ⟨_, undef, by rw [hcong]; exact run_of_pure P _ _ hx w, .inr ⟨rfl, rfl⟩, .lit _⟩
  · cases h

def OpOut (P : Program) (N A : Nat → Prop) (ι : Nat → Lk) (H : Heap) (w : World) (s : Sem Next) (v : V) (H' : Heap) : Prop :=
  ∃ nx cv w' N' A' ι', s.run P w = .ok nx w' ∧ (nx = .value cv ∨ nx = .skip ∧ cv = undef) ∧ Ext N A ι H w N' A' ι' H' w' ∧ VR A' ι' H' w' v cv

theorem OpOut.tt (hs : SR N A ι H w) {s : Sem Next} {v : V} (h : ∃ nx cv, s.run P w = .ok nx w ∧ (nx = .value cv ∨ nx = .skip ∧ cv = undef) ∧ VR A ι H w v cv) : OpOut P N A ι H w s v H := by
  obtain ⟨nx, cv, h1, h2, h3⟩ := h
  exact ⟨nx, cv, w, N, A, ι, h1, h2, Ext.refl hs, h3⟩
theorem OpOut.still (hs : SR N A ι H w) {s : Sem Next} {v : V} {cv : Value} (h : s.run P w = .ok (.value cv) w) (hv : VR A ι H w v cv) : OpOut P N A ι H w s v H :=
  ⟨_, cv, w, N, A, ι, h, .inl rfl, Ext.refl hs, hv⟩
theorem OpOut.of {s : Sem Value} {v : V} (h : Out P N A ι H w s v H') {t : Sem Next} (ht : t = (do pure (.value (← s)))) : OpOut P N A ι H w t v H' := by
  obtain ⟨cv, w', N', A', ι', h1, h2, h3⟩ := h
  exact ⟨_, cv, w', N', A', ι', by rw [ht]; simp [h1], .inl rfl, h2, h3⟩
theorem OpOut.ofs (hs : SR N A ι H w) {s : Sem Value} {v : V} (h : ∃ cv, s.run P w = .ok cv w ∧ VR A ι H w v cv) {t : Sem Next} (ht : t = (do pure (.value (← s)))) : OpOut P N A ι H w t v H := by
  obtain ⟨cv, h1, h2⟩ := h
  exact .still hs (by rw [ht]; simp [h1]) h2
theorem OpOut.ofu {s : Sem Unit} (h : ∃ w' ι', s.run P w = .ok () w' ∧ Ext N A ι H w N A ι' H' w') {t : Sem Next} (ht : t = (do s; pure .skip)) : OpOut P N A ι H w t un H' := by
  obtain ⟨w', ι', h1, h2⟩ := h
  exact ⟨_, undef, w', N, A, ι', by rw [ht]; simp [h1], .inr ⟨rfl, rfl⟩, h2, .lit _⟩

theorem PR.of {tmps : List V} {a : Act} (ht : TR A ι H w tmps a.tmps) (ps : Array (Nat × Operand)) :
    PR A ι H w (ps.toList.map fun (i, x) => (i, evalO tmps x)) (ps.map fun (i, x) => (i, a.eval x)).toList := by
  rw [Array.toList_map]
  induction ps.toList with
  | nil => trivial
  | cons p l ih => exact ⟨rfl, ht.eval p.2, ih⟩

theorem OR.of {tmps : List V} {a : Act} (ht : TR A ι H w tmps a.tmps) (x : Option Operand) : OR A ι H w (x.map (evalO tmps)) (x.map a.eval) := by
  cases x with
  | none => trivial
  | some x => exact ht.eval x

/-- A new block that is no cells. -/
theorem newObj_sound (hs : SR N A ι H w) {nid : Nat} {blk : Blk} (hp : place H nid blk = some H') (o : Obj)
    (hb : (∀ v cv, VR A ι H w v cv → VR A (upd ι nid ⟨w.heap.size, 0, 0⟩) H' (w.alloc o) v cv) → BR A (upd ι nid ⟨w.heap.size, 0, 0⟩) H' (w.alloc o) nid blk) :
    Ext N A ι H w N A (upd ι nid ⟨w.heap.size, 0, 0⟩) H' (w.alloc o) :=
  Ext.alloc hs hp (L := ⟨w.heap.size, 0, 0⟩) rfl (fun k hk => alloc_lt w _ k hk) (by simp) rfl rfl rfl hb

theorem next_sound (hs : SR N A ι H w) {id : Nat} {s : ByteArray} {pos : Nat} (hid : H[id]? = some (.iter s pos)) {cx : Value} (hx : VR A ι H w (.it id) cx) (t : TypeId) :
    if pos < s.size then Out P N A ι H w (Instr.next cx true t) (.tup [.lit (.bool true), .lit (goInt pos), .lit (.int .i32 (Utf8.decode s pos).1)]) (H.set id (.iter s (pos + (Utf8.decode s pos).2)))
    else Out P N A ι H w (Instr.next cx true t) (.tup [.lit (.bool false)]) H := by
  cases hx with
  | it _ blk hid' hf hr =>
    have hb := hs.live id _ hid
    simp only [BR] at hb
    have hlt : (ι id).b < w.heap.size := (Array.getElem?_eq_some_iff.1 hb).1
    have hg := run_getObj (P := P) hb (fun _ _ _ e => by cases e)
    split
    · rename_i hpos
      have hst := run_setObj (P := P) (o' := .stringIter s (pos + (Utf8.decode s pos).2)) hb (fun _ _ _ e => by cases e)
      refine ⟨.tuple #[.bool true, goInt pos, .int .i32 (Utf8.decode s pos).1], { w with heap := w.heap.setIfInBounds (ι id).b (.stringIter s (pos + (Utf8.decode s pos).2)) }, N, A, upd ι id (ι id), by simp [Instr.next, hg, hpos, hst],
        Ext.turn hs hid trivial (L := ι id) (.inl rfl) (fun k _ hk => by simp [Array.getElem?_setIfInBounds_ne (Ne.symm hk)]) (by simp) rfl rfl rfl (by simp [Later, upd_same]) (fun keep => by simp only [BR, upd_same]; simp [hlt]), ?_⟩
      refine .tup _ _ (by simp) fun i c cv a b => ?_
      match i with
      | 0 => simp at a b; subst a b; exact .lit _
      | 1 => simp at a b; subst a b; exact .lit _
      | 2 => simp at a b; subst a b; exact .lit _
      | i + 3 => simp at a
    · rename_i hpos
      refine Out.still hs (cv := .tuple #[.bool false]) (by simp [Instr.next, hg, hpos]) ?_
      refine .tup _ _ (by simp) fun i c cv a b => ?_
      match i with
      | 0 => simp at a b; subst a b; exact .lit _
      | i + 1 => simp at a

theorem fieldV_sound {s f : Nat} {x v : V} {cx : Value} (hx : VR A ι H w x cx) (h : fieldV P s f x = some v) :
    ∃ cv, (Instr.field s cx f).run P w = .ok cv w ∧ VR A ι H w v cv := by
  unfold fieldV at h
  simp only [Option.bind_eq_some_iff] at h
  obtain ⟨fd, h1, h2⟩ := h
  unfold fieldT at h1
  split at h1
  case h_2 => cases h1
  rename_i fs hu
  cases hx with
  | agg cs vs hl hv =>
    simp only [partT] at h2
    split at h2
    case isFalse => cases h2
    rename_i hsome
    obtain ⟨d, hd⟩ := Option.isSome_iff_exists.1 hsome
    obtain ⟨i, hi⟩ := und_info hd
    split at h2
    · rename_i ha
      split at h2
      · rename_i hle
        simp only [Option.some.injEq] at h2; subst h2
        refine ⟨.agg (vs.extract fd.offset (fd.offset + sizeT P fd.type)), by simp [Instr.field, run_underlying hu, h1, asAgg, part, run_isAggT hd, ha, run_sizeT hi], ?_⟩
        refine .agg _ _ (by simp; omega) fun k c cv a b => ?_
        rw [List.getElem?_take] at a
        split at a
        · rename_i g
          rw [List.getElem?_drop] at a
          refine hv _ _ _ a ?_
          rw [Array.getElem?_extract] at b
          split at b
          · exact b
          · cases b
        · cases a
      · cases h2
    · rename_i ha
      have hlt := (List.getElem?_eq_some_iff.1 h2).1
      have e : vs[fd.offset]? = some (vs[fd.offset]'(hl ▸ hlt)) := by simp
      exact ⟨_, by simp [Instr.field, run_underlying hu, h1, asAgg, part, run_isAggT hd, ha, e], hv _ _ _ h2 e⟩
  | _ => simp at h2
end
end Go.Proofs.YtpmdlaojndejfaaGreatDoor.E

/- The evaluator's operations against the machine's: a builder's string. -/
set_option linter.unusedVariables false
set_option linter.unusedSimpArgs false
namespace Go.Proofs.YtpmdlaojndejfaaGreatDoor.E
open Go

section
variable {P : Program} {N A : Nat → Prop} {ι : Nat → Lk} {H H' : Heap} {w : World}

theorem bytesOf_get : ∀ {rows : List (List V)} {l : List UInt8}, bytesOf rows = some l → l.length = rows.length ∧ ∀ (j : Nat) (x : UInt8), l[j]? = some x → rows[j]? = some [.lit (.int .u8 x.toNat)]
  | [], l, h => by simp [bytesOf] at h; subst h; exact ⟨rfl, fun j x h => by simp at h⟩
  | r :: rows, l, h => by
    unfold bytesOf at h
    split at h
    · rename_i heq; cases heq
    · rename_i n t heq
      simp only [List.cons.injEq] at heq
      obtain ⟨rfl, rfl⟩ := heq
      split at h
      case isFalse => cases h
      rename_i hn
      simp only [Option.map_eq_some_iff] at h
      obtain ⟨l', h1, rfl⟩ := h
      obtain ⟨q1, q2⟩ := bytesOf_get h1
      refine ⟨by simp [q1], fun j x hx => ?_⟩
      cases j with
      | zero =>
        simp at hx; subst hx
        have : ((n.toNat.toUInt8).toNat : Int) = n := by
          have h1 : n.toNat < 256 := by omega
          have : (n.toNat.toUInt8).toNat = n.toNat := by simp [Nat.toUInt8, UInt8.toNat_ofNat']; omega
          rw [this]; omega
        simp only [List.getElem?_cons_zero, this]
      | succ j => simpa using q2 j x (by simpa using hx)
    · cases h

theorem sliceData_sound (hs : SR N A ι H w) {ts : Array TypeId} {ty : TypeId} {id ver off len : Nat} {x : V} {ca : Value} (ha : VR A ι H w (.own id ver off len) ca) (h : sliceData H id ver off len = some x) :
    Out P N A ι H w (Builtin.unsafeSliceData_ ts ty #[ca]) x H := by
  unfold sliceData at h
  split at h
  · cases h
  rename_i hl
  split at h
  case h_2 => cases h
  rename_i sz ver' rs hid
  split at h
  case isFalse => cases h
  rename_i hc
  obtain ⟨rfl, hc⟩ := hc
  simp only [Option.some.injEq] at h; subst h
  cases ha with
  | own _ _ _ _ a cap blk hid' hf hh =>
  rw [hid] at hid'; cases hid'
  rcases hh _ _ _ rfl with hq | ⟨_, q1, q2, q3, q4, q5⟩
  · omega
  have q4 := q4.resolve_left (by omega)
  refine Out.still hs (Lib.run_unsafeSliceData_row w ts ty a len cap (by omega)) (.ptr _ _ _ _ _ _ hid (by simp) fun s v r e => ?_)
  cases e
  exact .inr ⟨rfl, by rw [q4]; simp⟩

theorem strData_sound (hs : SR N A ι H w) {ts : Array TypeId} {ty : TypeId} {id ver : Nat} {n : Int} {v : V} {ca : Value} (ha : VR A ι H w (.ptr id ver 0 0) ca) (h : strData P H ts id ver n = some (v, H')) :
    Out P N A ι H w (Builtin.unsafeString_ ts ty #[ca, .int .i64 n]) v H' := by
  unfold strData at h
  split at h
  case h_2 => cases h
  rename_i sz ver' rs pt it hid hts
  split at h
  case h_2 => cases h
  rename_i e hu
  split at h
  case isFalse => cases h
  rename_i hc
  obtain ⟨rfl, rfl, c3, c4, c5, c6, c7⟩ := hc
  simp only [Option.map_eq_some_iff, Prod.mk.injEq] at h
  obtain ⟨l, hl, rfl, rfl⟩ := h
  have hts : ts = #[pt, it] := by apply Array.toList_inj.1; simpa using hts
  subst hts
  cases ha with
  | ptr _ _ _ _ a blk hid' hf hh =>
  rw [hid] at hid'; cases hid'
  rcases hh _ _ _ rfl with hq | ⟨_, rfl⟩
  · omega
  obtain ⟨cs, e', b1, b2, b3, b4, b5, b6⟩ := hs.live id _ hid
  obtain ⟨rfl, ho⟩ := b6.2 e c4
  obtain ⟨g1, g2⟩ := bytesOf_get hl
  have hlen : l.length = n.toNat := by rw [g1, List.length_take]; omega
  have hn : n = (l.length : Int) := by omega
  rw [hn]
  have hrun := Lib.run_unsafeString_row (P := P) w pt it ty e' hu c3 (ι id).b cs.size (by simp [World.shape?, b1]) l (fun e0 => by subst e0; simp at hlen; omega) (by omega) (by omega) (fun j x hx => by
    have := g2 j x hx
    rw [List.getElem?_take] at this
    split at this
    case isFalse => cases this
    obtain ⟨cv, p, q⟩ := b5 j 0 _ (.lit (.int .u8 x.toNat)) this (by simp)
    cases q
    rw [ho] at p
    rw [add_none]
    simp only [World.cell?, b1]
    simpa using p)
  rw [ho]
  simp only [Nat.zero_mul, Nat.add_zero]
  refine ⟨_, _, N, A, upd ι id (ι id), hrun, Ext.turn hs hid trivial (L := ι id) (.inl rfl) (fun k _ hk => ?_) ?_ ?_ ?_ ?_ (by simp [Later, upd_same]) fun keep => trivial, .lit _⟩
  · unfold World.freeze
    split
    · rfl
    · simp only [Array.getElem?_modify]; rw [if_neg (Ne.symm hk)]
  · unfold World.freeze; split <;> simp
  · unfold World.freeze; split <;> rfl
  · unfold World.freeze; split <;> rfl
  · unfold World.freeze; split <;> rfl
end
end Go.Proofs.YtpmdlaojndejfaaGreatDoor.E
