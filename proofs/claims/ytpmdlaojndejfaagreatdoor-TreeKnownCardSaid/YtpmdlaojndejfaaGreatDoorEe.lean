/- The evaluator's operations against the machine's: writing, new blocks. -/
import Derived.Great.BuildSlice
import Derived.Test.YtpmdlaojndejfaaGreatDoorEd
set_option linter.unusedVariables false
namespace Go.Proofs.YtpmdlaojndejfaaGreatDoor.E
open Go

theorem seg_get {α : Type} (l m : List α) (k : Nat) (h : k + m.length ≤ l.length) (i : Nat) :
    (l.take k ++ m ++ l.drop (k + m.length))[i]? = if i < k then l[i]? else if i < k + m.length then m[i - k]? else l[i]? := by
  have hk : (l.take k).length = k := by simp; omega
  split
  · rename_i h1
    rw [List.append_assoc, List.getElem?_append_left (by omega), List.getElem?_take, if_pos h1]
  · rename_i h1
    split
    · rename_i h2
      rw [List.append_assoc, List.getElem?_append_right (by omega), List.getElem?_append_left (by omega), hk]
    · rename_i h2
      rw [List.getElem?_append_right (by simp; omega), List.getElem?_drop]
      congr 1
      simp; omega
theorem seg_len {α : Type} (l m : List α) (k : Nat) (h : k + m.length ≤ l.length) : (l.take k ++ m ++ l.drop (k + m.length)).length = l.length := by
  simp; omega

section
variable {P : Program} {N A : Nat → Prop} {ι : Nat → Lk} {H H' : Heap} {w : World}

theorem scalar_one {v : V} {cv : Value} (hv : VR A ι H w v cv) (hs : scalarV v = true) : cv.oneCell' = true := by
  cases hv with
  | lit _ => cases cv <;> simp_all [scalarV, Value.oneCell']
  | agg _ _ _ _ => simp [scalarV] at hs
  | tup _ _ _ _ => simp [scalarV] at hs
  | _ => rfl

theorem cells_rel {v : V} {cv : Value} (hv : VR A ι H w v cv) (hs : v.cells.all scalarV = true) :
    TR A ι H w v.cells cv.cells ∧ ∀ x ∈ cv.cells.toList, x.oneCell' = true := by
  have one : v.cells = [v] → TR A ι H w v.cells cv.cells ∧ ∀ x ∈ cv.cells.toList, x.oneCell' = true := by
    intro e
    rw [e] at hs
    have h1 := scalar_one hv (by simpa using hs)
    have e2 : cv.cells = #[cv] := by cases cv <;> simp_all [Value.cells, Value.oneCell']
    rw [e, e2]
    refine ⟨⟨rfl, fun i c x a b => ?_⟩, by simpa using h1⟩
    cases i with
    | zero => simp at a b; subst a b; exact hv
    | succ i => simp at a
  cases hv with
  | agg cs vs hl hv =>
    refine ⟨⟨hl, hv⟩, fun x hx => ?_⟩
    obtain ⟨i, hi, e⟩ := List.getElem_of_mem hx
    have hi' : i < cs.length := by rw [hl]; simpa [Value.cells] using hi
    have e1 : cs[i]? = some cs[i] := by simp [hi']
    have e2 : vs[i]? = some x := by
      rw [← e]; simp [Value.cells, show i < vs.size from hl ▸ hi']
    exact scalar_one (hv i _ _ e1 e2) (by
      have := List.all_eq_true.1 hs cs[i] (List.getElem_mem hi')
      exact this)
  | _ => exact one rfl

theorem run_sizeT' {t : TypeId} (h : sizeT P t ≠ 0) (w : World) : (sizeOf t).run P w = .ok (sizeT P t) w := by
  obtain ⟨i, hi⟩ := size_info h
  exact run_sizeT hi w

theorem row_far {i r sz j off n : Nat} (hj : j < sz) (ho : off + n ≤ sz) (hne : i ≠ r) : ¬ (r * sz + off ≤ i * sz + j ∧ i * sz + j < r * sz + off + n) := by
  intro ⟨h1, h2⟩
  rcases Nat.lt_or_gt_of_ne hne with h | h
  · have : (i + 1) * sz ≤ r * sz := Nat.mul_le_mul_right _ h
    rw [Nat.add_mul] at this; omega
  · have : (r + 1) * sz ≤ i * sz := Nat.mul_le_mul_right _ h
    rw [Nat.add_mul] at this; omega

theorem row_in {i sz j n : Nat} (hi : i < n) (hj : j < sz) : i * sz + j < n * sz := by
  have : (i + 1) * sz ≤ n * sz := Nat.mul_le_mul_right _ hi
  rw [Nat.add_mul] at this; omega

/-- A store. -/
theorem storeAt_sound {E : Env} (hs : SR N A ι H w) {t : TypeId} {a v : V} {ca cv : Value} (ha : VR A ι H w a ca) (hv : VR A ι H w v cv) (h : storeT E H t a v = some H') :
    ∃ w' ι', (Instr.storeAt t ca cv).run E.P w = .ok () w' ∧ Ext N A ι H w N A ι' H' w' := by
  cases ha with
  | ptr id ver r off a blk hid hf hh =>
    simp only [storeT, hid] at h
    cases blk with
    | rows sz ver' rs =>
      simp only at h
      split at h
      · rename_i hc
        obtain ⟨rfl, h1, h2, h3⟩ := hc
        simp only [Option.bind_eq_some_iff] at h
        obtain ⟨cs, hcs, h⟩ := h
        split at h
        · rename_i hle
          simp only [Option.some.injEq] at h; subst h
          rcases hh sz _ rs rfl with hq | ⟨_, hq⟩
          · omega
          subst hq
          obtain ⟨hcr, hone⟩ := cells_rel hv h3
          obtain ⟨xs, e, b1, b2, b3, b4, b5, b6⟩ := hs.live id _ hid
          have hrs : r < rs.length := (List.getElem?_eq_some_iff.1 hcs).1
          have hcl : cs.length = sz := b3 r cs hcs
          have hsz : cv.cells.size = v.cells.length := hcr.1.symm
          have hend : (ι id).o + r * sz + off + cv.cells.toList.length ≤ xs.size := by
            have : (r + 1) * sz ≤ rs.length * sz := Nat.mul_le_mul_right _ hrs
            rw [Nat.add_mul] at this; simp [hsz]; omega
          have hrun := run_storeCells_at (P := E.P) (ι id).b ((ι id).o + r * sz + off) e cv.cells.toList 0 xs w b1 (by simpa using hend) hone
          simp only [Nat.add_zero] at hrun
          refine ⟨w.setRow (ι id).b (xs.toList.take ((ι id).o + r * sz + off) ++ cv.cells.toList ++ xs.toList.drop ((ι id).o + r * sz + off + cv.cells.toList.length)).toArray, upd ι id (ι id), ?_, Ext.turn hs hid trivial (L := ι id) (.inl rfl) (fun k hk hne => setRow_other _ _ _ _ hne) (by simp) rfl rfl rfl ?_ ?_⟩
          · simp only [Instr.storeAt, Instr.sureAddr, storeVar, Sem.run_bind, Sem.run_pure, Result.andThen_ok, run_sizeT' h2]
            rw [if_neg (by rw [hsz]; simpa using h1)]
            exact hrun
          · simp [Later, upd_same]
          · intro keep
            have seg := seg_get xs.toList cv.cells.toList ((ι id).o + r * sz + off) (by simpa using hend)
            have seg2 := seg_get cs v.cells off hle
            refine ⟨_, e, by rw [upd_same]; exact setRow_heap w _ xs _ e _ b1, ?_, ?_, ?_, ?_, by rw [upd_same]; simpa using b6⟩
            · rw [upd_same, ← b2]; simp; simp at hend; omega
            · intro i r' hr'
              rw [List.getElem?_set] at hr'
              split at hr'
              · cases hr'; rw [seg_len cs v.cells off hle]; exact hcl
              · exact b3 i r' hr'
            · rw [upd_same]; simp at hend ⊢; omega
            · rw [upd_same]
              intro i j r' c hr' hc
              have hjl : j < r'.length := (List.getElem?_eq_some_iff.1 hc).1
              simp only [List.getElem?_toArray, seg]
              rw [List.getElem?_set] at hr'
              split at hr'
              · rename_i hir
                subst hir
                cases hr'
                rw [seg2] at hc
                rw [seg_len cs v.cells off hle] at hjl
                by_cases q1 : j < off
                · rw [if_pos q1] at hc
                  rw [if_pos (by omega)]
                  obtain ⟨x, p, q⟩ := b5 r j cs c hcs hc
                  exact ⟨x, by simpa using p, keep _ _ q⟩
                · rw [if_neg q1] at hc
                  rw [if_neg (by omega)]
                  by_cases q2 : j < off + v.cells.length
                  · rw [if_pos q2] at hc
                    rw [if_pos (by simp [hsz]; omega)]
                    have hlt : j - off < cv.cells.size := by rw [hsz]; omega
                    have e1 : (ι id).o + r * sz + j - ((ι id).o + r * sz + off) = j - off := by omega
                    rw [e1]
                    refine ⟨cv.cells[j - off], by simp [hlt], keep _ _ (hcr.2 _ _ _ hc (by simp [hlt]))⟩
                  · rw [if_neg q2] at hc
                    rw [if_neg (by simp [hsz]; omega)]
                    obtain ⟨x, p, q⟩ := b5 r j cs c hcs hc
                    exact ⟨x, by simpa using p, keep _ _ q⟩
              · rename_i hir
                have hj : j < sz := b3 i r' hr' ▸ hjl
                have far := row_far (i := i) (r := r) (off := off) (n := v.cells.length) hj (by omega) (fun e => hir e.symm)
                obtain ⟨x, p, q⟩ := b5 i j r' c hr' hc
                refine ⟨x, ?_, keep _ _ q⟩
                split
                · simpa using p
                · rw [if_neg (by simp [hsz]; omega)]; simpa using p
        · cases h
      · cases h
    | _ => cases h
  | _ => simp [storeT] at h

/-- A new block of cells. -/
theorem newRow_sound (hs : SR N A ι H w) {nid sz ver : Nat} {rs : List (List V)} (hp : place H nid (.rows sz ver rs) = some H') (cs : Array Value) (e : TypeId)
    (h1 : ∀ (i : Nat) (r : List V), rs[i]? = some r → r.length = sz) (h2 : rs.length * sz ≤ cs.size)
    (h3 : ∀ (i j : Nat) (r : List V) (c : V), rs[i]? = some r → r[j]? = some c → ∃ cv, cs[i * sz + j]? = some cv ∧ VR A ι H w c cv) (htag : TagOk ver e ⟨w.heap.size, 0, cs.size⟩ (rs.length * sz)) :
    Ext N A ι H w N A (upd ι nid ⟨w.heap.size, 0, cs.size⟩) H' (w.alloc (.cells cs e)) := by
  refine Ext.alloc hs hp (L := ⟨w.heap.size, 0, cs.size⟩) rfl (fun k hk => alloc_lt w _ k hk) (by simp) rfl rfl rfl fun keep => ?_
  refine ⟨cs, e, by rw [upd_same]; exact alloc_new w _, by rw [upd_same], h1, by rw [upd_same]; simpa using h2, fun i j r c a b => ?_, by rw [upd_same]; exact htag⟩
  rw [upd_same]
  obtain ⟨cv, p, q⟩ := h3 i j r c a b
  exact ⟨cv, by simpa using p, keep _ _ q⟩

theorem newVar_sound (hs : SR N A ι H w) {nid ver : Nat} {v : V} {cv : Value} (hv : VR A ι H w v cv) (hsc : v.cells.all scalarV = true) (hp : place H nid (.rows v.cells.length ver [v.cells]) = some H') (t : TypeId) (hver : ver / TAG = 0 ∨ ver / TAG = 2 * t + 1) :
    ∃ w' ι', (newVar t cv).run P w = .ok ⟨w.heap.size, 0, none⟩ w' ∧ Ext N A ι H w N A ι' H' w' ∧ VR A ι' H' w' (.ptr nid ver 0 0) (.pointer (some ⟨w.heap.size, 0, none⟩)) := by
  obtain ⟨hcr, _⟩ := cells_rel hv hsc
  obtain ⟨p1, _, _⟩ := place_get hp
  refine ⟨_, _, by simp [newVar, newRow], newRow_sound hs hp cv.cells t ?_ ?_ ?_ ?_, ?_⟩
  · intro i r h; cases i with
    | zero => simp at h; subst h; rfl
    | succ i => simp at h
  · simp [hcr.1]
  · intro i j r c h h'
    cases i with
    | zero =>
      simp at h; subst h
      have hlt : j < cv.cells.size := hcr.1 ▸ (List.getElem?_eq_some_iff.1 h').1
      exact ⟨cv.cells[j], by simp [hlt], hcr.2 _ _ _ h' (by simp [hlt])⟩
    | succ i => simp at h
  · rcases hver with hv0 | hv0
    · exact .zero hv0
    · exact ⟨fun t' ht' => ⟨by omega, rfl, by simp [hcr.1]⟩, fun t' ht' => by omega⟩
  · exact .ptr _ _ _ _ _ _ p1 (by simp) fun s v r e => by cases e; exact .inr ⟨rfl, by simp [upd_same]⟩

theorem zeroT_some {t : TypeId} {z : V} (h : zeroT P t = some z) : ∃ i zv, P.info? t = some i ∧ i.zero = some zv ∧ z = ofValue zv := by
  simp only [zeroT, Option.map_eq_some_iff, Option.bind_eq_some_iff] at h
  obtain ⟨zv, ⟨i, h1, h2⟩, rfl⟩ := h
  exact ⟨i, zv, h1, h2, rfl⟩

/-! Filling. -/
theorem foldl_set (l : List Value) : ∀ (k : Nat) (cs : Array Value) (i : Nat), k + l.length ≤ cs.size →
    ((l.zipIdx 0).foldl (fun cs (x : Value × Nat) => cs.setIfInBounds (k + x.2) x.1) cs)[i]? = if k ≤ i ∧ i < k + l.length then l[i - k]? else cs[i]? := by
  suffices ∀ (l : List Value) (s k : Nat) (cs : Array Value) (i : Nat), k + s + l.length ≤ cs.size →
      ((l.zipIdx s).foldl (fun cs (x : Value × Nat) => cs.setIfInBounds (k + x.2) x.1) cs)[i]? = if k + s ≤ i ∧ i < k + s + l.length then l[i - (k + s)]? else cs[i]? from
    fun k cs i h => by simpa using this l 0 k cs i (by simpa using h)
  intro l
  induction l with
  | nil => intro s k cs i h; simp; intro a b; omega
  | cons x l ih =>
    intro s k cs i h
    simp only [List.zipIdx_cons, List.foldl_cons]
    rw [ih (s + 1) k _ i (by simp at h ⊢; omega)]
    simp only [List.length_cons]
    by_cases h1 : i = k + s
    · subst h1
      rw [if_neg (by omega), if_pos ⟨by omega, by omega⟩]
      simp at h
      simp [Array.getElem?_setIfInBounds_self_of_lt (show k + s < cs.size by omega)]
    · rw [Array.getElem?_setIfInBounds_ne (Ne.symm h1)]
      by_cases h2 : k + (s + 1) ≤ i ∧ i < k + (s + 1) + l.length
      · rw [if_pos h2, if_pos ⟨by omega, by omega⟩]
        have : i - (k + s) = i - (k + (s + 1)) + 1 := by omega
        rw [this]; simp
      · rw [if_neg h2, if_neg (by omega)]
theorem foldl_size (l : List (Value × Nat)) (k : Nat) : ∀ (cs : Array Value), (l.foldl (fun cs (x : Value × Nat) => cs.setIfInBounds (k + x.2) x.1) cs).size = cs.size := by
  induction l with
  | nil => intro cs; rfl
  | cons x l ih => intro cs; simp [ih]

def PR (A : Nat → Prop) (ι : Nat → Lk) (H : Heap) (w : World) : List (Nat × V) → List (Nat × Value) → Prop
  | [], [] => True
  | (i, v) :: l, (j, x) :: m => i = j ∧ VR A ι H w v x ∧ PR A ι H w l m
  | _, _ => False

theorem fill_sound (place : Nat → Option (Nat × Nat)) : ∀ (ps : List (Nat × V)) (qs : List (Nat × Value)) (cells : List V) (xs : Array Value) (out : List V),
    PR A ι H w ps qs → TR A ι H w cells xs → fillV place cells ps = some out → ∃ ys, Instr.fill place xs qs = some ys ∧ TR A ι H w out ys ∧ ys.size = xs.size
  | [], [], cells, xs, out, _, ht, h => by
    simp [fillV] at h; subst h
    exact ⟨xs, by simp [Instr.fill], ht, rfl⟩
  | (i, v) :: ps, (j, x) :: qs, cells, xs, out, hp, ht, h => by
    obtain ⟨rfl, hv, hp⟩ := hp
    simp only [fillV] at h
    simp only [Instr.fill]
    cases hpl : place i with
    | none => rw [hpl] at h; cases h
    | some os =>
      obtain ⟨off, size⟩ := os
      rw [hpl] at h
      simp only at h ⊢
      split at h
      · rename_i hc
        obtain ⟨c1, c2, c3⟩ := hc
        obtain ⟨hcr, hone⟩ := cells_rel hv c3
        have hsz : x.cells.size = size := hcr.1.symm.trans c1
        have hb : (decide (x.cells.size ≠ size) || decide (off + x.cells.size > xs.size)) = false := by
          have := ht.1
          simp [hsz]; omega
        rw [if_neg (by simpa using hb)]
        have hx : off + x.cells.toList.length ≤ xs.size := by have := ht.1; simp [hsz]; omega
        have e0 : (x.cells.zipIdx.foldl (fun cs (c, j) => cs.setIfInBounds (off + j) c) xs) = ((x.cells.toList.zipIdx 0).foldl (fun cs (x : Value × Nat) => cs.setIfInBounds (off + x.2) x.1) xs) := by
          rw [← Array.foldl_toList]; simp [Array.toList_zipIdx]
        have hlen : (cells.take off ++ v.cells ++ cells.drop (off + v.cells.length)).length = cells.length := seg_len _ _ _ (by omega)
        have hTR : TR A ι H w (cells.take off ++ v.cells ++ cells.drop (off + v.cells.length)) ((x.cells.toList.zipIdx 0).foldl (fun cs (x : Value × Nat) => cs.setIfInBounds (off + x.2) x.1) xs) := by
          refine ⟨hlen.trans (ht.1.trans (foldl_size _ _ _).symm), fun k c cv a b => ?_⟩
          rw [seg_get _ _ _ (by omega)] at a
          rw [foldl_set _ _ _ _ hx] at b
          by_cases k1 : k < off
          · rw [if_pos k1] at a
            rw [if_neg (by omega)] at b
            exact ht.2 _ _ _ a b
          · rw [if_neg k1] at a
            by_cases k2 : k < off + v.cells.length
            · rw [if_pos k2] at a
              rw [if_pos ⟨by omega, by simp [hsz]; omega⟩] at b
              exact hcr.2 _ _ _ a (by simpa using b)
            · rw [if_neg k2] at a
              rw [if_neg (by simp [hsz]; omega)] at b
              exact ht.2 _ _ _ a b
        obtain ⟨ys, p, q, r⟩ := fill_sound place ps qs _ _ out hp hTR h
        exact ⟨ys, by rw [← p, ← e0], q, by rw [r, foldl_size]⟩
      · cases h
  | [], _ :: _, _, _, _, hp, _, _ => hp.elim
  | _ :: _, [], _, _, _, hp, _, _ => hp.elim

theorem build_sound {t : TypeId} {ps : List (Nat × V)} {qs : Array (Nat × Value)} {v : V} (hp : PR A ι H w ps qs.toList) (h : buildV P t ps = some v) :
    ∃ cv, (Instr.build t qs).run P w = .ok cv w ∧ VR A ι H w v cv := by
  simp only [buildV, Option.bind_eq_some_iff] at h
  obtain ⟨z, hz0, h⟩ := h
  obtain ⟨i, zv, hi, hzv, rfl⟩ := zeroT_some hz0
  split at h
  · cases h
  rename_i hz
  have ht := (cells_rel (A := A) (ι := ι) (H := H) (w := w) (VR.ofValue zv) (by simpa using hz)).1
  split at h
  · rename_i fs hu
    simp only [Option.bind_eq_some_iff, Option.map_eq_some_iff] at h
    obtain ⟨pl, hpl, out, ho, rfl⟩ := h
    obtain ⟨ys, p, q, r⟩ := fill_sound _ ps qs.toList _ _ out hp ht ho
    refine ⟨.agg ys, run_build w t qs ys ?_, .agg _ _ q.1 q.2⟩
    simp only [Program.built, hi, hu, hzv]
    simp only [placesE] at hpl
    rw [hpl]; exact p
  · rename_i n e hu
    simp only [Option.bind_eq_some_iff, Option.map_eq_some_iff] at h
    obtain ⟨ie, hie, out, ho, rfl⟩ := h
    obtain ⟨ys, p, q, r⟩ := fill_sound _ ps qs.toList _ _ out hp ht ho
    refine ⟨.agg ys, run_build w t qs ys ?_, .agg _ _ q.1 q.2⟩
    simp only [Program.built, hi, hu, hzv, hie]; exact p
  · cases h
end
end Go.Proofs.YtpmdlaojndejfaaGreatDoor.E
