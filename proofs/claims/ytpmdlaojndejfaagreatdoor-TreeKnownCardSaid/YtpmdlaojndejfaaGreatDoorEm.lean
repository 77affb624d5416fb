/- Slices that a call hands back: moved into the caller's memory. -/
import Derived.Test.YtpmdlaojndejfaaGreatDoorEl
set_option linter.unusedVariables false
set_option linter.unusedSimpArgs false
namespace Go.Proofs.YtpmdlaojndejfaaGreatDoor.E
open Go

def lk (LK : List Lk) (i : Nat) : Lk := LK.getD i ⟨0, 0, 0⟩

theorem nodup_spec : ∀ {l : List Nat}, nodup l = true → ∀ (i j a : Nat), l[i]? = some a → l[j]? = some a → i = j
  | [], _, i, j, a, h, _ => by simp at h
  | x :: l, h, i, j, a, hi, hj => by
    simp only [nodup, Bool.and_eq_true, Bool.not_eq_true'] at h
    obtain ⟨h1, h2⟩ := h
    have nm : x ∉ l := by simpa using h1
    cases i with
    | zero =>
      cases j with
      | zero => rfl
      | succ j => simp at hi hj; subst hi; exact absurd (List.mem_of_getElem? hj) nm
    | succ i =>
      cases j with
      | zero => simp at hi hj; subst hj; exact absurd (List.mem_of_getElem? hi) nm
      | succ j => simp at hi hj; rw [nodup_spec h2 i j a hi hj]

theorem placeAll_get : ∀ {K H H' : Heap} {nid : Nat}, placeAll H nid K = some H' →
    (∀ i, i < K.length → H'[nid + i]? = K[i]? ∧ (H[nid + i]? = none ∨ H[nid + i]? = some .free)) ∧ ∀ j, (j < nid ∨ nid + K.length ≤ j) → H'[j]? = H[j]?
  | [], H, H', nid, h => by simp [placeAll] at h; subst h; exact ⟨fun i hi => by simp at hi, fun _ _ => rfl⟩
  | b :: K, H, H', nid, h => by
    simp only [placeAll, Option.bind_eq_some_iff] at h
    obtain ⟨H1, h1, h2⟩ := h
    obtain ⟨p1, p2, p3⟩ := place_get h1
    obtain ⟨q1, q2⟩ := placeAll_get h2
    refine ⟨fun i hi => ?_, fun j hj => ?_⟩
    · cases i with
      | zero =>
        refine ⟨?_, by simpa using p3⟩
        rw [q2 _ (.inl (by omega))]; simpa using p1
      | succ i =>
        simp at hi
        obtain ⟨r1, r2⟩ := q1 i hi
        have e : nid + (i + 1) = nid + 1 + i := by omega
        rw [e]
        refine ⟨by simpa using r1, ?_⟩
        rw [p2 _ (by omega)] at r2; exact r2
    · simp at hj
      rw [q2 _ (by omega), p2 _ (by omega)]

section
variable {A' : Nat → Prop} {ι' : Nat → Lk} {H' : Heap} {w' : World}

structure TI (ι' : Nat → Lk) (H' : Heap) (w' : World) (ids : List Nat) (K : Heap) (LK : List Lk) : Prop where
  l1 : K.length = ids.length
  l2 : LK.length = ids.length
  each : ∀ (i id : Nat), ids[i]? = some id → ∃ sz rs blk, K[i]? = some (.rows sz 0 rs) ∧ H'[id]? = some blk ∧ blk.alive ∧ (lk LK i).b = (ι' id).b ∧
    ∃ cs e, w'.heap[(lk LK i).b]? = some (.cells cs e (0, 0)) ∧ cs.size = (lk LK i).n ∧ (∀ (j : Nat) (r : List V), rs[j]? = some r → r.length = sz) ∧
      (lk LK i).o + rs.length * sz ≤ cs.size ∧ ∀ (j k : Nat) (r : List V) (c : V), rs[j]? = some r → r[k]? = some c → ∃ x, cs[(lk LK i).o + j * sz + k]? = some x ∧ c = .lit x

/-- A cell that is handed back. -/
def CC (A : Nat → Prop) (K : Heap) (LK : List Lk) (w : World) (c : V) (cv : Value) : Prop :=
  VR A (lk []) [] w c cv ∨ ∃ i len, c = .own i 0 0 len ∧ i < K.length ∧ VR A (lk LK) K w c cv
def CA (A : Nat → Prop) (K : Heap) (LK : List Lk) (w : World) (c : V) (cv : Value) : Prop :=
  match c with
  | .agg cs => ∃ vs, cv = .agg vs ∧ cs.length = vs.size ∧ ∀ (i : Nat) (c : V) (x : Value), cs[i]? = some c → vs[i]? = some x → CC A K LK w c x
  | c => CC A K LK w c cv
def CT (A : Nat → Prop) (K : Heap) (LK : List Lk) (w : World) (c : V) (cv : Value) : Prop :=
  match c with
  | .tup cs => ∃ vs, cv = .tuple vs ∧ cs.length = vs.size ∧ ∀ (i : Nat) (c : V) (x : Value), cs[i]? = some c → vs[i]? = some x → CA A K LK w c x
  | c => CA A K LK w c cv

def Grow (A : Nat → Prop) (w : World) (K : Heap) (LK : List Lk) (K' : Heap) (LK' : List Lk) : Prop := ∀ c cv, CC A K LK w c cv → CC A K' LK' w c cv
theorem Grow.ca {A : Nat → Prop} {w : World} {K K' : Heap} {LK LK' : List Lk} (g : Grow A w K LK K' LK') {c : V} {cv : Value} (h : CA A K LK w c cv) : CA A K' LK' w c cv := by
  unfold CA at h ⊢
  split at h
  · obtain ⟨vs, h1, h2, h3⟩ := h
    exact ⟨vs, h1, h2, fun i c x a b => g _ _ (h3 i c x a b)⟩
  · exact g _ _ h

theorem trC_sound (hs : ∀ (id : Nat) (blk : Blk), H'[id]? = some blk → BR A' ι' H' w' id blk) {ids : List Nat} {K K' : Heap} {LK : List Lk} (ti : TI ι' H' w' ids K LK) {c c' : V} {cv : Value}
    (hv : VR A' ι' H' w' c cv) (hc : (noOwnC c || flatOwn H' c) = true) (h : trC H' c K = some (c', K')) :
    ∃ LK', TI ι' H' w' (ids ++ (ownId c).toList) K' LK' ∧ CC A' K' LK' w' c' cv ∧ Grow A' w' K LK K' LK' := by
  by_cases ho : ∃ id ver off len, c = .own id ver off len
  · obtain ⟨id, ver, off, len, rfl⟩ := ho
    simp only [noOwnC, Bool.false_or] at hc
    simp only [trC, Option.bind_eq_some_iff] at h
    obtain ⟨rs, hrs, h⟩ := h
    split at h
    case h_2 => cases h
    rename_i sz ver' rs0 hid
    simp only [Option.some.injEq, Prod.mk.injEq] at h
    obtain ⟨rfl, rfl⟩ := h
    have hfl : flatR rs = true := by simpa [flatOwn, hrs] using hc
    simp only [rowsOf, hid] at hrs
    split at hrs
    case isFalse => cases hrs
    rename_i hcond
    obtain ⟨rfl, hle⟩ := hcond
    simp only [Option.some.injEq] at hrs
    cases hv with
    | own _ _ _ _ a cap blk hid' hf hh =>
      rw [hid] at hid'; cases hid'
      rcases hh _ _ _ rfl with hq | ⟨_, q1, q2, q3, q4, q5, q6⟩
      · omega
      obtain ⟨xs, e, b1, b2, b3, b4, b5, _⟩ := hs id _ hid
      have hget : ∀ (j : Nat) (r : List V), rs[j]? = some r → rs0[off + j]? = some r := by
        intro j r a
        rw [← hrs, List.getElem?_take] at a
        split at a
        · rwa [List.getElem?_drop] at a
        · cases a
      have hlen : rs.length = len := by rw [← hrs]; simp; omega
      have old : ∀ i, i < ids.length → lk (LK ++ [⟨(ι' id).b, (ι' id).o + off * sz, (ι' id).n⟩]) i = lk LK i := by
        intro i hi
        have : i < LK.length := by rw [ti.l2]; exact hi
        simp [lk, List.getElem?_append_left this]
      have new : lk (LK ++ [⟨(ι' id).b, (ι' id).o + off * sz, (ι' id).n⟩]) K.length = ⟨(ι' id).b, (ι' id).o + off * sz, (ι' id).n⟩ := by
        have : LK.length = K.length := ti.l2.trans ti.l1.symm
        simp [lk, ← this]
      refine ⟨LK ++ [⟨(ι' id).b, (ι' id).o + off * sz, (ι' id).n⟩], ⟨by simp [ti.l1, ownId], by simp [ti.l2, ownId], fun i id' hi => ?_⟩, ?_, ?_⟩
      · simp only [ownId, Option.toList_some] at hi
        rcases Nat.lt_or_ge i ids.length with hlt | hge
        · rw [List.getElem?_append_left hlt] at hi
          obtain ⟨sz1, rs1, blk1, k1, k2, k3, k4, k5⟩ := ti.each i id' hi
          rw [old i hlt]
          exact ⟨sz1, rs1, blk1, by rw [List.getElem?_append_left (by rw [ti.l1]; exact hlt)]; exact k1, k2, k3, k4, k5⟩
        · rw [List.getElem?_append_right hge] at hi
          have hi0 : i - ids.length = 0 := by have := (List.getElem?_eq_some_iff.1 hi).1; simp at this; omega
          rw [hi0] at hi; simp at hi; subst hi
          have ei : i = K.length := by rw [ti.l1]; omega
          subst ei
          rw [new]
          refine ⟨sz, rs, _, by simp, hid, trivial, rfl, xs, e, b1, b2, fun j r a => b3 _ _ (hget j r a), ?_, fun j k r c a a' => ?_⟩
          · simp only
            have : (off + rs.length) * sz ≤ rs0.length * sz := Nat.mul_le_mul_right _ (by omega)
            rw [Nat.add_mul] at this; omega
          · obtain ⟨x, p, q⟩ := b5 _ k r c (hget j r a) a'
            obtain ⟨y, rfl⟩ := flat_lit hfl a a'
            have := lit_eq q
            subst this
            exact ⟨x, by simp only; rw [← p]; congr 1; rw [Nat.add_mul]; omega, rfl⟩
      · refine .inr ⟨K.length, len, rfl, by simp, ?_⟩
        refine .own _ _ _ _ a cap (.rows sz 0 rs) (by simp) (by simp) fun s v r e' => ?_
        cases e'
        rw [new]
        refine .inr ⟨rfl, by omega, by omega, ?_, ?_, q5, q6⟩
        · simp only [Nat.zero_add]; rw [Nat.add_mul] at q3; omega
        · simpa using q4
      · intro c cv hcc
        rcases hcc with hcc | ⟨i, n, rfl, hi, hcc⟩
        · exact .inl hcc
        · refine .inr ⟨i, n, rfl, by simp; omega, hcc.keep ⟨fun _ h => h, fun _ _ => rfl, fun id0 blk0 h0 hf0 => ?_⟩⟩
          have hlt : id0 < K.length := (List.getElem?_eq_some_iff.1 h0).1
          exact ⟨blk0, by rw [List.getElem?_append_left hlt]; exact h0, .same (old id0 (by rw [← ti.l1]; exact hlt)) _⟩
  · have h' : trC H' c K = some (c, K) := by
      cases c <;> first | rfl | exact absurd ⟨_, _, _, _, rfl⟩ ho
    rw [h'] at h
    simp only [Option.some.injEq, Prod.mk.injEq] at h
    obtain ⟨rfl, rfl⟩ := h
    have hn : noOwnC c = true := by
      cases c <;> first | (simpa [flatOwn] using hc) | exact absurd ⟨_, _, _, _, rfl⟩ ho
    have hid : ownId c = none := by cases c <;> first | rfl | exact absurd ⟨_, _, _, _, rfl⟩ ho
    refine ⟨LK, by rw [hid]; simpa using ti, .inl (noOwnC_pure _ hn hv), fun _ _ h => h⟩

theorem trC_is {c c' : V} {K K' : Heap} (h : trC H' c K = some (c', K')) : c' = c ∨ ∃ i len, c' = .own i 0 0 len := by
  by_cases ho : ∃ id ver off len, c = .own id ver off len
  · obtain ⟨id, ver, off, len, rfl⟩ := ho
    simp only [trC, Option.bind_eq_some_iff] at h
    obtain ⟨rs, hrs, h⟩ := h
    split at h
    · simp only [Option.some.injEq, Prod.mk.injEq] at h
      exact .inr ⟨_, _, h.1.symm⟩
    · cases h
  · have h' : trC H' c K = some (c, K) := by
      cases c <;> first | rfl | exact absurd ⟨_, _, _, _, rfl⟩ ho
    rw [h'] at h
    simp only [Option.some.injEq, Prod.mk.injEq] at h
    exact .inl h.1.symm

theorem trCs_sound (hs : ∀ (id : Nat) (blk : Blk), H'[id]? = some blk → BR A' ι' H' w' id blk) : ∀ {cs cs' : List V} {xs : List Value} {ids : List Nat} {K K' : Heap} {LK : List Lk}, TI ι' H' w' ids K LK →
    cs.length = xs.length → (∀ (i : Nat) (c : V) (x : Value), cs[i]? = some c → xs[i]? = some x → VR A' ι' H' w' c x) → (∀ c ∈ cs, (noOwnC c || flatOwn H' c) = true) → trCs H' cs K = some (cs', K') →
    ∃ LK', TI ι' H' w' (ids ++ cs.filterMap ownId) K' LK' ∧ cs'.length = xs.length ∧ (∀ (i : Nat) (c : V) (x : Value), cs'[i]? = some c → xs[i]? = some x → CC A' K' LK' w' c x) ∧ Grow A' w' K LK K' LK'
  | [], cs', xs, ids, K, K', LK, ti, hl, hv, hc, h => by
    simp [trCs] at h; obtain ⟨rfl, rfl⟩ := h
    exact ⟨LK, by simpa using ti, by simpa using hl, fun i c x a => by simp at a, fun _ _ h => h⟩
  | c :: cs, cs', x :: xs, ids, K, K', LK, ti, hl, hv, hc, h => by
    simp only [trCs, Option.bind_eq_some_iff, Option.map_eq_some_iff, Prod.mk.injEq] at h
    obtain ⟨⟨c1, K1⟩, h1, ⟨cs1, K2⟩, h2, rfl, rfl⟩ := h
    obtain ⟨LK1, t1, r1, g1⟩ := trC_sound hs ti (hv 0 c x (by simp) (by simp)) (hc c (by simp)) h1
    obtain ⟨LK2, t2, r2, r3, g2⟩ := trCs_sound hs (cs := cs) (xs := xs) t1 (by simpa using hl) (fun i c x a b => hv (i + 1) c x (by simpa using a) (by simpa using b)) (fun c h => hc c (by simp [h])) h2
    refine ⟨LK2, ?_, by simp [r2], fun i c' x' a b => ?_, fun _ _ h => g2 _ _ (g1 _ _ h)⟩
    · have e : ids ++ (c :: cs).filterMap ownId = ids ++ (ownId c).toList ++ cs.filterMap ownId := by
        cases hoc : ownId c <;> simp [List.filterMap_cons, hoc]
      rw [e]; exact t2
    · cases i with
      | zero => simp at a b; subst a b; exact g2 _ _ r1
      | succ i => simp at a b; exact r3 i c' x' a b
  | _ :: _, _, [], _, _, _, _, _, hl, _, _, _ => by simp at hl

theorem trA_sound (hs : ∀ (id : Nat) (blk : Blk), H'[id]? = some blk → BR A' ι' H' w' id blk) {v v' : V} {cv : Value} {ids : List Nat} {K K' : Heap} {LK : List Lk} (ti : TI ι' H' w' ids K LK)
    (hv : VR A' ι' H' w' v cv) (hc : ∀ c ∈ v.cells, (noOwnC c || flatOwn H' c) = true) (h : trA H' v K = some (v', K')) :
    ∃ LK', TI ι' H' w' (ids ++ v.cells.filterMap ownId) K' LK' ∧ CA A' K' LK' w' v' cv ∧ Grow A' w' K LK K' LK' := by
  by_cases ha : ∃ cs, v = .agg cs
  · obtain ⟨cs, rfl⟩ := ha
    simp only [trA, Option.map_eq_some_iff, Prod.mk.injEq] at h
    obtain ⟨⟨cs1, K1⟩, h1, rfl, rfl⟩ := h
    cases hv with
    | agg _ vs hl hv =>
      obtain ⟨LK', t, r1, r2, g⟩ := trCs_sound hs (xs := vs.toList) ti (by simpa using hl) (fun i c x a b => hv i c x a (by simpa using b)) hc h1
      exact ⟨LK', t, ⟨vs, rfl, by simpa using r1, fun i c x a b => r2 i c x a (by simpa using b)⟩, g⟩
  · have e1 : trA H' v K = trC H' v K := by cases v <;> first | rfl | exact absurd ⟨_, rfl⟩ ha
    have e2 : v.cells = [v] := by cases v <;> first | rfl | exact absurd ⟨_, rfl⟩ ha
    rw [e1] at h
    obtain ⟨LK', t, r1, g⟩ := trC_sound hs ti hv (hc v (by simp [e2])) h
    refine ⟨LK', ?_, ?_, g⟩
    · rw [e2]
      have : [v].filterMap ownId = (ownId v).toList := by cases hov : ownId v <;> simp [List.filterMap_cons, hov]
      rw [this]; exact t
    · have hna : ∀ cs, v' ≠ .agg cs := by
        intro cs e
        rcases trC_is h with h1 | ⟨_, _, h1⟩
        · exact ha ⟨cs, h1.symm.trans e⟩
        · rw [e] at h1; cases h1
      cases v' <;> first | exact r1 | exact absurd rfl (hna _)

theorem trAs_sound (hs : ∀ (id : Nat) (blk : Blk), H'[id]? = some blk → BR A' ι' H' w' id blk) : ∀ {cs cs' : List V} {xs : List Value} {ids : List Nat} {K K' : Heap} {LK : List Lk}, TI ι' H' w' ids K LK →
    cs.length = xs.length → (∀ (i : Nat) (c : V) (x : Value), cs[i]? = some c → xs[i]? = some x → VR A' ι' H' w' c x) → (∀ c ∈ cs.flatMap V.cells, (noOwnC c || flatOwn H' c) = true) → trAs H' cs K = some (cs', K') →
    ∃ LK', TI ι' H' w' (ids ++ (cs.flatMap V.cells).filterMap ownId) K' LK' ∧ cs'.length = xs.length ∧ (∀ (i : Nat) (c : V) (x : Value), cs'[i]? = some c → xs[i]? = some x → CA A' K' LK' w' c x) ∧ Grow A' w' K LK K' LK'
  | [], cs', xs, ids, K, K', LK, ti, hl, hv, hc, h => by
    simp [trAs] at h; obtain ⟨rfl, rfl⟩ := h
    exact ⟨LK, by simpa using ti, by simpa using hl, fun i c x a => by simp at a, fun _ _ h => h⟩
  | c :: cs, cs', x :: xs, ids, K, K', LK, ti, hl, hv, hc, h => by
    simp only [trAs, Option.bind_eq_some_iff, Option.map_eq_some_iff, Prod.mk.injEq] at h
    obtain ⟨⟨c1, K1⟩, h1, ⟨cs1, K2⟩, h2, rfl, rfl⟩ := h
    obtain ⟨LK1, t1, r1, g1⟩ := trA_sound hs ti (hv 0 c x (by simp) (by simp)) (fun d hd => hc d (by simp [hd])) h1
    obtain ⟨LK2, t2, r2, r3, g2⟩ := trAs_sound hs (cs := cs) (xs := xs) t1 (by simpa using hl) (fun i c x a b => hv (i + 1) c x (by simpa using a) (by simpa using b)) (fun d hd => hc d (by
      rw [List.flatMap_cons]; exact List.mem_append_right _ hd)) h2
    refine ⟨LK2, ?_, by simp [r2], fun i c' x' a b => ?_, fun _ _ h => g2 _ _ (g1 _ _ h)⟩
    · rw [List.flatMap_cons, List.filterMap_append, ← List.append_assoc]; exact t2
    · cases i with
      | zero => simp at a b; subst a b; exact g2.ca r1
      | succ i => simp at a b; exact r3 i c' x' a b
  | _ :: _, _, [], _, _, _, _, _, hl, _, _, _ => by simp at hl

theorem tr_sound (hs : ∀ (id : Nat) (blk : Blk), H'[id]? = some blk → BR A' ι' H' w' id blk) {v v' : V} {cv : Value} {K' : Heap}
    (hv : VR A' ι' H' w' v cv) (hc : ∀ c ∈ tops v, (noOwnC c || flatOwn H' c) = true) (h : tr H' v = some (v', K')) :
    ∃ LK', TI ι' H' w' ((tops v).filterMap ownId) K' LK' ∧ CT A' K' LK' w' v' cv := by
  have ti0 : TI ι' H' w' [] [] [] := ⟨rfl, rfl, fun i id h => by simp at h⟩
  by_cases ha : ∃ cs, v = .tup cs
  · obtain ⟨cs, rfl⟩ := ha
    simp only [tr, Option.map_eq_some_iff, Prod.mk.injEq] at h
    obtain ⟨⟨cs1, K1⟩, h1, rfl, rfl⟩ := h
    cases hv with
    | tup _ vs hl hv =>
      obtain ⟨LK', t, r1, r2, g⟩ := trAs_sound hs (xs := vs.toList) ti0 (by simpa using hl) (fun i c x a b => hv i c x a (by simpa using b)) hc h1
      exact ⟨LK', by simpa [tops] using t, ⟨vs, rfl, by simpa using r1, fun i c x a b => r2 i c x a (by simpa using b)⟩⟩
  · have e1 : tr H' v = trA H' v [] := by cases v <;> first | rfl | exact absurd ⟨_, rfl⟩ ha
    have e2 : tops v = v.cells := by cases v <;> first | rfl | exact absurd ⟨_, rfl⟩ ha
    rw [e1] at h
    rw [e2] at hc ⊢
    obtain ⟨LK', t, r1, g⟩ := trA_sound hs ti0 hv hc h
    refine ⟨LK', by simpa using t, ?_⟩
    have hna : ∀ cs, v' ≠ .tup cs := by
      intro cs e
      by_cases hg : ∃ ds, v = .agg ds
      · obtain ⟨ds, rfl⟩ := hg
        simp only [trA, Option.map_eq_some_iff, Prod.mk.injEq] at h
        obtain ⟨_, _, h1, _⟩ := h
        rw [e] at h1; cases h1
      · have e3 : trA H' v [] = trC H' v [] := by cases v <;> first | rfl | exact absurd ⟨_, rfl⟩ hg
        rw [e3] at h
        rcases trC_is h with h1 | ⟨_, _, h1⟩
        · exact ha ⟨cs, h1.symm.trans e⟩
        · rw [e] at h1; cases h1
    cases v' <;> first | exact r1 | exact absurd rfl (hna _)

/-- A frozen value, as one that is handed back. -/
theorem CT.frozen {A : Nat → Prop} {w : World} {v : V} {cv : Value} (h : VR A (lk []) [] w v cv) : CT A [] [] w v cv := by
  have ca : ∀ v cv, VR A (lk []) [] w v cv → CA A [] [] w v cv := by
    intro v cv h
    cases h with
    | agg cs vs hl hv => exact ⟨vs, rfl, hl, fun i c x a b => .inl (hv i c x a b)⟩
    | lit _ => exact .inl (.lit _)
    | arr rows b o cap sz hA hcap hsz hc hv => exact .inl (.arr rows b o cap sz hA hcap hsz hc hv)
    | row cells b o hA hc hv => exact .inl (.row cells b o hA hc hv)
    | fn f cs vs hl hv => exact .inl (.fn f cs vs hl hv)
    | tup cs vs hl hv => exact .inl (.tup cs vs hl hv)
    | own _ _ _ _ _ _ _ hid => simp at hid
    | ptr _ _ _ _ _ _ hid => simp at hid
    | yld _ _ hid => simp at hid
    | mp _ _ hid => simp at hid
    | it _ _ hid => simp at hid
  by_cases ht : ∃ cs, v = .tup cs
  · obtain ⟨cs, rfl⟩ := ht
    cases h with
    | tup _ vs hl hv => exact ⟨vs, rfl, hl, fun i c x a b => ca _ _ (hv i c x a b)⟩
  · have := ca v cv h
    cases v <;> first | exact this | exact absurd ⟨_, rfl⟩ ht
end
end Go.Proofs.YtpmdlaojndejfaaGreatDoor.E
