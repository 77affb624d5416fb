/- The evaluator's operations against the machine's: slices, append. -/
import Derived.Test.YtpmdlaojndejfaaGreatDoorEe
set_option linter.unusedVariables false
namespace Go.Proofs.YtpmdlaojndejfaaGreatDoor.E
open Go

section
variable {P : Program} {N A : Nat → Prop} {ι : Nat → Lk} {H H' : Heap} {w : World}

theorem rows_read {sz : Nat} (hz : sz ≠ 0) {rows : List (List V)} (h1 : ∀ (i : Nat) (r : List V), rows[i]? = some r → r.length = sz) {b base : Nat}
    (hc : ∀ (i j : Nat) (r : List V) (c : V), rows[i]? = some r → r[j]? = some c → ∃ cv, w.cell? ⟨b, base + i * sz + j, none⟩ = some cv ∧ VR A ι H w c cv) :
    ∃ L : List Value, L.length = rows.length * sz ∧ (∀ w2 : World, w2.heap = w.heap → (loadCells ⟨b, base, none⟩ (rows.length * sz)).run P w2 = .ok L.toArray w2) ∧
      ∀ (i j : Nat) (r : List V) (c : V), rows[i]? = some r → r[j]? = some c → ∃ cv, L[i * sz + j]? = some cv ∧ VR A ι H w c cv := by
  obtain ⟨L, l1, l2⟩ := exists_list (p := fun k v => w.cell? ⟨b, base + k, none⟩ = some v ∧ ∀ (i j : Nat) (r : List V) (c : V), k = i * sz + j → rows[i]? = some r → r[j]? = some c → VR A ι H w c v) (rows.length * sz) fun k hk => by
    have hi : k / sz < rows.length := Nat.div_lt_of_lt_mul (by rw [Nat.mul_comm]; exact hk)
    have hj : k % sz < sz := Nat.mod_lt _ (by omega)
    have e1 : rows[k / sz]? = some rows[k / sz] := by simp [hi]
    have hl := h1 _ _ e1
    have e2 : (rows[k / sz])[k % sz]? = some ((rows[k / sz])[k % sz]'(by omega)) := by simp
    obtain ⟨cv, p, q⟩ := hc _ _ _ _ e1 e2
    have hk' : k / sz * sz + k % sz = k := by rw [Nat.mul_comm]; exact Nat.div_add_mod k sz
    refine ⟨cv, by rw [← hk', ← Nat.add_assoc]; exact p, fun i j r c e a a' => ?_⟩
    have hj' : j < sz := by
      have := (List.getElem?_eq_some_iff.1 a').1
      rw [h1 _ _ a] at this; exact this
    have ei : k / sz = i := by
      rw [e, Nat.mul_comm, Nat.mul_add_div (by omega), Nat.div_eq_of_lt hj']; rfl
    have ej : k % sz = j := by
      rw [e, Nat.mul_comm, Nat.mul_add_mod, Nat.mod_eq_of_lt hj']
    subst ei ej
    rw [e1] at a; cases a
    rw [e2] at a'; cases a'
    exact q
  refine ⟨L, l1, fun w2 hw => ?_, fun i j r c a a' => ?_⟩
  · have := run_loadCells_list (P := P) w2 ⟨b, base, none⟩ L (fun j v hv => by
      rw [add_none]
      have := (l2 j v hv).1
      simp only [World.cell?, hw] at this ⊢
      exact this)
    rw [l1] at this; exact this
  · have hi : i < rows.length := (List.getElem?_eq_some_iff.1 a).1
    have hj : j < sz := by
      have := (List.getElem?_eq_some_iff.1 a').1
      rw [h1 _ _ a] at this; exact this
    have hlt : i * sz + j < L.length := by rw [l1]; exact row_in hi hj
    exact ⟨L[i * sz + j], by simp [hlt], (l2 _ _ (by simp [hlt])).2 i j r c rfl a a'⟩

/-- A block's rows from some row on. -/
theorem BR.sub {id sz ver : Nat} {rs : List (List V)} (h : BR A ι H w id (.rows sz ver rs)) (off len : Nat) :
    (∀ (i : Nat) (r : List V), ((rs.drop off).take len)[i]? = some r → r.length = sz) ∧
    ∀ (i j : Nat) (r : List V) (c : V), ((rs.drop off).take len)[i]? = some r → r[j]? = some c → ∃ cv, w.cell? ⟨(ι id).b, (ι id).o + off * sz + i * sz + j, none⟩ = some cv ∧ VR A ι H w c cv := by
  have key : ∀ (i : Nat) (r : List V), ((rs.drop off).take len)[i]? = some r → rs[off + i]? = some r := by
    intro i r a
    rw [List.getElem?_take] at a
    split at a
    · rwa [List.getElem?_drop] at a
    · cases a
  refine ⟨fun i r a => ?_, fun i j r c a b => ?_⟩
  · obtain ⟨_, _, _, _, h3, _⟩ := h
    exact h3 _ _ (key i r a)
  · obtain ⟨cv, p, q⟩ := h.cells (key i r a) j c b
    refine ⟨cv, ?_, q⟩
    rw [Nat.add_mul, ← Nat.add_assoc] at p; exact p

/-- What append and copy read of a slice or a string. -/
def FC (P : Program) (A : Nat → Prop) (ι : Nat → Lk) (H : Heap) (w : World) (sz : Nat) (nr : List (List V)) (cx : Value) : Prop :=
  (Builtin.lenOf cx).run P w = .ok nr.length w ∧ ∃ L : List Value, L.length = nr.length * sz ∧ (∀ v ∈ L, v.oneCell' = true) ∧
    (∀ w2 : World, w2.heap = w.heap → (Builtin.firstCells sz nr.length cx).run P w2 = .ok L.toArray w2) ∧
    ∀ (i j : Nat) (r : List V) (c : V), nr[i]? = some r → r[j]? = some c → ∃ cv, L[i * sz + j]? = some cv ∧ VR A ι H w c cv

theorem firstCells_sound (hs : SR N A ι H w) {x : V} {cx : Value} (hx : VR A ι H w x cx) {nr : List (List V)} (h : rowsOfX H x = some nr) {sz : Nat} (hz : sz ≠ 0)
    (hl : ∀ (i : Nat) (r : List V), nr[i]? = some r → r.length = sz) (hsc : ∀ (i : Nat) (r : List V), nr[i]? = some r → r.all scalarV = true) :
    FC P A ι H w sz nr cx := by
  have one : ∀ L : List Value, L.length = nr.length * sz → (∀ (i j : Nat) (r : List V) (c : V), nr[i]? = some r → r[j]? = some c → ∃ cv, L[i * sz + j]? = some cv ∧ VR A ι H w c cv) → ∀ v ∈ L, v.oneCell' = true := by
    intro L h1 h2 v hv
    obtain ⟨k, hk, e⟩ := List.getElem_of_mem hv
    rw [h1] at hk
    have hi : k / sz < nr.length := Nat.div_lt_of_lt_mul (by rw [Nat.mul_comm]; exact hk)
    have hj : k % sz < sz := Nat.mod_lt _ (by omega)
    have e1 : nr[k / sz]? = some nr[k / sz] := by simp [hi]
    have hl' := hl _ _ e1
    have e2 : (nr[k / sz])[k % sz]? = some ((nr[k / sz])[k % sz]'(by omega)) := by simp
    obtain ⟨cv, p, q⟩ := h2 _ _ _ _ e1 e2
    have hk' : k / sz * sz + k % sz = k := by rw [Nat.mul_comm]; exact Nat.div_add_mod k sz
    rw [hk'] at p
    have : cv = v := by
      rw [← e]; rw [List.getElem?_eq_getElem (by rw [h1]; exact hk)] at p; exact (Option.some.inj p).symm
    subst this
    exact scalar_one q (List.all_eq_true.1 (hsc _ _ e1) _ (List.getElem_mem _))
  have fin : ∀ (b base n cap : Nat), n = nr.length → cx = .slice (some ⟨b, base, none⟩) n cap →
      (∀ (i j : Nat) (r : List V) (c : V), nr[i]? = some r → r[j]? = some c → ∃ cv, w.cell? ⟨b, base + i * sz + j, none⟩ = some cv ∧ VR A ι H w c cv) → FC P A ι H w sz nr cx := by
    intro b base n cap hn hcx hc
    obtain ⟨L, l1, l2, l3⟩ := rows_read (P := P) hz hl hc
    refine ⟨?_, L, l1, one L l1 l3, fun w2 hw => ?_, l3⟩
    · rw [hcx, hn]; simp [Builtin.lenOf]
    · rw [hcx]; simp only [Builtin.firstCells]; exact l2 w2 hw
  unfold rowsOfX at h
  split at h
  · -- a string's bytes
    rename_i s
    simp only [Option.some.injEq] at h; subst h
    cases hx with
    | lit _ =>
      have hz1 : sz = 1 ∨ s.data.toList = [] := by
        cases hb : s.data.toList with
        | nil => exact .inr rfl
        | cons a l => exact .inl (by have := hl 0 [.lit (.int .u8 a.toNat)] (by simp [hb]); simpa using this.symm)
      have hdata : (s.extract 0 s.data.toList.length).data = s.data := by
        have e : s.data.toList.length = s.size := by simp
        rw [e, ByteArray.data_extract]; simp [← ByteArray.size_data]
      refine ⟨by simp [Builtin.lenOf], s.data.toList.map fun b => .int .u8 b.toNat, ?_, ?_, fun w2 _ => ?_, fun i j r c a a' => ?_⟩
      · rcases hz1 with e | e
        · simp [e]
        · simp [e]
      · intro v hv; simp at hv; obtain ⟨a, _, rfl⟩ := hv; rfl
      · simp only [Builtin.firstCells, List.length_map, Sem.run_pure]
        rw [hdata]
        congr 1
        apply Array.ext'
        simp
      · simp only [List.getElem?_map, Option.map_eq_some_iff] at a
        obtain ⟨y, hy, rfl⟩ := a
        cases j with
        | zero =>
          simp at a'; subst a'
          rcases hz1 with e | e
          · exact ⟨.int .u8 y.toNat, by simp [e, hy], .lit _⟩
          · rw [e] at hy; simp at hy
        | succ j => simp at a'
  · unfold rowsOf at h
    split at h
    · -- nil
      simp only [Option.some.injEq] at h; subst h
      cases hx with
      | lit _ =>
        exact ⟨by simp [Builtin.lenOf], [], by simp, by simp, fun w2 _ => by simp [Builtin.firstCells], fun i j r c a => by simp at a⟩
    · -- arr
      simp only [Option.some.injEq] at h; subst h
      cases hx with
      | arr _ b o cap sz' hA hcap hsz hc hv =>
        refine fin b o _ cap rfl rfl fun i j r c a a' => ?_
        have e : sz' = sz := (hsz _ _ a).symm.trans (hl _ _ a)
        subst e
        obtain ⟨cv, p⟩ := hc _ _ _ _ a a'
        exact ⟨cv, p, (hv _ _ _ _ _ a a' p).pure fun _ h => h⟩
    · -- own
      rename_i id ver off len hno
      split at h
      · rename_i sz' ver' rs hid
        split at h
        · rename_i hcond
          obtain ⟨rfl, hle⟩ := hcond
          simp only [Option.some.injEq] at h
          cases hx with
          | own _ _ _ _ a cap blk hid' hf hh =>
            rw [hid] at hid'; cases hid'
            rcases hh _ _ _ rfl with hq | ⟨_, q1, q2, q3, q4, q5⟩
            · omega
            have hn : len = nr.length := by rw [← h]; simp; omega
            rcases q4 with q4 | q4
            · -- no room at all: nothing to read
              have h0 : len = 0 := by omega
              have hnr : nr = [] := List.length_eq_zero_iff.1 (by omega)
              subst hnr
              refine ⟨by simp [Builtin.lenOf, h0], [], by simp, by simp, fun w2 _ => by simp [Builtin.firstCells, loadCells, loadCellsFrom], fun i j r c a => by simp at a⟩
            · subst q4
              have hsub := (hs.live id _ hid).sub off len
              rw [h] at hsub
              refine fin _ _ _ cap hn rfl fun i j r c a a' => ?_
              have e : sz' = sz := (hsub.1 _ _ a).symm.trans (hl _ _ a)
              subst e
              exact hsub.2 i j r c a a'
        · cases h
      · cases h
    · cases h
end
end Go.Proofs.YtpmdlaojndejfaaGreatDoor.E
