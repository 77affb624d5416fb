/- Walks of functions, each against a plain Lean function: written by this session's program wip/hand.py, which runs the kit's print with this session's own contracts put in. -/
import Derived.Test.YtjhnmclancbilaaQx0
import Derived.Test.YtjhnmclancbilaaQx5
namespace Go.Proofs.Ytjhnmclancbilaa.Q
open Go.RowKit Go.Proofs.YtjhnmclancbilaaW.PrintWords Go.Proofs.YtjhnmclancbilaaW.PrintLast Go.Proofs.YtjhnmclancbilaaW.PrintMore
attribute [local go_sem] max2_int min2_int max_two min_two max_three min_three max_four min_four   -- for this text's walks alone
set_option linter.unusedVariables false
set_option linter.unusedSimpArgs false

-- HAND: function 23, by this session's own text
theorem mx_max (a : Int) : (if a < 0 then 0 else a) = max a 0 := by split <;> omega
def chars_Cut.f (a0 : ByteArray) (a1 : Int) (a2 : Int) : Option (ByteArray) := if a0.size ≤ 140737488355328 then some (HPure.cut a0 a1 a2) else none
set_option maxHeartbeats 400000 in
set_option maxRecDepth 1000000 in
theorem chars_Cut.walk (s : ByteArray) (a b : Int) (w : World) (hs : s.size ≤ 140737488355328) (hab : a < b) (ht : chars_IsText.f s = some true) (R : ByteArray)
    (hno : ((HPure.cutAt s a b).2 < (HPure.cutAt s a b).1 ∨ b ≤ 0) → R = ⟨#[]⟩) (hyes : ¬ ((HPure.cutAt s a b).2 < (HPure.cutAt s a b).1 ∨ b ≤ 0) → R = s.extract (HPure.cutAt s a b).1 (HPure.cutAt s a b).2) :
    Calls Try.prog 23 #[.string s, .int .i64 a, .int .i64 b] w fun e w' => e = .returned (.string R) ∧ Below w.heap.size w w' := by
  have HT := Aside0.mk ht
  have HNO := Aside0.mk hno
  have HYES := Aside0.mk hyes
  have c0 : decide (b ≤ a) = false := decide_eq_false (by omega)
  clear ht hno hyes
  go_enter Try.func23, Try.ntmps23
  go_wp2_with (go_at_call 28; refine (chars_IsText.calls _ _ _ HT.out).mono ?_; rintro e w1 ⟨rfl, hb1⟩)
  have HB1 := Aside0.mk hb1
  clear hb1
  go_loopw [7, 8, 9] (fun v7 v8 v9 wr => ∃ (pos fuel p x y : Nat), v7 = .int .i64 p ∧ v8 = .int .i64 x ∧ v9 = .int .i64 y ∧ wr.heap[w1.heap.size]? = some (.stringIter s pos) ∧ Below w.heap.size w wr ∧ Aside0 (HPure.cutFrom s a b fuel pos p x y = HPure.cutAt s a b) ∧ s.size ≤ pos + fuel ∧ p ≤ pos ∧ pos ≤ s.size ∧ x ≤ s.size ∧ y ≤ s.size) (fun _ _ _ wr => s.size - wr.iterPos w1.heap.size)
  case atStart =>
    exact ⟨0, s.size, 0, s.size, s.size, rfl, rfl, rfl, World.iter_heap w1 s 0, HB1.out.alloc HB1.out.size _, ⟨rfl⟩, by omega, Nat.le_refl _, Nat.zero_le _, Nat.le_refl _, Nat.le_refl _⟩
  case round =>
    obtain ⟨pos, fuel, p, x, y, rfl, rfl, rfl, hit, hbw, hfr, hfu, hpp, hps, hx, hy⟩ := hrel
    have hsz : w1.heap.size < wr.heap.size := (Array.getElem?_eq_some_iff.1 hit).1
    by_cases hp : pos < s.size
    · have hnx : ∀ ty, (Instr.next (.pointer (some ⟨w1.heap.size, 0, none⟩)) true ty).run Try.prog wr = _ := fun ty => Lib.run_next_any_at wr w1.heap.size s pos ty hit hp
      have hwd := Lib.decode_width_pos s pos hp
      have hwn : pos + (Utf8.decode s pos).2 ≤ s.size := by
        have := Lib.decodeN_le_n' (s.size - pos) (s.get! pos).toNat (s.get! (pos + 1)).toNat (s.get! (pos + 2)).toNat (s.get! (pos + 3)).toNat (by omega)
        rw [← Lib.decode_at] at this
        omega
      have hit2 := Lib.iterAt_heap wr w1.heap.size s pos (pos + (Utf8.decode s pos).2) hit
      have hbw2 := Lib.below_iterAt hbw (k := w1.heap.size) HB1.out.size s (pos + (Utf8.decode s pos).2)
      obtain ⟨f, rfl⟩ : ∃ f, fuel = f + 1 := ⟨fuel - 1, by omega⟩
      have hfr' := hfr.out
      have HI := Aside0.mk hit
      clear hfr hit hbw
      simp only [HPure.cutFrom, if_pos hp] at hfr'
      generalize hc : (Utf8.decode s pos).1 = c at hnx
      generalize hd : (Utf8.decode s pos).2 = d at hfr' hnx hwd hit2 hbw2 hwn
      clear hc hd
      generalize hW : wr.iterAt w1.heap.size s (pos + d) = W at hnx hit2 hbw2
      clear hW
      by_cases h1 : (p : Int) = max a 0
      · have e1 : ((p : Int) == if a < 0 then 0 else a) = true := by rw [mx_max, beq_iff_eq]; exact h1
        rw [if_pos h1] at hfr'
        by_cases h2 : (p : Int) = b
        · have e2 : ((p : Int) == b) = true := by rw [beq_iff_eq]; exact h2
          rw [if_pos h2] at hfr'
          have HF := Aside0.mk hfr'
          clear hfr' h1 h2
          go_wp2
          go_roundw
          case rel => exact ⟨pos + d, f, p + 1, pos, pos, by go_num, rfl, rfl, hit2, hbw2, ⟨by simpa using HF.out⟩, by omega, by omega, by omega, by omega, by omega⟩
          case measure => rw [HW.iterPos_at hit2, HW.iterPos_at HI.out]; omega
        · have e2 : ((p : Int) == b) = false := by rw [beq_eq_false_iff_ne]; exact h2
          rw [if_neg h2] at hfr'
          have HF := Aside0.mk hfr'
          clear hfr' h1 h2
          go_wp2
          go_roundw
          case rel => exact ⟨pos + d, f, p + 1, pos, y, by go_num, rfl, rfl, hit2, hbw2, ⟨by simpa using HF.out⟩, by omega, by omega, by omega, by omega, by omega⟩
          case measure => rw [HW.iterPos_at hit2, HW.iterPos_at HI.out]; omega
      · have e1 : ((p : Int) == if a < 0 then 0 else a) = false := by rw [mx_max, beq_eq_false_iff_ne]; exact h1
        rw [if_neg h1] at hfr'
        by_cases h2 : (p : Int) = b
        · have e2 : ((p : Int) == b) = true := by rw [beq_iff_eq]; exact h2
          rw [if_pos h2] at hfr'
          have HF := Aside0.mk hfr'
          clear hfr' h1 h2
          go_wp2
          go_roundw
          case rel => exact ⟨pos + d, f, p + 1, x, pos, by go_num, rfl, rfl, hit2, hbw2, ⟨by simpa using HF.out⟩, by omega, by omega, by omega, by omega, by omega⟩
          case measure => rw [HW.iterPos_at hit2, HW.iterPos_at HI.out]; omega
        · have e2 : ((p : Int) == b) = false := by rw [beq_eq_false_iff_ne]; exact h2
          rw [if_neg h2] at hfr'
          have HF := Aside0.mk hfr'
          clear hfr' h1 h2
          go_wp2
          go_roundw
          case rel => exact ⟨pos + d, f, p + 1, x, y, by go_num, rfl, rfl, hit2, hbw2, ⟨by simpa using HF.out⟩, by omega, by omega, by omega, by omega, by omega⟩
          case measure => rw [HW.iterPos_at hit2, HW.iterPos_at HI.out]; omega
    · have hnx : ∀ ty, (Instr.next (.pointer (some ⟨w1.heap.size, 0, none⟩)) true ty).run Try.prog wr = _ := fun ty => Lib.run_next_end_at wr w1.heap.size s pos ty hit hp
      have hfin : HPure.cutAt s a b = (x, y) := by rw [← hfr.out, HPure.cutFrom_end s a b fuel pos p x y hp]
      have hno := HNO.out
      have hyes := HYES.out
      rw [hfin] at hno hyes
      clear hfr hfin
      by_cases h3 : y < x
      · have e3 : decide (y < x) = true := decide_eq_true h3
        have e3' : decide ((y : Int) < (x : Int)) = true := decide_eq_true (by omega)
        obtain rfl := hno (.inl h3)
        clear hno hyes h3
        go_wp2
        go_ret
        exact ⟨by simp, hbw⟩
      · have e3 : decide (y < x) = false := decide_eq_false h3
        have e3' : decide ((y : Int) < (x : Int)) = false := decide_eq_false (by omega)
        by_cases h4 : b ≤ 0
        · have e4 : decide (b ≤ 0) = true := decide_eq_true h4
          obtain rfl := hno (.inr h4)
          clear hno hyes
          go_wp2
          go_ret
          exact ⟨by simp, hbw⟩
        · have e4 : decide (b ≤ 0) = false := decide_eq_false h4
          have hR := hyes (by simp; omega)
          have HR := Aside0.mk hR
          clear hno hyes hR
          go_wp2
          go_ret
          exact ⟨by rw [HR.out]; simp, hbw⟩
set_option maxHeartbeats 400000 in
theorem chars_Cut.walk_ge (s : ByteArray) (a b : Int) (w : World) (hab : b ≤ a) :
    Calls Try.prog 23 #[.string s, .int .i64 a, .int .i64 b] w fun e w' => e = .returned (.string ⟨#[]⟩) ∧ Below w.heap.size w w' := by
  have c0 : decide (b ≤ a) = true := decide_eq_true hab
  go_enter Try.func23, Try.ntmps23
  go_wp2
  go_ret
  exact ⟨by simp, Below.refl _ _⟩
set_option maxHeartbeats 400000 in
theorem chars_Cut.walk_no (s : ByteArray) (a b : Int) (w : World) (hab : a < b) (ht : chars_IsText.f s = some false) :
    Calls Try.prog 23 #[.string s, .int .i64 a, .int .i64 b] w fun e w' => e = .returned (.string ⟨#[]⟩) ∧ Below w.heap.size w w' := by
  have HT := Aside0.mk ht
  clear ht
  have c0 : decide (b ≤ a) = false := decide_eq_false (by omega)
  go_enter Try.func23, Try.ntmps23
  go_wp2_with (go_at_call 28; refine (chars_IsText.calls _ _ _ HT.out).mono ?_; rintro e w1 ⟨rfl, hb1⟩)
  go_ret
  exact ⟨by simp, hb1⟩
theorem chars_Cut.calls (a0 : ByteArray) (a1 : Int) (a2 : Int) (r : ByteArray) (w : World) (h : chars_Cut.f a0 a1 a2 = some r) :
    Calls Try.prog 23 #[.string a0, .int .i64 a1, .int .i64 a2] w fun e w' => e = .returned (.string r) ∧ Below w.heap.size w w' := by
  unfold chars_Cut.f at h
  split at h
  · rename_i hs
    have hr := Option.some.inj h
    have e : chars_IsText.f a0 = some (HPure.isText a0) := by unfold chars_IsText.f; rw [if_pos hs]
    unfold HPure.cut at hr
    by_cases hab : a2 ≤ a1
    · rw [if_pos (.inl hab)] at hr
      subst hr
      exact chars_Cut.walk_ge a0 a1 a2 w hab
    · cases ht : HPure.isText a0
      · rw [if_pos (.inr ht)] at hr
        subst hr
        rw [ht] at e
        exact chars_Cut.walk_no a0 a1 a2 w (by omega) e
      · rw [if_neg (by rw [ht]; simp; omega)] at hr
        rw [ht] at e
        refine chars_Cut.walk a0 a1 a2 w hs (by omega) e r ?_ ?_
        · intro h1; rw [if_pos h1] at hr; exact hr.symm
        · intro h1; rw [if_neg h1] at hr; exact hr.symm
  · cases h


end Go.Proofs.Ytjhnmclancbilaa.Q
