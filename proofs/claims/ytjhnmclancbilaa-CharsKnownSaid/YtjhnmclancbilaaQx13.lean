/- Walks of functions, each against a plain Lean function: written by this session's program wip/hand.py, which runs the kit's print with this session's own contracts put in. -/
import Derived.Test.YtjhnmclancbilaaQx0
import Derived.Test.YtjhnmclancbilaaQx12
namespace Go.Proofs.Ytjhnmclancbilaa.Q
open Go.RowKit Go.Proofs.YtjhnmclancbilaaW.PrintWords Go.Proofs.YtjhnmclancbilaaW.PrintLast Go.Proofs.YtjhnmclancbilaaW.PrintMore
attribute [local go_sem] max2_int min2_int max_two min_two max_three min_three max_four min_four   -- for this text's walks alone
set_option linter.unusedVariables false
set_option linter.unusedSimpArgs false

-- HAND: function 47, by this session's own text

/-- isLetter, decided. -/
theorem chars_isLetter_ok (c : Int) : chars_isLetter.f c = some (HPure.isLetter c) := by
  unfold chars_isLetter.f HPure.isLetter
  repeat' split
  all_goals first | (simp_all; done) | (simp_all; omega) | (rename_i h95 h192 h215; have e1 : (c == 95) = false := (beq_eq_false_iff_ne.2 h95); have e2 : (c != 215) = true := (bne_iff_ne.2 h215); have e3 : decide (c ≤ 122) = false := (by simp; omega); have e4 : decide (c ≤ 90) = false := (by simp; omega); have e5 : decide (192 ≤ c) = true := (by simp; omega); simp only [e1, e2, e3, e4, e5]; simp) | skip
theorem inPart_no (pos : Nat) (c : Int) (h1 : ¬ HPure.isLetter c = true) (h2 : pos = 0 ∨ (c ≠ 45 ∧ c ≠ 46 ∧ c ≠ 183 ∧ (c < 48 ∨ 57 < c))) : HPure.inPart (pos == 0) c = false := by
  unfold HPure.inPart
  rw [Bool.eq_false_iff.2 h1]
  rcases h2 with h2 | ⟨h45, h46, h183, hd⟩
  · subst h2; rfl
  · rw [beq_eq_false_iff_ne.2 h45, beq_eq_false_iff_ne.2 h46, beq_eq_false_iff_ne.2 h183]
    have : (decide (48 ≤ c) && decide (c ≤ 57)) = false := by simp; omega
    rw [this]; simp
theorem inPart_yes (pos : Nat) (c : Int) (h : HPure.isLetter c = true ∨ (¬ pos = 0 ∧ (c = 45 ∨ c = 46 ∨ c = 183 ∨ (48 ≤ c ∧ c ≤ 57)))) : HPure.inPart (pos == 0) c = true := by
  unfold HPure.inPart
  rcases h with h | ⟨h0, h⟩
  · rw [h]; rfl
  · have e0 : (pos == 0) = false := beq_eq_false_iff_ne.2 h0
    rw [e0]
    rcases h with h | h | h | ⟨h1, h2⟩
    · subst h; simp
    · subst h; simp
    · subst h; simp
    · have : (decide (48 ≤ c) && decide (c ≤ 57)) = true := by simp; omega
      rw [this]; simp
def chars_isNamePart.f (a0 : ByteArray) : Option (Bool) := if a0.size ≤ 140737488355328 then some (HPure.isNamePart a0) else none
set_option maxHeartbeats 400000 in
set_option maxRecDepth 1000000 in
theorem chars_isNamePart.walk (s : ByteArray) (w : World) (hs : s.size ≤ 140737488355328) :
    Calls Try.prog 47 #[.string s] w fun e w' => e = .returned (.bool (HPure.isNamePart s)) ∧ Below w.heap.size w w' := by
  go_enter Try.func47, Try.ntmps47
  go_wp2
  go_loopw [] (fun wr => ∃ (pos fuel : Nat), wr.heap[w.heap.size]? = some (.stringIter s pos) ∧ Below w.heap.size w wr ∧ Aside0 (HPure.isNamePartFrom s fuel pos = HPure.isNamePartFrom s s.size 0) ∧ s.size ≤ pos + fuel) (fun wr => s.size - wr.iterPos w.heap.size)
  case atStart =>
    exact ⟨0, s.size, World.iter_heap w s 0, (Below.refl _ w).alloc (Nat.le_refl _) _, ⟨rfl⟩, by omega⟩
  case round =>
    obtain ⟨pos, fuel, hit, hbw, hfr, hfu⟩ := hrel
    have hsz : w.heap.size < wr.heap.size := (Array.getElem?_eq_some_iff.1 hit).1
    by_cases hp : pos < s.size
    · have hnx : ∀ ty, (Instr.next (.pointer (some ⟨w.heap.size, 0, none⟩)) true ty).run Try.prog wr = _ := fun ty => Lib.run_next_any_at wr w.heap.size s pos ty hit hp
      have hwd := Lib.decode_width_pos s pos hp
      have hit2 := Lib.iterAt_heap wr w.heap.size s pos (pos + (Utf8.decode s pos).2) hit
      have hbw2 := Lib.below_iterAt hbw (k := w.heap.size) (Nat.le_refl _) s (pos + (Utf8.decode s pos).2)
      obtain ⟨f, rfl⟩ : ∃ f, fuel = f + 1 := ⟨fuel - 1, by omega⟩
      have hfr' := hfr.out
      have HI := Aside0.mk hit
      clear hfr hit hbw
      simp only [HPure.isNamePartFrom, if_pos hp] at hfr'
      have HP := Aside0.mk hfr'
      clear hfr'
      have hch := chars_isLetter_ok ((Utf8.decode s pos).1 : Int)
      generalize hc : (Utf8.decode s pos).1 = c at hch HP hnx
      generalize hd : (Utf8.decode s pos).2 = d at HP hnx hwd hit2 hbw2
      clear hc hd
      have HC := Aside0.mk hch
      clear hch
      generalize hW : wr.iterAt w.heap.size s (pos + d) = W at hnx hit2 hbw2
      clear hW
      cases hl : HPure.isLetter (c : Int)
      · have hnl : ¬ HPure.isLetter (c : Int) = true := by rw [hl]; simp
        rw [hl] at HC
        clear hl
        by_cases h0 : pos = 0
        · have e0 : ((pos : Int) == 0) = true := by rw [beq_iff_eq]; omega
          have hb := inPart_no pos (c : Int) hnl (.inl h0)
          have hf := HP.out
          rw [hb] at hf
          have hf2 : HPure.isNamePart s = false := by unfold HPure.isNamePart; rw [← hf]; rfl
          have HF := Aside0.mk hf2
          clear hf hb hf2 h0 hnl
          go_wp2_with (first | (go_at_call 62; refine (chars_isLetter.calls _ _ _ HC.out).mono ?_; rintro e w' ⟨rfl, ⟨nd, rfl⟩⟩))
          go_ret
          exact ⟨by rw [HF.out]; simp, pw_below_drewN hbw2 _⟩
        · have e0 : ((pos : Int) == 0) = false := by rw [beq_eq_false_iff_ne]; omega
          by_cases h45 : (c : Int) = 45
          · have n45 : ((c : Int) != 45) = false := bne_eq_false_iff_eq.mpr h45
            have hb := inPart_yes pos (c : Int) (.inr ⟨h0, .inl h45⟩)
            have hf := HP.out
            rw [hb, if_pos rfl] at hf
            have HF := Aside0.mk hf
            clear hf hb h0 hnl h45
            go_wp2_with (first | (go_at_call 62; refine (chars_isLetter.calls _ _ _ HC.out).mono ?_; rintro e w' ⟨rfl, ⟨nd, rfl⟩⟩))
            go_roundw
            case rel => exact ⟨pos + d, f, hit2, pw_below_drewN hbw2 _, HF, by omega⟩
            case measure => rw [HW.iterPos_drewN, HW.iterPos_at hit2, HW.iterPos_at HI.out]; omega
          · have n45 : ((c : Int) != 45) = true := bne_iff_ne.mpr h45
            by_cases h46 : (c : Int) = 46
            · have n46 : ((c : Int) != 46) = false := bne_eq_false_iff_eq.mpr h46
              have hb := inPart_yes pos (c : Int) (.inr ⟨h0, .inr (.inl h46)⟩)
              have hf := HP.out
              rw [hb, if_pos rfl] at hf
              have HF := Aside0.mk hf
              clear hf hb h0 hnl h45 h46
              go_wp2_with (first | (go_at_call 62; refine (chars_isLetter.calls _ _ _ HC.out).mono ?_; rintro e w' ⟨rfl, ⟨nd, rfl⟩⟩))
              go_roundw
              case rel => exact ⟨pos + d, f, hit2, pw_below_drewN hbw2 _, HF, by omega⟩
              case measure => rw [HW.iterPos_drewN, HW.iterPos_at hit2, HW.iterPos_at HI.out]; omega
            · have n46 : ((c : Int) != 46) = true := bne_iff_ne.mpr h46
              by_cases h183 : (c : Int) = 183
              · have n183 : ((c : Int) != 183) = false := bne_eq_false_iff_eq.mpr h183
                have hb := inPart_yes pos (c : Int) (.inr ⟨h0, .inr (.inr (.inl h183))⟩)
                have hf := HP.out
                rw [hb, if_pos rfl] at hf
                have HF := Aside0.mk hf
                clear hf hb h0 hnl h45 h46 h183
                go_wp2_with (first | (go_at_call 62; refine (chars_isLetter.calls _ _ _ HC.out).mono ?_; rintro e w' ⟨rfl, ⟨nd, rfl⟩⟩))
                go_roundw
                case rel => exact ⟨pos + d, f, hit2, pw_below_drewN hbw2 _, HF, by omega⟩
                case measure => rw [HW.iterPos_drewN, HW.iterPos_at hit2, HW.iterPos_at HI.out]; omega
              · have n183 : ((c : Int) != 183) = true := bne_iff_ne.mpr h183
                by_cases h48 : (c : Int) < 48
                · have l48 : decide ((c : Int) < 48) = true := decide_eq_true h48
                  have hb := inPart_no pos (c : Int) hnl (.inr ⟨h45, h46, h183, .inl h48⟩)
                  have hf := HP.out
                  rw [hb] at hf
                  have hf2 : HPure.isNamePart s = false := by unfold HPure.isNamePart; rw [← hf]; rfl
                  have HF := Aside0.mk hf2
                  clear hf hb hf2 h0 hnl h45 h46 h183 h48
                  go_wp2_with (first | (go_at_call 62; refine (chars_isLetter.calls _ _ _ HC.out).mono ?_; rintro e w' ⟨rfl, ⟨nd, rfl⟩⟩))
                  go_ret
                  exact ⟨by rw [HF.out]; simp, pw_below_drewN hbw2 _⟩
                · have l48 : decide ((c : Int) < 48) = false := decide_eq_false h48
                  by_cases h57 : (57 : Int) < (c : Int)
                  · have l57 : decide ((57 : Int) < (c : Int)) = true := decide_eq_true h57
                    have hb := inPart_no pos (c : Int) hnl (.inr ⟨h45, h46, h183, .inr h57⟩)
                    have hf := HP.out
                    rw [hb] at hf
                    have hf2 : HPure.isNamePart s = false := by unfold HPure.isNamePart; rw [← hf]; rfl
                    have HF := Aside0.mk hf2
                    clear hf hb hf2 h0 hnl h45 h46 h183 h48 h57
                    go_wp2_with (first | (go_at_call 62; refine (chars_isLetter.calls _ _ _ HC.out).mono ?_; rintro e w' ⟨rfl, ⟨nd, rfl⟩⟩))
                    go_ret
                    exact ⟨by rw [HF.out]; simp, pw_below_drewN hbw2 _⟩
                  · have l57 : decide ((57 : Int) < (c : Int)) = false := decide_eq_false h57
                    have hb := inPart_yes pos (c : Int) (.inr ⟨h0, .inr (.inr (.inr ⟨by omega, by omega⟩))⟩)
                    have hf := HP.out
                    rw [hb, if_pos rfl] at hf
                    have HF := Aside0.mk hf
                    clear hf hb h0 hnl h45 h46 h183 h48 h57
                    go_wp2_with (first | (go_at_call 62; refine (chars_isLetter.calls _ _ _ HC.out).mono ?_; rintro e w' ⟨rfl, ⟨nd, rfl⟩⟩))
                    go_roundw
                    case rel => exact ⟨pos + d, f, hit2, pw_below_drewN hbw2 _, HF, by omega⟩
                    case measure => rw [HW.iterPos_drewN, HW.iterPos_at hit2, HW.iterPos_at HI.out]; omega
      · rw [hl] at HC
        have hb := inPart_yes pos (c : Int) (.inl hl)
        have hf := HP.out
        rw [hb, if_pos rfl] at hf
        have HF := Aside0.mk hf
        clear hf hb hl
        go_wp2_with (first | (go_at_call 62; refine (chars_isLetter.calls _ _ _ HC.out).mono ?_; rintro e w' ⟨rfl, ⟨nd, rfl⟩⟩))
        go_roundw
        case rel => exact ⟨pos + d, f, hit2, pw_below_drewN hbw2 _, HF, by omega⟩
        case measure => rw [HW.iterPos_drewN, HW.iterPos_at hit2, HW.iterPos_at HI.out]; omega
    · have hnx : ∀ ty, (Instr.next (.pointer (some ⟨w.heap.size, 0, none⟩)) true ty).run Try.prog wr = _ := fun ty => Lib.run_next_end_at wr w.heap.size s pos ty hit hp
      have hfin : true = HPure.isNamePartFrom s s.size 0 := by rw [← hfr.out, HPure.isNamePartFrom_end s fuel pos hp]
      clear hfr
      have HF := Aside0.mk hfin
      clear hfin
      go_wp2
      go_ret
      refine ⟨?_, hbw⟩
      unfold HPure.isNamePart
      rw [← HF.out]
      rw [HW.notEmpty s]; simp
theorem chars_isNamePart.calls (a0 : ByteArray) (r : Bool) (w : World) (h : chars_isNamePart.f a0 = some r) :
    Calls Try.prog 47 #[.string a0] w fun e w' => e = .returned (.bool r) ∧ Below w.heap.size w w' := by
  unfold chars_isNamePart.f at h
  split at h
  · rename_i hs
    obtain rfl := Option.some.inj h
    exact chars_isNamePart.walk a0 w hs
  · cases h


end Go.Proofs.Ytjhnmclancbilaa.Q
