/- Walks of functions, each against a plain Lean function: written by this session's program wip/hand.py, which runs the kit's print with this session's own contracts put in. -/
import Derived.Test.YtjhnmclancbilaaQx0
import Derived.Test.YtjhnmclancbilaaQx4
namespace Go.Proofs.Ytjhnmclancbilaa.Q
open Go.RowKit Go.Proofs.YtjhnmclancbilaaW.PrintWords Go.Proofs.YtjhnmclancbilaaW.PrintLast Go.Proofs.YtjhnmclancbilaaW.PrintMore
attribute [local go_sem] max2_int min2_int max_two min_two max_three min_three max_four min_four   -- for this text's walks alone
set_option linter.unusedVariables false
set_option linter.unusedSimpArgs false

-- HAND: function 28, by this session's own text

/-- isChar, decided. -/
theorem chars_isChar_ok (c : Int) : chars_isChar.f 3 c = some (HPure.isChar c) := by
  unfold chars_isChar.f
  simp only [chars_isChar.j0, chars_isChar.j1, HPure.isChar]
  by_cases h9 : c = 9
  · subst h9; rfl
  by_cases h10 : c = 10
  · subst h10; rfl
  by_cases h13 : c = 13
  · subst h13; rfl
  have e9 : (c == 9) = false := beq_eq_false_iff_ne.2 h9
  have e10 : (c == 10) = false := beq_eq_false_iff_ne.2 h10
  have e13 : (c == 13) = false := beq_eq_false_iff_ne.2 h13
  simp only [if_neg h9, if_neg h10, e9, e10, e13, Bool.false_or, Bool.false_eq_true, if_false, ge_iff_le]
  repeat' split
  all_goals simp_all
  all_goals omega
theorem hasPrefix_bad (s : ByteArray) (i : Nat) (hi : i ≤ s.size) : strings_HasPrefix.f (s.extract i s.size) ⟨#[239, 191, 189]⟩ = some (HPure.isBad s i) := by
  unfold strings_HasPrefix.f stringslite_HasPrefix.f HPure.isBad
  have hz : (s.extract i s.size).size = s.size - i := by rw [← Plain.size_data, Lib.extract_to_end]; simp
  have h3 : ((⟨#[239, 191, 189]⟩ : ByteArray).size : Int) = 3 := rfl
  rw [h3, hz]
  by_cases h : i + 3 ≤ s.size
  · rw [if_pos (by omega), if_pos (by omega), if_pos (by omega), Option.bind_some, decide_eq_true h, Bool.true_and]
    have e1 : ((s.extract i s.size).extract 0 (3 : Int).toNat).toList = [s.get! i, s.get! (i + 1), s.get! (i + 2)] := by
      rw [Lib.toList_data, Lib.extract_data, Lib.extract_to_end]
      have gg : ∀ j, s.get! j = s.data.toList[j]?.getD 0 := by
        intro j
        rw [← Plain.mk_get, Plain.mk_data]
      have := Plain.take_of_get s.data.toList i 3 (by rw [Plain.size_data]; omega) (by omega)
      rw [this, gg i, gg (i + 1), gg (i + 2)]
      rfl
    have e2 : (⟨#[239, 191, 189]⟩ : ByteArray).toList = [239, 191, 189] := by rw [Lib.toList_data]
    rw [e1, e2]
    simp [Bool.and_assoc]
  · rw [if_neg (by omega), decide_eq_false h]
    rfl
def chars_IsText.f (a0 : ByteArray) : Option (Bool) := if a0.size ≤ 140737488355328 then some (HPure.isText a0) else none
set_option maxHeartbeats 400000 in
set_option maxRecDepth 100000 in
theorem chars_IsText.walk (s : ByteArray) (w : World) (hs : s.size ≤ 140737488355328) :
    Calls Try.prog 28 #[.string s] w fun e w' => e = .returned (.bool (HPure.isText s)) ∧ Below w.heap.size w w' := by
  go_enter Try.func28, Try.ntmps28
  go_wp2
  go_loopw [] (fun wr => ∃ (pos fuel : Nat), wr.heap[w.heap.size]? = some (.stringIter s pos) ∧ Below w.heap.size w wr ∧ Aside0 (HPure.isTextFrom s fuel pos = HPure.isText s) ∧ s.size ≤ pos + fuel) (fun wr => s.size - wr.iterPos w.heap.size)
  case atStart =>
    exact ⟨0, s.size, World.iter_heap w s 0, (Below.refl _ w).alloc (Nat.le_refl _) _, ⟨rfl⟩, by omega⟩
  case round =>
    obtain ⟨pos, fuel, hit, hbw, hfr, hfu⟩ := hrel
    have hsz : w.heap.size < wr.heap.size := (Array.getElem?_eq_some_iff.1 hit).1
    by_cases hp : pos < s.size
    · have hnx : ∀ ty, (Instr.next (.pointer (some ⟨w.heap.size, 0, none⟩)) true ty).run Try.prog wr = _ := fun ty => Lib.run_next_any_at wr w.heap.size s pos ty hit hp
      have hwd := Lib.decode_width_pos s pos hp
      have hit2 := Lib.iterAt_heap wr w.heap.size s pos (pos + (Utf8.decode s pos).2) hit
      have hbw2 := Lib.below_iterAt hbw (k := w.heap.size) (Nat.le_refl _) s (pos + (Utf8.decode s pos).2)
      obtain ⟨f, rfl⟩ : ∃ f, fuel = f + 1 := ⟨fuel - 1, by omega⟩
      have hfr' := hfr.out
      have HI := Aside0.mk hit
      clear hfr hit hbw
      simp only [HPure.isTextFrom, if_pos hp] at hfr'
      have hch := chars_isChar_ok ((Utf8.decode s pos).1 : Int)
      have hbd := hasPrefix_bad s pos (by omega)
      generalize HPure.isChar ((Utf8.decode s pos).1 : Int) = b1 at hch hfr'
      generalize HPure.isBad s pos = b2 at hbd hfr'
      generalize hc : (Utf8.decode s pos).1 = c at hch hfr' hnx
      generalize hd : (Utf8.decode s pos).2 = d at hfr' hnx hwd hit2 hbw2
      clear hc hd
      have HC := Aside0.mk hch
      have HD := Aside0.mk hbd
      clear hch hbd
      generalize hW : wr.iterAt w.heap.size s (pos + d) = W at hnx hit2 hbw2
      clear hW
      cases b1
      · have hfin : false = HPure.isText s := by simpa using hfr'
        clear hfr'
        have HF := Aside0.mk hfin
        clear hfin
        go_wp2_with (first | (go_at_call 41; refine (chars_isChar.calls 3 _ _ _ HC.out).mono ?_; rintro e w' ⟨rfl, ⟨nd, rfl⟩⟩))
        go_ret
        exact ⟨by rw [← HF.out]; simp, pw_below_drewN hbw2 _⟩
      · by_cases h65 : c = 65533
        · have e65 : ((c : Int) == 65533) = true := by rw [beq_iff_eq]; omega
          have f65 : (c == 65533) = true := by rw [beq_iff_eq]; omega
          clear h65
          rw [f65] at hfr'
          clear f65
          cases b2
          · have hfin : false = HPure.isText s := by simpa using hfr'
            clear hfr'
            have HF := Aside0.mk hfin
            clear hfin
            go_wp2_with (first | (go_at_call 41; refine (chars_isChar.calls 3 _ _ _ HC.out).mono ?_; rintro e w' ⟨rfl, ⟨nd, rfl⟩⟩) | (go_at_call 50; refine (strings_HasPrefix.calls _ _ _ _ HD.out).mono ?_; rintro e w' ⟨rfl, ⟨nd2, rfl⟩⟩))
            go_ret
            exact ⟨by rw [← HF.out]; simp, pw_below_drewN hbw2 _⟩
          · have hfin : HPure.isTextFrom s f (pos + d) = HPure.isText s := by simpa using hfr'
            clear hfr'
            have HF := Aside0.mk hfin
            clear hfin
            go_wp2_with (first | (go_at_call 41; refine (chars_isChar.calls 3 _ _ _ HC.out).mono ?_; rintro e w' ⟨rfl, ⟨nd, rfl⟩⟩) | (go_at_call 50; refine (strings_HasPrefix.calls _ _ _ _ HD.out).mono ?_; rintro e w' ⟨rfl, ⟨nd2, rfl⟩⟩))
            go_roundw
            case rel => exact ⟨pos + d, f, hit2, pw_below_drewN hbw2 _, HF, by omega⟩
            case measure => rw [HW.iterPos_drewN, HW.iterPos_at hit2, HW.iterPos_at HI.out]; omega
        · have e65 : ((c : Int) == 65533) = false := by rw [beq_eq_false_iff_ne]; omega
          have f65 : (c == 65533) = false := by rw [beq_eq_false_iff_ne]; omega
          clear h65
          rw [f65] at hfr'
          clear f65
          have hfin : HPure.isTextFrom s f (pos + d) = HPure.isText s := by simpa using hfr'
          clear hfr'
          have HF := Aside0.mk hfin
          clear hfin
          go_wp2_with (first | (go_at_call 41; refine (chars_isChar.calls 3 _ _ _ HC.out).mono ?_; rintro e w' ⟨rfl, ⟨nd, rfl⟩⟩) | (go_at_call 50; refine (strings_HasPrefix.calls _ _ _ _ HD.out).mono ?_; rintro e w' ⟨rfl, ⟨nd2, rfl⟩⟩))
          go_roundw
          case rel => exact ⟨pos + d, f, hit2, pw_below_drewN hbw2 _, HF, by omega⟩
          case measure => rw [HW.iterPos_drewN, HW.iterPos_at hit2, HW.iterPos_at HI.out]; omega
    · have hnx : ∀ ty, (Instr.next (.pointer (some ⟨w.heap.size, 0, none⟩)) true ty).run Try.prog wr = _ := fun ty => Lib.run_next_end_at wr w.heap.size s pos ty hit hp
      have hfin : true = HPure.isText s := by rw [← hfr.out, HPure.isTextFrom_end s fuel pos hp]
      clear hfr
      have HF := Aside0.mk hfin
      clear hfin
      go_wp2
      go_ret
      exact ⟨by rw [← HF.out]; simp, hbw⟩
theorem chars_IsText.calls (a0 : ByteArray) (r : Bool) (w : World) (h : chars_IsText.f a0 = some r) :
    Calls Try.prog 28 #[.string a0] w fun e w' => e = .returned (.bool r) ∧ Below w.heap.size w w' := by
  unfold chars_IsText.f at h
  split at h
  · rename_i hs
    obtain rfl := Option.some.inj h
    exact chars_IsText.walk a0 w hs
  · cases h


end Go.Proofs.Ytjhnmclancbilaa.Q
