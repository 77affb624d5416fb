/- Walks of functions, each against a plain Lean function: written by this session's program wip/hand.py, which runs the kit's print with this session's own contracts put in. -/
import Derived.Test.YtjhnmclancbilaaQx0
import Derived.Test.YtjhnmclancbilaaQx4
import Derived.Test.YtjhnmclancbilaaQx5
namespace Go.Proofs.Ytjhnmclancbilaa.Q
open Go.RowKit Go.Proofs.YtjhnmclancbilaaW.PrintWords Go.Proofs.YtjhnmclancbilaaW.PrintLast Go.Proofs.YtjhnmclancbilaaW.PrintMore
attribute [local go_sem] max2_int min2_int max_two min_two max_three min_three max_four min_four   -- for this text's walks alone
set_option linter.unusedVariables false
set_option linter.unusedSimpArgs false

-- HAND: function 19, by this session's own text
theorem drop_rd (l : List Int) (k : Nat) (h : k < l.length) : l.drop k = rd l (k : Int) :: l.drop (k + 1) := by
  rw [List.drop_eq_getElem_cons h]
  simp [rd, List.getD_eq_getElem?_getD, h]
def chars_From.f (l0 : List Int) : Option (ByteArray × Int) := if l0.length ≤ 8796093022208 then (if l0.all HPure.isChar = true then some (HPure.encode l0, 0) else some (⟨#[]⟩, 10)) else none
set_option maxHeartbeats 400000 in
set_option maxRecDepth 1000000 in
theorem chars_From.walk (A0 : Option Addr) (c0 : Nat) (l0 : List Int) (w : World) (hr0 : Kd.C (Kd.int .i64) w A0 l0.length l0) (hl : l0.length ≤ 8796093022208) (T : ByteArray) (E : Int) (hno : l0.all HPure.isChar = false → T = ⟨#[]⟩ ∧ E = 10) (hyes : l0.all HPure.isChar = true → T = HPure.encode l0 ∧ E = 0) :
    Calls Try.prog 19 #[.slice A0 l0.length c0] w fun e w' => e = .returned (.tuple #[.string T, .int .i64 E]) ∧ Below w.heap.size w w' := by
  have HR0 := Aside0.mk hr0
  have HNO := Aside0.mk hno
  have HYES := Aside0.mk hyes
  clear hr0 hno hyes
  go_enter Try.func19, Try.ntmps19
  go_wp2
  go_loopw [9] (fun i wr => ∃ (k : Nat) (acc : List UInt8), i = .int .i64 k ∧ k ≤ l0.length ∧ Lib.IsBuilderF 52 5 w.heap.size w.heap.size (Lib.byteCells acc) wr ∧ Below w.heap.size w wr ∧ Aside0 (acc ++ (l0.drop k).flatMap Lib.encodeRune = l0.flatMap Lib.encodeRune) ∧ Aside0 ((l0.drop k).all HPure.isChar = l0.all HPure.isChar) ∧ acc.length ≤ 4 * k) (fun i _ => l0.length - (intOf i).toNat)
  case atStart =>
    exact ⟨0, [], rfl, Nat.zero_le _, (Lib.IsBuilderF.of (Lib.fresh_isBuilder 52 5 w)), (Below.refl _ w).alloc (Nat.le_refl _) _, ⟨rfl⟩, ⟨rfl⟩, by simp⟩
  case round =>
    obtain ⟨k, acc, rfl, hk, hI, hbw, hacc, hall, hal⟩ := hrel
    by_cases hlt : k < l0.length
    · obtain ⟨ad, e1, hcell⟩ := Kd.at_int HR0.out (k : Int) (by omega) (by omega)
      cases e1
      replace hcell := (hbw.cell (World.block_lt_of_cell? w _ hcell)).trans hcell
      rw [Int.toNat_natCast] at hcell
      have hd := drop_rd l0 k hlt
      have hac' := hacc.out
      have hall' := hall.out
      clear hacc hall
      rw [hd] at hac' hall'
      simp only [List.flatMap_cons, List.all_cons] at hac' hall'
      clear hd
      generalize hx : rd l0 (k : Int) = x at hac' hall' hcell
      clear hx
      have hch := chars_isChar_ok x
      by_cases hn : x < 0
      · have hfin : T = ⟨#[]⟩ ∧ E = 10 := HNO.out (by rw [← hall']; have : HPure.isChar x = false := (by unfold HPure.isChar; simp; omega); rw [this]; rfl)
        have c1 : decide (x < 0) = true := decide_eq_true hn
        have HF := Aside0.mk hfin
        clear hfin hac' hall' hch hn
        go_wp2
        go_ret2
        obtain ⟨rfl, rfl⟩ := HF.out
        exact ⟨by simp, hbw⟩
      · have c1 : decide (x < 0) = false := decide_eq_false hn
        by_cases hm : (1114111 : Int) < x
        · have hfin : T = ⟨#[]⟩ ∧ E = 10 := HNO.out (by rw [← hall']; have : HPure.isChar x = false := (by unfold HPure.isChar; simp; omega); rw [this]; rfl)
          have c2 : decide ((1114111 : Int) < x) = true := decide_eq_true hm
          have HF := Aside0.mk hfin
          clear hfin hac' hall' hch hn hm
          go_wp2
          go_ret2
          obtain ⟨rfl, rfl⟩ := HF.out
          exact ⟨by simp, hbw⟩
        · have c2 : decide ((1114111 : Int) < x) = false := decide_eq_false hm
          cases hb : HPure.isChar x
          · have hfin : T = ⟨#[]⟩ ∧ E = 10 := HNO.out (by rw [← hall', hb]; rfl)
            rw [hb] at hch
            have HC := Aside0.mk hch
            have HF := Aside0.mk hfin
            clear hfin hac' hall' hch hb
            go_wp2_with (first | (go_at_call 41; refine (chars_isChar.calls 3 _ _ _ HC.out).mono ?_; rintro e w' ⟨rfl, ⟨nd, rfl⟩⟩))
            go_ret2
            obtain ⟨rfl, rfl⟩ := HF.out
            exact ⟨by simp, pw_below_drewN hbw _⟩
          · rw [hb] at hch hall'
            rw [Bool.true_and] at hall'
            have HC := Aside0.mk hch
            have HA := Aside0.mk hall'
            have HE : Aside0 ((acc ++ Lib.encodeRune x) ++ (l0.drop (k + 1)).flatMap Lib.encodeRune = l0.flatMap Lib.encodeRune) := ⟨by rw [← hac', List.append_assoc]⟩
            clear hac' hall' hch hb
            go_wp2_with (first | (go_at_call 41; refine (chars_isChar.calls 3 _ _ _ HC.out).mono ?_; rintro e w' ⟨rfl, ⟨nd, rfl⟩⟩) | (go_at_call 42; refine (Try.Builder_WriteRune_k w.heap.size w.heap.size _ x (by omega) (by omega) _ (show Lib.IsBuilderF _ _ _ _ _ (World.drewN wr nd) from hI) (by rw [Lib.byteCells_length]; omega) hbw.size).mono ?_; rintro e w2 ⟨rfl, h1, b1, k1⟩))
            go_roundw
            case rel =>
              have hl4 := Lib.runeCells_le x
              rw [Lib.runeCells_length] at hl4
              exact ⟨k + 1, acc ++ Lib.encodeRune x, by go_num, by omega, (by rw [Lib.byteCells_append, Lib.byteCells_encodeRune]; exact Or.inr h1), (pw_below_drewN hbw _).trans b1, HE, HA, by simp; omega⟩
            case measure => simp [intOf]; omega
    · have hk2 : k = l0.length := by omega
      have hac' := hacc.out
      have hall' := hall.out
      rw [List.drop_of_length_le (by omega)] at hac' hall'
      rw [List.flatMap_nil, List.append_nil] at hac'
      have hfin : T = HPure.encode l0 ∧ E = 0 := HYES.out (by rw [← hall']; rfl)
      have HF := Aside0.mk hfin
      have HA := Aside0.mk hac'
      clear hac' hall' hacc hall hfin hk2
      go_wp2_with (go_at_call 43; refine (Try.Builder_String_any_k w.heap.size w.heap.size acc _ hI hbw.size).mono ?_; rintro e w2 ⟨rfl, _, b1, _⟩)
      go_ret2
      obtain ⟨rfl, rfl⟩ := HF.out
      exact ⟨by rw [HA.out]; simp [HPure.encode], hbw.trans b1⟩
theorem chars_From.calls (A0 : Option Addr) (c0 : Nat) (l0 : List Int) (r1 : ByteArray) (r2 : Int) (w : World) (hr0 : Kd.C (Kd.int .i64) w A0 l0.length l0) (hc0 : l0.length ≤ c0) (h : chars_From.f l0 = some (r1, r2)) :
    Calls Try.prog 19 #[.slice A0 l0.length c0] w fun e w' => e = .returned (.tuple #[.string r1, .int .i64 r2]) ∧ Below w.heap.size w w' := by
  unfold chars_From.f at h
  split at h
  · rename_i hs
    refine chars_From.walk A0 c0 l0 w hr0 hs r1 r2 ?_ ?_
    · intro e
      rw [if_neg (by rw [e]; simp)] at h
      simp only [Option.some.injEq, Prod.mk.injEq] at h
      exact ⟨h.1.symm, h.2.symm⟩
    · intro e
      rw [if_pos e] at h
      simp only [Option.some.injEq, Prod.mk.injEq] at h
      exact ⟨h.1.symm, h.2.symm⟩
  · cases h


end Go.Proofs.Ytjhnmclancbilaa.Q
