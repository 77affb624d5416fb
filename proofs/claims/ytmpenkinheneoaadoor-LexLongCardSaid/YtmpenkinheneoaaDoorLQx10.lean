/- Texts of the claim: Qx10, Qx11, Qx12, Qx13, Qx14. -/
import Derived.Test.YtmpenkinheneoaaDoorLQx0
import Derived.Test.YtmpenkinheneoaaDoorLQx5
namespace Go.Proofs.YtmpenkinheneoaaDoor.Q
open Go.RowKit Go.Proofs.YtmpenkinheneoaaDoorW.PrintWords Go.Proofs.YtmpenkinheneoaaDoorW.PrintLast Go.Proofs.YtmpenkinheneoaaDoorW.PrintMore
attribute [local go_sem] max2_int min2_int max_two min_two max_three min_three max_four min_four   -- for this text's walks alone
set_option linter.unusedVariables false
set_option linter.unusedSimpArgs false
-- HAND: function 78, by this session's own text
theorem one_byte (a : ByteArray) (h : a.size = 1) : a = ⟨#[a.get! 0]⟩ := by
 obtain ⟨⟨l⟩⟩ := a
 match l, h with
 | [x], _ => rfl
def stringslite_Index.f (a0 : ByteArray) (a1 : ByteArray) : Option (Int) := if a1.size = 1 then some (Lib.indexByte a0.data.toList (a1.get! 0)) else none
theorem stringslite_Index.calls (a0 : ByteArray) (a1 : ByteArray) (r : Int) (w : World) (h : stringslite_Index.f a0 a1 = some r) :
  Calls Tryd.prog 78 #[.string a0, .string a1] w fun e w' => e = .returned (.int .i64 r) ∧ Below w.heap.size w w' := by
 unfold stringslite_Index.f at h
 split at h
 ·rename_i hs
  obtain rfl := Option.some.inj h
  have hc := Tryd.stringslite_Index_one a0 (a1.get! 0) w
  rw [← one_byte a1 hs] at hc
  refine hc.mono ?_
  rintro e w' ⟨he, rfl⟩
  exact ⟨he, Below.refl _ _⟩
 ·cases h
end Go.Proofs.YtmpenkinheneoaaDoor.Q
namespace Go.Proofs.YtmpenkinheneoaaDoor.Q
open Go.RowKit Go.Proofs.YtmpenkinheneoaaDoorW.PrintWords Go.Proofs.YtmpenkinheneoaaDoorW.PrintLast Go.Proofs.YtmpenkinheneoaaDoorW.PrintMore
attribute [local go_sem] max2_int min2_int max_two min_two max_three min_three max_four min_four   -- for this text's walks alone
set_option linter.unusedVariables false
set_option linter.unusedSimpArgs false
def stringslite_Cut.f (a0 : ByteArray) (a1 : ByteArray) : Option (ByteArray × ByteArray × Bool) := (stringslite_Index.f a0 a1).bind fun t103 => (if t103 ≥ 0 then (if 0 ≤ t103 then (if t103 ≤ (a0.size : Int) then (if 0 ≤ (wrap64 (t103 + (a1.size : Int))) then (if (wrap64 (t103 + (a1.size : Int))) ≤ (a0.size : Int) then (some (a0.extract 0 (t103 : Int).toNat, a0.extract ((wrap64 (t103 + (a1.size : Int))) : Int).toNat a0.size, true)) else (none)) else (none)) else (none)) else (none)) else (some (a0, (⟨#[]⟩ : ByteArray), false)))
set_option maxHeartbeats 8000000 in
set_option maxRecDepth 100000 in
theorem stringslite_Cut.calls (a0 : ByteArray) (a1 : ByteArray) (r1 : ByteArray) (r2 : ByteArray) (r3 : Bool) (w : World) (h : stringslite_Cut.f a0 a1 = some (r1, r2, r3)) :
  Calls Tryd.prog 76 #[.string a0, .string a1] w fun e w' => e = .returned (.tuple #[.string r1, .string r2, .bool r3]) ∧ Below w.heap.size w w' := by
 have HB := Aside0.mk (Below.refl w.heap.size w); (have H : ((stringslite_Index.f a0 a1).bind fun t103 => (if t103 ≥ 0 then (if 0 ≤ t103 then (if t103 ≤ (a0.size : Int) then (if 0 ≤ (wrap64 (t103 + (a1.size : Int))) then (if (wrap64 (t103 + (a1.size : Int))) ≤ (a0.size : Int) then (some (a0.extract 0 (t103 : Int).toNat, a0.extract ((wrap64 (t103 + (a1.size : Int))) : Int).toNat a0.size, true)) else (none)) else (none)) else (none)) else (none)) else (some (a0, (⟨#[]⟩ : ByteArray), false)))) = some (r1, r2, r3) := h); clear h; replace H := Option.bind_eq_some_iff.mp H; obtain ⟨t103, A30, H⟩ := H; replace H : (if t103 ≥ 0 then (if 0 ≤ t103 then (if t103 ≤ (a0.size : Int) then (if 0 ≤ (wrap64 (t103 + (a1.size : Int))) then (if (wrap64 (t103 + (a1.size : Int))) ≤ (a0.size : Int) then (some (a0.extract 0 (t103 : Int).toNat, a0.extract ((wrap64 (t103 + (a1.size : Int))) : Int).toNat a0.size, true)) else (none)) else (none)) else (none)) else (none)) else (some (a0, (⟨#[]⟩ : ByteArray), false))) = some (r1, r2, r3) := H; have A3 := Aside0.mk A30; clear A30; by_cases c4 : t103 ≥ 0
 ·rw [if_pos c4] at H; have c4b0 : decide (0 ≤ t103) = true := decide_eq_true c4; clear c4; by_cases c5 : 0 ≤ t103
  ·rw [if_pos c5] at H; have c5b0 := eq_true c5; have c5b1 : decide (0 ≤ t103) = true := decide_eq_true c5; clear c5; by_cases c6 : t103 ≤ (a0.size : Int)
   ·rw [if_pos c6] at H; have c6b0 := eq_true c6; have c6b1 : decide (t103 ≤ (a0.size : Int)) = true := decide_eq_true c6; clear c6; obtain ⟨ji7, hji7⟩ : ∃ j_ : Int, (wrap64 (t103 + (a1.size : Int))) = j_ := ⟨_, rfl⟩; (replace H : (if 0 ≤ (ji7) then (if (ji7) ≤ (a0.size : Int) then (some (a0.extract 0 (t103 : Int).toNat, a0.extract ((ji7) : Int).toNat a0.size, true)) else (none)) else (none)) = some (r1, r2, r3) := by first | (rw [hji7] at H; exact H) | (simp only [hji7] at H ⊢; exact H)); (try rw [hji7] at A3); have hji7w : (IntKind.i64.wrap (t103 + (a1.size : Int))) = ji7 := (i64_w _).trans hji7; by_cases c8 : 0 ≤ (ji7)
    ·rw [if_pos c8] at H; have c8b0 := eq_true c8; have c8b1 : decide (0 ≤ (ji7)) = true := decide_eq_true c8; clear c8; by_cases c9 : (ji7) ≤ (a0.size : Int)
     ·rw [if_pos c9] at H; have c9b0 := eq_true c9; have c9b1 : decide ((ji7) ≤ (a0.size : Int)) = true := decide_eq_true c9; clear c9; simp only [Option.some.injEq, Prod.mk.injEq] at H; obtain ⟨rfl, rfl, rfl⟩ := H; (go_enter Tryd.func76, Tryd.ntmps76); (go_wp2_with (first | (go_at_call 78; (with_reducible refine (stringslite_Index.calls a0 a1 t103 _ A3.out).mono ?_); rintro e w10 ⟨rfl, hb⟩; have n0_ := Aside0.mk (below_step (by repeat (first | (with_reducible first | exact HB.out | apply below_alloc | apply pw_below_drewN | apply below_drew1) | exact HB.out)) hb); clear HB; have HB := n0_; clear n0_; (try clear hb); (try clear hb2); (try clear hk); (try clear hi)))); (repeat (go_quiet (first | (go_at_call 78; (with_reducible refine (stringslite_Index.calls a0 a1 t103 _ A3.out).mono ?_); rintro e w10 ⟨rfl, hb⟩; have n0_ := Aside0.mk (below_step (by repeat (first | (with_reducible first | exact HB.out | apply below_alloc | apply pw_below_drewN | apply below_drew1) | exact HB.out)) hb); clear HB; have HB := n0_; clear n0_; (try clear hb); (try clear hb2); (try clear hk); (try clear hi))); try go_wp2_with (first | (go_at_call 78; (with_reducible refine (stringslite_Index.calls a0 a1 t103 _ A3.out).mono ?_); rintro e w10 ⟨rfl, hb⟩; have n0_ := Aside0.mk (below_step (by repeat (first | (with_reducible first | exact HB.out | apply below_alloc | apply pw_below_drewN | apply below_drew1) | exact HB.out)) hb); clear HB; have HB := n0_; clear n0_; (try clear hb); (try clear hb2); (try clear hk); (try clear hi))))); (go_ret3); (exact ⟨by first | rfl | (simp [errW_none, errW_some] <;> rfl) | (simp only [← hji7]; first | rfl | (simp [errW_none, errW_some] <;> rfl)) | (simp [*, errW_none, errW_some] <;> rfl), by repeat (first | (with_reducible first | exact HB.out | apply below_alloc | apply pw_below_drewN | apply below_drew1) | exact HB.out)⟩)
     ·rw [if_neg c9] at H; (exact absurd H (by simp))
    ·rw [if_neg c8] at H; (exact absurd H (by simp))
   ·rw [if_neg c6] at H; (exact absurd H (by simp))
  ·rw [if_neg c5] at H; (exact absurd H (by simp))
 ·rw [if_neg c4] at H; have c4b0 : decide (0 ≤ t103) = false := decide_eq_false c4; clear c4; simp only [Option.some.injEq, Prod.mk.injEq] at H; obtain ⟨rfl, rfl, rfl⟩ := H; (go_enter Tryd.func76, Tryd.ntmps76); (go_wp2_with (first | (go_at_call 78; (with_reducible refine (stringslite_Index.calls a0 a1 t103 _ A3.out).mono ?_); rintro e w11 ⟨rfl, hb⟩; have n0_ := Aside0.mk (below_step (by repeat (first | (with_reducible first | exact HB.out | apply below_alloc | apply pw_below_drewN | apply below_drew1) | exact HB.out)) hb); clear HB; have HB := n0_; clear n0_; (try clear hb); (try clear hb2); (try clear hk); (try clear hi)))); (repeat (go_quiet (first | (go_at_call 78; (with_reducible refine (stringslite_Index.calls a0 a1 t103 _ A3.out).mono ?_); rintro e w11 ⟨rfl, hb⟩; have n0_ := Aside0.mk (below_step (by repeat (first | (with_reducible first | exact HB.out | apply below_alloc | apply pw_below_drewN | apply below_drew1) | exact HB.out)) hb); clear HB; have HB := n0_; clear n0_; (try clear hb); (try clear hb2); (try clear hk); (try clear hi))); try go_wp2_with (first | (go_at_call 78; (with_reducible refine (stringslite_Index.calls a0 a1 t103 _ A3.out).mono ?_); rintro e w11 ⟨rfl, hb⟩; have n0_ := Aside0.mk (below_step (by repeat (first | (with_reducible first | exact HB.out | apply below_alloc | apply pw_below_drewN | apply below_drew1) | exact HB.out)) hb); clear HB; have HB := n0_; clear n0_; (try clear hb); (try clear hb2); (try clear hk); (try clear hi))))); (go_ret3); (exact ⟨by first | rfl | (simp [errW_none, errW_some] <;> rfl) | (simp [*, errW_none, errW_some] <;> rfl), by repeat (first | (with_reducible first | exact HB.out | apply below_alloc | apply pw_below_drewN | apply below_drew1) | exact HB.out)⟩)
def strings_Cut.f (a0 : ByteArray) (a1 : ByteArray) : Option (ByteArray × ByteArray × Bool) := (stringslite_Cut.f a0 a1).bind fun bt104 => (some (bt104.1, bt104.2.1, bt104.2.2))
set_option maxHeartbeats 8000000 in
set_option maxRecDepth 100000 in
theorem strings_Cut.calls (a0 : ByteArray) (a1 : ByteArray) (r1 : ByteArray) (r2 : ByteArray) (r3 : Bool) (w : World) (h : strings_Cut.f a0 a1 = some (r1, r2, r3)) :
  Calls Tryd.prog 74 #[.string a0, .string a1] w fun e w' => e = .returned (.tuple #[.string r1, .string r2, .bool r3]) ∧ Below w.heap.size w w' := by
 have HB := Aside0.mk (Below.refl w.heap.size w); (have H : ((stringslite_Cut.f a0 a1).bind fun bt104 => (some (bt104.1, bt104.2.1, bt104.2.2))) = some (r1, r2, r3) := h); clear h; replace H := Option.bind_eq_some_iff.mp H; obtain ⟨⟨t104, t105, t106⟩, A30, H⟩ := H; replace H : (some (t104, t105, t106)) = some (r1, r2, r3) := H; have A3 := Aside0.mk A30; clear A30; simp only [Option.some.injEq, Prod.mk.injEq] at H; obtain ⟨rfl, rfl, rfl⟩ := H; (go_enter Tryd.func74, Tryd.ntmps74); (go_wp2_with (first | ((with_reducible refine gate_callee (f := 76) rfl ?_); refine goesL_ (some 9) rfl rfl Tryd.func76 (by kernel_rfl) rfl #[.string a0, .string a1] rfl (by (try simp only [List.map_toArray, List.map_cons, List.map_nil]); first | done | rfl | (simp only [List.length_drop, List.length_take]; rfl)) ?_; (with_reducible refine (stringslite_Cut.calls a0 a1 t104 t105 t106 _ A3.out).mono ?_); rintro e w4 ⟨rfl, hb⟩; refine ⟨_, rfl, ?_⟩; have n0_ := Aside0.mk (below_step (by repeat (first | (with_reducible first | exact HB.out | apply below_alloc | apply pw_below_drewN | apply below_drew1) | exact HB.out)) hb); clear HB; have HB := n0_; clear n0_; (try clear hb); (try clear hb2); (try clear hk); (try clear hi)))); (go_ret3); (exact ⟨by first | rfl | (simp [errW_none, errW_some] <;> rfl) | (simp [*, errW_none, errW_some] <;> rfl), by repeat (first | (with_reducible first | exact HB.out | apply below_alloc | apply pw_below_drewN | apply below_drew1) | exact HB.out)⟩)
def chars_isLetter.f (a0 : Int) : Option (Bool) := if a0 ≥ 97 then (if a0 ≤ 122 then (some true) else (if a0 ≥ 65 then (if a0 ≤ 90 then (some true) else (if a0 = 95 then (some true) else (if a0 ≥ 192 then (if a0 = 215 then (some false) else (some (a0 != 247))) else (some false)))) else (if a0 = 95 then (some true) else (if a0 ≥ 192 then (if a0 = 215 then (some false) else (some (a0 != 247))) else (some false))))) else (if a0 ≥ 65 then (if a0 ≤ 90 then (some true) else (if a0 = 95 then (some true) else (if a0 ≥ 192 then (if a0 = 215 then (some false) else (some (a0 != 247))) else (some false)))) else (if a0 = 95 then (some true) else (if a0 ≥ 192 then (if a0 = 215 then (some false) else (some (a0 != 247))) else (some false))))
set_option maxHeartbeats 8000000 in
set_option maxRecDepth 100000 in
theorem chars_isLetter.calls (a0 : Int) (r : Bool) (w : World) (h : chars_isLetter.f a0 = some r) :
  Calls Tryd.prog 77 #[.int .i32 a0] w fun e w' => e = .returned (.bool r) ∧ Drawn0 w w' := by
 have H : (if a0 ≥ 97 then (if a0 ≤ 122 then (some true) else (if a0 ≥ 65 then (if a0 ≤ 90 then (some true) else (if a0 = 95 then (some true) else (if a0 ≥ 192 then (if a0 = 215 then (some false) else (some (a0 != 247))) else (some false)))) else (if a0 = 95 then (some true) else (if a0 ≥ 192 then (if a0 = 215 then (some false) else (some (a0 != 247))) else (some false))))) else (if a0 ≥ 65 then (if a0 ≤ 90 then (some true) else (if a0 = 95 then (some true) else (if a0 ≥ 192 then (if a0 = 215 then (some false) else (some (a0 != 247))) else (some false)))) else (if a0 = 95 then (some true) else (if a0 ≥ 192 then (if a0 = 215 then (some false) else (some (a0 != 247))) else (some false))))) = some r := h; clear h; by_cases c2 : a0 ≥ 97
 ·rw [if_pos c2] at H; have c2b0 : decide (97 ≤ a0) = true := decide_eq_true c2; clear c2; by_cases c3 : a0 ≤ 122
  ·rw [if_pos c3] at H; have c3b0 : decide (a0 ≤ 122) = true := decide_eq_true c3; clear c3; obtain rfl := Option.some.inj H; (go_enter Tryd.func77, Tryd.ntmps77); (go_wp2); (go_ret); (exact ⟨by first | rfl | (simp; done) | (simp [*]; done), by repeat (first | exact Drawn0.refl _ | apply Drawn0.step)⟩)
  ·rw [if_neg c3] at H; have c3b0 : decide (a0 ≤ 122) = false := decide_eq_false c3; clear c3; by_cases c4 : a0 ≥ 65
   ·rw [if_pos c4] at H; have c4b0 : decide (65 ≤ a0) = true := decide_eq_true c4; clear c4; by_cases c5 : a0 ≤ 90
    ·rw [if_pos c5] at H; have c5b0 : decide (a0 ≤ 90) = true := decide_eq_true c5; clear c5; obtain rfl := Option.some.inj H; (go_enter Tryd.func77, Tryd.ntmps77); (go_wp2); (go_ret); (exact ⟨by first | rfl | (simp; done) | (simp [*]; done), by repeat (first | exact Drawn0.refl _ | apply Drawn0.step)⟩)
    ·rw [if_neg c5] at H; have c5b0 : decide (a0 ≤ 90) = false := decide_eq_false c5; clear c5; by_cases c6 : a0 = 95
     ·rw [if_pos c6] at H; have c6b0 : (a0 == 95) = true := beq_iff_eq.mpr c6; have c6b1 : (a0 != 95) = false := bne_eq_false_iff_eq.mpr c6; clear c6; obtain rfl := Option.some.inj H; (go_enter Tryd.func77, Tryd.ntmps77); (go_wp2); (go_ret); (exact ⟨by first | rfl | (simp; done) | (simp [*]; done), by repeat (first | exact Drawn0.refl _ | apply Drawn0.step)⟩)
     ·rw [if_neg c6] at H; have c6b0 : (a0 == 95) = false := beq_eq_false_iff_ne.mpr c6; have c6b1 : (a0 != 95) = true := bne_iff_ne.mpr c6; by_cases c7 : a0 ≥ 192
      ·rw [if_pos c7] at H; have c7b0 : decide (192 ≤ a0) = true := decide_eq_true c7; clear c7; by_cases c8 : a0 = 215
       ·rw [if_pos c8] at H; have c8b0 : (a0 == 215) = true := beq_iff_eq.mpr c8; have c8b1 : (a0 != 215) = false := bne_eq_false_iff_eq.mpr c8; clear c8; obtain rfl := Option.some.inj H; (go_enter Tryd.func77, Tryd.ntmps77); (go_wp2); (go_ret); (exact ⟨by first | rfl | (simp; done) | (simp [*]; done), by repeat (first | exact Drawn0.refl _ | apply Drawn0.step)⟩)
       ·rw [if_neg c8] at H; have c8b0 : (a0 == 215) = false := beq_eq_false_iff_ne.mpr c8; have c8b1 : (a0 != 215) = true := bne_iff_ne.mpr c8; obtain rfl := Option.some.inj H; (go_enter Tryd.func77, Tryd.ntmps77); (go_wp2); (go_ret); (exact ⟨by first | rfl | (simp; done) | (simp [*]; done), by repeat (first | exact Drawn0.refl _ | apply Drawn0.step)⟩)
      ·rw [if_neg c7] at H; have c7b0 : decide (192 ≤ a0) = false := decide_eq_false c7; clear c7; obtain rfl := Option.some.inj H; (go_enter Tryd.func77, Tryd.ntmps77); (go_wp2); (go_ret); (exact ⟨by first | rfl | (simp; done) | (simp [*]; done), by repeat (first | exact Drawn0.refl _ | apply Drawn0.step)⟩)
   ·rw [if_neg c4] at H; have c4b0 : decide (65 ≤ a0) = false := decide_eq_false c4; clear c4; by_cases c9 : a0 = 95
    ·rw [if_pos c9] at H; have c9b0 : (a0 == 95) = true := beq_iff_eq.mpr c9; have c9b1 : (a0 != 95) = false := bne_eq_false_iff_eq.mpr c9; clear c9; obtain rfl := Option.some.inj H; (go_enter Tryd.func77, Tryd.ntmps77); (go_wp2); (go_ret); (exact ⟨by first | rfl | (simp; done) | (simp [*]; done), by repeat (first | exact Drawn0.refl _ | apply Drawn0.step)⟩)
    ·rw [if_neg c9] at H; have c9b0 : (a0 == 95) = false := beq_eq_false_iff_ne.mpr c9; have c9b1 : (a0 != 95) = true := bne_iff_ne.mpr c9; by_cases c10 : a0 ≥ 192
     ·rw [if_pos c10] at H; have c10b0 : decide (192 ≤ a0) = true := decide_eq_true c10; clear c10; by_cases c11 : a0 = 215
      ·rw [if_pos c11] at H; have c11b0 : (a0 == 215) = true := beq_iff_eq.mpr c11; have c11b1 : (a0 != 215) = false := bne_eq_false_iff_eq.mpr c11; clear c11; obtain rfl := Option.some.inj H; (go_enter Tryd.func77, Tryd.ntmps77); (go_wp2); (go_ret); (exact ⟨by first | rfl | (simp; done) | (simp [*]; done), by repeat (first | exact Drawn0.refl _ | apply Drawn0.step)⟩)
      ·rw [if_neg c11] at H; have c11b0 : (a0 == 215) = false := beq_eq_false_iff_ne.mpr c11; have c11b1 : (a0 != 215) = true := bne_iff_ne.mpr c11; obtain rfl := Option.some.inj H; (go_enter Tryd.func77, Tryd.ntmps77); (go_wp2); (go_ret); (exact ⟨by first | rfl | (simp; done) | (simp [*]; done), by repeat (first | exact Drawn0.refl _ | apply Drawn0.step)⟩)
     ·rw [if_neg c10] at H; have c10b0 : decide (192 ≤ a0) = false := decide_eq_false c10; clear c10; obtain rfl := Option.some.inj H; (go_enter Tryd.func77, Tryd.ntmps77); (go_wp2); (go_ret); (exact ⟨by first | rfl | (simp; done) | (simp [*]; done), by repeat (first | exact Drawn0.refl _ | apply Drawn0.step)⟩)
 ·rw [if_neg c2] at H; have c2b0 : decide (97 ≤ a0) = false := decide_eq_false c2; clear c2; by_cases c12 : a0 ≥ 65
  ·rw [if_pos c12] at H; have c12b0 : decide (65 ≤ a0) = true := decide_eq_true c12; clear c12; by_cases c13 : a0 ≤ 90
   ·rw [if_pos c13] at H; have c13b0 : decide (a0 ≤ 90) = true := decide_eq_true c13; clear c13; obtain rfl := Option.some.inj H; (go_enter Tryd.func77, Tryd.ntmps77); (go_wp2); (go_ret); (exact ⟨by first | rfl | (simp; done) | (simp [*]; done), by repeat (first | exact Drawn0.refl _ | apply Drawn0.step)⟩)
   ·rw [if_neg c13] at H; have c13b0 : decide (a0 ≤ 90) = false := decide_eq_false c13; clear c13; by_cases c14 : a0 = 95
    ·rw [if_pos c14] at H; have c14b0 : (a0 == 95) = true := beq_iff_eq.mpr c14; have c14b1 : (a0 != 95) = false := bne_eq_false_iff_eq.mpr c14; clear c14; obtain rfl := Option.some.inj H; (go_enter Tryd.func77, Tryd.ntmps77); (go_wp2); (go_ret); (exact ⟨by first | rfl | (simp; done) | (simp [*]; done), by repeat (first | exact Drawn0.refl _ | apply Drawn0.step)⟩)
    ·rw [if_neg c14] at H; have c14b0 : (a0 == 95) = false := beq_eq_false_iff_ne.mpr c14; have c14b1 : (a0 != 95) = true := bne_iff_ne.mpr c14; by_cases c15 : a0 ≥ 192
     ·rw [if_pos c15] at H; have c15b0 : decide (192 ≤ a0) = true := decide_eq_true c15; clear c15; by_cases c16 : a0 = 215
      ·rw [if_pos c16] at H; have c16b0 : (a0 == 215) = true := beq_iff_eq.mpr c16; have c16b1 : (a0 != 215) = false := bne_eq_false_iff_eq.mpr c16; clear c16; obtain rfl := Option.some.inj H; (go_enter Tryd.func77, Tryd.ntmps77); (go_wp2); (go_ret); (exact ⟨by first | rfl | (simp; done) | (simp [*]; done), by repeat (first | exact Drawn0.refl _ | apply Drawn0.step)⟩)
      ·rw [if_neg c16] at H; have c16b0 : (a0 == 215) = false := beq_eq_false_iff_ne.mpr c16; have c16b1 : (a0 != 215) = true := bne_iff_ne.mpr c16; obtain rfl := Option.some.inj H; (go_enter Tryd.func77, Tryd.ntmps77); (go_wp2); (go_ret); (exact ⟨by first | rfl | (simp; done) | (simp [*]; done), by repeat (first | exact Drawn0.refl _ | apply Drawn0.step)⟩)
     ·rw [if_neg c15] at H; have c15b0 : decide (192 ≤ a0) = false := decide_eq_false c15; clear c15; obtain rfl := Option.some.inj H; (go_enter Tryd.func77, Tryd.ntmps77); (go_wp2); (go_ret); (exact ⟨by first | rfl | (simp; done) | (simp [*]; done), by repeat (first | exact Drawn0.refl _ | apply Drawn0.step)⟩)
  ·rw [if_neg c12] at H; have c12b0 : decide (65 ≤ a0) = false := decide_eq_false c12; clear c12; by_cases c17 : a0 = 95
   ·rw [if_pos c17] at H; have c17b0 : (a0 == 95) = true := beq_iff_eq.mpr c17; have c17b1 : (a0 != 95) = false := bne_eq_false_iff_eq.mpr c17; clear c17; obtain rfl := Option.some.inj H; (go_enter Tryd.func77, Tryd.ntmps77); (go_wp2); (go_ret); (exact ⟨by first | rfl | (simp; done) | (simp [*]; done), by repeat (first | exact Drawn0.refl _ | apply Drawn0.step)⟩)
   ·rw [if_neg c17] at H; have c17b0 : (a0 == 95) = false := beq_eq_false_iff_ne.mpr c17; have c17b1 : (a0 != 95) = true := bne_iff_ne.mpr c17; by_cases c18 : a0 ≥ 192
    ·rw [if_pos c18] at H; have c18b0 : decide (192 ≤ a0) = true := decide_eq_true c18; clear c18; by_cases c19 : a0 = 215
     ·rw [if_pos c19] at H; have c19b0 : (a0 == 215) = true := beq_iff_eq.mpr c19; have c19b1 : (a0 != 215) = false := bne_eq_false_iff_eq.mpr c19; clear c19; obtain rfl := Option.some.inj H; (go_enter Tryd.func77, Tryd.ntmps77); (go_wp2); (go_ret); (exact ⟨by first | rfl | (simp; done) | (simp [*]; done), by repeat (first | exact Drawn0.refl _ | apply Drawn0.step)⟩)
     ·rw [if_neg c19] at H; have c19b0 : (a0 == 215) = false := beq_eq_false_iff_ne.mpr c19; have c19b1 : (a0 != 215) = true := bne_iff_ne.mpr c19; obtain rfl := Option.some.inj H; (go_enter Tryd.func77, Tryd.ntmps77); (go_wp2); (go_ret); (exact ⟨by first | rfl | (simp; done) | (simp [*]; done), by repeat (first | exact Drawn0.refl _ | apply Drawn0.step)⟩)
    ·rw [if_neg c18] at H; have c18b0 : decide (192 ≤ a0) = false := decide_eq_false c18; clear c18; obtain rfl := Option.some.inj H; (go_enter Tryd.func77, Tryd.ntmps77); (go_wp2); (go_ret); (exact ⟨by first | rfl | (simp; done) | (simp [*]; done), by repeat (first | exact Drawn0.refl _ | apply Drawn0.step)⟩)
end Go.Proofs.YtmpenkinheneoaaDoor.Q
namespace Go.Proofs.YtmpenkinheneoaaDoor.Q
open Go.RowKit Go.Proofs.YtmpenkinheneoaaDoorW.PrintWords Go.Proofs.YtmpenkinheneoaaDoorW.PrintLast Go.Proofs.YtmpenkinheneoaaDoorW.PrintMore
attribute [local go_sem] max2_int min2_int max_two min_two max_three min_three max_four min_four   -- for this text's walks alone
set_option linter.unusedVariables false
set_option linter.unusedSimpArgs false
-- HAND: function 75, by this session's own text
theorem chars_isLetter_ok (c : Int) : chars_isLetter.f c = some (HPure.isLetter c) := by
 unfold chars_isLetter.f HPure.isLetter
 repeat' split
 all_goals first | (simp_all; done) | (simp_all; omega) | (rename_i h95 h192 h215; have e1 : (c == 95) = false := (beq_eq_false_iff_ne.2 h95); have e2 : (c != 215) = true := (bne_iff_ne.2 h215); have e3 : decide (c ≤ 122) = false := (by simp; omega); have e4 : decide (c ≤ 90) = false := (by simp; omega); have e5 : decide (192 ≤ c) = true := (by simp; omega); simp only [e1, e2, e3, e4, e5]; simp) | skip
theorem inPart_no (pos : Nat) (c : Int) (h1 : ¬ HPure.isLetter c = true) (h2 : pos = 0 ∨ (c ≠ 45 ∧ c ≠ 46 ∧ c ≠ 183 ∧ (c < 48 ∨ 57 < c))) : HPure.inPart (pos == 0) c = false := by
 unfold HPure.inPart
 rw [Bool.eq_false_iff.2 h1]
 rcases h2 with h2 | ⟨h45, h46, h183, hd⟩
 ·subst h2; rfl
 ·rw [beq_eq_false_iff_ne.2 h45, beq_eq_false_iff_ne.2 h46, beq_eq_false_iff_ne.2 h183]
  have : (decide (48 ≤ c) && decide (c ≤ 57)) = false := by simp; omega
  rw [this]; simp
theorem inPart_yes (pos : Nat) (c : Int) (h : HPure.isLetter c = true ∨ (¬ pos = 0 ∧ (c = 45 ∨ c = 46 ∨ c = 183 ∨ (48 ≤ c ∧ c ≤ 57)))) : HPure.inPart (pos == 0) c = true := by
 unfold HPure.inPart
 rcases h with h | ⟨h0, h⟩
 ·rw [h]; rfl
 ·have e0 : (pos == 0) = false := beq_eq_false_iff_ne.2 h0
  rw [e0]
  rcases h with h | h | h | ⟨h1, h2⟩
  ·subst h; simp
  ·subst h; simp
  ·subst h; simp
  ·have : (decide (48 ≤ c) && decide (c ≤ 57)) = true := by simp; omega
   rw [this]; simp
def chars_isNamePart.f (a0 : ByteArray) : Option (Bool) := if a0.size ≤ 140737488355328 then some (HPure.isNamePart a0) else none
set_option maxHeartbeats 400000 in
set_option maxRecDepth 1000000 in
theorem chars_isNamePart.walk (s : ByteArray) (w : World) (hs : s.size ≤ 140737488355328) :
  Calls Tryd.prog 75 #[.string s] w fun e w' => e = .returned (.bool (HPure.isNamePart s)) ∧ Below w.heap.size w w' := by
 go_enter Tryd.func75, Tryd.ntmps75
 go_wp2
 go_loopw [] (fun wr => ∃ (pos fuel : Nat), wr.heap[w.heap.size]? = some (.stringIter s pos) ∧ Below w.heap.size w wr ∧ Aside0 (HPure.isNamePartFrom s fuel pos = HPure.isNamePartFrom s s.size 0) ∧ s.size ≤ pos + fuel) (fun wr => s.size - wr.iterPos w.heap.size)
 case atStart =>
  exact ⟨0, s.size, World.iter_heap w s 0, (Below.refl _ w).alloc (Nat.le_refl _) _, ⟨rfl⟩, by omega⟩
 case round =>
  obtain ⟨pos, fuel, hit, hbw, hfr, hfu⟩ := hrel
  have hsz : w.heap.size < wr.heap.size := (Array.getElem?_eq_some_iff.1 hit).1
  by_cases hp : pos < s.size
  ·have hnx : ∀ ty, (Instr.next (.pointer (some ⟨w.heap.size, 0, none⟩)) true ty).run Tryd.prog wr = _ := fun ty => Lib.run_next_any_at wr w.heap.size s pos ty hit hp
   have hwd := Lib.decode_width_pos s pos hp
   have hit2 := Lib.iterAt_heap wr w.heap.size s pos (pos + (Utf8.decode s pos).2) hit
   have hbw2 := Lib.below_iterAt hbw (k := w.heap.size) (Nat.le_refl _) s (pos + (Utf8.decode s pos).2)
   obtain ⟨f, rfl⟩ : ∃ f, fuel = f + 1 := ⟨fuel - 1, by omega⟩
   have hfr' := hfr.out
   have HI := Aside0.mk hit
   clear hfr hit hbw
   simp only [HPure.isNamePartFrom, if_pos hp] at hfr'
   have HP := Aside0.mk hfr'
   clear hfr'
   have hch := chars_isLetter_ok ((Utf8.decode s pos).1 : Int)
   generalize hc : (Utf8.decode s pos).1 = c at hch HP hnx
   generalize hd : (Utf8.decode s pos).2 = d at HP hnx hwd hit2 hbw2
   clear hc hd
   have HC := Aside0.mk hch
   clear hch
   generalize hW : wr.iterAt w.heap.size s (pos + d) = W at hnx hit2 hbw2
   clear hW
   cases hl : HPure.isLetter (c : Int)
   ·have hnl : ¬ HPure.isLetter (c : Int) = true := by rw [hl]; simp
    rw [hl] at HC
    clear hl
    by_cases h0 : pos = 0
    ·have e0 : ((pos : Int) == 0) = true := by rw [beq_iff_eq]; omega
     have hb := inPart_no pos (c : Int) hnl (.inl h0)
     have hf := HP.out
     rw [hb] at hf
     have hf2 : HPure.isNamePart s = false := by unfold HPure.isNamePart; rw [← hf]; rfl
     have HF := Aside0.mk hf2
     clear hf hb hf2 h0 hnl
     go_wp2_with (first | (go_at_call 77; refine (chars_isLetter.calls _ _ _ HC.out).mono ?_; rintro e w' ⟨rfl, ⟨nd, rfl⟩⟩))
     go_ret
     exact ⟨by rw [HF.out]; simp, pw_below_drewN hbw2 _⟩
    ·have e0 : ((pos : Int) == 0) = false := by rw [beq_eq_false_iff_ne]; omega
     by_cases h45 : (c : Int) = 45
     ·have n45 : ((c : Int) != 45) = false := bne_eq_false_iff_eq.mpr h45
      have hb := inPart_yes pos (c : Int) (.inr ⟨h0, .inl h45⟩)
      have hf := HP.out
      rw [hb, if_pos rfl] at hf
      have HF := Aside0.mk hf
      clear hf hb h0 hnl h45
      go_wp2_with (first | (go_at_call 77; refine (chars_isLetter.calls _ _ _ HC.out).mono ?_; rintro e w' ⟨rfl, ⟨nd, rfl⟩⟩))
      go_roundw
      case rel => exact ⟨pos + d, f, hit2, pw_below_drewN hbw2 _, HF, by omega⟩
      case measure => rw [HW.iterPos_drewN, HW.iterPos_at hit2, HW.iterPos_at HI.out]; omega
     ·have n45 : ((c : Int) != 45) = true := bne_iff_ne.mpr h45
      by_cases h46 : (c : Int) = 46
      ·have n46 : ((c : Int) != 46) = false := bne_eq_false_iff_eq.mpr h46
       have hb := inPart_yes pos (c : Int) (.inr ⟨h0, .inr (.inl h46)⟩)
       have hf := HP.out
       rw [hb, if_pos rfl] at hf
       have HF := Aside0.mk hf
       clear hf hb h0 hnl h45 h46
       go_wp2_with (first | (go_at_call 77; refine (chars_isLetter.calls _ _ _ HC.out).mono ?_; rintro e w' ⟨rfl, ⟨nd, rfl⟩⟩))
       go_roundw
       case rel => exact ⟨pos + d, f, hit2, pw_below_drewN hbw2 _, HF, by omega⟩
       case measure => rw [HW.iterPos_drewN, HW.iterPos_at hit2, HW.iterPos_at HI.out]; omega
      ·have n46 : ((c : Int) != 46) = true := bne_iff_ne.mpr h46
       by_cases h183 : (c : Int) = 183
       ·have n183 : ((c : Int) != 183) = false := bne_eq_false_iff_eq.mpr h183
        have hb := inPart_yes pos (c : Int) (.inr ⟨h0, .inr (.inr (.inl h183))⟩)
        have hf := HP.out
        rw [hb, if_pos rfl] at hf
        have HF := Aside0.mk hf
        clear hf hb h0 hnl h45 h46 h183
        go_wp2_with (first | (go_at_call 77; refine (chars_isLetter.calls _ _ _ HC.out).mono ?_; rintro e w' ⟨rfl, ⟨nd, rfl⟩⟩))
        go_roundw
        case rel => exact ⟨pos + d, f, hit2, pw_below_drewN hbw2 _, HF, by omega⟩
        case measure => rw [HW.iterPos_drewN, HW.iterPos_at hit2, HW.iterPos_at HI.out]; omega
       ·have n183 : ((c : Int) != 183) = true := bne_iff_ne.mpr h183
        by_cases h48 : (c : Int) < 48
        ·have l48 : decide ((c : Int) < 48) = true := decide_eq_true h48
         have hb := inPart_no pos (c : Int) hnl (.inr ⟨h45, h46, h183, .inl h48⟩)
         have hf := HP.out
         rw [hb] at hf
         have hf2 : HPure.isNamePart s = false := by unfold HPure.isNamePart; rw [← hf]; rfl
         have HF := Aside0.mk hf2
         clear hf hb hf2 h0 hnl h45 h46 h183 h48
         go_wp2_with (first | (go_at_call 77; refine (chars_isLetter.calls _ _ _ HC.out).mono ?_; rintro e w' ⟨rfl, ⟨nd, rfl⟩⟩))
         go_ret
         exact ⟨by rw [HF.out]; simp, pw_below_drewN hbw2 _⟩
        ·have l48 : decide ((c : Int) < 48) = false := decide_eq_false h48
         by_cases h57 : (57 : Int) < (c : Int)
         ·have l57 : decide ((57 : Int) < (c : Int)) = true := decide_eq_true h57
          have hb := inPart_no pos (c : Int) hnl (.inr ⟨h45, h46, h183, .inr h57⟩)
          have hf := HP.out
          rw [hb] at hf
          have hf2 : HPure.isNamePart s = false := by unfold HPure.isNamePart; rw [← hf]; rfl
          have HF := Aside0.mk hf2
          clear hf hb hf2 h0 hnl h45 h46 h183 h48 h57
          go_wp2_with (first | (go_at_call 77; refine (chars_isLetter.calls _ _ _ HC.out).mono ?_; rintro e w' ⟨rfl, ⟨nd, rfl⟩⟩))
          go_ret
          exact ⟨by rw [HF.out]; simp, pw_below_drewN hbw2 _⟩
         ·have l57 : decide ((57 : Int) < (c : Int)) = false := decide_eq_false h57
          have hb := inPart_yes pos (c : Int) (.inr ⟨h0, .inr (.inr (.inr ⟨by omega, by omega⟩))⟩)
          have hf := HP.out
          rw [hb, if_pos rfl] at hf
          have HF := Aside0.mk hf
          clear hf hb h0 hnl h45 h46 h183 h48 h57
          go_wp2_with (first | (go_at_call 77; refine (chars_isLetter.calls _ _ _ HC.out).mono ?_; rintro e w' ⟨rfl, ⟨nd, rfl⟩⟩))
          go_roundw
          case rel => exact ⟨pos + d, f, hit2, pw_below_drewN hbw2 _, HF, by omega⟩
          case measure => rw [HW.iterPos_drewN, HW.iterPos_at hit2, HW.iterPos_at HI.out]; omega
   ·rw [hl] at HC
    have hb := inPart_yes pos (c : Int) (.inl hl)
    have hf := HP.out
    rw [hb, if_pos rfl] at hf
    have HF := Aside0.mk hf
    clear hf hb hl
    go_wp2_with (first | (go_at_call 77; refine (chars_isLetter.calls _ _ _ HC.out).mono ?_; rintro e w' ⟨rfl, ⟨nd, rfl⟩⟩))
    go_roundw
    case rel => exact ⟨pos + d, f, hit2, pw_below_drewN hbw2 _, HF, by omega⟩
    case measure => rw [HW.iterPos_drewN, HW.iterPos_at hit2, HW.iterPos_at HI.out]; omega
  ·have hnx : ∀ ty, (Instr.next (.pointer (some ⟨w.heap.size, 0, none⟩)) true ty).run Tryd.prog wr = _ := fun ty => Lib.run_next_end_at wr w.heap.size s pos ty hit hp
   have hfin : true = HPure.isNamePartFrom s s.size 0 := by rw [← hfr.out, HPure.isNamePartFrom_end s fuel pos hp]
   clear hfr
   have HF := Aside0.mk hfin
   clear hfin
   go_wp2
   go_ret
   refine ⟨?_, hbw⟩
   unfold HPure.isNamePart
   rw [← HF.out]
   rw [HW.notEmpty s]; simp
theorem chars_isNamePart.calls (a0 : ByteArray) (r : Bool) (w : World) (h : chars_isNamePart.f a0 = some r) :
  Calls Tryd.prog 75 #[.string a0] w fun e w' => e = .returned (.bool r) ∧ Below w.heap.size w w' := by
 unfold chars_isNamePart.f at h
 split at h
 ·rename_i hs
  obtain rfl := Option.some.inj h
  exact chars_isNamePart.walk a0 w hs
 ·cases h
end Go.Proofs.YtmpenkinheneoaaDoor.Q
namespace Go.Proofs.YtmpenkinheneoaaDoor.Q
open Go.RowKit Go.Proofs.YtmpenkinheneoaaDoorW.PrintWords Go.Proofs.YtmpenkinheneoaaDoorW.PrintLast Go.Proofs.YtmpenkinheneoaaDoorW.PrintMore
attribute [local go_sem] max2_int min2_int max_two min_two max_three min_three max_four min_four   -- for this text's walks alone
set_option linter.unusedVariables false
set_option linter.unusedSimpArgs false
def chars_IsName.j0 : Nat → ByteArray → Bool → Option (Bool)
 | 0, _, _ => none
 | k + 1, x0, x13 => if x13 = true then (some false) else ((strings_Cut.f x0 (⟨#[58]⟩ : ByteArray)).bind fun bt109 => ((chars_isNamePart.f bt109.1).bind fun t112 => (if t112 = true then (if bt109.2.2 = true then ((chars_isNamePart.f bt109.2.1).bind fun t113 => (some t113)) else (some true)) else (some false))))
def chars_IsName.f (k : Nat) (a0 : ByteArray) : Option (Bool) := (chars_IsText.f a0).bind fun t107 => (if t107 = true then ((utf8_RuneCountInString.f a0).bind fun t108 => (chars_IsName.j0 k a0 (decide (t108 > 100)))) else (chars_IsName.j0 k a0 true))
theorem chars_IsName.mono_l : ∀ k, (∀ y0 y1, LeO (chars_IsName.j0 k y0 y1) (chars_IsName.j0 (k + 1) y0 y1))
 | 0 => fun _ _ r h => by simp [chars_IsName.j0] at h
 | k + 1 => by
  have ih0 := chars_IsName.mono_l k
  ·intro y0 y1
   unfold chars_IsName.j0
   repeat' first
   | (with_reducible exact ih0 _ _)
   | (with_reducible exact LeO.refl _)
   | (with_reducible exact LeO.none _)
   | (with_reducible refine LeO.ite ?_ ?_)
   | (with_reducible refine LeO.bind ?_ (fun _ => ?_))
   | exact ih0 _ _
   | exact LeO.none _
   | refine LeO.ite ?_ ?_
   | refine LeO.bind ?_ (fun _ => ?_)
theorem chars_IsName.mono : ∀ a0 k, LeO (chars_IsName.f k a0) (chars_IsName.f (k + 1) a0) := by
 intro a0 k; have ih0 := chars_IsName.mono_l k; unfold chars_IsName.f
 repeat' first
   | (with_reducible exact ih0 _ _)
   | (with_reducible exact LeO.refl _)
   | (with_reducible exact LeO.none _)
   | (with_reducible refine LeO.ite ?_ ?_)
   | (with_reducible refine LeO.bind ?_ (fun _ => ?_))
   | exact ih0 _ _
   | exact LeO.none _
   | refine LeO.ite ?_ ?_
   | refine LeO.bind ?_ (fun _ => ?_)
set_option maxHeartbeats 8000000 in
set_option maxRecDepth 100000 in
theorem chars_IsName.calls (k : Nat) (a0 : ByteArray) (r : Bool) (w : World) (h : chars_IsName.f k a0 = some r) :
  Calls Tryd.prog 72 #[.string a0] w fun e w' => e = .returned (.bool r) ∧ Below w.heap.size w w' := by
 have HB := Aside0.mk (Below.refl w.heap.size w); (have H : ((chars_IsText.f a0).bind fun t107 => (if t107 = true then ((utf8_RuneCountInString.f a0).bind fun t108 => (chars_IsName.j0 k a0 (decide (t108 > 100)))) else (chars_IsName.j0 k a0 true))) = some r := h); clear h; have HC2 := Aside0.mk H; clear H; (go_enter Tryd.func72, Tryd.ntmps72); (go_upto_region 1 with (fail)); (go_cut [13] (fun v13 wc => ∃ (kq : Nat) (x13_1 : Bool), v13 = .bool x13_1 ∧ Aside0 (chars_IsName.j0 kq a0 x13_1 = some r) ∧ Aside0 (kq ≤ k) ∧ Aside0 (Below w.heap.size w wc)))
 case first =>
  have H := HC2.out; clear HC2; replace H := Option.bind_eq_some_iff.mp H; obtain ⟨t107, A30, H⟩ := H; (replace H : (if t107 = true then ((utf8_RuneCountInString.f a0).bind fun t108 => (chars_IsName.j0 k a0 (decide (t108 > 100)))) else (chars_IsName.j0 k a0 true)) = some r := H); have A3 := Aside0.mk A30; clear A30; by_cases c4 : t107 = true
  ·subst c4; (have H1 : ((utf8_RuneCountInString.f a0).bind fun t108 => (chars_IsName.j0 k a0 (decide (t108 > 100)))) = some r := by rw [if_pos rfl] at H; exact H); clear H; have H := H1; clear H1; replace H := Option.bind_eq_some_iff.mp H; obtain ⟨t108, A50, H⟩ := H; replace H : (chars_IsName.j0 k a0 (decide (t108 > 100))) = some r := H; have A5 := Aside0.mk A50; clear A50; have H' := Aside0.mk H; clear H; (go_wp2_with (first | ((with_reducible refine gate_callee (f := 20) rfl ?_); refine goesL_ (some 7) rfl rfl Tryd.func20 (by kernel_rfl) rfl #[.string a0] rfl (by (try simp only [List.map_toArray, List.map_cons, List.map_nil]); first | done | rfl | (simp only [List.length_drop, List.length_take]; rfl)) ?_; (with_reducible refine (chars_IsText.calls a0 true _ A3.out).mono ?_); rintro e w6 ⟨rfl, hb⟩; refine ⟨_, rfl, ?_⟩; have n0_ := Aside0.mk (below_step (by repeat (first | (with_reducible first | exact HB.out | apply below_alloc | apply pw_below_drewN | apply below_drew1) | exact HB.out)) hb); clear HB; have HB := n0_; clear n0_; (try clear hb); (try clear hb2); (try clear hk); (try clear hi)) | (go_at_call 73; (with_reducible refine (utf8_RuneCountInString.calls a0 t108 _ A5.out).mono ?_); rintro e w7 ⟨rfl, hb⟩; have n0_ := Aside0.mk (below_step (by repeat (first | (with_reducible first | exact HB.out | apply below_alloc | apply pw_below_drewN | apply below_drew1) | exact HB.out)) hb); clear HB; have HB := n0_; clear n0_; (try clear hb); (try clear hb2); (try clear hk); (try clear hi)))); (go_meet)
   case rel => exact ⟨_, (decide (t108 > 100)), (by first | rfl | (simp; done) | (simp [*]; done)), H', ⟨by first | omega | exact Nat.le_refl _⟩, ⟨by repeat (first | (with_reducible first | exact HB.out | apply below_alloc | apply pw_below_drewN | apply below_drew1) | exact HB.out)⟩⟩
  ·replace c4 := Bool.eq_false_iff.mpr c4; subst c4; (have H1 : (chars_IsName.j0 k a0 true) = some r := by rw [if_neg (show ¬ (false = true) by decide)] at H; exact H); clear H; have H := H1; clear H1; have H' := Aside0.mk H; clear H; (go_wp2_with (first | ((with_reducible refine gate_callee (f := 20) rfl ?_); refine goesL_ (some 7) rfl rfl Tryd.func20 (by kernel_rfl) rfl #[.string a0] rfl (by (try simp only [List.map_toArray, List.map_cons, List.map_nil]); first | done | rfl | (simp only [List.length_drop, List.length_take]; rfl)) ?_; (with_reducible refine (chars_IsText.calls a0 false _ A3.out).mono ?_); rintro e w8 ⟨rfl, hb⟩; refine ⟨_, rfl, ?_⟩; have n0_ := Aside0.mk (below_step (by repeat (first | (with_reducible first | exact HB.out | apply below_alloc | apply pw_below_drewN | apply below_drew1) | exact HB.out)) hb); clear HB; have HB := n0_; clear n0_; (try clear hb); (try clear hb2); (try clear hk); (try clear hi)))); (go_meet)
   case rel => exact ⟨_, (true), (by first | rfl | (simp; done) | (simp [*]; done)), H', ⟨by first | omega | exact Nat.le_refl _⟩, ⟨by repeat (first | (with_reducible first | exact HB.out | apply below_alloc | apply pw_below_drewN | apply below_drew1) | exact HB.out)⟩⟩
 case rest =>
  clear HC2; ((try clear c2); (try clear p2); (try clear c4); (try clear c7)); obtain ⟨kq, x13_1, rfl, HA, HJ1, HB⟩ := hcut
  cases kq with
  | zero => exact absurd HA.out (by simp [chars_IsName.j0])
  | succ kj1 =>
   have H := HA.out; clear HA; simp only [chars_IsName.j0] at H; by_cases c9 : x13_1 = true
   ·subst c9; (have H1 : (some false) = some r := by rw [if_pos rfl] at H; exact H); clear H; have H := H1; clear H1; obtain rfl := Option.some.inj H; (go_wp2); (go_ret); (exact ⟨by first | rfl | (simp [errW_none, errW_some] <;> rfl) | (simp [*, errW_none, errW_some] <;> rfl), by repeat (first | (with_reducible first | exact HB.out | apply below_alloc | apply pw_below_drewN | apply below_drew1) | exact HB.out)⟩)
   ·replace c9 := Bool.eq_false_iff.mpr c9; subst c9; (have H1 : ((strings_Cut.f a0 (⟨#[58]⟩ : ByteArray)).bind fun bt109 => ((chars_isNamePart.f bt109.1).bind fun t112 => (if t112 = true then (if bt109.2.2 = true then ((chars_isNamePart.f bt109.2.1).bind fun t113 => (some t113)) else (some true)) else (some false)))) = some r := by rw [if_neg (show ¬ (false = true) by decide)] at H; exact H); clear H; have H := H1; clear H1; replace H := Option.bind_eq_some_iff.mp H; obtain ⟨⟨t109, t110, t111⟩, A100, H⟩ := H; (replace H : ((chars_isNamePart.f t109).bind fun t112 => (if t112 = true then (if t111 = true then ((chars_isNamePart.f t110).bind fun t113 => (some t113)) else (some true)) else (some false))) = some r := H); have A10 := Aside0.mk A100; clear A100; replace H := Option.bind_eq_some_iff.mp H; obtain ⟨t112, A110, H⟩ := H; (replace H : (if t112 = true then (if t111 = true then ((chars_isNamePart.f t110).bind fun t113 => (some t113)) else (some true)) else (some false)) = some r := H); have A11 := Aside0.mk A110; clear A110; by_cases c12 : t112 = true
    ·subst c12; (have H1 : (if t111 = true then ((chars_isNamePart.f t110).bind fun t113 => (some t113)) else (some true)) = some r := by rw [if_pos rfl] at H; exact H); clear H; have H := H1; clear H1; by_cases c13 : t111 = true
     ·subst c13; (have H1 : ((chars_isNamePart.f t110).bind fun t113 => (some t113)) = some r := by rw [if_pos rfl] at H; exact H); clear H; have H := H1; clear H1; replace H := Option.bind_eq_some_iff.mp H; obtain ⟨t113, A140, H⟩ := H; replace H : (some t113) = some r := H; have A14 := Aside0.mk A140; clear A140; obtain rfl := Option.some.inj H; (go_wp2_with (first | ((with_reducible refine gate_callee (f := 74) rfl ?_); refine goesL_ (some 16) rfl rfl Tryd.func74 (by kernel_rfl) rfl #[.string a0, .string (⟨#[58]⟩ : ByteArray)] rfl (by (try simp only [List.map_toArray, List.map_cons, List.map_nil]); first | done | rfl | (simp only [List.length_drop, List.length_take]; rfl)) ?_; (with_reducible refine (strings_Cut.calls a0 (⟨#[58]⟩ : ByteArray) t109 t110 true _ A10.out).mono ?_); rintro e w15 ⟨rfl, hb⟩; refine ⟨_, rfl, ?_⟩; have n0_ := Aside0.mk (below_step (by repeat (first | (with_reducible first | exact HB.out | apply below_alloc | apply pw_below_drewN | apply below_drew1) | exact HB.out)) hb); clear HB; have HB := n0_; clear n0_; (try clear hb); (try clear hb2); (try clear hk); (try clear hi)) | ((with_reducible refine gate_callee (f := 75) rfl ?_); refine goesL_ (some 21) rfl rfl Tryd.func75 (by kernel_rfl) rfl #[.string t109] rfl (by (try simp only [List.map_toArray, List.map_cons, List.map_nil]); first | done | rfl | (simp only [List.length_drop, List.length_take]; rfl)) ?_; (with_reducible refine (chars_isNamePart.calls t109 true _ A11.out).mono ?_); rintro e w16 ⟨rfl, hb⟩; refine ⟨_, rfl, ?_⟩; have n0_ := Aside0.mk (below_step (by repeat (first | (with_reducible first | exact HB.out | apply below_alloc | apply pw_below_drewN | apply below_drew1) | exact HB.out)) hb); clear HB; have HB := n0_; clear n0_; (try clear hb); (try clear hb2); (try clear hk); (try clear hi)) | (go_at_call 75; (with_reducible refine (chars_isNamePart.calls t110 t113 _ A14.out).mono ?_); rintro e w17 ⟨rfl, hb⟩; have n0_ := Aside0.mk (below_step (by repeat (first | (with_reducible first | exact HB.out | apply below_alloc | apply pw_below_drewN | apply below_drew1) | exact HB.out)) hb); clear HB; have HB := n0_; clear n0_; (try clear hb); (try clear hb2); (try clear hk); (try clear hi)))); (go_ret); (exact ⟨by first | rfl | (simp [errW_none, errW_some] <;> rfl) | (simp [*, errW_none, errW_some] <;> rfl), by repeat (first | (with_reducible first | exact HB.out | apply below_alloc | apply pw_below_drewN | apply below_drew1) | exact HB.out)⟩)
     ·replace c13 := Bool.eq_false_iff.mpr c13; subst c13; (have H1 : (some true) = some r := by rw [if_neg (show ¬ (false = true) by decide)] at H; exact H); clear H; have H := H1; clear H1; obtain rfl := Option.some.inj H; (go_wp2_with (first | ((with_reducible refine gate_callee (f := 74) rfl ?_); refine goesL_ (some 16) rfl rfl Tryd.func74 (by kernel_rfl) rfl #[.string a0, .string (⟨#[58]⟩ : ByteArray)] rfl (by (try simp only [List.map_toArray, List.map_cons, List.map_nil]); first | done | rfl | (simp only [List.length_drop, List.length_take]; rfl)) ?_; (with_reducible refine (strings_Cut.calls a0 (⟨#[58]⟩ : ByteArray) t109 t110 false _ A10.out).mono ?_); rintro e w18 ⟨rfl, hb⟩; refine ⟨_, rfl, ?_⟩; have n0_ := Aside0.mk (below_step (by repeat (first | (with_reducible first | exact HB.out | apply below_alloc | apply pw_below_drewN | apply below_drew1) | exact HB.out)) hb); clear HB; have HB := n0_; clear n0_; (try clear hb); (try clear hb2); (try clear hk); (try clear hi)) | ((with_reducible refine gate_callee (f := 75) rfl ?_); refine goesL_ (some 21) rfl rfl Tryd.func75 (by kernel_rfl) rfl #[.string t109] rfl (by (try simp only [List.map_toArray, List.map_cons, List.map_nil]); first | done | rfl | (simp only [List.length_drop, List.length_take]; rfl)) ?_; (with_reducible refine (chars_isNamePart.calls t109 true _ A11.out).mono ?_); rintro e w19 ⟨rfl, hb⟩; refine ⟨_, rfl, ?_⟩; have n0_ := Aside0.mk (below_step (by repeat (first | (with_reducible first | exact HB.out | apply below_alloc | apply pw_below_drewN | apply below_drew1) | exact HB.out)) hb); clear HB; have HB := n0_; clear n0_; (try clear hb); (try clear hb2); (try clear hk); (try clear hi)))); (go_ret); (exact ⟨by first | rfl | (simp [errW_none, errW_some] <;> rfl) | (simp [*, errW_none, errW_some] <;> rfl), by repeat (first | (with_reducible first | exact HB.out | apply below_alloc | apply pw_below_drewN | apply below_drew1) | exact HB.out)⟩)
    ·replace c12 := Bool.eq_false_iff.mpr c12; subst c12; (have H1 : (some false) = some r := by rw [if_neg (show ¬ (false = true) by decide)] at H; exact H); clear H; have H := H1; clear H1; obtain rfl := Option.some.inj H; (go_wp2_with (first | ((with_reducible refine gate_callee (f := 74) rfl ?_); refine goesL_ (some 16) rfl rfl Tryd.func74 (by kernel_rfl) rfl #[.string a0, .string (⟨#[58]⟩ : ByteArray)] rfl (by (try simp only [List.map_toArray, List.map_cons, List.map_nil]); first | done | rfl | (simp only [List.length_drop, List.length_take]; rfl)) ?_; (with_reducible refine (strings_Cut.calls a0 (⟨#[58]⟩ : ByteArray) t109 t110 t111 _ A10.out).mono ?_); rintro e w20 ⟨rfl, hb⟩; refine ⟨_, rfl, ?_⟩; have n0_ := Aside0.mk (below_step (by repeat (first | (with_reducible first | exact HB.out | apply below_alloc | apply pw_below_drewN | apply below_drew1) | exact HB.out)) hb); clear HB; have HB := n0_; clear n0_; (try clear hb); (try clear hb2); (try clear hk); (try clear hi)) | ((with_reducible refine gate_callee (f := 75) rfl ?_); refine goesL_ (some 21) rfl rfl Tryd.func75 (by kernel_rfl) rfl #[.string t109] rfl (by (try simp only [List.map_toArray, List.map_cons, List.map_nil]); first | done | rfl | (simp only [List.length_drop, List.length_take]; rfl)) ?_; (with_reducible refine (chars_isNamePart.calls t109 false _ A11.out).mono ?_); rintro e w21 ⟨rfl, hb⟩; refine ⟨_, rfl, ?_⟩; have n0_ := Aside0.mk (below_step (by repeat (first | (with_reducible first | exact HB.out | apply below_alloc | apply pw_below_drewN | apply below_drew1) | exact HB.out)) hb); clear HB; have HB := n0_; clear n0_; (try clear hb); (try clear hb2); (try clear hk); (try clear hi)))); (go_ret); (exact ⟨by first | rfl | (simp [errW_none, errW_some] <;> rfl) | (simp [*, errW_none, errW_some] <;> rfl), by repeat (first | (with_reducible first | exact HB.out | apply below_alloc | apply pw_below_drewN | apply below_drew1) | exact HB.out)⟩)
end Go.Proofs.YtmpenkinheneoaaDoor.Q
namespace Go.Proofs.YtmpenkinheneoaaDoor.Q
open Go.RowKit Go.Proofs.YtmpenkinheneoaaDoorW.PrintWords Go.Proofs.YtmpenkinheneoaaDoorW.PrintLast Go.Proofs.YtmpenkinheneoaaDoorW.PrintMore
attribute [local go_sem] max2_int min2_int max_two min_two max_three min_three max_four min_four   -- for this text's walks alone
set_option linter.unusedVariables false
set_option linter.unusedSimpArgs false
-- HAND: function 59, by this session's own text
def lex_starts.f (k : Nat) (a0 : Int) : Option (Bool) := (chars_IsName.f k (Utf8.encode a0)).bind fun t => some t
theorem lex_starts.mono : ∀ a0 k, LeO (lex_starts.f k a0) (lex_starts.f (k + 1) a0) := by
 intro a0 k
 unfold lex_starts.f
 exact LeO.bind (chars_IsName.mono _ _) (fun _ => LeO.refl _)
set_option maxHeartbeats 400000 in
set_option maxRecDepth 100000 in
theorem lex_starts.calls (k : Nat) (a0 : Int) (r : Bool) (w : World) (h : lex_starts.f k a0 = some r) :
  Calls Tryd.prog 59 #[.int .i32 a0] w fun e w' => e = .returned (.bool r) ∧ Below w.heap.size w w' := by
 have H : chars_IsName.f k (Utf8.encode a0) = some r := by
  unfold lex_starts.f at h
  cases hx : chars_IsName.f k (Utf8.encode a0) with
  | none => rw [hx] at h; cases h
  | some t => rw [hx] at h; exact h
 go_enter Tryd.func59, Tryd.ntmps59
 go_wp2_with (go_at_call 72; (with_reducible refine (chars_IsName.calls k (Utf8.encode a0) r _ H).mono ?_); rintro e w1 ⟨rfl, hb⟩)
 go_ret
 exact ⟨rfl, hb⟩
end Go.Proofs.YtmpenkinheneoaaDoor.Q
