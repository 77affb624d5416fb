/- Several texts of this claim in one. -/
import Derived.Test.YtjhnmclancbilaaQx0
import Derived.Test.YtjhnmclancbilaaQx3
import Derived.Test.YtjhnmclancbilaaQx5
import Derived.Test.YtjhnmclancbilaaQx9
import Derived.Test.YtjhnmclancbilaaQx14
import Derived.Test.YtjhnmclancbilaaNamesA
import Derived.Test.YtjhnmclancbilaaPlainW
/- Walks of functions, each against a plain Lean function: written by this session's program wip/hand.py, which runs the kit's print with this session's own contracts put in. -/
namespace Go.Proofs.Ytjhnmclancbilaa.Q
open Go.RowKit Go.Proofs.YtjhnmclancbilaaW.PrintWords Go.Proofs.YtjhnmclancbilaaW.PrintLast Go.Proofs.YtjhnmclancbilaaW.PrintMore
attribute [local go_sem] max2_int min2_int max_two min_two max_three min_three max_four min_four   -- for this text's walks alone
set_option linter.unusedVariables false
set_option linter.unusedSimpArgs false

/-! ### chisellaw01_CharsNames: function 11 -/
mutual
def chisellaw01_CharsNames.j0 : Nat → ByteArray → ByteArray → Bool → Option (Bool)
  | 0, _, _, _ => none
  | k + 1, x0, x1, x13 => if x13 = true then ((chisellaw01_works.f k).bind fun t304 => (some t304)) else ((chars_IsName.f k x0).bind fun t305 => (if t305 = true then ((chars_IsText.f x0).bind fun t306 => (if t306 = true then ((chars_Norm.f x0).bind fun t307 => (if t307.toList = x0.toList then ((strings_Contains.f x0 (⟨#[32]⟩ : ByteArray)).bind fun t308 => (if t308 = true then (chisellaw01_CharsNames.j1 k x0 x1 true) else ((strings_Count.f x0 (⟨#[58]⟩ : ByteArray)).bind fun t309 => (if t309 > 1 then (chisellaw01_CharsNames.j1 k x0 x1 true) else ((chars_Len.f x0).bind fun t310 => (if t310 < 1 then (chisellaw01_CharsNames.j1 k x0 x1 true) else ((chars_Len.f x0).bind fun t311 => (chisellaw01_CharsNames.j1 k x0 x1 (decide (t311 > 100)))))))))) else (chisellaw01_CharsNames.j1 k x0 x1 true))) else (chisellaw01_CharsNames.j1 k x0 x1 true))) else (chisellaw01_CharsNames.j1 k x0 x1 false)))
def chisellaw01_CharsNames.j1 : Nat → ByteArray → ByteArray → Bool → Option (Bool)
  | 0, _, _, _ => none
  | k + 1, x0, x1, x46 => if x46 = true then (some false) else ((chisellaw01_CharsNames_1.f k x0).bind fun t312 => (if t312 = true then ((chisellaw01_CharsNames_1.f k x1).bind fun t313 => (if t313 = true then (if x0.size + 1 ≤ 9223372036854775807 then (if (x0 ++ (⟨#[58]⟩ : ByteArray)).size + x1.size ≤ 9223372036854775807 then ((chars_IsName.f k ((x0 ++ (⟨#[58]⟩ : ByteArray)) ++ x1)).bind fun t314 => ((chars_Len.f x0).bind fun t315 => ((chars_Len.f x1).bind fun t316 => (chisellaw01_CharsNames.j2 k x0 x1 (t314 != (decide ((wrap64 (t315 + t316)) < 100))))))) else (none)) else (none)) else (chisellaw01_CharsNames.j2 k x0 x1 false))) else (chisellaw01_CharsNames.j2 k x0 x1 false)))
def chisellaw01_CharsNames.j2 : Nat → ByteArray → ByteArray → Bool → Option (Bool)
  | 0, _, _, _ => none
  | k + 1, x0, x1, x68 => if x68 = true then (some false) else (if x0.size + 1 ≤ 9223372036854775807 then (if (x0 ++ (⟨#[58]⟩ : ByteArray)).size + x1.size ≤ 9223372036854775807 then ((chars_IsName.f k ((x0 ++ (⟨#[58]⟩ : ByteArray)) ++ x1)).bind fun t317 => (if t317 = true then ((chisellaw01_CharsNames_1.f k x0).bind fun t318 => (if t318 = true then ((chisellaw01_CharsNames_1.f k x1).bind fun t319 => (if t319 = true then (if (x0 ++ (⟨#[32]⟩ : ByteArray)).size + x1.size ≤ 9223372036854775807 then ((chars_IsName.f k ((x0 ++ (⟨#[32]⟩ : ByteArray)) ++ x1)).bind fun t320 => (if t320 = true then (chisellaw01_CharsNames.j3 k x0 true) else (if x0.size + 2 ≤ 9223372036854775807 then (if (x0 ++ (⟨#[58, 58]⟩ : ByteArray)).size + x1.size ≤ 9223372036854775807 then ((chars_IsName.f k ((x0 ++ (⟨#[58, 58]⟩ : ByteArray)) ++ x1)).bind fun t321 => (chisellaw01_CharsNames.j3 k x0 t321)) else (none)) else (none)))) else (none)) else (chisellaw01_CharsNames.j3 k x0 true))) else (chisellaw01_CharsNames.j3 k x0 true))) else (if (x0 ++ (⟨#[32]⟩ : ByteArray)).size + x1.size ≤ 9223372036854775807 then ((chars_IsName.f k ((x0 ++ (⟨#[32]⟩ : ByteArray)) ++ x1)).bind fun t322 => (if t322 = true then (chisellaw01_CharsNames.j3 k x0 true) else (if x0.size + 2 ≤ 9223372036854775807 then (if (x0 ++ (⟨#[58, 58]⟩ : ByteArray)).size + x1.size ≤ 9223372036854775807 then ((chars_IsName.f k ((x0 ++ (⟨#[58, 58]⟩ : ByteArray)) ++ x1)).bind fun t323 => (chisellaw01_CharsNames.j3 k x0 t323)) else (none)) else (none)))) else (none)))) else (none)) else (none))
def chisellaw01_CharsNames.j3 : Nat → ByteArray → Bool → Option (Bool)
  | 0, _, _ => none
  | k + 1, x0, x98 => if x98 = true then (some false) else ((chars_IsName.f k x0).bind fun t324 => (if t324 = true then ((chars_Len.f x0).bind fun t325 => (if t325 > 95 then ((chisellaw01_works.f k).bind fun t326 => (some t326)) else (if x0.size + 5 ≤ 9223372036854775807 then ((chars_IsName.f k (x0 ++ (⟨#[45, 46, 194, 183, 57]⟩ : ByteArray))).bind fun t327 => (if t327 = true then ((chisellaw01_works.f k).bind fun t328 => (some t328)) else (some false))) else (none)))) else ((chisellaw01_works.f k).bind fun t329 => (some t329))))
end
def chisellaw01_CharsNames.f (k : Nat) (a0 : ByteArray) (a1 : ByteArray) : Option (Bool) := if (a0.size : Int) > 2000 then (chisellaw01_CharsNames.j0 k a0 a1 true) else (chisellaw01_CharsNames.j0 k a0 a1 (decide ((a1.size : Int) > 2000)))
theorem chisellaw01_CharsNames.mono_l : ∀ k, (∀ y0 y1 y2, LeO (chisellaw01_CharsNames.j0 k y0 y1 y2) (chisellaw01_CharsNames.j0 (k + 1) y0 y1 y2)) ∧ (∀ y0 y1 y2, LeO (chisellaw01_CharsNames.j1 k y0 y1 y2) (chisellaw01_CharsNames.j1 (k + 1) y0 y1 y2)) ∧ (∀ y0 y1 y2, LeO (chisellaw01_CharsNames.j2 k y0 y1 y2) (chisellaw01_CharsNames.j2 (k + 1) y0 y1 y2)) ∧ (∀ y0 y1, LeO (chisellaw01_CharsNames.j3 k y0 y1) (chisellaw01_CharsNames.j3 (k + 1) y0 y1))
  | 0 => ⟨fun _ _ _ r h => by simp [chisellaw01_CharsNames.j0] at h, fun _ _ _ r h => by simp [chisellaw01_CharsNames.j1] at h, fun _ _ _ r h => by simp [chisellaw01_CharsNames.j2] at h, fun _ _ r h => by simp [chisellaw01_CharsNames.j3] at h⟩
  | k + 1 => by
    obtain ⟨ih0, ih1, ih2, ih3⟩ := chisellaw01_CharsNames.mono_l k
    refine ⟨?_, ?_, ?_, ?_⟩
    · intro y0 y1 y2
      unfold chisellaw01_CharsNames.j0
      repeat' first
      | (with_reducible exact ih0 _ _ _)
      | (with_reducible exact ih1 _ _ _)
      | (with_reducible exact ih2 _ _ _)
      | (with_reducible exact ih3 _ _)
      | (with_reducible exact chars_IsName.mono _ _)
      | (with_reducible exact chisellaw01_CharsNames_1.mono _ _)
      | (with_reducible exact chisellaw01_works.mono _)
      | (with_reducible exact LeO.refl _)
      | (with_reducible exact LeO.none _)
      | (with_reducible refine LeO.ite ?_ ?_)
      | (with_reducible refine LeO.bind ?_ (fun _ => ?_))
      | exact ih0 _ _ _
      | exact ih1 _ _ _
      | exact ih2 _ _ _
      | exact ih3 _ _
      | exact chars_IsName.mono _ _
      | exact chisellaw01_CharsNames_1.mono _ _
      | exact chisellaw01_works.mono _
      | exact LeO.none _
      | refine LeO.ite ?_ ?_
      | refine LeO.bind ?_ (fun _ => ?_)
    · intro y0 y1 y2
      unfold chisellaw01_CharsNames.j1
      repeat' first
      | (with_reducible exact ih0 _ _ _)
      | (with_reducible exact ih1 _ _ _)
      | (with_reducible exact ih2 _ _ _)
      | (with_reducible exact ih3 _ _)
      | (with_reducible exact chars_IsName.mono _ _)
      | (with_reducible exact chisellaw01_CharsNames_1.mono _ _)
      | (with_reducible exact chisellaw01_works.mono _)
      | (with_reducible exact LeO.refl _)
      | (with_reducible exact LeO.none _)
      | (with_reducible refine LeO.ite ?_ ?_)
      | (with_reducible refine LeO.bind ?_ (fun _ => ?_))
      | exact ih0 _ _ _
      | exact ih1 _ _ _
      | exact ih2 _ _ _
      | exact ih3 _ _
      | exact chars_IsName.mono _ _
      | exact chisellaw01_CharsNames_1.mono _ _
      | exact chisellaw01_works.mono _
      | exact LeO.none _
      | refine LeO.ite ?_ ?_
      | refine LeO.bind ?_ (fun _ => ?_)
    · intro y0 y1 y2
      unfold chisellaw01_CharsNames.j2
      repeat' first
      | (with_reducible exact ih0 _ _ _)
      | (with_reducible exact ih1 _ _ _)
      | (with_reducible exact ih2 _ _ _)
      | (with_reducible exact ih3 _ _)
      | (with_reducible exact chars_IsName.mono _ _)
      | (with_reducible exact chisellaw01_CharsNames_1.mono _ _)
      | (with_reducible exact chisellaw01_works.mono _)
      | (with_reducible exact LeO.refl _)
      | (with_reducible exact LeO.none _)
      | (with_reducible refine LeO.ite ?_ ?_)
      | (with_reducible refine LeO.bind ?_ (fun _ => ?_))
      | exact ih0 _ _ _
      | exact ih1 _ _ _
      | exact ih2 _ _ _
      | exact ih3 _ _
      | exact chars_IsName.mono _ _
      | exact chisellaw01_CharsNames_1.mono _ _
      | exact chisellaw01_works.mono _
      | exact LeO.none _
      | refine LeO.ite ?_ ?_
      | refine LeO.bind ?_ (fun _ => ?_)
    · intro y0 y1
      unfold chisellaw01_CharsNames.j3
      repeat' first
      | (with_reducible exact ih0 _ _ _)
      | (with_reducible exact ih1 _ _ _)
      | (with_reducible exact ih2 _ _ _)
      | (with_reducible exact ih3 _ _)
      | (with_reducible exact chars_IsName.mono _ _)
      | (with_reducible exact chisellaw01_CharsNames_1.mono _ _)
      | (with_reducible exact chisellaw01_works.mono _)
      | (with_reducible exact LeO.refl _)
      | (with_reducible exact LeO.none _)
      | (with_reducible refine LeO.ite ?_ ?_)
      | (with_reducible refine LeO.bind ?_ (fun _ => ?_))
      | exact ih0 _ _ _
      | exact ih1 _ _ _
      | exact ih2 _ _ _
      | exact ih3 _ _
      | exact chars_IsName.mono _ _
      | exact chisellaw01_CharsNames_1.mono _ _
      | exact chisellaw01_works.mono _
      | exact LeO.none _
      | refine LeO.ite ?_ ?_
      | refine LeO.bind ?_ (fun _ => ?_)
theorem chisellaw01_CharsNames.mono : ∀ a0 a1 k, LeO (chisellaw01_CharsNames.f k a0 a1) (chisellaw01_CharsNames.f (k + 1) a0 a1) := by
  intro a0 a1 k
  obtain ⟨ih0, ih1, ih2, ih3⟩ := chisellaw01_CharsNames.mono_l k
  unfold chisellaw01_CharsNames.f
  repeat' first
      | (with_reducible exact ih0 _ _ _)
      | (with_reducible exact ih1 _ _ _)
      | (with_reducible exact ih2 _ _ _)
      | (with_reducible exact ih3 _ _)
      | (with_reducible exact chars_IsName.mono _ _)
      | (with_reducible exact chisellaw01_CharsNames_1.mono _ _)
      | (with_reducible exact chisellaw01_works.mono _)
      | (with_reducible exact LeO.refl _)
      | (with_reducible exact LeO.none _)
      | (with_reducible refine LeO.ite ?_ ?_)
      | (with_reducible refine LeO.bind ?_ (fun _ => ?_))
      | exact ih0 _ _ _
      | exact ih1 _ _ _
      | exact ih2 _ _ _
      | exact ih3 _ _
      | exact chars_IsName.mono _ _
      | exact chisellaw01_CharsNames_1.mono _ _
      | exact chisellaw01_works.mono _
      | exact LeO.none _
      | refine LeO.ite ?_ ?_
      | refine LeO.bind ?_ (fun _ => ?_)
set_option maxHeartbeats 8000000 in
set_option maxRecDepth 100000 in
theorem chisellaw01_CharsNames.calls (k : Nat) (a0 : ByteArray) (a1 : ByteArray) (r : Bool) (w : World) (h : chisellaw01_CharsNames.f k a0 a1 = some r) :
    Calls Try.prog 11 #[.string a0, .string a1] w fun e w' => e = .returned (.bool r) ∧ Below w.heap.size w w' := by
  have HB := Aside0.mk (Below.refl w.heap.size w)
  have H : (if (a0.size : Int) > 2000 then (chisellaw01_CharsNames.j0 k a0 a1 true) else (chisellaw01_CharsNames.j0 k a0 a1 (decide ((a1.size : Int) > 2000)))) = some r := h
  clear h
  have HC3 := Aside0.mk H
  clear H
  go_enter Try.func11, Try.ntmps11
  go_upto_region 1 with (fail)
  go_cut [13] (fun v13 wc => ∃ (kq : Nat) (x13_2 : Bool), v13 = .bool x13_2 ∧ Aside0 (chisellaw01_CharsNames.j0 kq a0 a1 x13_2 = some r) ∧ Aside0 (kq ≤ k) ∧ Aside0 (Below w.heap.size w wc))
  case first =>
    have H := HC3.out
    clear HC3
    by_cases c4 : (a0.size : Int) > 2000
    · rw [if_pos c4] at H
      have c4b0 : decide (2000 < (a0.size : Int)) = true := decide_eq_true c4
      have c4b1 : decide (2000 < a0.size) = true := decide_eq_true (by omega)
      clear c4
      (first | rw [c4b0] | (simp only [i64_w, i32_w]; rw [c4b0]) | skip)
      have H' := Aside0.mk H
      clear H
      go_wp2
      go_meet
      case rel => exact ⟨_, (true), (by first | rfl | (simp; done) | (simp [*]; done)), H', ⟨by first | omega | exact Nat.le_refl _⟩, ⟨by repeat (first | (with_reducible first | exact HB.out | apply below_alloc | apply pw_below_drewN | apply below_drew1) | exact HB.out)⟩⟩
    · rw [if_neg c4] at H
      have c4b0 : decide (2000 < (a0.size : Int)) = false := decide_eq_false c4
      have c4b1 : decide (2000 < a0.size) = false := decide_eq_false (by omega)
      clear c4
      (first | rw [c4b0] | (simp only [i64_w, i32_w]; rw [c4b0]) | skip)
      have H' := Aside0.mk H
      clear H
      go_wp2
      go_meet
      case rel => exact ⟨_, (decide ((a1.size : Int) > 2000)), (by first | rfl | (simp; done) | (simp [*]; done)), H', ⟨by first | omega | exact Nat.le_refl _⟩, ⟨by repeat (first | (with_reducible first | exact HB.out | apply below_alloc | apply pw_below_drewN | apply below_drew1) | exact HB.out)⟩⟩
  case rest =>
    clear HC3
    try clear c1
    try clear p2
    try clear c4
    try clear c4b0
    try clear c4b1
    obtain ⟨kq, x13_2, rfl, HA, HJ2, HB⟩ := hcut
    cases kq with
    | zero => exact absurd HA.out (by simp [chisellaw01_CharsNames.j0])
    | succ kj2 =>
      have H := HA.out
      clear HA
      simp only [chisellaw01_CharsNames.j0] at H
      by_cases c5 : x13_2 = true
      · subst c5
        have H1 : ((chisellaw01_works.f kj2).bind fun t304 => (some t304)) = some r := by rw [if_pos rfl] at H; exact H
        clear H
        have H := H1
        clear H1
        replace H := Option.bind_eq_some_iff.mp H
        obtain ⟨t304, A60, H⟩ := H
        replace H : (some t304) = some r := H
        have A6 := Aside0.mk A60
        clear A60
        obtain rfl := Option.some.inj H
        go_wp2_with (first | ((with_reducible refine gate_callee (f := 13) rfl ?_); refine goesL_ (some 14) rfl rfl Try.func13 (by kernel_rfl) rfl #[] rfl (by (try simp only [List.map_toArray, List.map_cons, List.map_nil]); first | done | rfl | (simp only [List.length_drop, List.length_take]; rfl)) ?_; (with_reducible refine (chisellaw01_works.calls kj2  t304 _ A6.out).mono ?_); rintro e w7 ⟨rfl, hb⟩; refine ⟨_, rfl, ?_⟩; have n0_ := Aside0.mk (below_step (by repeat (first | (with_reducible first | exact HB.out | apply below_alloc | apply pw_below_drewN | apply below_drew1) | exact HB.out)) hb); clear HB; have HB := n0_; clear n0_; (try clear hb); (try clear hb2); (try clear hk); (try clear hi)))
        go_ret
        exact ⟨by first | rfl | (simp [errW_none, errW_some] <;> rfl) | (simp [*, errW_none, errW_some] <;> rfl), by repeat (first | (with_reducible first | exact HB.out | apply below_alloc | apply pw_below_drewN | apply below_drew1) | exact HB.out)⟩
      · replace c5 := Bool.eq_false_iff.mpr c5
        subst c5
        have H1 : ((chars_IsName.f kj2 a0).bind fun t305 => (if t305 = true then ((chars_IsText.f a0).bind fun t306 => (if t306 = true then ((chars_Norm.f a0).bind fun t307 => (if t307.toList = a0.toList then ((strings_Contains.f a0 (⟨#[32]⟩ : ByteArray)).bind fun t308 => (if t308 = true then (chisellaw01_CharsNames.j1 kj2 a0 a1 true) else ((strings_Count.f a0 (⟨#[58]⟩ : ByteArray)).bind fun t309 => (if t309 > 1 then (chisellaw01_CharsNames.j1 kj2 a0 a1 true) else ((chars_Len.f a0).bind fun t310 => (if t310 < 1 then (chisellaw01_CharsNames.j1 kj2 a0 a1 true) else ((chars_Len.f a0).bind fun t311 => (chisellaw01_CharsNames.j1 kj2 a0 a1 (decide (t311 > 100)))))))))) else (chisellaw01_CharsNames.j1 kj2 a0 a1 true))) else (chisellaw01_CharsNames.j1 kj2 a0 a1 true))) else (chisellaw01_CharsNames.j1 kj2 a0 a1 false))) = some r := by rw [if_neg (show ¬ (false = true) by decide)] at H; exact H
        clear H
        have H := H1
        clear H1
        have HC8 := Aside0.mk H
        clear H
        go_upto_region 3 with (fail)
        go_cut [46] (fun v46 wc => ∃ (kq : Nat) (x46_7 : Bool), v46 = .bool x46_7 ∧ Aside0 (chisellaw01_CharsNames.j1 kq a0 a1 x46_7 = some r) ∧ Aside0 (kq ≤ kj2) ∧ Aside0 (Below w.heap.size w wc))
        case first =>
          have H := HC8.out
          clear HC8
          replace H := Option.bind_eq_some_iff.mp H
          obtain ⟨t305, A90, H⟩ := H
          replace H : (if t305 = true then ((chars_IsText.f a0).bind fun t306 => (if t306 = true then ((chars_Norm.f a0).bind fun t307 => (if t307.toList = a0.toList then ((strings_Contains.f a0 (⟨#[32]⟩ : ByteArray)).bind fun t308 => (if t308 = true then (chisellaw01_CharsNames.j1 kj2 a0 a1 true) else ((strings_Count.f a0 (⟨#[58]⟩ : ByteArray)).bind fun t309 => (if t309 > 1 then (chisellaw01_CharsNames.j1 kj2 a0 a1 true) else ((chars_Len.f a0).bind fun t310 => (if t310 < 1 then (chisellaw01_CharsNames.j1 kj2 a0 a1 true) else ((chars_Len.f a0).bind fun t311 => (chisellaw01_CharsNames.j1 kj2 a0 a1 (decide (t311 > 100)))))))))) else (chisellaw01_CharsNames.j1 kj2 a0 a1 true))) else (chisellaw01_CharsNames.j1 kj2 a0 a1 true))) else (chisellaw01_CharsNames.j1 kj2 a0 a1 false)) = some r := H
          have A9 := Aside0.mk A90
          clear A90
          by_cases c10 : t305 = true
          · subst c10
            have H1 : ((chars_IsText.f a0).bind fun t306 => (if t306 = true then ((chars_Norm.f a0).bind fun t307 => (if t307.toList = a0.toList then ((strings_Contains.f a0 (⟨#[32]⟩ : ByteArray)).bind fun t308 => (if t308 = true then (chisellaw01_CharsNames.j1 kj2 a0 a1 true) else ((strings_Count.f a0 (⟨#[58]⟩ : ByteArray)).bind fun t309 => (if t309 > 1 then (chisellaw01_CharsNames.j1 kj2 a0 a1 true) else ((chars_Len.f a0).bind fun t310 => (if t310 < 1 then (chisellaw01_CharsNames.j1 kj2 a0 a1 true) else ((chars_Len.f a0).bind fun t311 => (chisellaw01_CharsNames.j1 kj2 a0 a1 (decide (t311 > 100)))))))))) else (chisellaw01_CharsNames.j1 kj2 a0 a1 true))) else (chisellaw01_CharsNames.j1 kj2 a0 a1 true))) = some r := by rw [if_pos rfl] at H; exact H
            clear H
            have H := H1
            clear H1
            replace H := Option.bind_eq_some_iff.mp H
            obtain ⟨t306, A110, H⟩ := H
            replace H : (if t306 = true then ((chars_Norm.f a0).bind fun t307 => (if t307.toList = a0.toList then ((strings_Contains.f a0 (⟨#[32]⟩ : ByteArray)).bind fun t308 => (if t308 = true then (chisellaw01_CharsNames.j1 kj2 a0 a1 true) else ((strings_Count.f a0 (⟨#[58]⟩ : ByteArray)).bind fun t309 => (if t309 > 1 then (chisellaw01_CharsNames.j1 kj2 a0 a1 true) else ((chars_Len.f a0).bind fun t310 => (if t310 < 1 then (chisellaw01_CharsNames.j1 kj2 a0 a1 true) else ((chars_Len.f a0).bind fun t311 => (chisellaw01_CharsNames.j1 kj2 a0 a1 (decide (t311 > 100)))))))))) else (chisellaw01_CharsNames.j1 kj2 a0 a1 true))) else (chisellaw01_CharsNames.j1 kj2 a0 a1 true)) = some r := H
            have A11 := Aside0.mk A110
            clear A110
            by_cases c12 : t306 = true
            · subst c12
              have H1 : ((chars_Norm.f a0).bind fun t307 => (if t307.toList = a0.toList then ((strings_Contains.f a0 (⟨#[32]⟩ : ByteArray)).bind fun t308 => (if t308 = true then (chisellaw01_CharsNames.j1 kj2 a0 a1 true) else ((strings_Count.f a0 (⟨#[58]⟩ : ByteArray)).bind fun t309 => (if t309 > 1 then (chisellaw01_CharsNames.j1 kj2 a0 a1 true) else ((chars_Len.f a0).bind fun t310 => (if t310 < 1 then (chisellaw01_CharsNames.j1 kj2 a0 a1 true) else ((chars_Len.f a0).bind fun t311 => (chisellaw01_CharsNames.j1 kj2 a0 a1 (decide (t311 > 100)))))))))) else (chisellaw01_CharsNames.j1 kj2 a0 a1 true))) = some r := by rw [if_pos rfl] at H; exact H
              clear H
              have H := H1
              clear H1
              replace H := Option.bind_eq_some_iff.mp H
              obtain ⟨t307, A130, H⟩ := H
              replace H : (if t307.toList = a0.toList then ((strings_Contains.f a0 (⟨#[32]⟩ : ByteArray)).bind fun t308 => (if t308 = true then (chisellaw01_CharsNames.j1 kj2 a0 a1 true) else ((strings_Count.f a0 (⟨#[58]⟩ : ByteArray)).bind fun t309 => (if t309 > 1 then (chisellaw01_CharsNames.j1 kj2 a0 a1 true) else ((chars_Len.f a0).bind fun t310 => (if t310 < 1 then (chisellaw01_CharsNames.j1 kj2 a0 a1 true) else ((chars_Len.f a0).bind fun t311 => (chisellaw01_CharsNames.j1 kj2 a0 a1 (decide (t311 > 100)))))))))) else (chisellaw01_CharsNames.j1 kj2 a0 a1 true)) = some r := H
              have A13 := Aside0.mk A130
              clear A130
              by_cases c14 : t307.toList = a0.toList
              · rw [if_pos c14] at H
                have c14b0 : (t307.toList == a0.toList) = true := beq_iff_eq.mpr c14
                have c14b1 : (t307.toList != a0.toList) = false := bne_eq_false_iff_eq.mpr c14
                clear c14
                (first | rw [c14b0] | (simp only [i64_w, i32_w]; rw [c14b0]) | skip)
                replace H := Option.bind_eq_some_iff.mp H
                obtain ⟨t308, A150, H⟩ := H
                replace H : (if t308 = true then (chisellaw01_CharsNames.j1 kj2 a0 a1 true) else ((strings_Count.f a0 (⟨#[58]⟩ : ByteArray)).bind fun t309 => (if t309 > 1 then (chisellaw01_CharsNames.j1 kj2 a0 a1 true) else ((chars_Len.f a0).bind fun t310 => (if t310 < 1 then (chisellaw01_CharsNames.j1 kj2 a0 a1 true) else ((chars_Len.f a0).bind fun t311 => (chisellaw01_CharsNames.j1 kj2 a0 a1 (decide (t311 > 100))))))))) = some r := H
                have A15 := Aside0.mk A150
                clear A150
                by_cases c16 : t308 = true
                · subst c16
                  have H1 : (chisellaw01_CharsNames.j1 kj2 a0 a1 true) = some r := by rw [if_pos rfl] at H; exact H
                  clear H
                  have H := H1
                  clear H1
                  have H' := Aside0.mk H
                  clear H
                  go_wp2_with (first | ((with_reducible refine gate_callee (f := 26) rfl ?_); refine goesL_ (some 16) rfl rfl Try.func26 (by kernel_rfl) rfl #[.string a0] rfl (by (try simp only [List.map_toArray, List.map_cons, List.map_nil]); first | done | rfl | (simp only [List.length_drop, List.length_take]; rfl)) ?_; (with_reducible refine (chars_IsName.calls kj2 a0 true _ A9.out).mono ?_); rintro e w17 ⟨rfl, hb⟩; refine ⟨_, rfl, ?_⟩; have n0_ := Aside0.mk (below_step (by repeat (first | (with_reducible first | exact HB.out | apply below_alloc | apply pw_below_drewN | apply below_drew1) | exact HB.out)) hb); clear HB; have HB := n0_; clear n0_; (try clear hb); (try clear hb2); (try clear hk); (try clear hi)) | (go_at_call 28; (with_reducible refine (chars_IsText.calls a0 true _ A11.out).mono ?_); rintro e w18 ⟨rfl, hb⟩; have n0_ := Aside0.mk (below_step (by repeat (first | (with_reducible first | exact HB.out | apply below_alloc | apply pw_below_drewN | apply below_drew1) | exact HB.out)) hb); clear HB; have HB := n0_; clear n0_; (try clear hb); (try clear hb2); (try clear hk); (try clear hi)) | (go_at_call 14; (with_reducible refine (chars_Norm.calls a0 t307 _ A13.out).mono ?_); rintro e w19 ⟨rfl, hb⟩; have n0_ := Aside0.mk (below_step (by repeat (first | (with_reducible first | exact HB.out | apply below_alloc | apply pw_below_drewN | apply below_drew1) | exact HB.out)) hb); clear HB; have HB := n0_; clear n0_; (try clear hb); (try clear hb2); (try clear hk); (try clear hi)) | (go_at_call 32; (with_reducible refine (strings_Contains.calls a0 (⟨#[32]⟩ : ByteArray) true _ A15.out).mono ?_); rintro e w20 ⟨rfl, hb⟩; have n0_ := Aside0.mk (below_step (by repeat (first | (with_reducible first | exact HB.out | apply below_alloc | apply pw_below_drewN | apply below_drew1) | exact HB.out)) hb); clear HB; have HB := n0_; clear n0_; (try clear hb); (try clear hb2); (try clear hk); (try clear hi)))
                  go_meet
                  case rel => exact ⟨_, (true), (by first | rfl | (simp; done) | (simp [*]; done)), H', ⟨by have := HJ2.out; first | omega | exact Nat.le_refl _⟩, ⟨by repeat (first | (with_reducible first | exact HB.out | apply below_alloc | apply pw_below_drewN | apply below_drew1) | exact HB.out)⟩⟩
                · replace c16 := Bool.eq_false_iff.mpr c16
                  subst c16
                  have H1 : ((strings_Count.f a0 (⟨#[58]⟩ : ByteArray)).bind fun t309 => (if t309 > 1 then (chisellaw01_CharsNames.j1 kj2 a0 a1 true) else ((chars_Len.f a0).bind fun t310 => (if t310 < 1 then (chisellaw01_CharsNames.j1 kj2 a0 a1 true) else ((chars_Len.f a0).bind fun t311 => (chisellaw01_CharsNames.j1 kj2 a0 a1 (decide (t311 > 100)))))))) = some r := by rw [if_neg (show ¬ (false = true) by decide)] at H; exact H
                  clear H
                  have H := H1
                  clear H1
                  replace H := Option.bind_eq_some_iff.mp H
                  obtain ⟨t309, A210, H⟩ := H
                  replace H : (if t309 > 1 then (chisellaw01_CharsNames.j1 kj2 a0 a1 true) else ((chars_Len.f a0).bind fun t310 => (if t310 < 1 then (chisellaw01_CharsNames.j1 kj2 a0 a1 true) else ((chars_Len.f a0).bind fun t311 => (chisellaw01_CharsNames.j1 kj2 a0 a1 (decide (t311 > 100))))))) = some r := H
                  have A21 := Aside0.mk A210
                  clear A210
                  by_cases c22 : t309 > 1
                  · rw [if_pos c22] at H
                    have c22b0 : decide (1 < t309) = true := decide_eq_true c22
                    clear c22
                    have H' := Aside0.mk H
                    clear H
                    go_wp2_with (first | ((with_reducible refine gate_callee (f := 26) rfl ?_); refine goesL_ (some 16) rfl rfl Try.func26 (by kernel_rfl) rfl #[.string a0] rfl (by (try simp only [List.map_toArray, List.map_cons, List.map_nil]); first | done | rfl | (simp only [List.length_drop, List.length_take]; rfl)) ?_; (with_reducible refine (chars_IsName.calls kj2 a0 true _ A9.out).mono ?_); rintro e w23 ⟨rfl, hb⟩; refine ⟨_, rfl, ?_⟩; have n0_ := Aside0.mk (below_step (by repeat (first | (with_reducible first | exact HB.out | apply below_alloc | apply pw_below_drewN | apply below_drew1) | exact HB.out)) hb); clear HB; have HB := n0_; clear n0_; (try clear hb); (try clear hb2); (try clear hk); (try clear hi)) | (go_at_call 28; (with_reducible refine (chars_IsText.calls a0 true _ A11.out).mono ?_); rintro e w24 ⟨rfl, hb⟩; have n0_ := Aside0.mk (below_step (by repeat (first | (with_reducible first | exact HB.out | apply below_alloc | apply pw_below_drewN | apply below_drew1) | exact HB.out)) hb); clear HB; have HB := n0_; clear n0_; (try clear hb); (try clear hb2); (try clear hk); (try clear hi)) | (go_at_call 14; (with_reducible refine (chars_Norm.calls a0 t307 _ A13.out).mono ?_); rintro e w25 ⟨rfl, hb⟩; have n0_ := Aside0.mk (below_step (by repeat (first | (with_reducible first | exact HB.out | apply below_alloc | apply pw_below_drewN | apply below_drew1) | exact HB.out)) hb); clear HB; have HB := n0_; clear n0_; (try clear hb); (try clear hb2); (try clear hk); (try clear hi)) | (go_at_call 32; (with_reducible refine (strings_Contains.calls a0 (⟨#[32]⟩ : ByteArray) false _ A15.out).mono ?_); rintro e w26 ⟨rfl, hb⟩; have n0_ := Aside0.mk (below_step (by repeat (first | (with_reducible first | exact HB.out | apply below_alloc | apply pw_below_drewN | apply below_drew1) | exact HB.out)) hb); clear HB; have HB := n0_; clear n0_; (try clear hb); (try clear hb2); (try clear hk); (try clear hi)) | (go_at_call 33; (with_reducible refine (strings_Count.calls a0 (⟨#[58]⟩ : ByteArray) t309 _ A21.out).mono ?_); rintro e w27 ⟨rfl, hb⟩; have n0_ := Aside0.mk (below_step (by repeat (first | (with_reducible first | exact HB.out | apply below_alloc | apply pw_below_drewN | apply below_drew1) | exact HB.out)) hb); clear HB; have HB := n0_; clear n0_; (try clear hb); (try clear hb2); (try clear hk); (try clear hi)))
                    go_meet
                    case rel => exact ⟨_, (true), (by first | rfl | (simp; done) | (simp [*]; done)), H', ⟨by have := HJ2.out; first | omega | exact Nat.le_refl _⟩, ⟨by repeat (first | (with_reducible first | exact HB.out | apply below_alloc | apply pw_below_drewN | apply below_drew1) | exact HB.out)⟩⟩
                  · rw [if_neg c22] at H
                    have c22b0 : decide (1 < t309) = false := decide_eq_false c22
                    clear c22
                    replace H := Option.bind_eq_some_iff.mp H
                    obtain ⟨t310, A280, H⟩ := H
                    replace H : (if t310 < 1 then (chisellaw01_CharsNames.j1 kj2 a0 a1 true) else ((chars_Len.f a0).bind fun t311 => (chisellaw01_CharsNames.j1 kj2 a0 a1 (decide (t311 > 100))))) = some r := H
                    have A28 := Aside0.mk A280
                    clear A280
                    by_cases c29 : t310 < 1
                    · rw [if_pos c29] at H
                      have c29b0 : decide (t310 < 1) = true := decide_eq_true c29
                      clear c29
                      have H' := Aside0.mk H
                      clear H
                      go_wp2_with (first | ((with_reducible refine gate_callee (f := 26) rfl ?_); refine goesL_ (some 16) rfl rfl Try.func26 (by kernel_rfl) rfl #[.string a0] rfl (by (try simp only [List.map_toArray, List.map_cons, List.map_nil]); first | done | rfl | (simp only [List.length_drop, List.length_take]; rfl)) ?_; (with_reducible refine (chars_IsName.calls kj2 a0 true _ A9.out).mono ?_); rintro e w30 ⟨rfl, hb⟩; refine ⟨_, rfl, ?_⟩; have n0_ := Aside0.mk (below_step (by repeat (first | (with_reducible first | exact HB.out | apply below_alloc | apply pw_below_drewN | apply below_drew1) | exact HB.out)) hb); clear HB; have HB := n0_; clear n0_; (try clear hb); (try clear hb2); (try clear hk); (try clear hi)) | (go_at_call 28; (with_reducible refine (chars_IsText.calls a0 true _ A11.out).mono ?_); rintro e w31 ⟨rfl, hb⟩; have n0_ := Aside0.mk (below_step (by repeat (first | (with_reducible first | exact HB.out | apply below_alloc | apply pw_below_drewN | apply below_drew1) | exact HB.out)) hb); clear HB; have HB := n0_; clear n0_; (try clear hb); (try clear hb2); (try clear hk); (try clear hi)) | (go_at_call 14; (with_reducible refine (chars_Norm.calls a0 t307 _ A13.out).mono ?_); rintro e w32 ⟨rfl, hb⟩; have n0_ := Aside0.mk (below_step (by repeat (first | (with_reducible first | exact HB.out | apply below_alloc | apply pw_below_drewN | apply below_drew1) | exact HB.out)) hb); clear HB; have HB := n0_; clear n0_; (try clear hb); (try clear hb2); (try clear hk); (try clear hi)) | (go_at_call 32; (with_reducible refine (strings_Contains.calls a0 (⟨#[32]⟩ : ByteArray) false _ A15.out).mono ?_); rintro e w33 ⟨rfl, hb⟩; have n0_ := Aside0.mk (below_step (by repeat (first | (with_reducible first | exact HB.out | apply below_alloc | apply pw_below_drewN | apply below_drew1) | exact HB.out)) hb); clear HB; have HB := n0_; clear n0_; (try clear hb); (try clear hb2); (try clear hk); (try clear hi)) | (go_at_call 33; (with_reducible refine (strings_Count.calls a0 (⟨#[58]⟩ : ByteArray) t309 _ A21.out).mono ?_); rintro e w34 ⟨rfl, hb⟩; have n0_ := Aside0.mk (below_step (by repeat (first | (with_reducible first | exact HB.out | apply below_alloc | apply pw_below_drewN | apply below_drew1) | exact HB.out)) hb); clear HB; have HB := n0_; clear n0_; (try clear hb); (try clear hb2); (try clear hk); (try clear hi)) | (go_at_call 21; (with_reducible refine (chars_Len.calls a0 t310 _ A28.out).mono ?_); rintro e w35 ⟨rfl, hb⟩; have n0_ := Aside0.mk (below_step (by repeat (first | (with_reducible first | exact HB.out | apply below_alloc | apply pw_below_drewN | apply below_drew1) | exact HB.out)) hb); clear HB; have HB := n0_; clear n0_; (try clear hb); (try clear hb2); (try clear hk); (try clear hi)))
                      go_meet
                      case rel => exact ⟨_, (true), (by first | rfl | (simp; done) | (simp [*]; done)), H', ⟨by have := HJ2.out; first | omega | exact Nat.le_refl _⟩, ⟨by repeat (first | (with_reducible first | exact HB.out | apply below_alloc | apply pw_below_drewN | apply below_drew1) | exact HB.out)⟩⟩
                    · rw [if_neg c29] at H
                      have c29b0 : decide (t310 < 1) = false := decide_eq_false c29
                      clear c29
                      replace H := Option.bind_eq_some_iff.mp H
                      obtain ⟨t311, A360, H⟩ := H
                      replace H : (chisellaw01_CharsNames.j1 kj2 a0 a1 (decide (t311 > 100))) = some r := H
                      have A36 := Aside0.mk A360
                      clear A360
                      obtain rfl : t310 = t311 := Option.some.inj (A28.out.symm.trans A36.out)
                      have H' := Aside0.mk H
                      clear H
                      go_wp2_with (first | ((with_reducible refine gate_callee (f := 26) rfl ?_); refine goesL_ (some 16) rfl rfl Try.func26 (by kernel_rfl) rfl #[.string a0] rfl (by (try simp only [List.map_toArray, List.map_cons, List.map_nil]); first | done | rfl | (simp only [List.length_drop, List.length_take]; rfl)) ?_; (with_reducible refine (chars_IsName.calls kj2 a0 true _ A9.out).mono ?_); rintro e w37 ⟨rfl, hb⟩; refine ⟨_, rfl, ?_⟩; have n0_ := Aside0.mk (below_step (by repeat (first | (with_reducible first | exact HB.out | apply below_alloc | apply pw_below_drewN | apply below_drew1) | exact HB.out)) hb); clear HB; have HB := n0_; clear n0_; (try clear hb); (try clear hb2); (try clear hk); (try clear hi)) | (go_at_call 28; (with_reducible refine (chars_IsText.calls a0 true _ A11.out).mono ?_); rintro e w38 ⟨rfl, hb⟩; have n0_ := Aside0.mk (below_step (by repeat (first | (with_reducible first | exact HB.out | apply below_alloc | apply pw_below_drewN | apply below_drew1) | exact HB.out)) hb); clear HB; have HB := n0_; clear n0_; (try clear hb); (try clear hb2); (try clear hk); (try clear hi)) | (go_at_call 14; (with_reducible refine (chars_Norm.calls a0 t307 _ A13.out).mono ?_); rintro e w39 ⟨rfl, hb⟩; have n0_ := Aside0.mk (below_step (by repeat (first | (with_reducible first | exact HB.out | apply below_alloc | apply pw_below_drewN | apply below_drew1) | exact HB.out)) hb); clear HB; have HB := n0_; clear n0_; (try clear hb); (try clear hb2); (try clear hk); (try clear hi)) | (go_at_call 32; (with_reducible refine (strings_Contains.calls a0 (⟨#[32]⟩ : ByteArray) false _ A15.out).mono ?_); rintro e w40 ⟨rfl, hb⟩; have n0_ := Aside0.mk (below_step (by repeat (first | (with_reducible first | exact HB.out | apply below_alloc | apply pw_below_drewN | apply below_drew1) | exact HB.out)) hb); clear HB; have HB := n0_; clear n0_; (try clear hb); (try clear hb2); (try clear hk); (try clear hi)) | (go_at_call 33; (with_reducible refine (strings_Count.calls a0 (⟨#[58]⟩ : ByteArray) t309 _ A21.out).mono ?_); rintro e w41 ⟨rfl, hb⟩; have n0_ := Aside0.mk (below_step (by repeat (first | (with_reducible first | exact HB.out | apply below_alloc | apply pw_below_drewN | apply below_drew1) | exact HB.out)) hb); clear HB; have HB := n0_; clear n0_; (try clear hb); (try clear hb2); (try clear hk); (try clear hi)) | (go_at_call 21; (with_reducible refine (chars_Len.calls a0 t310 _ A28.out).mono ?_); rintro e w42 ⟨rfl, hb⟩; have n0_ := Aside0.mk (below_step (by repeat (first | (with_reducible first | exact HB.out | apply below_alloc | apply pw_below_drewN | apply below_drew1) | exact HB.out)) hb); clear HB; have HB := n0_; clear n0_; (try clear hb); (try clear hb2); (try clear hk); (try clear hi)) | (go_at_call 21; (with_reducible refine (chars_Len.calls a0 t310 _ A36.out).mono ?_); rintro e w43 ⟨rfl, hb⟩; have n0_ := Aside0.mk (below_step (by repeat (first | (with_reducible first | exact HB.out | apply below_alloc | apply pw_below_drewN | apply below_drew1) | exact HB.out)) hb); clear HB; have HB := n0_; clear n0_; (try clear hb); (try clear hb2); (try clear hk); (try clear hi)))
                      go_meet
                      case rel => exact ⟨_, (decide (t310 > 100)), (by first | rfl | (simp; done) | (simp [*]; done)), H', ⟨by have := HJ2.out; first | omega | exact Nat.le_refl _⟩, ⟨by repeat (first | (with_reducible first | exact HB.out | apply below_alloc | apply pw_below_drewN | apply below_drew1) | exact HB.out)⟩⟩
              · rw [if_neg c14] at H
                have c14b0 : (t307.toList == a0.toList) = false := beq_eq_false_iff_ne.mpr c14
                have c14b1 : (t307.toList != a0.toList) = true := bne_iff_ne.mpr c14
                (first | rw [c14b0] | (simp only [i64_w, i32_w]; rw [c14b0]) | skip)
                have H' := Aside0.mk H
                clear H
                go_wp2_with (first | ((with_reducible refine gate_callee (f := 26) rfl ?_); refine goesL_ (some 16) rfl rfl Try.func26 (by kernel_rfl) rfl #[.string a0] rfl (by (try simp only [List.map_toArray, List.map_cons, List.map_nil]); first | done | rfl | (simp only [List.length_drop, List.length_take]; rfl)) ?_; (with_reducible refine (chars_IsName.calls kj2 a0 true _ A9.out).mono ?_); rintro e w44 ⟨rfl, hb⟩; refine ⟨_, rfl, ?_⟩; have n0_ := Aside0.mk (below_step (by repeat (first | (with_reducible first | exact HB.out | apply below_alloc | apply pw_below_drewN | apply below_drew1) | exact HB.out)) hb); clear HB; have HB := n0_; clear n0_; (try clear hb); (try clear hb2); (try clear hk); (try clear hi)) | (go_at_call 28; (with_reducible refine (chars_IsText.calls a0 true _ A11.out).mono ?_); rintro e w45 ⟨rfl, hb⟩; have n0_ := Aside0.mk (below_step (by repeat (first | (with_reducible first | exact HB.out | apply below_alloc | apply pw_below_drewN | apply below_drew1) | exact HB.out)) hb); clear HB; have HB := n0_; clear n0_; (try clear hb); (try clear hb2); (try clear hk); (try clear hi)) | (go_at_call 14; (with_reducible refine (chars_Norm.calls a0 t307 _ A13.out).mono ?_); rintro e w46 ⟨rfl, hb⟩; have n0_ := Aside0.mk (below_step (by repeat (first | (with_reducible first | exact HB.out | apply below_alloc | apply pw_below_drewN | apply below_drew1) | exact HB.out)) hb); clear HB; have HB := n0_; clear n0_; (try clear hb); (try clear hb2); (try clear hk); (try clear hi)))
                go_meet
                case rel => exact ⟨_, (true), (by first | rfl | (simp; done) | (simp [*]; done)), H', ⟨by have := HJ2.out; first | omega | exact Nat.le_refl _⟩, ⟨by repeat (first | (with_reducible first | exact HB.out | apply below_alloc | apply pw_below_drewN | apply below_drew1) | exact HB.out)⟩⟩
            · replace c12 := Bool.eq_false_iff.mpr c12
              subst c12
              have H1 : (chisellaw01_CharsNames.j1 kj2 a0 a1 true) = some r := by rw [if_neg (show ¬ (false = true) by decide)] at H; exact H
              clear H
              have H := H1
              clear H1
              have H' := Aside0.mk H
              clear H
              go_wp2_with (first | ((with_reducible refine gate_callee (f := 26) rfl ?_); refine goesL_ (some 16) rfl rfl Try.func26 (by kernel_rfl) rfl #[.string a0] rfl (by (try simp only [List.map_toArray, List.map_cons, List.map_nil]); first | done | rfl | (simp only [List.length_drop, List.length_take]; rfl)) ?_; (with_reducible refine (chars_IsName.calls kj2 a0 true _ A9.out).mono ?_); rintro e w47 ⟨rfl, hb⟩; refine ⟨_, rfl, ?_⟩; have n0_ := Aside0.mk (below_step (by repeat (first | (with_reducible first | exact HB.out | apply below_alloc | apply pw_below_drewN | apply below_drew1) | exact HB.out)) hb); clear HB; have HB := n0_; clear n0_; (try clear hb); (try clear hb2); (try clear hk); (try clear hi)) | (go_at_call 28; (with_reducible refine (chars_IsText.calls a0 false _ A11.out).mono ?_); rintro e w48 ⟨rfl, hb⟩; have n0_ := Aside0.mk (below_step (by repeat (first | (with_reducible first | exact HB.out | apply below_alloc | apply pw_below_drewN | apply below_drew1) | exact HB.out)) hb); clear HB; have HB := n0_; clear n0_; (try clear hb); (try clear hb2); (try clear hk); (try clear hi)))
              go_meet
              case rel => exact ⟨_, (true), (by first | rfl | (simp; done) | (simp [*]; done)), H', ⟨by have := HJ2.out; first | omega | exact Nat.le_refl _⟩, ⟨by repeat (first | (with_reducible first | exact HB.out | apply below_alloc | apply pw_below_drewN | apply below_drew1) | exact HB.out)⟩⟩
          · replace c10 := Bool.eq_false_iff.mpr c10
            subst c10
            have H1 : (chisellaw01_CharsNames.j1 kj2 a0 a1 false) = some r := by rw [if_neg (show ¬ (false = true) by decide)] at H; exact H
            clear H
            have H := H1
            clear H1
            have H' := Aside0.mk H
            clear H
            go_wp2_with (first | ((with_reducible refine gate_callee (f := 26) rfl ?_); refine goesL_ (some 16) rfl rfl Try.func26 (by kernel_rfl) rfl #[.string a0] rfl (by (try simp only [List.map_toArray, List.map_cons, List.map_nil]); first | done | rfl | (simp only [List.length_drop, List.length_take]; rfl)) ?_; (with_reducible refine (chars_IsName.calls kj2 a0 false _ A9.out).mono ?_); rintro e w49 ⟨rfl, hb⟩; refine ⟨_, rfl, ?_⟩; have n0_ := Aside0.mk (below_step (by repeat (first | (with_reducible first | exact HB.out | apply below_alloc | apply pw_below_drewN | apply below_drew1) | exact HB.out)) hb); clear HB; have HB := n0_; clear n0_; (try clear hb); (try clear hb2); (try clear hk); (try clear hi)))
            go_meet
            case rel => exact ⟨_, (false), (by first | rfl | (simp; done) | (simp [*]; done)), H', ⟨by have := HJ2.out; first | omega | exact Nat.le_refl _⟩, ⟨by repeat (first | (with_reducible first | exact HB.out | apply below_alloc | apply pw_below_drewN | apply below_drew1) | exact HB.out)⟩⟩
        case rest =>
          clear HC8
          try clear c1
          try clear c2
          try clear p2
          try clear c4
          try clear c4b0
          try clear c4b1
          try clear c5
          try clear c10
          try clear c11
          try clear c12
          try clear c13
          try clear c14
          try clear c14b0
          try clear c14b1
          try clear c16
          try clear c22
          try clear c22b0
          try clear c26
          try clear c29
          try clear c29b0
          try clear p2
          obtain ⟨kq, x46_7, rfl, HA, HJ7, HB⟩ := hcut
          cases kq with
          | zero => exact absurd HA.out (by simp [chisellaw01_CharsNames.j1])
          | succ kj7 =>
            have H := HA.out
            clear HA
            simp only [chisellaw01_CharsNames.j1] at H
            by_cases c50 : x46_7 = true
            · subst c50
              have H1 : (some false) = some r := by rw [if_pos rfl] at H; exact H
              clear H
              have H := H1
              clear H1
              obtain rfl := Option.some.inj H
              go_wp2
              go_ret
              exact ⟨by first | rfl | (simp [errW_none, errW_some] <;> rfl) | (simp [*, errW_none, errW_some] <;> rfl), by repeat (first | (with_reducible first | exact HB.out | apply below_alloc | apply pw_below_drewN | apply below_drew1) | exact HB.out)⟩
            · replace c50 := Bool.eq_false_iff.mpr c50
              subst c50
              have H1 : ((chisellaw01_CharsNames_1.f kj7 a0).bind fun t312 => (if t312 = true then ((chisellaw01_CharsNames_1.f kj7 a1).bind fun t313 => (if t313 = true then (if a0.size + 1 ≤ 9223372036854775807 then (if (a0 ++ (⟨#[58]⟩ : ByteArray)).size + a1.size ≤ 9223372036854775807 then ((chars_IsName.f kj7 ((a0 ++ (⟨#[58]⟩ : ByteArray)) ++ a1)).bind fun t314 => ((chars_Len.f a0).bind fun t315 => ((chars_Len.f a1).bind fun t316 => (chisellaw01_CharsNames.j2 kj7 a0 a1 (t314 != (decide ((wrap64 (t315 + t316)) < 100))))))) else (none)) else (none)) else (chisellaw01_CharsNames.j2 kj7 a0 a1 false))) else (chisellaw01_CharsNames.j2 kj7 a0 a1 false))) = some r := by rw [if_neg (show ¬ (false = true) by decide)] at H; exact H
              clear H
              have H := H1
              clear H1
              have HC51 := Aside0.mk H
              clear H
              go_upto_region 6 with (fail)
              go_cut [68] (fun v68 wc => ∃ (kq : Nat) (x68_50 : Bool), v68 = .bool x68_50 ∧ Aside0 (chisellaw01_CharsNames.j2 kq a0 a1 x68_50 = some r) ∧ Aside0 (kq ≤ kj7) ∧ Aside0 (Below w.heap.size w wc))
              case first =>
                have H := HC51.out
                clear HC51
                replace H := Option.bind_eq_some_iff.mp H
                obtain ⟨t312, A520, H⟩ := H
                replace H : (if t312 = true then ((chisellaw01_CharsNames_1.f kj7 a1).bind fun t313 => (if t313 = true then (if a0.size + 1 ≤ 9223372036854775807 then (if (a0 ++ (⟨#[58]⟩ : ByteArray)).size + a1.size ≤ 9223372036854775807 then ((chars_IsName.f kj7 ((a0 ++ (⟨#[58]⟩ : ByteArray)) ++ a1)).bind fun t314 => ((chars_Len.f a0).bind fun t315 => ((chars_Len.f a1).bind fun t316 => (chisellaw01_CharsNames.j2 kj7 a0 a1 (t314 != (decide ((wrap64 (t315 + t316)) < 100))))))) else (none)) else (none)) else (chisellaw01_CharsNames.j2 kj7 a0 a1 false))) else (chisellaw01_CharsNames.j2 kj7 a0 a1 false)) = some r := H
                have A52 := Aside0.mk A520
                clear A520
                by_cases c53 : t312 = true
                · subst c53
                  have H1 : ((chisellaw01_CharsNames_1.f kj7 a1).bind fun t313 => (if t313 = true then (if a0.size + 1 ≤ 9223372036854775807 then (if (a0 ++ (⟨#[58]⟩ : ByteArray)).size + a1.size ≤ 9223372036854775807 then ((chars_IsName.f kj7 ((a0 ++ (⟨#[58]⟩ : ByteArray)) ++ a1)).bind fun t314 => ((chars_Len.f a0).bind fun t315 => ((chars_Len.f a1).bind fun t316 => (chisellaw01_CharsNames.j2 kj7 a0 a1 (t314 != (decide ((wrap64 (t315 + t316)) < 100))))))) else (none)) else (none)) else (chisellaw01_CharsNames.j2 kj7 a0 a1 false))) = some r := by rw [if_pos rfl] at H; exact H
                  clear H
                  have H := H1
                  clear H1
                  replace H := Option.bind_eq_some_iff.mp H
                  obtain ⟨t313, A540, H⟩ := H
                  replace H : (if t313 = true then (if a0.size + 1 ≤ 9223372036854775807 then (if (a0 ++ (⟨#[58]⟩ : ByteArray)).size + a1.size ≤ 9223372036854775807 then ((chars_IsName.f kj7 ((a0 ++ (⟨#[58]⟩ : ByteArray)) ++ a1)).bind fun t314 => ((chars_Len.f a0).bind fun t315 => ((chars_Len.f a1).bind fun t316 => (chisellaw01_CharsNames.j2 kj7 a0 a1 (t314 != (decide ((wrap64 (t315 + t316)) < 100))))))) else (none)) else (none)) else (chisellaw01_CharsNames.j2 kj7 a0 a1 false)) = some r := H
                  have A54 := Aside0.mk A540
                  clear A540
                  by_cases c55 : t313 = true
                  · subst c55
                    have H1 : (if a0.size + 1 ≤ 9223372036854775807 then (if (a0 ++ (⟨#[58]⟩ : ByteArray)).size + a1.size ≤ 9223372036854775807 then ((chars_IsName.f kj7 ((a0 ++ (⟨#[58]⟩ : ByteArray)) ++ a1)).bind fun t314 => ((chars_Len.f a0).bind fun t315 => ((chars_Len.f a1).bind fun t316 => (chisellaw01_CharsNames.j2 kj7 a0 a1 (t314 != (decide ((wrap64 (t315 + t316)) < 100))))))) else (none)) else (none)) = some r := by rw [if_pos rfl] at H; exact H
                    clear H
                    have H := H1
                    clear H1
                    by_cases c56 : a0.size + 1 ≤ 9223372036854775807
                    · rw [if_pos c56] at H
                      have c56b0 := eq_true c56
                      have c56b1 : decide (a0.size + 1 ≤ 9223372036854775807) = true := decide_eq_true c56
                      try have c56b2 : (9223372036854775807 < a0.size + 1) = False := eq_false (Nat.not_lt.2 c56)
                      by_cases c57 : (a0 ++ (⟨#[58]⟩ : ByteArray)).size + a1.size ≤ 9223372036854775807
                      · rw [if_pos c57] at H
                        have c57b0 := eq_true c57
                        have c57b1 : decide ((a0 ++ (⟨#[58]⟩ : ByteArray)).size + a1.size ≤ 9223372036854775807) = true := decide_eq_true c57
                        try have c57b2 : (9223372036854775807 < (a0 ++ (⟨#[58]⟩ : ByteArray)).size + a1.size) = False := eq_false (Nat.not_lt.2 c57)
                        replace H := Option.bind_eq_some_iff.mp H
                        obtain ⟨t314, A580, H⟩ := H
                        replace H : ((chars_Len.f a0).bind fun t315 => ((chars_Len.f a1).bind fun t316 => (chisellaw01_CharsNames.j2 kj7 a0 a1 (t314 != (decide ((wrap64 (t315 + t316)) < 100)))))) = some r := H
                        have A58 := Aside0.mk A580
                        clear A580
                        replace H := Option.bind_eq_some_iff.mp H
                        obtain ⟨t315, A590, H⟩ := H
                        replace H : ((chars_Len.f a1).bind fun t316 => (chisellaw01_CharsNames.j2 kj7 a0 a1 (t314 != (decide ((wrap64 (t315 + t316)) < 100))))) = some r := H
                        have A59 := Aside0.mk A590
                        clear A590
                        replace H := Option.bind_eq_some_iff.mp H
                        obtain ⟨t316, A600, H⟩ := H
                        replace H : (chisellaw01_CharsNames.j2 kj7 a0 a1 (t314 != (decide ((wrap64 (t315 + t316)) < 100)))) = some r := H
                        have A60 := Aside0.mk A600
                        clear A600
                        have H' := Aside0.mk H
                        clear H
                        go_wp2_with (first | ((first | go_at_call 34 | go_at_fn 34); (with_reducible refine (chisellaw01_CharsNames_1.calls kj7 a0 true _ A52.out).mono ?_); rintro e w61 ⟨rfl, hb⟩; have n0_ := Aside0.mk (below_step (by repeat (first | (with_reducible first | exact HB.out | apply below_alloc | apply pw_below_drewN | apply below_drew1) | exact HB.out)) hb); clear HB; have HB := n0_; clear n0_; (try clear hb); (try clear hb2); (try clear hk); (try clear hi)) | ((first | go_at_call 34 | go_at_fn 34); (with_reducible refine (chisellaw01_CharsNames_1.calls kj7 a1 true _ A54.out).mono ?_); rintro e w62 ⟨rfl, hb⟩; have n0_ := Aside0.mk (below_step (by repeat (first | (with_reducible first | exact HB.out | apply below_alloc | apply pw_below_drewN | apply below_drew1) | exact HB.out)) hb); clear HB; have HB := n0_; clear n0_; (try clear hb); (try clear hb2); (try clear hk); (try clear hi)) | (go_at_call 26; (with_reducible refine (chars_IsName.calls kj7 ((a0 ++ (⟨#[58]⟩ : ByteArray)) ++ a1) t314 _ A58.out).mono ?_); rintro e w63 ⟨rfl, hb⟩; have n0_ := Aside0.mk (below_step (by repeat (first | (with_reducible first | exact HB.out | apply below_alloc | apply pw_below_drewN | apply below_drew1) | exact HB.out)) hb); clear HB; have HB := n0_; clear n0_; (try clear hb); (try clear hb2); (try clear hk); (try clear hi)) | (go_at_call 21; (with_reducible refine (chars_Len.calls a0 t315 _ A59.out).mono ?_); rintro e w64 ⟨rfl, hb⟩; have n0_ := Aside0.mk (below_step (by repeat (first | (with_reducible first | exact HB.out | apply below_alloc | apply pw_below_drewN | apply below_drew1) | exact HB.out)) hb); clear HB; have HB := n0_; clear n0_; (try clear hb); (try clear hb2); (try clear hk); (try clear hi)) | (go_at_call 21; (with_reducible refine (chars_Len.calls a1 t316 _ A60.out).mono ?_); rintro e w65 ⟨rfl, hb⟩; have n0_ := Aside0.mk (below_step (by repeat (first | (with_reducible first | exact HB.out | apply below_alloc | apply pw_below_drewN | apply below_drew1) | exact HB.out)) hb); clear HB; have HB := n0_; clear n0_; (try clear hb); (try clear hb2); (try clear hk); (try clear hi)))
                        go_meet
                        case rel => exact ⟨_, ((t314 != (decide ((wrap64 (t315 + t316)) < 100)))), (by first | rfl | (simp; done) | (simp [*]; done)), H', ⟨by have := HJ2.out; have := HJ7.out; first | omega | exact Nat.le_refl _⟩, ⟨by repeat (first | (with_reducible first | exact HB.out | apply below_alloc | apply pw_below_drewN | apply below_drew1) | exact HB.out)⟩⟩
                      · rw [if_neg c57] at H
                        exact absurd H (by simp)
                    · rw [if_neg c56] at H
                      exact absurd H (by simp)
                  · replace c55 := Bool.eq_false_iff.mpr c55
                    subst c55
                    have H1 : (chisellaw01_CharsNames.j2 kj7 a0 a1 false) = some r := by rw [if_neg (show ¬ (false = true) by decide)] at H; exact H
                    clear H
                    have H := H1
                    clear H1
                    have H' := Aside0.mk H
                    clear H
                    go_wp2_with (first | ((first | go_at_call 34 | go_at_fn 34); (with_reducible refine (chisellaw01_CharsNames_1.calls kj7 a0 true _ A52.out).mono ?_); rintro e w66 ⟨rfl, hb⟩; have n0_ := Aside0.mk (below_step (by repeat (first | (with_reducible first | exact HB.out | apply below_alloc | apply pw_below_drewN | apply below_drew1) | exact HB.out)) hb); clear HB; have HB := n0_; clear n0_; (try clear hb); (try clear hb2); (try clear hk); (try clear hi)) | ((first | go_at_call 34 | go_at_fn 34); (with_reducible refine (chisellaw01_CharsNames_1.calls kj7 a1 false _ A54.out).mono ?_); rintro e w67 ⟨rfl, hb⟩; have n0_ := Aside0.mk (below_step (by repeat (first | (with_reducible first | exact HB.out | apply below_alloc | apply pw_below_drewN | apply below_drew1) | exact HB.out)) hb); clear HB; have HB := n0_; clear n0_; (try clear hb); (try clear hb2); (try clear hk); (try clear hi)))
                    go_meet
                    case rel => exact ⟨_, (false), (by first | rfl | (simp; done) | (simp [*]; done)), H', ⟨by have := HJ2.out; have := HJ7.out; first | omega | exact Nat.le_refl _⟩, ⟨by repeat (first | (with_reducible first | exact HB.out | apply below_alloc | apply pw_below_drewN | apply below_drew1) | exact HB.out)⟩⟩
                · replace c53 := Bool.eq_false_iff.mpr c53
                  subst c53
                  have H1 : (chisellaw01_CharsNames.j2 kj7 a0 a1 false) = some r := by rw [if_neg (show ¬ (false = true) by decide)] at H; exact H
                  clear H
                  have H := H1
                  clear H1
                  have H' := Aside0.mk H
                  clear H
                  go_wp2_with (first | ((first | go_at_call 34 | go_at_fn 34); (with_reducible refine (chisellaw01_CharsNames_1.calls kj7 a0 false _ A52.out).mono ?_); rintro e w68 ⟨rfl, hb⟩; have n0_ := Aside0.mk (below_step (by repeat (first | (with_reducible first | exact HB.out | apply below_alloc | apply pw_below_drewN | apply below_drew1) | exact HB.out)) hb); clear HB; have HB := n0_; clear n0_; (try clear hb); (try clear hb2); (try clear hk); (try clear hi)))
                  go_meet
                  case rel => exact ⟨_, (false), (by first | rfl | (simp; done) | (simp [*]; done)), H', ⟨by have := HJ2.out; have := HJ7.out; first | omega | exact Nat.le_refl _⟩, ⟨by repeat (first | (with_reducible first | exact HB.out | apply below_alloc | apply pw_below_drewN | apply below_drew1) | exact HB.out)⟩⟩
              case rest =>
                clear HC51
                try clear c1
                try clear c2
                try clear p2
                try clear c3
                try clear c4
                try clear c4b0
                try clear c4b1
                try clear c5
                try clear p6
                try clear c10
                try clear c11
                try clear c12
                try clear c13
                try clear c14
                try clear c14b0
                try clear c14b1
                try clear c16
                try clear c22
                try clear c22b0
                try clear c26
                try clear c29
                try clear c29b0
                try clear c34
                try clear c50
                try clear c53
                try clear c55
                try clear c56
                try clear c56b0
                try clear c56b1
                try clear c56b2
                try clear c57
                try clear c57b0
                try clear c57b1
                try clear c57b2
                try clear p64
                try clear p2
                obtain ⟨kq, x68_50, rfl, HA, HJ50, HB⟩ := hcut
                cases kq with
                | zero => exact absurd HA.out (by simp [chisellaw01_CharsNames.j2])
                | succ kj50 =>
                  have H := HA.out
                  clear HA
                  simp only [chisellaw01_CharsNames.j2] at H
                  by_cases c69 : x68_50 = true
                  · subst c69
                    have H1 : (some false) = some r := by rw [if_pos rfl] at H; exact H
                    clear H
                    have H := H1
                    clear H1
                    obtain rfl := Option.some.inj H
                    go_wp2
                    go_ret
                    exact ⟨by first | rfl | (simp [errW_none, errW_some] <;> rfl) | (simp [*, errW_none, errW_some] <;> rfl), by repeat (first | (with_reducible first | exact HB.out | apply below_alloc | apply pw_below_drewN | apply below_drew1) | exact HB.out)⟩
                  · replace c69 := Bool.eq_false_iff.mpr c69
                    subst c69
                    have H1 : (if a0.size + 1 ≤ 9223372036854775807 then (if (a0 ++ (⟨#[58]⟩ : ByteArray)).size + a1.size ≤ 9223372036854775807 then ((chars_IsName.f kj50 ((a0 ++ (⟨#[58]⟩ : ByteArray)) ++ a1)).bind fun t317 => (if t317 = true then ((chisellaw01_CharsNames_1.f kj50 a0).bind fun t318 => (if t318 = true then ((chisellaw01_CharsNames_1.f kj50 a1).bind fun t319 => (if t319 = true then (if (a0 ++ (⟨#[32]⟩ : ByteArray)).size + a1.size ≤ 9223372036854775807 then ((chars_IsName.f kj50 ((a0 ++ (⟨#[32]⟩ : ByteArray)) ++ a1)).bind fun t320 => (if t320 = true then (chisellaw01_CharsNames.j3 kj50 a0 true) else (if a0.size + 2 ≤ 9223372036854775807 then (if (a0 ++ (⟨#[58, 58]⟩ : ByteArray)).size + a1.size ≤ 9223372036854775807 then ((chars_IsName.f kj50 ((a0 ++ (⟨#[58, 58]⟩ : ByteArray)) ++ a1)).bind fun t321 => (chisellaw01_CharsNames.j3 kj50 a0 t321)) else (none)) else (none)))) else (none)) else (chisellaw01_CharsNames.j3 kj50 a0 true))) else (chisellaw01_CharsNames.j3 kj50 a0 true))) else (if (a0 ++ (⟨#[32]⟩ : ByteArray)).size + a1.size ≤ 9223372036854775807 then ((chars_IsName.f kj50 ((a0 ++ (⟨#[32]⟩ : ByteArray)) ++ a1)).bind fun t322 => (if t322 = true then (chisellaw01_CharsNames.j3 kj50 a0 true) else (if a0.size + 2 ≤ 9223372036854775807 then (if (a0 ++ (⟨#[58, 58]⟩ : ByteArray)).size + a1.size ≤ 9223372036854775807 then ((chars_IsName.f kj50 ((a0 ++ (⟨#[58, 58]⟩ : ByteArray)) ++ a1)).bind fun t323 => (chisellaw01_CharsNames.j3 kj50 a0 t323)) else (none)) else (none)))) else (none)))) else (none)) else (none)) = some r := by rw [if_neg (show ¬ (false = true) by decide)] at H; exact H
                    clear H
                    have H := H1
                    clear H1
                    have HC70 := Aside0.mk H
                    clear H
                    go_upto_region 8 with (fail)
                    go_cut [98] (fun v98 wc => ∃ (kq : Nat) (x98_69 : Bool), v98 = .bool x98_69 ∧ Aside0 (chisellaw01_CharsNames.j3 kq a0 x98_69 = some r) ∧ Aside0 (kq ≤ kj50) ∧ Aside0 (Below w.heap.size w wc))
                    case first =>
                      have H := HC70.out
                      clear HC70
                      by_cases c71 : a0.size + 1 ≤ 9223372036854775807
                      · rw [if_pos c71] at H
                        have c71b0 := eq_true c71
                        have c71b1 : decide (a0.size + 1 ≤ 9223372036854775807) = true := decide_eq_true c71
                        try have c71b2 : (9223372036854775807 < a0.size + 1) = False := eq_false (Nat.not_lt.2 c71)
                        by_cases c72 : (a0 ++ (⟨#[58]⟩ : ByteArray)).size + a1.size ≤ 9223372036854775807
                        · rw [if_pos c72] at H
                          have c72b0 := eq_true c72
                          have c72b1 : decide ((a0 ++ (⟨#[58]⟩ : ByteArray)).size + a1.size ≤ 9223372036854775807) = true := decide_eq_true c72
                          try have c72b2 : (9223372036854775807 < (a0 ++ (⟨#[58]⟩ : ByteArray)).size + a1.size) = False := eq_false (Nat.not_lt.2 c72)
                          replace H := Option.bind_eq_some_iff.mp H
                          obtain ⟨t317, A730, H⟩ := H
                          replace H : (if t317 = true then ((chisellaw01_CharsNames_1.f kj50 a0).bind fun t318 => (if t318 = true then ((chisellaw01_CharsNames_1.f kj50 a1).bind fun t319 => (if t319 = true then (if (a0 ++ (⟨#[32]⟩ : ByteArray)).size + a1.size ≤ 9223372036854775807 then ((chars_IsName.f kj50 ((a0 ++ (⟨#[32]⟩ : ByteArray)) ++ a1)).bind fun t320 => (if t320 = true then (chisellaw01_CharsNames.j3 kj50 a0 true) else (if a0.size + 2 ≤ 9223372036854775807 then (if (a0 ++ (⟨#[58, 58]⟩ : ByteArray)).size + a1.size ≤ 9223372036854775807 then ((chars_IsName.f kj50 ((a0 ++ (⟨#[58, 58]⟩ : ByteArray)) ++ a1)).bind fun t321 => (chisellaw01_CharsNames.j3 kj50 a0 t321)) else (none)) else (none)))) else (none)) else (chisellaw01_CharsNames.j3 kj50 a0 true))) else (chisellaw01_CharsNames.j3 kj50 a0 true))) else (if (a0 ++ (⟨#[32]⟩ : ByteArray)).size + a1.size ≤ 9223372036854775807 then ((chars_IsName.f kj50 ((a0 ++ (⟨#[32]⟩ : ByteArray)) ++ a1)).bind fun t322 => (if t322 = true then (chisellaw01_CharsNames.j3 kj50 a0 true) else (if a0.size + 2 ≤ 9223372036854775807 then (if (a0 ++ (⟨#[58, 58]⟩ : ByteArray)).size + a1.size ≤ 9223372036854775807 then ((chars_IsName.f kj50 ((a0 ++ (⟨#[58, 58]⟩ : ByteArray)) ++ a1)).bind fun t323 => (chisellaw01_CharsNames.j3 kj50 a0 t323)) else (none)) else (none)))) else (none))) = some r := H
                          have A73 := Aside0.mk A730
                          clear A730
                          by_cases c74 : t317 = true
                          · subst c74
                            have H1 : ((chisellaw01_CharsNames_1.f kj50 a0).bind fun t318 => (if t318 = true then ((chisellaw01_CharsNames_1.f kj50 a1).bind fun t319 => (if t319 = true then (if (a0 ++ (⟨#[32]⟩ : ByteArray)).size + a1.size ≤ 9223372036854775807 then ((chars_IsName.f kj50 ((a0 ++ (⟨#[32]⟩ : ByteArray)) ++ a1)).bind fun t320 => (if t320 = true then (chisellaw01_CharsNames.j3 kj50 a0 true) else (if a0.size + 2 ≤ 9223372036854775807 then (if (a0 ++ (⟨#[58, 58]⟩ : ByteArray)).size + a1.size ≤ 9223372036854775807 then ((chars_IsName.f kj50 ((a0 ++ (⟨#[58, 58]⟩ : ByteArray)) ++ a1)).bind fun t321 => (chisellaw01_CharsNames.j3 kj50 a0 t321)) else (none)) else (none)))) else (none)) else (chisellaw01_CharsNames.j3 kj50 a0 true))) else (chisellaw01_CharsNames.j3 kj50 a0 true))) = some r := by rw [if_pos rfl] at H; exact H
                            clear H
                            have H := H1
                            clear H1
                            replace H := Option.bind_eq_some_iff.mp H
                            obtain ⟨t318, A750, H⟩ := H
                            replace H : (if t318 = true then ((chisellaw01_CharsNames_1.f kj50 a1).bind fun t319 => (if t319 = true then (if (a0 ++ (⟨#[32]⟩ : ByteArray)).size + a1.size ≤ 9223372036854775807 then ((chars_IsName.f kj50 ((a0 ++ (⟨#[32]⟩ : ByteArray)) ++ a1)).bind fun t320 => (if t320 = true then (chisellaw01_CharsNames.j3 kj50 a0 true) else (if a0.size + 2 ≤ 9223372036854775807 then (if (a0 ++ (⟨#[58, 58]⟩ : ByteArray)).size + a1.size ≤ 9223372036854775807 then ((chars_IsName.f kj50 ((a0 ++ (⟨#[58, 58]⟩ : ByteArray)) ++ a1)).bind fun t321 => (chisellaw01_CharsNames.j3 kj50 a0 t321)) else (none)) else (none)))) else (none)) else (chisellaw01_CharsNames.j3 kj50 a0 true))) else (chisellaw01_CharsNames.j3 kj50 a0 true)) = some r := H
                            have A75 := Aside0.mk A750
                            clear A750
                            by_cases c76 : t318 = true
                            · subst c76
                              have H1 : ((chisellaw01_CharsNames_1.f kj50 a1).bind fun t319 => (if t319 = true then (if (a0 ++ (⟨#[32]⟩ : ByteArray)).size + a1.size ≤ 9223372036854775807 then ((chars_IsName.f kj50 ((a0 ++ (⟨#[32]⟩ : ByteArray)) ++ a1)).bind fun t320 => (if t320 = true then (chisellaw01_CharsNames.j3 kj50 a0 true) else (if a0.size + 2 ≤ 9223372036854775807 then (if (a0 ++ (⟨#[58, 58]⟩ : ByteArray)).size + a1.size ≤ 9223372036854775807 then ((chars_IsName.f kj50 ((a0 ++ (⟨#[58, 58]⟩ : ByteArray)) ++ a1)).bind fun t321 => (chisellaw01_CharsNames.j3 kj50 a0 t321)) else (none)) else (none)))) else (none)) else (chisellaw01_CharsNames.j3 kj50 a0 true))) = some r := by rw [if_pos rfl] at H; exact H
                              clear H
                              have H := H1
                              clear H1
                              replace H := Option.bind_eq_some_iff.mp H
                              obtain ⟨t319, A770, H⟩ := H
                              replace H : (if t319 = true then (if (a0 ++ (⟨#[32]⟩ : ByteArray)).size + a1.size ≤ 9223372036854775807 then ((chars_IsName.f kj50 ((a0 ++ (⟨#[32]⟩ : ByteArray)) ++ a1)).bind fun t320 => (if t320 = true then (chisellaw01_CharsNames.j3 kj50 a0 true) else (if a0.size + 2 ≤ 9223372036854775807 then (if (a0 ++ (⟨#[58, 58]⟩ : ByteArray)).size + a1.size ≤ 9223372036854775807 then ((chars_IsName.f kj50 ((a0 ++ (⟨#[58, 58]⟩ : ByteArray)) ++ a1)).bind fun t321 => (chisellaw01_CharsNames.j3 kj50 a0 t321)) else (none)) else (none)))) else (none)) else (chisellaw01_CharsNames.j3 kj50 a0 true)) = some r := H
                              have A77 := Aside0.mk A770
                              clear A770
                              by_cases c78 : t319 = true
                              · subst c78
                                have H1 : (if (a0 ++ (⟨#[32]⟩ : ByteArray)).size + a1.size ≤ 9223372036854775807 then ((chars_IsName.f kj50 ((a0 ++ (⟨#[32]⟩ : ByteArray)) ++ a1)).bind fun t320 => (if t320 = true then (chisellaw01_CharsNames.j3 kj50 a0 true) else (if a0.size + 2 ≤ 9223372036854775807 then (if (a0 ++ (⟨#[58, 58]⟩ : ByteArray)).size + a1.size ≤ 9223372036854775807 then ((chars_IsName.f kj50 ((a0 ++ (⟨#[58, 58]⟩ : ByteArray)) ++ a1)).bind fun t321 => (chisellaw01_CharsNames.j3 kj50 a0 t321)) else (none)) else (none)))) else (none)) = some r := by rw [if_pos rfl] at H; exact H
                                clear H
                                have H := H1
                                clear H1
                                by_cases c79 : (a0 ++ (⟨#[32]⟩ : ByteArray)).size + a1.size ≤ 9223372036854775807
                                · rw [if_pos c79] at H
                                  have c79b0 := eq_true c79
                                  have c79b1 : decide ((a0 ++ (⟨#[32]⟩ : ByteArray)).size + a1.size ≤ 9223372036854775807) = true := decide_eq_true c79
                                  try have c79b2 : (9223372036854775807 < (a0 ++ (⟨#[32]⟩ : ByteArray)).size + a1.size) = False := eq_false (Nat.not_lt.2 c79)
                                  replace H := Option.bind_eq_some_iff.mp H
                                  obtain ⟨t320, A800, H⟩ := H
                                  replace H : (if t320 = true then (chisellaw01_CharsNames.j3 kj50 a0 true) else (if a0.size + 2 ≤ 9223372036854775807 then (if (a0 ++ (⟨#[58, 58]⟩ : ByteArray)).size + a1.size ≤ 9223372036854775807 then ((chars_IsName.f kj50 ((a0 ++ (⟨#[58, 58]⟩ : ByteArray)) ++ a1)).bind fun t321 => (chisellaw01_CharsNames.j3 kj50 a0 t321)) else (none)) else (none))) = some r := H
                                  have A80 := Aside0.mk A800
                                  clear A800
                                  by_cases c81 : t320 = true
                                  · subst c81
                                    have H1 : (chisellaw01_CharsNames.j3 kj50 a0 true) = some r := by rw [if_pos rfl] at H; exact H
                                    clear H
                                    have H := H1
                                    clear H1
                                    have H' := Aside0.mk H
                                    clear H
                                    go_wp2_with (first | ((with_reducible refine gate_callee (f := 26) rfl ?_); refine goesL_ (some 73) rfl rfl Try.func26 (by kernel_rfl) rfl #[.string ((a0 ++ (⟨#[58]⟩ : ByteArray)) ++ a1)] rfl (by (try simp only [List.map_toArray, List.map_cons, List.map_nil]); first | done | rfl | (simp only [List.length_drop, List.length_take]; rfl)) ?_; (with_reducible refine (chars_IsName.calls kj50 ((a0 ++ (⟨#[58]⟩ : ByteArray)) ++ a1) true _ A73.out).mono ?_); rintro e w82 ⟨rfl, hb⟩; refine ⟨_, rfl, ?_⟩; have n0_ := Aside0.mk (below_step (by repeat (first | (with_reducible first | exact HB.out | apply below_alloc | apply pw_below_drewN | apply below_drew1) | exact HB.out)) hb); clear HB; have HB := n0_; clear n0_; (try clear hb); (try clear hb2); (try clear hk); (try clear hi)) | ((first | go_at_call 34 | go_at_fn 34); (with_reducible refine (chisellaw01_CharsNames_1.calls kj50 a0 true _ A75.out).mono ?_); rintro e w83 ⟨rfl, hb⟩; have n0_ := Aside0.mk (below_step (by repeat (first | (with_reducible first | exact HB.out | apply below_alloc | apply pw_below_drewN | apply below_drew1) | exact HB.out)) hb); clear HB; have HB := n0_; clear n0_; (try clear hb); (try clear hb2); (try clear hk); (try clear hi)) | ((first | go_at_call 34 | go_at_fn 34); (with_reducible refine (chisellaw01_CharsNames_1.calls kj50 a1 true _ A77.out).mono ?_); rintro e w84 ⟨rfl, hb⟩; have n0_ := Aside0.mk (below_step (by repeat (first | (with_reducible first | exact HB.out | apply below_alloc | apply pw_below_drewN | apply below_drew1) | exact HB.out)) hb); clear HB; have HB := n0_; clear n0_; (try clear hb); (try clear hb2); (try clear hk); (try clear hi)) | (go_at_call 26; (with_reducible refine (chars_IsName.calls kj50 ((a0 ++ (⟨#[32]⟩ : ByteArray)) ++ a1) true _ A80.out).mono ?_); rintro e w85 ⟨rfl, hb⟩; have n0_ := Aside0.mk (below_step (by repeat (first | (with_reducible first | exact HB.out | apply below_alloc | apply pw_below_drewN | apply below_drew1) | exact HB.out)) hb); clear HB; have HB := n0_; clear n0_; (try clear hb); (try clear hb2); (try clear hk); (try clear hi)))
                                    go_meet
                                    case rel => exact ⟨_, (true), (by first | rfl | (simp; done) | (simp [*]; done)), H', ⟨by have := HJ2.out; have := HJ7.out; have := HJ50.out; first | omega | exact Nat.le_refl _⟩, ⟨by repeat (first | (with_reducible first | exact HB.out | apply below_alloc | apply pw_below_drewN | apply below_drew1) | exact HB.out)⟩⟩
                                  · replace c81 := Bool.eq_false_iff.mpr c81
                                    subst c81
                                    have H1 : (if a0.size + 2 ≤ 9223372036854775807 then (if (a0 ++ (⟨#[58, 58]⟩ : ByteArray)).size + a1.size ≤ 9223372036854775807 then ((chars_IsName.f kj50 ((a0 ++ (⟨#[58, 58]⟩ : ByteArray)) ++ a1)).bind fun t321 => (chisellaw01_CharsNames.j3 kj50 a0 t321)) else (none)) else (none)) = some r := by rw [if_neg (show ¬ (false = true) by decide)] at H; exact H
                                    clear H
                                    have H := H1
                                    clear H1
                                    by_cases c86 : a0.size + 2 ≤ 9223372036854775807
                                    · rw [if_pos c86] at H
                                      have c86b0 := eq_true c86
                                      have c86b1 : decide (a0.size + 2 ≤ 9223372036854775807) = true := decide_eq_true c86
                                      try have c86b2 : (9223372036854775807 < a0.size + 2) = False := eq_false (Nat.not_lt.2 c86)
                                      by_cases c87 : (a0 ++ (⟨#[58, 58]⟩ : ByteArray)).size + a1.size ≤ 9223372036854775807
                                      · rw [if_pos c87] at H
                                        have c87b0 := eq_true c87
                                        have c87b1 : decide ((a0 ++ (⟨#[58, 58]⟩ : ByteArray)).size + a1.size ≤ 9223372036854775807) = true := decide_eq_true c87
                                        try have c87b2 : (9223372036854775807 < (a0 ++ (⟨#[58, 58]⟩ : ByteArray)).size + a1.size) = False := eq_false (Nat.not_lt.2 c87)
                                        replace H := Option.bind_eq_some_iff.mp H
                                        obtain ⟨t321, A880, H⟩ := H
                                        replace H : (chisellaw01_CharsNames.j3 kj50 a0 t321) = some r := H
                                        have A88 := Aside0.mk A880
                                        clear A880
                                        have H' := Aside0.mk H
                                        clear H
                                        go_wp2_with (first | ((with_reducible refine gate_callee (f := 26) rfl ?_); refine goesL_ (some 73) rfl rfl Try.func26 (by kernel_rfl) rfl #[.string ((a0 ++ (⟨#[58]⟩ : ByteArray)) ++ a1)] rfl (by (try simp only [List.map_toArray, List.map_cons, List.map_nil]); first | done | rfl | (simp only [List.length_drop, List.length_take]; rfl)) ?_; (with_reducible refine (chars_IsName.calls kj50 ((a0 ++ (⟨#[58]⟩ : ByteArray)) ++ a1) true _ A73.out).mono ?_); rintro e w89 ⟨rfl, hb⟩; refine ⟨_, rfl, ?_⟩; have n0_ := Aside0.mk (below_step (by repeat (first | (with_reducible first | exact HB.out | apply below_alloc | apply pw_below_drewN | apply below_drew1) | exact HB.out)) hb); clear HB; have HB := n0_; clear n0_; (try clear hb); (try clear hb2); (try clear hk); (try clear hi)) | ((first | go_at_call 34 | go_at_fn 34); (with_reducible refine (chisellaw01_CharsNames_1.calls kj50 a0 true _ A75.out).mono ?_); rintro e w90 ⟨rfl, hb⟩; have n0_ := Aside0.mk (below_step (by repeat (first | (with_reducible first | exact HB.out | apply below_alloc | apply pw_below_drewN | apply below_drew1) | exact HB.out)) hb); clear HB; have HB := n0_; clear n0_; (try clear hb); (try clear hb2); (try clear hk); (try clear hi)) | ((first | go_at_call 34 | go_at_fn 34); (with_reducible refine (chisellaw01_CharsNames_1.calls kj50 a1 true _ A77.out).mono ?_); rintro e w91 ⟨rfl, hb⟩; have n0_ := Aside0.mk (below_step (by repeat (first | (with_reducible first | exact HB.out | apply below_alloc | apply pw_below_drewN | apply below_drew1) | exact HB.out)) hb); clear HB; have HB := n0_; clear n0_; (try clear hb); (try clear hb2); (try clear hk); (try clear hi)) | (go_at_call 26; (with_reducible refine (chars_IsName.calls kj50 ((a0 ++ (⟨#[32]⟩ : ByteArray)) ++ a1) false _ A80.out).mono ?_); rintro e w92 ⟨rfl, hb⟩; have n0_ := Aside0.mk (below_step (by repeat (first | (with_reducible first | exact HB.out | apply below_alloc | apply pw_below_drewN | apply below_drew1) | exact HB.out)) hb); clear HB; have HB := n0_; clear n0_; (try clear hb); (try clear hb2); (try clear hk); (try clear hi)) | (go_at_call 26; (with_reducible refine (chars_IsName.calls kj50 ((a0 ++ (⟨#[58, 58]⟩ : ByteArray)) ++ a1) t321 _ A88.out).mono ?_); rintro e w93 ⟨rfl, hb⟩; have n0_ := Aside0.mk (below_step (by repeat (first | (with_reducible first | exact HB.out | apply below_alloc | apply pw_below_drewN | apply below_drew1) | exact HB.out)) hb); clear HB; have HB := n0_; clear n0_; (try clear hb); (try clear hb2); (try clear hk); (try clear hi)))
                                        go_meet
                                        case rel => exact ⟨_, (t321), (by first | rfl | (simp; done) | (simp [*]; done)), H', ⟨by have := HJ2.out; have := HJ7.out; have := HJ50.out; first | omega | exact Nat.le_refl _⟩, ⟨by repeat (first | (with_reducible first | exact HB.out | apply below_alloc | apply pw_below_drewN | apply below_drew1) | exact HB.out)⟩⟩
                                      · rw [if_neg c87] at H
                                        exact absurd H (by simp)
                                    · rw [if_neg c86] at H
                                      exact absurd H (by simp)
                                · rw [if_neg c79] at H
                                  exact absurd H (by simp)
                              · replace c78 := Bool.eq_false_iff.mpr c78
                                subst c78
                                have H1 : (chisellaw01_CharsNames.j3 kj50 a0 true) = some r := by rw [if_neg (show ¬ (false = true) by decide)] at H; exact H
                                clear H
                                have H := H1
                                clear H1
                                have H' := Aside0.mk H
                                clear H
                                go_wp2_with (first | ((with_reducible refine gate_callee (f := 26) rfl ?_); refine goesL_ (some 73) rfl rfl Try.func26 (by kernel_rfl) rfl #[.string ((a0 ++ (⟨#[58]⟩ : ByteArray)) ++ a1)] rfl (by (try simp only [List.map_toArray, List.map_cons, List.map_nil]); first | done | rfl | (simp only [List.length_drop, List.length_take]; rfl)) ?_; (with_reducible refine (chars_IsName.calls kj50 ((a0 ++ (⟨#[58]⟩ : ByteArray)) ++ a1) true _ A73.out).mono ?_); rintro e w94 ⟨rfl, hb⟩; refine ⟨_, rfl, ?_⟩; have n0_ := Aside0.mk (below_step (by repeat (first | (with_reducible first | exact HB.out | apply below_alloc | apply pw_below_drewN | apply below_drew1) | exact HB.out)) hb); clear HB; have HB := n0_; clear n0_; (try clear hb); (try clear hb2); (try clear hk); (try clear hi)) | ((first | go_at_call 34 | go_at_fn 34); (with_reducible refine (chisellaw01_CharsNames_1.calls kj50 a0 true _ A75.out).mono ?_); rintro e w95 ⟨rfl, hb⟩; have n0_ := Aside0.mk (below_step (by repeat (first | (with_reducible first | exact HB.out | apply below_alloc | apply pw_below_drewN | apply below_drew1) | exact HB.out)) hb); clear HB; have HB := n0_; clear n0_; (try clear hb); (try clear hb2); (try clear hk); (try clear hi)) | ((first | go_at_call 34 | go_at_fn 34); (with_reducible refine (chisellaw01_CharsNames_1.calls kj50 a1 false _ A77.out).mono ?_); rintro e w96 ⟨rfl, hb⟩; have n0_ := Aside0.mk (below_step (by repeat (first | (with_reducible first | exact HB.out | apply below_alloc | apply pw_below_drewN | apply below_drew1) | exact HB.out)) hb); clear HB; have HB := n0_; clear n0_; (try clear hb); (try clear hb2); (try clear hk); (try clear hi)))
                                go_meet
                                case rel => exact ⟨_, (true), (by first | rfl | (simp; done) | (simp [*]; done)), H', ⟨by have := HJ2.out; have := HJ7.out; have := HJ50.out; first | omega | exact Nat.le_refl _⟩, ⟨by repeat (first | (with_reducible first | exact HB.out | apply below_alloc | apply pw_below_drewN | apply below_drew1) | exact HB.out)⟩⟩
                            · replace c76 := Bool.eq_false_iff.mpr c76
                              subst c76
                              have H1 : (chisellaw01_CharsNames.j3 kj50 a0 true) = some r := by rw [if_neg (show ¬ (false = true) by decide)] at H; exact H
                              clear H
                              have H := H1
                              clear H1
                              have H' := Aside0.mk H
                              clear H
                              go_wp2_with (first | ((with_reducible refine gate_callee (f := 26) rfl ?_); refine goesL_ (some 73) rfl rfl Try.func26 (by kernel_rfl) rfl #[.string ((a0 ++ (⟨#[58]⟩ : ByteArray)) ++ a1)] rfl (by (try simp only [List.map_toArray, List.map_cons, List.map_nil]); first | done | rfl | (simp only [List.length_drop, List.length_take]; rfl)) ?_; (with_reducible refine (chars_IsName.calls kj50 ((a0 ++ (⟨#[58]⟩ : ByteArray)) ++ a1) true _ A73.out).mono ?_); rintro e w97 ⟨rfl, hb⟩; refine ⟨_, rfl, ?_⟩; have n0_ := Aside0.mk (below_step (by repeat (first | (with_reducible first | exact HB.out | apply below_alloc | apply pw_below_drewN | apply below_drew1) | exact HB.out)) hb); clear HB; have HB := n0_; clear n0_; (try clear hb); (try clear hb2); (try clear hk); (try clear hi)) | ((first | go_at_call 34 | go_at_fn 34); (with_reducible refine (chisellaw01_CharsNames_1.calls kj50 a0 false _ A75.out).mono ?_); rintro e w98 ⟨rfl, hb⟩; have n0_ := Aside0.mk (below_step (by repeat (first | (with_reducible first | exact HB.out | apply below_alloc | apply pw_below_drewN | apply below_drew1) | exact HB.out)) hb); clear HB; have HB := n0_; clear n0_; (try clear hb); (try clear hb2); (try clear hk); (try clear hi)))
                              go_meet
                              case rel => exact ⟨_, (true), (by first | rfl | (simp; done) | (simp [*]; done)), H', ⟨by have := HJ2.out; have := HJ7.out; have := HJ50.out; first | omega | exact Nat.le_refl _⟩, ⟨by repeat (first | (with_reducible first | exact HB.out | apply below_alloc | apply pw_below_drewN | apply below_drew1) | exact HB.out)⟩⟩
                          · replace c74 := Bool.eq_false_iff.mpr c74
                            subst c74
                            have H1 : (if (a0 ++ (⟨#[32]⟩ : ByteArray)).size + a1.size ≤ 9223372036854775807 then ((chars_IsName.f kj50 ((a0 ++ (⟨#[32]⟩ : ByteArray)) ++ a1)).bind fun t322 => (if t322 = true then (chisellaw01_CharsNames.j3 kj50 a0 true) else (if a0.size + 2 ≤ 9223372036854775807 then (if (a0 ++ (⟨#[58, 58]⟩ : ByteArray)).size + a1.size ≤ 9223372036854775807 then ((chars_IsName.f kj50 ((a0 ++ (⟨#[58, 58]⟩ : ByteArray)) ++ a1)).bind fun t323 => (chisellaw01_CharsNames.j3 kj50 a0 t323)) else (none)) else (none)))) else (none)) = some r := by rw [if_neg (show ¬ (false = true) by decide)] at H; exact H
                            clear H
                            have H := H1
                            clear H1
                            by_cases c99 : (a0 ++ (⟨#[32]⟩ : ByteArray)).size + a1.size ≤ 9223372036854775807
                            · rw [if_pos c99] at H
                              have c99b0 := eq_true c99
                              have c99b1 : decide ((a0 ++ (⟨#[32]⟩ : ByteArray)).size + a1.size ≤ 9223372036854775807) = true := decide_eq_true c99
                              try have c99b2 : (9223372036854775807 < (a0 ++ (⟨#[32]⟩ : ByteArray)).size + a1.size) = False := eq_false (Nat.not_lt.2 c99)
                              replace H := Option.bind_eq_some_iff.mp H
                              obtain ⟨t322, A1000, H⟩ := H
                              replace H : (if t322 = true then (chisellaw01_CharsNames.j3 kj50 a0 true) else (if a0.size + 2 ≤ 9223372036854775807 then (if (a0 ++ (⟨#[58, 58]⟩ : ByteArray)).size + a1.size ≤ 9223372036854775807 then ((chars_IsName.f kj50 ((a0 ++ (⟨#[58, 58]⟩ : ByteArray)) ++ a1)).bind fun t323 => (chisellaw01_CharsNames.j3 kj50 a0 t323)) else (none)) else (none))) = some r := H
                              have A100 := Aside0.mk A1000
                              clear A1000
                              by_cases c101 : t322 = true
                              · subst c101
                                have H1 : (chisellaw01_CharsNames.j3 kj50 a0 true) = some r := by rw [if_pos rfl] at H; exact H
                                clear H
                                have H := H1
                                clear H1
                                have H' := Aside0.mk H
                                clear H
                                go_wp2_with (first | ((with_reducible refine gate_callee (f := 26) rfl ?_); refine goesL_ (some 73) rfl rfl Try.func26 (by kernel_rfl) rfl #[.string ((a0 ++ (⟨#[58]⟩ : ByteArray)) ++ a1)] rfl (by (try simp only [List.map_toArray, List.map_cons, List.map_nil]); first | done | rfl | (simp only [List.length_drop, List.length_take]; rfl)) ?_; (with_reducible refine (chars_IsName.calls kj50 ((a0 ++ (⟨#[58]⟩ : ByteArray)) ++ a1) false _ A73.out).mono ?_); rintro e w102 ⟨rfl, hb⟩; refine ⟨_, rfl, ?_⟩; have n0_ := Aside0.mk (below_step (by repeat (first | (with_reducible first | exact HB.out | apply below_alloc | apply pw_below_drewN | apply below_drew1) | exact HB.out)) hb); clear HB; have HB := n0_; clear n0_; (try clear hb); (try clear hb2); (try clear hk); (try clear hi)) | (go_at_call 26; (with_reducible refine (chars_IsName.calls kj50 ((a0 ++ (⟨#[32]⟩ : ByteArray)) ++ a1) true _ A100.out).mono ?_); rintro e w103 ⟨rfl, hb⟩; have n0_ := Aside0.mk (below_step (by repeat (first | (with_reducible first | exact HB.out | apply below_alloc | apply pw_below_drewN | apply below_drew1) | exact HB.out)) hb); clear HB; have HB := n0_; clear n0_; (try clear hb); (try clear hb2); (try clear hk); (try clear hi)))
                                go_meet
                                case rel => exact ⟨_, (true), (by first | rfl | (simp; done) | (simp [*]; done)), H', ⟨by have := HJ2.out; have := HJ7.out; have := HJ50.out; first | omega | exact Nat.le_refl _⟩, ⟨by repeat (first | (with_reducible first | exact HB.out | apply below_alloc | apply pw_below_drewN | apply below_drew1) | exact HB.out)⟩⟩
                              · replace c101 := Bool.eq_false_iff.mpr c101
                                subst c101
                                have H1 : (if a0.size + 2 ≤ 9223372036854775807 then (if (a0 ++ (⟨#[58, 58]⟩ : ByteArray)).size + a1.size ≤ 9223372036854775807 then ((chars_IsName.f kj50 ((a0 ++ (⟨#[58, 58]⟩ : ByteArray)) ++ a1)).bind fun t323 => (chisellaw01_CharsNames.j3 kj50 a0 t323)) else (none)) else (none)) = some r := by rw [if_neg (show ¬ (false = true) by decide)] at H; exact H
                                clear H
                                have H := H1
                                clear H1
                                by_cases c104 : a0.size + 2 ≤ 9223372036854775807
                                · rw [if_pos c104] at H
                                  have c104b0 := eq_true c104
                                  have c104b1 : decide (a0.size + 2 ≤ 9223372036854775807) = true := decide_eq_true c104
                                  try have c104b2 : (9223372036854775807 < a0.size + 2) = False := eq_false (Nat.not_lt.2 c104)
                                  by_cases c105 : (a0 ++ (⟨#[58, 58]⟩ : ByteArray)).size + a1.size ≤ 9223372036854775807
                                  · rw [if_pos c105] at H
                                    have c105b0 := eq_true c105
                                    have c105b1 : decide ((a0 ++ (⟨#[58, 58]⟩ : ByteArray)).size + a1.size ≤ 9223372036854775807) = true := decide_eq_true c105
                                    try have c105b2 : (9223372036854775807 < (a0 ++ (⟨#[58, 58]⟩ : ByteArray)).size + a1.size) = False := eq_false (Nat.not_lt.2 c105)
                                    replace H := Option.bind_eq_some_iff.mp H
                                    obtain ⟨t323, A1060, H⟩ := H
                                    replace H : (chisellaw01_CharsNames.j3 kj50 a0 t323) = some r := H
                                    have A106 := Aside0.mk A1060
                                    clear A1060
                                    have H' := Aside0.mk H
                                    clear H
                                    go_wp2_with (first | ((with_reducible refine gate_callee (f := 26) rfl ?_); refine goesL_ (some 73) rfl rfl Try.func26 (by kernel_rfl) rfl #[.string ((a0 ++ (⟨#[58]⟩ : ByteArray)) ++ a1)] rfl (by (try simp only [List.map_toArray, List.map_cons, List.map_nil]); first | done | rfl | (simp only [List.length_drop, List.length_take]; rfl)) ?_; (with_reducible refine (chars_IsName.calls kj50 ((a0 ++ (⟨#[58]⟩ : ByteArray)) ++ a1) false _ A73.out).mono ?_); rintro e w107 ⟨rfl, hb⟩; refine ⟨_, rfl, ?_⟩; have n0_ := Aside0.mk (below_step (by repeat (first | (with_reducible first | exact HB.out | apply below_alloc | apply pw_below_drewN | apply below_drew1) | exact HB.out)) hb); clear HB; have HB := n0_; clear n0_; (try clear hb); (try clear hb2); (try clear hk); (try clear hi)) | (go_at_call 26; (with_reducible refine (chars_IsName.calls kj50 ((a0 ++ (⟨#[32]⟩ : ByteArray)) ++ a1) false _ A100.out).mono ?_); rintro e w108 ⟨rfl, hb⟩; have n0_ := Aside0.mk (below_step (by repeat (first | (with_reducible first | exact HB.out | apply below_alloc | apply pw_below_drewN | apply below_drew1) | exact HB.out)) hb); clear HB; have HB := n0_; clear n0_; (try clear hb); (try clear hb2); (try clear hk); (try clear hi)) | (go_at_call 26; (with_reducible refine (chars_IsName.calls kj50 ((a0 ++ (⟨#[58, 58]⟩ : ByteArray)) ++ a1) t323 _ A106.out).mono ?_); rintro e w109 ⟨rfl, hb⟩; have n0_ := Aside0.mk (below_step (by repeat (first | (with_reducible first | exact HB.out | apply below_alloc | apply pw_below_drewN | apply below_drew1) | exact HB.out)) hb); clear HB; have HB := n0_; clear n0_; (try clear hb); (try clear hb2); (try clear hk); (try clear hi)))
                                    go_meet
                                    case rel => exact ⟨_, (t323), (by first | rfl | (simp; done) | (simp [*]; done)), H', ⟨by have := HJ2.out; have := HJ7.out; have := HJ50.out; first | omega | exact Nat.le_refl _⟩, ⟨by repeat (first | (with_reducible first | exact HB.out | apply below_alloc | apply pw_below_drewN | apply below_drew1) | exact HB.out)⟩⟩
                                  · rw [if_neg c105] at H
                                    exact absurd H (by simp)
                                · rw [if_neg c104] at H
                                  exact absurd H (by simp)
                            · rw [if_neg c99] at H
                              exact absurd H (by simp)
                        · rw [if_neg c72] at H
                          exact absurd H (by simp)
                      · rw [if_neg c71] at H
                        exact absurd H (by simp)
                    case rest =>
                      clear HC70
                      try clear c1
                      try clear c2
                      try clear p2
                      try clear c3
                      try clear c4
                      try clear c4b0
                      try clear c4b1
                      try clear c5
                      try clear c6
                      try clear p6
                      try clear c7
                      try clear c8
                      try clear c9
                      try clear c10
                      try clear c11
                      try clear c12
                      try clear c13
                      try clear c14
                      try clear c14b0
                      try clear c14b1
                      try clear c16
                      try clear c22
                      try clear c22b0
                      try clear c26
                      try clear c29
                      try clear c29b0
                      try clear c34
                      try clear c50
                      try clear c53
                      try clear c55
                      try clear c56
                      try clear c56b0
                      try clear c56b1
                      try clear c56b2
                      try clear c57
                      try clear c57b0
                      try clear c57b1
                      try clear c57b2
                      try clear p64
                      try clear c69
                      try clear c71
                      try clear c71b0
                      try clear c71b1
                      try clear c71b2
                      try clear c72
                      try clear c72b0
                      try clear c72b1
                      try clear c72b2
                      try clear c74
                      try clear c76
                      try clear c78
                      try clear c79
                      try clear c79b0
                      try clear c79b1
                      try clear c79b2
                      try clear c81
                      try clear c86
                      try clear c86b0
                      try clear c86b1
                      try clear c86b2
                      try clear c87
                      try clear c87b0
                      try clear c87b1
                      try clear c87b2
                      try clear c99
                      try clear c99b0
                      try clear c99b1
                      try clear c99b2
                      try clear c101
                      try clear c104
                      try clear c104b0
                      try clear c104b1
                      try clear c104b2
                      try clear c105
                      try clear c105b0
                      try clear c105b1
                      try clear c105b2
                      try clear p2
                      try clear p6
                      try clear p64
                      obtain ⟨kq, x98_69, rfl, HA, HJ69, HB⟩ := hcut
                      cases kq with
                      | zero => exact absurd HA.out (by simp [chisellaw01_CharsNames.j3])
                      | succ kj69 =>
                        have H := HA.out
                        clear HA
                        simp only [chisellaw01_CharsNames.j3] at H
                        by_cases c110 : x98_69 = true
                        · subst c110
                          have H1 : (some false) = some r := by rw [if_pos rfl] at H; exact H
                          clear H
                          have H := H1
                          clear H1
                          obtain rfl := Option.some.inj H
                          go_wp2
                          go_ret
                          exact ⟨by first | rfl | (simp [errW_none, errW_some] <;> rfl) | (simp [*, errW_none, errW_some] <;> rfl), by repeat (first | (with_reducible first | exact HB.out | apply below_alloc | apply pw_below_drewN | apply below_drew1) | exact HB.out)⟩
                        · replace c110 := Bool.eq_false_iff.mpr c110
                          subst c110
                          have H1 : ((chars_IsName.f kj69 a0).bind fun t324 => (if t324 = true then ((chars_Len.f a0).bind fun t325 => (if t325 > 95 then ((chisellaw01_works.f kj69).bind fun t326 => (some t326)) else (if a0.size + 5 ≤ 9223372036854775807 then ((chars_IsName.f kj69 (a0 ++ (⟨#[45, 46, 194, 183, 57]⟩ : ByteArray))).bind fun t327 => (if t327 = true then ((chisellaw01_works.f kj69).bind fun t328 => (some t328)) else (some false))) else (none)))) else ((chisellaw01_works.f kj69).bind fun t329 => (some t329)))) = some r := by rw [if_neg (show ¬ (false = true) by decide)] at H; exact H
                          clear H
                          have H := H1
                          clear H1
                          replace H := Option.bind_eq_some_iff.mp H
                          obtain ⟨t324, A1110, H⟩ := H
                          replace H : (if t324 = true then ((chars_Len.f a0).bind fun t325 => (if t325 > 95 then ((chisellaw01_works.f kj69).bind fun t326 => (some t326)) else (if a0.size + 5 ≤ 9223372036854775807 then ((chars_IsName.f kj69 (a0 ++ (⟨#[45, 46, 194, 183, 57]⟩ : ByteArray))).bind fun t327 => (if t327 = true then ((chisellaw01_works.f kj69).bind fun t328 => (some t328)) else (some false))) else (none)))) else ((chisellaw01_works.f kj69).bind fun t329 => (some t329))) = some r := H
                          have A111 := Aside0.mk A1110
                          clear A1110
                          by_cases c112 : t324 = true
                          · subst c112
                            have H1 : ((chars_Len.f a0).bind fun t325 => (if t325 > 95 then ((chisellaw01_works.f kj69).bind fun t326 => (some t326)) else (if a0.size + 5 ≤ 9223372036854775807 then ((chars_IsName.f kj69 (a0 ++ (⟨#[45, 46, 194, 183, 57]⟩ : ByteArray))).bind fun t327 => (if t327 = true then ((chisellaw01_works.f kj69).bind fun t328 => (some t328)) else (some false))) else (none)))) = some r := by rw [if_pos rfl] at H; exact H
                            clear H
                            have H := H1
                            clear H1
                            replace H := Option.bind_eq_some_iff.mp H
                            obtain ⟨t325, A1130, H⟩ := H
                            replace H : (if t325 > 95 then ((chisellaw01_works.f kj69).bind fun t326 => (some t326)) else (if a0.size + 5 ≤ 9223372036854775807 then ((chars_IsName.f kj69 (a0 ++ (⟨#[45, 46, 194, 183, 57]⟩ : ByteArray))).bind fun t327 => (if t327 = true then ((chisellaw01_works.f kj69).bind fun t328 => (some t328)) else (some false))) else (none))) = some r := H
                            have A113 := Aside0.mk A1130
                            clear A1130
                            by_cases c114 : t325 > 95
                            · rw [if_pos c114] at H
                              have c114b0 : decide (95 < t325) = true := decide_eq_true c114
                              clear c114
                              replace H := Option.bind_eq_some_iff.mp H
                              obtain ⟨t326, A1150, H⟩ := H
                              replace H : (some t326) = some r := H
                              have A115 := Aside0.mk A1150
                              clear A1150
                              obtain rfl := Option.some.inj H
                              go_wp2_with (first | ((with_reducible refine gate_callee (f := 26) rfl ?_); refine goesL_ (some 100) rfl rfl Try.func26 (by kernel_rfl) rfl #[.string a0] rfl (by (try simp only [List.map_toArray, List.map_cons, List.map_nil]); first | done | rfl | (simp only [List.length_drop, List.length_take]; rfl)) ?_; (with_reducible refine (chars_IsName.calls kj69 a0 true _ A111.out).mono ?_); rintro e w116 ⟨rfl, hb⟩; refine ⟨_, rfl, ?_⟩; have n0_ := Aside0.mk (below_step (by repeat (first | (with_reducible first | exact HB.out | apply below_alloc | apply pw_below_drewN | apply below_drew1) | exact HB.out)) hb); clear HB; have HB := n0_; clear n0_; (try clear hb); (try clear hb2); (try clear hk); (try clear hi)) | (go_at_call 21; (with_reducible refine (chars_Len.calls a0 t325 _ A113.out).mono ?_); rintro e w117 ⟨rfl, hb⟩; have n0_ := Aside0.mk (below_step (by repeat (first | (with_reducible first | exact HB.out | apply below_alloc | apply pw_below_drewN | apply below_drew1) | exact HB.out)) hb); clear HB; have HB := n0_; clear n0_; (try clear hb); (try clear hb2); (try clear hk); (try clear hi)) | (go_at_call 13; (with_reducible refine (chisellaw01_works.calls kj69  t326 _ A115.out).mono ?_); rintro e w118 ⟨rfl, hb⟩; have n0_ := Aside0.mk (below_step (by repeat (first | (with_reducible first | exact HB.out | apply below_alloc | apply pw_below_drewN | apply below_drew1) | exact HB.out)) hb); clear HB; have HB := n0_; clear n0_; (try clear hb); (try clear hb2); (try clear hk); (try clear hi)))
                              go_ret
                              exact ⟨by first | rfl | (simp [errW_none, errW_some] <;> rfl) | (simp [*, errW_none, errW_some] <;> rfl), by repeat (first | (with_reducible first | exact HB.out | apply below_alloc | apply pw_below_drewN | apply below_drew1) | exact HB.out)⟩
                            · rw [if_neg c114] at H
                              have c114b0 : decide (95 < t325) = false := decide_eq_false c114
                              clear c114
                              by_cases c119 : a0.size + 5 ≤ 9223372036854775807
                              · rw [if_pos c119] at H
                                have c119b0 := eq_true c119
                                have c119b1 : decide (a0.size + 5 ≤ 9223372036854775807) = true := decide_eq_true c119
                                try have c119b2 : (9223372036854775807 < a0.size + 5) = False := eq_false (Nat.not_lt.2 c119)
                                replace H := Option.bind_eq_some_iff.mp H
                                obtain ⟨t327, A1200, H⟩ := H
                                replace H : (if t327 = true then ((chisellaw01_works.f kj69).bind fun t328 => (some t328)) else (some false)) = some r := H
                                have A120 := Aside0.mk A1200
                                clear A1200
                                by_cases c121 : t327 = true
                                · subst c121
                                  have H1 : ((chisellaw01_works.f kj69).bind fun t328 => (some t328)) = some r := by rw [if_pos rfl] at H; exact H
                                  clear H
                                  have H := H1
                                  clear H1
                                  replace H := Option.bind_eq_some_iff.mp H
                                  obtain ⟨t328, A1220, H⟩ := H
                                  replace H : (some t328) = some r := H
                                  have A122 := Aside0.mk A1220
                                  clear A1220
                                  obtain rfl := Option.some.inj H
                                  go_wp2_with (first | ((with_reducible refine gate_callee (f := 26) rfl ?_); refine goesL_ (some 100) rfl rfl Try.func26 (by kernel_rfl) rfl #[.string a0] rfl (by (try simp only [List.map_toArray, List.map_cons, List.map_nil]); first | done | rfl | (simp only [List.length_drop, List.length_take]; rfl)) ?_; (with_reducible refine (chars_IsName.calls kj69 a0 true _ A111.out).mono ?_); rintro e w123 ⟨rfl, hb⟩; refine ⟨_, rfl, ?_⟩; have n0_ := Aside0.mk (below_step (by repeat (first | (with_reducible first | exact HB.out | apply below_alloc | apply pw_below_drewN | apply below_drew1) | exact HB.out)) hb); clear HB; have HB := n0_; clear n0_; (try clear hb); (try clear hb2); (try clear hk); (try clear hi)) | (go_at_call 21; (with_reducible refine (chars_Len.calls a0 t325 _ A113.out).mono ?_); rintro e w124 ⟨rfl, hb⟩; have n0_ := Aside0.mk (below_step (by repeat (first | (with_reducible first | exact HB.out | apply below_alloc | apply pw_below_drewN | apply below_drew1) | exact HB.out)) hb); clear HB; have HB := n0_; clear n0_; (try clear hb); (try clear hb2); (try clear hk); (try clear hi)) | (go_at_call 26; (with_reducible refine (chars_IsName.calls kj69 (a0 ++ (⟨#[45, 46, 194, 183, 57]⟩ : ByteArray)) true _ A120.out).mono ?_); rintro e w125 ⟨rfl, hb⟩; have n0_ := Aside0.mk (below_step (by repeat (first | (with_reducible first | exact HB.out | apply below_alloc | apply pw_below_drewN | apply below_drew1) | exact HB.out)) hb); clear HB; have HB := n0_; clear n0_; (try clear hb); (try clear hb2); (try clear hk); (try clear hi)) | (go_at_call 13; (with_reducible refine (chisellaw01_works.calls kj69  t328 _ A122.out).mono ?_); rintro e w126 ⟨rfl, hb⟩; have n0_ := Aside0.mk (below_step (by repeat (first | (with_reducible first | exact HB.out | apply below_alloc | apply pw_below_drewN | apply below_drew1) | exact HB.out)) hb); clear HB; have HB := n0_; clear n0_; (try clear hb); (try clear hb2); (try clear hk); (try clear hi)))
                                  go_ret
                                  exact ⟨by first | rfl | (simp [errW_none, errW_some] <;> rfl) | (simp [*, errW_none, errW_some] <;> rfl), by repeat (first | (with_reducible first | exact HB.out | apply below_alloc | apply pw_below_drewN | apply below_drew1) | exact HB.out)⟩
                                · replace c121 := Bool.eq_false_iff.mpr c121
                                  subst c121
                                  have H1 : (some false) = some r := by rw [if_neg (show ¬ (false = true) by decide)] at H; exact H
                                  clear H
                                  have H := H1
                                  clear H1
                                  obtain rfl := Option.some.inj H
                                  go_wp2_with (first | ((with_reducible refine gate_callee (f := 26) rfl ?_); refine goesL_ (some 100) rfl rfl Try.func26 (by kernel_rfl) rfl #[.string a0] rfl (by (try simp only [List.map_toArray, List.map_cons, List.map_nil]); first | done | rfl | (simp only [List.length_drop, List.length_take]; rfl)) ?_; (with_reducible refine (chars_IsName.calls kj69 a0 true _ A111.out).mono ?_); rintro e w127 ⟨rfl, hb⟩; refine ⟨_, rfl, ?_⟩; have n0_ := Aside0.mk (below_step (by repeat (first | (with_reducible first | exact HB.out | apply below_alloc | apply pw_below_drewN | apply below_drew1) | exact HB.out)) hb); clear HB; have HB := n0_; clear n0_; (try clear hb); (try clear hb2); (try clear hk); (try clear hi)) | (go_at_call 21; (with_reducible refine (chars_Len.calls a0 t325 _ A113.out).mono ?_); rintro e w128 ⟨rfl, hb⟩; have n0_ := Aside0.mk (below_step (by repeat (first | (with_reducible first | exact HB.out | apply below_alloc | apply pw_below_drewN | apply below_drew1) | exact HB.out)) hb); clear HB; have HB := n0_; clear n0_; (try clear hb); (try clear hb2); (try clear hk); (try clear hi)) | (go_at_call 26; (with_reducible refine (chars_IsName.calls kj69 (a0 ++ (⟨#[45, 46, 194, 183, 57]⟩ : ByteArray)) false _ A120.out).mono ?_); rintro e w129 ⟨rfl, hb⟩; have n0_ := Aside0.mk (below_step (by repeat (first | (with_reducible first | exact HB.out | apply below_alloc | apply pw_below_drewN | apply below_drew1) | exact HB.out)) hb); clear HB; have HB := n0_; clear n0_; (try clear hb); (try clear hb2); (try clear hk); (try clear hi)))
                                  go_ret
                                  exact ⟨by first | rfl | (simp [errW_none, errW_some] <;> rfl) | (simp [*, errW_none, errW_some] <;> rfl), by repeat (first | (with_reducible first | exact HB.out | apply below_alloc | apply pw_below_drewN | apply below_drew1) | exact HB.out)⟩
                              · rw [if_neg c119] at H
                                exact absurd H (by simp)
                          · replace c112 := Bool.eq_false_iff.mpr c112
                            subst c112
                            have H1 : ((chisellaw01_works.f kj69).bind fun t329 => (some t329)) = some r := by rw [if_neg (show ¬ (false = true) by decide)] at H; exact H
                            clear H
                            have H := H1
                            clear H1
                            replace H := Option.bind_eq_some_iff.mp H
                            obtain ⟨t329, A1300, H⟩ := H
                            replace H : (some t329) = some r := H
                            have A130 := Aside0.mk A1300
                            clear A1300
                            obtain rfl := Option.some.inj H
                            go_wp2_with (first | ((with_reducible refine gate_callee (f := 26) rfl ?_); refine goesL_ (some 100) rfl rfl Try.func26 (by kernel_rfl) rfl #[.string a0] rfl (by (try simp only [List.map_toArray, List.map_cons, List.map_nil]); first | done | rfl | (simp only [List.length_drop, List.length_take]; rfl)) ?_; (with_reducible refine (chars_IsName.calls kj69 a0 false _ A111.out).mono ?_); rintro e w131 ⟨rfl, hb⟩; refine ⟨_, rfl, ?_⟩; have n0_ := Aside0.mk (below_step (by repeat (first | (with_reducible first | exact HB.out | apply below_alloc | apply pw_below_drewN | apply below_drew1) | exact HB.out)) hb); clear HB; have HB := n0_; clear n0_; (try clear hb); (try clear hb2); (try clear hk); (try clear hi)) | (go_at_call 13; (with_reducible refine (chisellaw01_works.calls kj69  t329 _ A130.out).mono ?_); rintro e w132 ⟨rfl, hb⟩; have n0_ := Aside0.mk (below_step (by repeat (first | (with_reducible first | exact HB.out | apply below_alloc | apply pw_below_drewN | apply below_drew1) | exact HB.out)) hb); clear HB; have HB := n0_; clear n0_; (try clear hb); (try clear hb2); (try clear hk); (try clear hi)))
                            go_ret
                            exact ⟨by first | rfl | (simp [errW_none, errW_some] <;> rfl) | (simp [*, errW_none, errW_some] <;> rfl), by repeat (first | (with_reducible first | exact HB.out | apply below_alloc | apply pw_below_drewN | apply below_drew1) | exact HB.out)⟩

/-- THE ONE PURE STATEMENT of chisellaw01_CharsNames: yours. -/
def chisellaw01_CharsNames.Pure : Prop := ∀ (a0 : ByteArray) (a1 : ByteArray), a0.size ≤ 140737488351232 → a1.size ≤ 140737488351232 → ∃ k, chisellaw01_CharsNames.f k a0 a1 = some true
theorem chisellaw01_CharsNames.walk (P : chisellaw01_CharsNames.Pure) (a0 : ByteArray) (a1 : ByteArray) (w : World) (w0 : a0.size ≤ 140737488351232) (w1 : a1.size ≤ 140737488351232) :
    Calls Try.prog 11 #[.string a0, .string a1] w fun e w' => e = .returned (.bool true) ∧ Below w.heap.size w w' := by
  obtain ⟨k, h⟩ := P a0 a1 w0 w1
  refine (chisellaw01_CharsNames.calls k a0 a1 true w h).mono ?_
  rintro e w' ⟨rfl, hd⟩
  exact ⟨rfl, hd⟩

end Go.Proofs.Ytjhnmclancbilaa.Q

/- Names are texts without white space, with at most one colon; two plain names with a colon between them are one; name characters may follow. -/
namespace Go.Proofs.Ytjhnmclancbilaa.Pure
set_option linter.unusedVariables false
open Go Go.RowKit Go.Proofs.Ytjhnmclancbilaa.Plain Go.Proofs.Ytjhnmclancbilaa.HPure Go.Proofs.Ytjhnmclancbilaa.Q Go.Proofs.YtjhnmclancbilaaW.PrintWords Go.Proofs.YtjhnmclancbilaaW.PrintLast

theorem isName_b (s : ByteArray) (k : Nat) (hk : 1 ≤ k) (h : s.size ≤ 1000000000) : chars_IsName.f k s = some (isNameB s) := isName_f s k hk h
theorem plain_b (s : ByteArray) (k : Nat) (hk : 1 ≤ k) (h : s.size ≤ 1000000000) : chisellaw01_CharsNames_1.f k s = some (plainB s) := by
  unfold chisellaw01_CharsNames_1.f plainB
  rw [isName_b s k hk h, Option.bind_some, contains_f]
  cases isNameB s <;> rfl
theorem plain_len (s : ByteArray) (h : plainB s = true) : isText s = true := by
  obtain ⟨a, rfl, hc, _, _⟩ := (plain_iff s).1 h
  exact (text_of_chars a hc).1
theorem names_j3 (s : ByteArray) (k : Nat) (hk : 3 ≤ k) (hs : s.size ≤ 2000) : chisellaw01_CharsNames.j3 k s false = some true := by
  obtain ⟨m, rfl⟩ : ∃ m, k = m + 1 := ⟨k - 1, by omega⟩
  simp only [chisellaw01_CharsNames.j3]
  rw [if_neg (by simp), isName_b s m (by omega) (by omega), Option.bind_some, works_ok _ (by omega)]
  cases hN : isNameB s
  · rfl
  · have ht := ((isNameB_iff s).1 hN).1
    rw [if_pos rfl, len_f s (by omega), Option.bind_some, ht, if_pos rfl]
    by_cases h95 : ((points s).length : Int) > 95
    · rw [if_pos h95]; rfl
    · have hz : (⟨#[45, 46, 194, 183, 57]⟩ : ByteArray).size = 5 := rfl
      rw [if_neg h95, if_pos (by omega), isName_b _ m (by omega) (by rw [ByteArray.size_append, hz]; omega), Option.bind_some, name_more s hN (by omega)]
      rfl
theorem names_j2 (s t : ByteArray) (k : Nat) (hk : 4 ≤ k) (hs : s.size ≤ 2000) (ht : t.size ≤ 2000) : chisellaw01_CharsNames.j2 k s t false = some true := by
  obtain ⟨m, rfl⟩ : ∃ m, k = m + 1 := ⟨k - 1, by omega⟩
  have z1 : (s ++ (⟨#[58]⟩ : ByteArray)).size = s.size + 1 := ByteArray.size_append
  have z2 : (s ++ (⟨#[32]⟩ : ByteArray)).size = s.size + 1 := ByteArray.size_append
  have z3 : (s ++ (⟨#[58, 58]⟩ : ByteArray)).size = s.size + 2 := ByteArray.size_append
  have hj := isName_b ((s ++ (⟨#[58]⟩ : ByteArray)) ++ t) m (by omega) (by rw [ByteArray.size_append]; omega)
  have hsp := isName_b ((s ++ (⟨#[32]⟩ : ByteArray)) ++ t) m (by omega) (by rw [ByteArray.size_append]; omega)
  have hcc := isName_b ((s ++ (⟨#[58, 58]⟩ : ByteArray)) ++ t) m (by omega) (by rw [ByteArray.size_append]; omega)
  rw [name_space] at hsp
  rw [name_colons] at hcc
  have c1 : (s.size + 1 ≤ 9223372036854775807) = True := eq_true (by omega)
  have c2 : ((s ++ (⟨#[58]⟩ : ByteArray)).size + t.size ≤ 9223372036854775807) = True := eq_true (by omega)
  have c3 : ((s ++ (⟨#[32]⟩ : ByteArray)).size + t.size ≤ 9223372036854775807) = True := eq_true (by omega)
  have c4 : (s.size + 2 ≤ 9223372036854775807) = True := eq_true (by omega)
  have c5 : ((s ++ (⟨#[58, 58]⟩ : ByteArray)).size + t.size ≤ 9223372036854775807) = True := eq_true (by omega)
  simp only [chisellaw01_CharsNames.j2, hj, hsp, hcc, c1, c2, c3, c4, c5, if_true, if_false, Option.bind_some, Bool.false_eq_true, names_j3 s m (by omega) hs, plain_b s m (by omega) (by omega), plain_b t m (by omega) (by omega)]
  cases hJ : isNameB ((s ++ (⟨#[58]⟩ : ByteArray)) ++ t)
  · rfl
  · obtain ⟨a, b, ea, eb, ca, cb, pa, pb, hl⟩ := (name_join s t).1 hJ
    rw [(plain_iff s).2 ⟨a, ea, ca, pa, by omega⟩, (plain_iff t).2 ⟨b, eb, cb, pb, by omega⟩]
    rfl
theorem names_j1 (s t : ByteArray) (k : Nat) (hk : 5 ≤ k) (hs : s.size ≤ 2000) (ht : t.size ≤ 2000) : chisellaw01_CharsNames.j1 k s t false = some true := by
  obtain ⟨m, rfl⟩ : ∃ m, k = m + 1 := ⟨k - 1, by omega⟩
  have z1 : (s ++ (⟨#[58]⟩ : ByteArray)).size = s.size + 1 := ByteArray.size_append
  simp only [chisellaw01_CharsNames.j1]
  rw [if_neg (by simp), plain_b s m (by omega) (by omega), plain_b t m (by omega) (by omega), names_j2 s t m (by omega) hs ht]
  cases hp : plainB s
  · rfl
  · cases hq : plainB t
    · rfl
    · obtain ⟨a, ea, ca, pa, la⟩ := (plain_iff s).1 hp
      obtain ⟨b, eb, cb, pb, lb⟩ := (plain_iff t).1 hq
      have ta := text_of_chars a ca
      have tb := text_of_chars b cb
      rw [← ea] at ta
      rw [← eb] at tb
      rw [Option.bind_some, if_pos rfl, Option.bind_some, if_pos rfl, if_pos (by omega), if_pos (by omega), isName_b _ m (by omega) (by rw [ByteArray.size_append]; omega), Option.bind_some, len_f s (by omega), Option.bind_some, len_f t (by omega), Option.bind_some, ta.1, tb.1, if_pos rfl, if_pos rfl, ta.2, tb.2, w64 (by omega) (by omega)]
      have hJ : isNameB ((s ++ (⟨#[58]⟩ : ByteArray)) ++ t) = decide ((a.length : Int) + (b.length : Int) < 100) := by
        rw [Bool.eq_iff_iff, name_join, decide_eq_true_eq]
        constructor
        · rintro ⟨a', b', ea', eb', ca', cb', _, _, hl⟩
          have ta' := text_of_chars a' ca'
          have tb' := text_of_chars b' cb'
          rw [← ea', ta.2] at ta'
          rw [← eb', tb.2] at tb'
          rw [ta'.2, tb'.2]
          omega
        · intro hl
          exact ⟨a, b, ea, eb, ca, cb, pa, pb, by omega⟩
      rw [hJ, bne_self_eq_false, names_j2 s t m (by omega) hs ht]
theorem names_j0 (s t : ByteArray) (k : Nat) (hk : 6 ≤ k) (hs : s.size ≤ 2000) (ht : t.size ≤ 2000) : chisellaw01_CharsNames.j0 k s t false = some true := by
  obtain ⟨m, rfl⟩ : ∃ m, k = m + 1 := ⟨k - 1, by omega⟩
  simp only [chisellaw01_CharsNames.j0]
  rw [if_neg (by simp), isName_b s m (by omega) (by omega), Option.bind_some]
  cases hN : isNameB s
  · exact names_j1 s t m (by omega) hs ht
  · have hi := (isNameB_iff s).1 hN
    have hl := name_len s hN
    have hcount : strings_Count.f s ⟨#[58]⟩ = some (Lib.countByte s.data.toList 58 : Int) := rfl
    have hc1 := name_count s hN
    rw [if_pos rfl, isText_f s (by omega), Option.bind_some, hi.1, if_pos rfl, norm_f s (by omega), Option.bind_some, name_norm s hN, if_pos rfl, contains_f, Option.bind_some, decide_eq_false (name_blank s hN), if_neg (by simp), hcount, Option.bind_some, if_neg (by omega), len_f s (by omega), Option.bind_some, Option.bind_some, hi.1, if_pos rfl, if_neg (by omega), decide_eq_false (by omega)]
    exact names_j1 s t m (by omega) hs ht
theorem CharsNames : chisellaw01_CharsNames.Pure := by
  intro s t hs ht
  refine ⟨20000, ?_⟩
  have hw : chisellaw01_CharsNames.j0 20000 s t true = some true := by
    simp only [chisellaw01_CharsNames.j0]
    rw [if_pos trivial, works_ok _ (by omega)]; rfl
  unfold chisellaw01_CharsNames.f
  by_cases h1 : (s.size : Int) > 2000
  · rw [if_pos h1]; exact hw
  · rw [if_neg h1]
    by_cases h2 : (t.size : Int) > 2000
    · rw [decide_eq_true h2]; exact hw
    · rw [decide_eq_false h2]
      exact names_j0 s t _ (by omega) (by omega) (by omega)
end Go.Proofs.Ytjhnmclancbilaa.Pure
