/- Texts of the claim: Qx23. -/
import Derived.Test.YtmpenkinheneoaaDoorLQx0
import Derived.Test.YtmpenkinheneoaaDoorLQx21
import Derived.Test.YtmpenkinheneoaaDoorLQx22
namespace Go.Proofs.YtmpenkinheneoaaDoor.Q
open Go.RowKit Go.Proofs.YtmpenkinheneoaaDoorW.PrintWords Go.Proofs.YtmpenkinheneoaaDoorW.PrintLast Go.Proofs.YtmpenkinheneoaaDoorW.PrintMore
attribute [local go_sem] max2_int min2_int max_two min_two max_three min_three max_four min_four   -- for this text's walks alone
set_option linter.unusedVariables false
set_option linter.unusedSimpArgs false
mutual
def chiselref14_number.j0 : Nat → ByteArray → Int → Int → Bool → Option (Int)
 | 0, _, _, _, _ => none
 | k + 1, x0, x1, x5, x18 => if x18 = true then ((chiselref14_digits.f k x0 (wrap64 (x5 + 1))).bind fun t161 => (chiselref14_number.j1 k x0 x1 t161)) else (chiselref14_number.j1 k x0 x1 x5)
def chiselref14_number.j1 : Nat → ByteArray → Int → Int → Option (Int)
 | 0, _, _, _ => none
 | k + 1, x0, x1, x5 => if x5 = x1 then (some x1) else ((chiselref14_begins.f x0 x5 (⟨#[101]⟩ : ByteArray)).bind fun t162 => (if t162 = true then (chiselref14_number.j2 k x0 x5 x5 true) else ((chiselref14_begins.f x0 x5 (⟨#[69]⟩ : ByteArray)).bind fun t163 => (chiselref14_number.j2 k x0 x5 x5 t163))))
def chiselref14_number.j2 : Nat → ByteArray → Int → Int → Bool → Option (Int)
 | 0, _, _, _, _ => none
 | k + 1, x0, x5, x6, x35 => if x35 = true then ((chiselref14_begins.f x0 (wrap64 (x6 + 1)) (⟨#[43]⟩ : ByteArray)).bind fun t164 => (if t164 = true then (chiselref14_number.j3 k x0 x5 (wrap64 (x6 + 1)) true) else ((chiselref14_begins.f x0 (wrap64 (x6 + 1)) (⟨#[45]⟩ : ByteArray)).bind fun t165 => (chiselref14_number.j3 k x0 x5 (wrap64 (x6 + 1)) t165)))) else (some x5)
def chiselref14_number.j3 : Nat → ByteArray → Int → Int → Bool → Option (Int)
 | 0, _, _, _, _ => none
 | k + 1, x0, x5, x6, x45 => if x45 = true then (chiselref14_number.j4 k x0 x5 (wrap64 (x6 + 1))) else (chiselref14_number.j4 k x0 x5 x6)
def chiselref14_number.j4 : Nat → ByteArray → Int → Int → Option (Int)
 | 0, _, _, _ => none
 | k + 1, x0, x5, x6 => (chiselref14_digit.f x0 x6).bind fun t166 => (if t166 = true then ((chiselref14_digits.f k x0 x6).bind fun t167 => (some t167)) else (some x5))
end
def chiselref14_number.f (k : Nat) (a0 : ByteArray) (a1 : Int) : Option (Int) := (chiselref14_digits.f k a0 a1).bind fun t158 => ((chiselref14_begins.f a0 t158 (⟨#[46]⟩ : ByteArray)).bind fun t159 => (if t159 = true then ((chiselref14_digit.f a0 (wrap64 (t158 + 1))).bind fun t160 => (chiselref14_number.j0 k a0 a1 t158 t160)) else (chiselref14_number.j0 k a0 a1 t158 false)))
theorem chiselref14_number.mono_l : ∀ k, (∀ y0 y1 y2 y3, LeO (chiselref14_number.j0 k y0 y1 y2 y3) (chiselref14_number.j0 (k + 1) y0 y1 y2 y3)) ∧ (∀ y0 y1 y2, LeO (chiselref14_number.j1 k y0 y1 y2) (chiselref14_number.j1 (k + 1) y0 y1 y2)) ∧ (∀ y0 y1 y2 y3, LeO (chiselref14_number.j2 k y0 y1 y2 y3) (chiselref14_number.j2 (k + 1) y0 y1 y2 y3)) ∧ (∀ y0 y1 y2 y3, LeO (chiselref14_number.j3 k y0 y1 y2 y3) (chiselref14_number.j3 (k + 1) y0 y1 y2 y3)) ∧ (∀ y0 y1 y2, LeO (chiselref14_number.j4 k y0 y1 y2) (chiselref14_number.j4 (k + 1) y0 y1 y2))
 | 0 => ⟨fun _ _ _ _ r h => by simp [chiselref14_number.j0] at h, fun _ _ _ r h => by simp [chiselref14_number.j1] at h, fun _ _ _ _ r h => by simp [chiselref14_number.j2] at h, fun _ _ _ _ r h => by simp [chiselref14_number.j3] at h, fun _ _ _ r h => by simp [chiselref14_number.j4] at h⟩
 | k + 1 => by
  obtain ⟨ih0, ih1, ih2, ih3, ih4⟩ := chiselref14_number.mono_l k
  refine ⟨?_, ?_, ?_, ?_, ?_⟩
  ·intro y0 y1 y2 y3
   unfold chiselref14_number.j0
   repeat' first
   | (with_reducible exact ih0 _ _ _ _)
   | (with_reducible exact ih1 _ _ _)
   | (with_reducible exact ih2 _ _ _ _)
   | (with_reducible exact ih3 _ _ _ _)
   | (with_reducible exact ih4 _ _ _)
   | (with_reducible exact chiselref14_digits.mono _ _ _)
   | (with_reducible exact LeO.refl _)
   | (with_reducible exact LeO.none _)
   | (with_reducible refine LeO.ite ?_ ?_)
   | (with_reducible refine LeO.bind ?_ (fun _ => ?_))
   | exact ih0 _ _ _ _
   | exact ih1 _ _ _
   | exact ih2 _ _ _ _
   | exact ih3 _ _ _ _
   | exact ih4 _ _ _
   | exact chiselref14_digits.mono _ _ _
   | exact LeO.none _
   | refine LeO.ite ?_ ?_
   | refine LeO.bind ?_ (fun _ => ?_)
  ·intro y0 y1 y2
   unfold chiselref14_number.j1
   repeat' first
   | (with_reducible exact ih0 _ _ _ _)
   | (with_reducible exact ih1 _ _ _)
   | (with_reducible exact ih2 _ _ _ _)
   | (with_reducible exact ih3 _ _ _ _)
   | (with_reducible exact ih4 _ _ _)
   | (with_reducible exact chiselref14_digits.mono _ _ _)
   | (with_reducible exact LeO.refl _)
   | (with_reducible exact LeO.none _)
   | (with_reducible refine LeO.ite ?_ ?_)
   | (with_reducible refine LeO.bind ?_ (fun _ => ?_))
   | exact ih0 _ _ _ _
   | exact ih1 _ _ _
   | exact ih2 _ _ _ _
   | exact ih3 _ _ _ _
   | exact ih4 _ _ _
   | exact chiselref14_digits.mono _ _ _
   | exact LeO.none _
   | refine LeO.ite ?_ ?_
   | refine LeO.bind ?_ (fun _ => ?_)
  ·intro y0 y1 y2 y3
   unfold chiselref14_number.j2
   repeat' first
   | (with_reducible exact ih0 _ _ _ _)
   | (with_reducible exact ih1 _ _ _)
   | (with_reducible exact ih2 _ _ _ _)
   | (with_reducible exact ih3 _ _ _ _)
   | (with_reducible exact ih4 _ _ _)
   | (with_reducible exact chiselref14_digits.mono _ _ _)
   | (with_reducible exact LeO.refl _)
   | (with_reducible exact LeO.none _)
   | (with_reducible refine LeO.ite ?_ ?_)
   | (with_reducible refine LeO.bind ?_ (fun _ => ?_))
   | exact ih0 _ _ _ _
   | exact ih1 _ _ _
   | exact ih2 _ _ _ _
   | exact ih3 _ _ _ _
   | exact ih4 _ _ _
   | exact chiselref14_digits.mono _ _ _
   | exact LeO.none _
   | refine LeO.ite ?_ ?_
   | refine LeO.bind ?_ (fun _ => ?_)
  ·intro y0 y1 y2 y3
   unfold chiselref14_number.j3
   repeat' first
   | (with_reducible exact ih0 _ _ _ _)
   | (with_reducible exact ih1 _ _ _)
   | (with_reducible exact ih2 _ _ _ _)
   | (with_reducible exact ih3 _ _ _ _)
   | (with_reducible exact ih4 _ _ _)
   | (with_reducible exact chiselref14_digits.mono _ _ _)
   | (with_reducible exact LeO.refl _)
   | (with_reducible exact LeO.none _)
   | (with_reducible refine LeO.ite ?_ ?_)
   | (with_reducible refine LeO.bind ?_ (fun _ => ?_))
   | exact ih0 _ _ _ _
   | exact ih1 _ _ _
   | exact ih2 _ _ _ _
   | exact ih3 _ _ _ _
   | exact ih4 _ _ _
   | exact chiselref14_digits.mono _ _ _
   | exact LeO.none _
   | refine LeO.ite ?_ ?_
   | refine LeO.bind ?_ (fun _ => ?_)
  ·intro y0 y1 y2
   unfold chiselref14_number.j4
   repeat' first
   | (with_reducible exact ih0 _ _ _ _)
   | (with_reducible exact ih1 _ _ _)
   | (with_reducible exact ih2 _ _ _ _)
   | (with_reducible exact ih3 _ _ _ _)
   | (with_reducible exact ih4 _ _ _)
   | (with_reducible exact chiselref14_digits.mono _ _ _)
   | (with_reducible exact LeO.refl _)
   | (with_reducible exact LeO.none _)
   | (with_reducible refine LeO.ite ?_ ?_)
   | (with_reducible refine LeO.bind ?_ (fun _ => ?_))
   | exact ih0 _ _ _ _
   | exact ih1 _ _ _
   | exact ih2 _ _ _ _
   | exact ih3 _ _ _ _
   | exact ih4 _ _ _
   | exact chiselref14_digits.mono _ _ _
   | exact LeO.none _
   | refine LeO.ite ?_ ?_
   | refine LeO.bind ?_ (fun _ => ?_)
theorem chiselref14_number.mono : ∀ a0 a1 k, LeO (chiselref14_number.f k a0 a1) (chiselref14_number.f (k + 1) a0 a1) := by
 intro a0 a1 k; obtain ⟨ih0, ih1, ih2, ih3, ih4⟩ := chiselref14_number.mono_l k; unfold chiselref14_number.f
 repeat' first
   | (with_reducible exact ih0 _ _ _ _)
   | (with_reducible exact ih1 _ _ _)
   | (with_reducible exact ih2 _ _ _ _)
   | (with_reducible exact ih3 _ _ _ _)
   | (with_reducible exact ih4 _ _ _)
   | (with_reducible exact chiselref14_digits.mono _ _ _)
   | (with_reducible exact LeO.refl _)
   | (with_reducible exact LeO.none _)
   | (with_reducible refine LeO.ite ?_ ?_)
   | (with_reducible refine LeO.bind ?_ (fun _ => ?_))
   | exact ih0 _ _ _ _
   | exact ih1 _ _ _
   | exact ih2 _ _ _ _
   | exact ih3 _ _ _ _
   | exact ih4 _ _ _
   | exact chiselref14_digits.mono _ _ _
   | exact LeO.none _
   | refine LeO.ite ?_ ?_
   | refine LeO.bind ?_ (fun _ => ?_)
set_option maxHeartbeats 8000000 in
set_option maxRecDepth 100000 in
theorem chiselref14_number.calls (k : Nat) (a0 : ByteArray) (a1 : Int) (r : Int) (w : World) (h : chiselref14_number.f k a0 a1 = some r) :
  Calls Tryd.prog 46 #[.string a0, .int .i64 a1] w fun e w' => e = .returned (.int .i64 r) ∧ Drawn0 w w' := by
 (have H : ((chiselref14_digits.f k a0 a1).bind fun t158 => ((chiselref14_begins.f a0 t158 (⟨#[46]⟩ : ByteArray)).bind fun t159 => (if t159 = true then ((chiselref14_digit.f a0 (wrap64 (t158 + 1))).bind fun t160 => (chiselref14_number.j0 k a0 a1 t158 t160)) else (chiselref14_number.j0 k a0 a1 t158 false)))) = some r := h); clear h; replace H := Option.bind_eq_some_iff.mp H; obtain ⟨t158, A30, H⟩ := H; (replace H : ((chiselref14_begins.f a0 t158 (⟨#[46]⟩ : ByteArray)).bind fun t159 => (if t159 = true then ((chiselref14_digit.f a0 (wrap64 (t158 + 1))).bind fun t160 => (chiselref14_number.j0 k a0 a1 t158 t160)) else (chiselref14_number.j0 k a0 a1 t158 false))) = some r := H); have A3 := Aside0.mk A30; clear A30; have HC4 := Aside0.mk H; clear H; (go_enter Tryd.func46, Tryd.ntmps46); (go_upto_region 2 with (first | ((with_reducible refine gate_callee (f := 64) rfl ?_); refine goesL_ (some 9) rfl rfl Tryd.func64 (by kernel_rfl) rfl #[.string a0, .int .i64 a1] rfl (by (try simp only [List.map_toArray, List.map_cons, List.map_nil]); first | done | rfl | (simp only [List.length_drop, List.length_take]; rfl)) ?_; (with_reducible refine (chiselref14_digits.calls k a0 a1 t158 _ A3.out).mono ?_); rintro e w' ⟨rfl, ⟨nd, rfl⟩⟩; refine ⟨_, rfl, ?_⟩))); (try simp only [Act.put, List.setIfInBounds_toArray, List.set_cons_zero, List.set_cons_succ]); (go_cut [18] (fun v18 wc => ∃ (kq : Nat) (x18_3 : Bool), v18 = .bool x18_3 ∧ Aside0 (chiselref14_number.j0 kq a0 a1 t158 x18_3 = some r) ∧ Aside0 (kq ≤ k) ∧ Drawn0 w wc))
 case first =>
  have H := HC4.out; clear HC4; replace H := Option.bind_eq_some_iff.mp H; obtain ⟨t159, A50, H⟩ := H; (replace H : (if t159 = true then ((chiselref14_digit.f a0 (wrap64 (t158 + 1))).bind fun t160 => (chiselref14_number.j0 k a0 a1 t158 t160)) else (chiselref14_number.j0 k a0 a1 t158 false)) = some r := H); have A5 := Aside0.mk A50; clear A50; by_cases c6 : t159 = true
  ·subst c6; (have H1 : ((chiselref14_digit.f a0 (wrap64 (t158 + 1))).bind fun t160 => (chiselref14_number.j0 k a0 a1 t158 t160)) = some r := by rw [if_pos rfl] at H; exact H); clear H; have H := H1; clear H1; replace H := Option.bind_eq_some_iff.mp H; obtain ⟨t160, A70, H⟩ := H; replace H : (chiselref14_number.j0 k a0 a1 t158 t160) = some r := H; have A7 := Aside0.mk A70; clear A70; have H' := Aside0.mk H; clear H; (go_wp2_with (first | ((with_reducible refine gate_callee (f := 27) rfl ?_); refine goesL_ (some 12) rfl rfl Tryd.func27 (by kernel_rfl) rfl #[.string a0, .int .i64 t158, .string (⟨#[46]⟩ : ByteArray)] rfl (by (try simp only [List.map_toArray, List.map_cons, List.map_nil]); first | done | rfl | (simp only [List.length_drop, List.length_take]; rfl)) ?_; (with_reducible refine (chiselref14_begins.calls a0 t158 (⟨#[46]⟩ : ByteArray) true _ A5.out).mono ?_); rintro e w' ⟨rfl, ⟨nd, rfl⟩⟩; refine ⟨_, rfl, ?_⟩) | (go_at_call 65; (with_reducible refine (chiselref14_digit.calls a0 (wrap64 (t158 + 1)) t160 _ A7.out).mono ?_); rintro e w' ⟨rfl, ⟨nd, rfl⟩⟩))); (go_meet)
   case rel => exact ⟨_, (t160), (by first | rfl | (simp; done) | (simp [*]; done)), H', ⟨by first | omega | exact Nat.le_refl _⟩, by repeat (first | exact Drawn0.refl _ | apply Drawn0.step)⟩
  ·replace c6 := Bool.eq_false_iff.mpr c6; subst c6; (have H1 : (chiselref14_number.j0 k a0 a1 t158 false) = some r := by rw [if_neg (show ¬ (false = true) by decide)] at H; exact H); clear H; have H := H1; clear H1; have H' := Aside0.mk H; clear H; (go_wp2_with (first | ((with_reducible refine gate_callee (f := 27) rfl ?_); refine goesL_ (some 12) rfl rfl Tryd.func27 (by kernel_rfl) rfl #[.string a0, .int .i64 t158, .string (⟨#[46]⟩ : ByteArray)] rfl (by (try simp only [List.map_toArray, List.map_cons, List.map_nil]); first | done | rfl | (simp only [List.length_drop, List.length_take]; rfl)) ?_; (with_reducible refine (chiselref14_begins.calls a0 t158 (⟨#[46]⟩ : ByteArray) false _ A5.out).mono ?_); rintro e w' ⟨rfl, ⟨nd, rfl⟩⟩; refine ⟨_, rfl, ?_⟩))); (go_meet)
   case rel => exact ⟨_, (false), (by first | rfl | (simp; done) | (simp [*]; done)), H', ⟨by first | omega | exact Nat.le_refl _⟩, by repeat (first | exact Drawn0.refl _ | apply Drawn0.step)⟩
 case rest =>
  clear HC4; ((try clear c2); (try clear p2); (try clear c4); (try clear c6); (try clear p6)); obtain ⟨kq, x18_3, rfl, HA, HJ3, ⟨mc3, rfl⟩⟩ := hcut
  cases kq with
  | zero => exact absurd HA.out (by simp [chiselref14_number.j0])
  | succ kj3 =>
   have H := HA.out; clear HA; simp only [chiselref14_number.j0] at H; have HC8 := Aside0.mk H; clear H; (go_upto_if 18 with (fail)); (go_cut [5] (fun v5 wc => ∃ (kq : Nat) (x5_7 : Int), v5 = .int .i64 x5_7 ∧ Aside0 (chiselref14_number.j1 kq a0 a1 x5_7 = some r) ∧ Aside0 (kq ≤ kj3) ∧ Drawn0 w wc))
   case first =>
    have H := HC8.out; clear HC8; by_cases c9 : x18_3 = true
    ·subst c9; (have H1 : ((chiselref14_digits.f kj3 a0 (wrap64 (t158 + 1))).bind fun t161 => (chiselref14_number.j1 kj3 a0 a1 t161)) = some r := by rw [if_pos rfl] at H; exact H); clear H; have H := H1; clear H1; replace H := Option.bind_eq_some_iff.mp H; obtain ⟨t161, A100, H⟩ := H; replace H : (chiselref14_number.j1 kj3 a0 a1 t161) = some r := H; have A10 := Aside0.mk A100; clear A100; have H' := Aside0.mk H; clear H; (go_wp2_with (first | ((with_reducible refine gate_callee (f := 64) rfl ?_); refine goesL_ (some 22) rfl rfl Tryd.func64 (by kernel_rfl) rfl #[.string a0, .int .i64 (wrap64 (t158 + 1))] rfl (by (try simp only [List.map_toArray, List.map_cons, List.map_nil]); first | done | rfl | (simp only [List.length_drop, List.length_take]; rfl)) ?_; (with_reducible refine (chiselref14_digits.calls kj3 a0 (wrap64 (t158 + 1)) t161 _ A10.out).mono ?_); rintro e w' ⟨rfl, ⟨nd, rfl⟩⟩; refine ⟨_, rfl, ?_⟩))); (go_meet)
     case rel => exact ⟨_, (t161), (by first | rfl | (simp; done) | (simp [*]; done)), H', ⟨by have := HJ3.out; first | omega | exact Nat.le_refl _⟩, by repeat (first | exact Drawn0.refl _ | apply Drawn0.step)⟩
    ·replace c9 := Bool.eq_false_iff.mpr c9; subst c9; (have H1 : (chiselref14_number.j1 kj3 a0 a1 t158) = some r := by rw [if_neg (show ¬ (false = true) by decide)] at H; exact H); clear H; have H := H1; clear H1; have H' := Aside0.mk H; clear H; (go_wp2); (go_meet)
     case rel => exact ⟨_, (t158), (by first | rfl | (simp; done) | (simp [*]; done)), H', ⟨by have := HJ3.out; first | omega | exact Nat.le_refl _⟩, by repeat (first | exact Drawn0.refl _ | apply Drawn0.step)⟩
   case rest =>
    clear HC8; ((try clear c2); (try clear p2); (try clear c3); (try clear c4); (try clear c6); (try clear p6); (try clear c9); (try clear p2); (try clear p6)); obtain ⟨kq, x5_7, rfl, HA, HJ7, ⟨mc7, rfl⟩⟩ := hcut
    cases kq with
    | zero => exact absurd HA.out (by simp [chiselref14_number.j1])
    | succ kj7 =>
     have H := HA.out; clear HA; simp only [chiselref14_number.j1] at H; by_cases c11 : x5_7 = a1
     ·rw [if_pos c11] at H; have c11b0 : (x5_7 == a1) = true := beq_iff_eq.mpr c11; have c11b1 : (x5_7 != a1) = false := bne_eq_false_iff_eq.mpr c11; clear c11; obtain rfl := Option.some.inj H; (go_wp2); (go_ret); (exact ⟨by first | rfl | (simp; done) | (simp [*]; done), by repeat (first | exact Drawn0.refl _ | apply Drawn0.step)⟩)
     ·rw [if_neg c11] at H; have c11b0 : (x5_7 == a1) = false := beq_eq_false_iff_ne.mpr c11; have c11b1 : (x5_7 != a1) = true := bne_iff_ne.mpr c11; have HC12 := Aside0.mk H; clear H; (go_upto_region 7 with (fail)); (go_cut [35] (fun v35 wc => ∃ (kq : Nat) (x35_11 : Bool), v35 = .bool x35_11 ∧ Aside0 (chiselref14_number.j2 kq a0 x5_7 x5_7 x35_11 = some r) ∧ Aside0 (kq ≤ kj7) ∧ Drawn0 w wc))
      case first =>
       have H := HC12.out; clear HC12; replace H := Option.bind_eq_some_iff.mp H; obtain ⟨t162, A130, H⟩ := H; (replace H : (if t162 = true then (chiselref14_number.j2 kj7 a0 x5_7 x5_7 true) else ((chiselref14_begins.f a0 x5_7 (⟨#[69]⟩ : ByteArray)).bind fun t163 => (chiselref14_number.j2 kj7 a0 x5_7 x5_7 t163))) = some r := H); have A13 := Aside0.mk A130; clear A130; by_cases c14 : t162 = true
       ·subst c14; (have H1 : (chiselref14_number.j2 kj7 a0 x5_7 x5_7 true) = some r := by rw [if_pos rfl] at H; exact H); clear H; have H := H1; clear H1; have H' := Aside0.mk H; clear H; (go_wp2_with (first | ((with_reducible refine gate_callee (f := 27) rfl ?_); refine goesL_ (some 30) rfl rfl Tryd.func27 (by kernel_rfl) rfl #[.string a0, .int .i64 x5_7, .string (⟨#[101]⟩ : ByteArray)] rfl (by (try simp only [List.map_toArray, List.map_cons, List.map_nil]); first | done | rfl | (simp only [List.length_drop, List.length_take]; rfl)) ?_; (with_reducible refine (chiselref14_begins.calls a0 x5_7 (⟨#[101]⟩ : ByteArray) true _ A13.out).mono ?_); rintro e w' ⟨rfl, ⟨nd, rfl⟩⟩; refine ⟨_, rfl, ?_⟩))); (go_meet)
        case rel => exact ⟨_, (true), (by first | rfl | (simp; done) | (simp [*]; done)), H', ⟨by have := HJ3.out; have := HJ7.out; first | omega | exact Nat.le_refl _⟩, by repeat (first | exact Drawn0.refl _ | apply Drawn0.step)⟩
       ·replace c14 := Bool.eq_false_iff.mpr c14; subst c14; (have H1 : ((chiselref14_begins.f a0 x5_7 (⟨#[69]⟩ : ByteArray)).bind fun t163 => (chiselref14_number.j2 kj7 a0 x5_7 x5_7 t163)) = some r := by rw [if_neg (show ¬ (false = true) by decide)] at H; exact H); clear H; have H := H1; clear H1; replace H := Option.bind_eq_some_iff.mp H; obtain ⟨t163, A150, H⟩ := H; replace H : (chiselref14_number.j2 kj7 a0 x5_7 x5_7 t163) = some r := H; have A15 := Aside0.mk A150; clear A150; have H' := Aside0.mk H; clear H; (go_wp2_with (first | ((with_reducible refine gate_callee (f := 27) rfl ?_); refine goesL_ (some 30) rfl rfl Tryd.func27 (by kernel_rfl) rfl #[.string a0, .int .i64 x5_7, .string (⟨#[101]⟩ : ByteArray)] rfl (by (try simp only [List.map_toArray, List.map_cons, List.map_nil]); first | done | rfl | (simp only [List.length_drop, List.length_take]; rfl)) ?_; (with_reducible refine (chiselref14_begins.calls a0 x5_7 (⟨#[101]⟩ : ByteArray) false _ A13.out).mono ?_); rintro e w' ⟨rfl, ⟨nd, rfl⟩⟩; refine ⟨_, rfl, ?_⟩) | (go_at_call 27; (with_reducible refine (chiselref14_begins.calls a0 x5_7 (⟨#[69]⟩ : ByteArray) t163 _ A15.out).mono ?_); rintro e w' ⟨rfl, ⟨nd, rfl⟩⟩))); (go_meet)
        case rel => exact ⟨_, (t163), (by first | rfl | (simp; done) | (simp [*]; done)), H', ⟨by have := HJ3.out; have := HJ7.out; first | omega | exact Nat.le_refl _⟩, by repeat (first | exact Drawn0.refl _ | apply Drawn0.step)⟩
      case rest =>
       clear HC12; ((try clear c1); (try clear c2); (try clear p2); (try clear c3); (try clear c4); (try clear c6); (try clear p6); (try clear c7); (try clear c9); (try clear c11); (try clear c11b0); (try clear c11b1); (try clear c14); (try clear p2); (try clear p6)); obtain ⟨kq, x35_11, rfl, HA, HJ11, ⟨mc11, rfl⟩⟩ := hcut
       cases kq with
       | zero => exact absurd HA.out (by simp [chiselref14_number.j2])
       | succ kj11 =>
        have H := HA.out; clear HA; simp only [chiselref14_number.j2] at H; by_cases c16 : x35_11 = true
        ·subst c16; (have H1 : ((chiselref14_begins.f a0 (wrap64 (x5_7 + 1)) (⟨#[43]⟩ : ByteArray)).bind fun t164 => (if t164 = true then (chiselref14_number.j3 kj11 a0 x5_7 (wrap64 (x5_7 + 1)) true) else ((chiselref14_begins.f a0 (wrap64 (x5_7 + 1)) (⟨#[45]⟩ : ByteArray)).bind fun t165 => (chiselref14_number.j3 kj11 a0 x5_7 (wrap64 (x5_7 + 1)) t165)))) = some r := by rw [if_pos rfl] at H; exact H); clear H; have H := H1; clear H1; have HC17 := Aside0.mk H; clear H; (go_upto_region 9 with (fail)); (go_cut [45] (fun v45 wc => ∃ (kq : Nat) (x45_16 : Bool), v45 = .bool x45_16 ∧ Aside0 (chiselref14_number.j3 kq a0 x5_7 (wrap64 (x5_7 + 1)) x45_16 = some r) ∧ Aside0 (kq ≤ kj11) ∧ Drawn0 w wc))
         case first =>
          have H := HC17.out; clear HC17; replace H := Option.bind_eq_some_iff.mp H; obtain ⟨t164, A180, H⟩ := H; (replace H : (if t164 = true then (chiselref14_number.j3 kj11 a0 x5_7 (wrap64 (x5_7 + 1)) true) else ((chiselref14_begins.f a0 (wrap64 (x5_7 + 1)) (⟨#[45]⟩ : ByteArray)).bind fun t165 => (chiselref14_number.j3 kj11 a0 x5_7 (wrap64 (x5_7 + 1)) t165))) = some r := H); have A18 := Aside0.mk A180; clear A180; by_cases c19 : t164 = true
          ·subst c19; (have H1 : (chiselref14_number.j3 kj11 a0 x5_7 (wrap64 (x5_7 + 1)) true) = some r := by rw [if_pos rfl] at H; exact H); clear H; have H := H1; clear H1; have H' := Aside0.mk H; clear H; (go_wp2_with (first | ((with_reducible refine gate_callee (f := 27) rfl ?_); refine goesL_ (some 40) rfl rfl Tryd.func27 (by kernel_rfl) rfl #[.string a0, .int .i64 (wrap64 (x5_7 + 1)), .string (⟨#[43]⟩ : ByteArray)] rfl (by (try simp only [List.map_toArray, List.map_cons, List.map_nil]); first | done | rfl | (simp only [List.length_drop, List.length_take]; rfl)) ?_; (with_reducible refine (chiselref14_begins.calls a0 (wrap64 (x5_7 + 1)) (⟨#[43]⟩ : ByteArray) true _ A18.out).mono ?_); rintro e w' ⟨rfl, ⟨nd, rfl⟩⟩; refine ⟨_, rfl, ?_⟩))); (go_meet)
           case rel => exact ⟨_, (true), (by first | rfl | (simp; done) | (simp [*]; done)), H', ⟨by have := HJ3.out; have := HJ7.out; have := HJ11.out; first | omega | exact Nat.le_refl _⟩, by repeat (first | exact Drawn0.refl _ | apply Drawn0.step)⟩
          ·replace c19 := Bool.eq_false_iff.mpr c19; subst c19; (have H1 : ((chiselref14_begins.f a0 (wrap64 (x5_7 + 1)) (⟨#[45]⟩ : ByteArray)).bind fun t165 => (chiselref14_number.j3 kj11 a0 x5_7 (wrap64 (x5_7 + 1)) t165)) = some r := by rw [if_neg (show ¬ (false = true) by decide)] at H; exact H); clear H; have H := H1; clear H1; replace H := Option.bind_eq_some_iff.mp H; obtain ⟨t165, A200, H⟩ := H; replace H : (chiselref14_number.j3 kj11 a0 x5_7 (wrap64 (x5_7 + 1)) t165) = some r := H; have A20 := Aside0.mk A200; clear A200; have H' := Aside0.mk H; clear H; (go_wp2_with (first | ((with_reducible refine gate_callee (f := 27) rfl ?_); refine goesL_ (some 40) rfl rfl Tryd.func27 (by kernel_rfl) rfl #[.string a0, .int .i64 (wrap64 (x5_7 + 1)), .string (⟨#[43]⟩ : ByteArray)] rfl (by (try simp only [List.map_toArray, List.map_cons, List.map_nil]); first | done | rfl | (simp only [List.length_drop, List.length_take]; rfl)) ?_; (with_reducible refine (chiselref14_begins.calls a0 (wrap64 (x5_7 + 1)) (⟨#[43]⟩ : ByteArray) false _ A18.out).mono ?_); rintro e w' ⟨rfl, ⟨nd, rfl⟩⟩; refine ⟨_, rfl, ?_⟩) | (go_at_call 27; (with_reducible refine (chiselref14_begins.calls a0 (wrap64 (x5_7 + 1)) (⟨#[45]⟩ : ByteArray) t165 _ A20.out).mono ?_); rintro e w' ⟨rfl, ⟨nd, rfl⟩⟩))); (go_meet)
           case rel => exact ⟨_, (t165), (by first | rfl | (simp; done) | (simp [*]; done)), H', ⟨by have := HJ3.out; have := HJ7.out; have := HJ11.out; first | omega | exact Nat.le_refl _⟩, by repeat (first | exact Drawn0.refl _ | apply Drawn0.step)⟩
         case rest =>
          clear HC17; ((try clear c1); (try clear c2); (try clear p2); (try clear c3); (try clear c4); (try clear c6); (try clear p6); (try clear c7); (try clear c9); (try clear c11); (try clear c11b0); (try clear c11b1); (try clear c14); (try clear c16); (try clear c19); (try clear p2); (try clear p6)); obtain ⟨kq, x45_16, rfl, HA, HJ16, ⟨mc16, rfl⟩⟩ := hcut
          cases kq with
          | zero => exact absurd HA.out (by simp [chiselref14_number.j3])
          | succ kj16 =>
           have H := HA.out; clear HA; simp only [chiselref14_number.j3] at H; have HC21 := Aside0.mk H; clear H; (go_upto_if 45 with (fail)); (go_cut [6] (fun v6 wc => ∃ (kq : Nat) (x6_20 : Int), v6 = .int .i64 x6_20 ∧ Aside0 (chiselref14_number.j4 kq a0 x5_7 x6_20 = some r) ∧ Aside0 (kq ≤ kj16) ∧ Drawn0 w wc))
           case first =>
            have H := HC21.out; clear HC21; by_cases c22 : x45_16 = true
            ·subst c22; (have H1 : (chiselref14_number.j4 kj16 a0 x5_7 (wrap64 ((wrap64 (x5_7 + 1)) + 1))) = some r := by rw [if_pos rfl] at H; exact H); clear H; have H := H1; clear H1; have H' := Aside0.mk H; clear H; (go_wp2); (go_meet)
             case rel => exact ⟨_, (wrap64 ((wrap64 (x5_7 + 1)) + 1)), (by first | rfl | (simp; done) | (simp [*]; done)), H', ⟨by have := HJ3.out; have := HJ7.out; have := HJ11.out; have := HJ16.out; first | omega | exact Nat.le_refl _⟩, by repeat (first | exact Drawn0.refl _ | apply Drawn0.step)⟩
            ·replace c22 := Bool.eq_false_iff.mpr c22; subst c22; (have H1 : (chiselref14_number.j4 kj16 a0 x5_7 (wrap64 (x5_7 + 1))) = some r := by rw [if_neg (show ¬ (false = true) by decide)] at H; exact H); clear H; have H := H1; clear H1; have H' := Aside0.mk H; clear H; (go_wp2); (go_meet)
             case rel => exact ⟨_, ((wrap64 (x5_7 + 1))), (by first | rfl | (simp; done) | (simp [*]; done)), H', ⟨by have := HJ3.out; have := HJ7.out; have := HJ11.out; have := HJ16.out; first | omega | exact Nat.le_refl _⟩, by repeat (first | exact Drawn0.refl _ | apply Drawn0.step)⟩
           case rest =>
            clear HC21; ((try clear c1); (try clear c2); (try clear p2); (try clear c3); (try clear c4); (try clear c6); (try clear p6); (try clear c7); (try clear c9); (try clear c11); (try clear c11b0); (try clear c11b1); (try clear c14); (try clear c16); (try clear c19); (try clear c22); (try clear p2); (try clear p6)); obtain ⟨kq, x6_20, rfl, HA, HJ20, ⟨mc20, rfl⟩⟩ := hcut
            cases kq with
            | zero => exact absurd HA.out (by simp [chiselref14_number.j4])
            | succ kj20 =>
             have H := HA.out; clear HA; simp only [chiselref14_number.j4] at H; replace H := Option.bind_eq_some_iff.mp H; obtain ⟨t166, A230, H⟩ := H; (replace H : (if t166 = true then ((chiselref14_digits.f kj20 a0 x6_20).bind fun t167 => (some t167)) else (some x5_7)) = some r := H); have A23 := Aside0.mk A230; clear A230; by_cases c24 : t166 = true
             ·subst c24; (have H1 : ((chiselref14_digits.f kj20 a0 x6_20).bind fun t167 => (some t167)) = some r := by rw [if_pos rfl] at H; exact H); clear H; have H := H1; clear H1; replace H := Option.bind_eq_some_iff.mp H; obtain ⟨t167, A250, H⟩ := H; replace H : (some t167) = some r := H; have A25 := Aside0.mk A250; clear A250; obtain rfl := Option.some.inj H; (go_wp2_with (first | ((with_reducible refine gate_callee (f := 65) rfl ?_); refine goesL_ (some 50) rfl rfl Tryd.func65 (by kernel_rfl) rfl #[.string a0, .int .i64 x6_20] rfl (by (try simp only [List.map_toArray, List.map_cons, List.map_nil]); first | done | rfl | (simp only [List.length_drop, List.length_take]; rfl)) ?_; (with_reducible refine (chiselref14_digit.calls a0 x6_20 true _ A23.out).mono ?_); rintro e w' ⟨rfl, ⟨nd, rfl⟩⟩; refine ⟨_, rfl, ?_⟩) | ((with_reducible refine gate_callee (f := 64) rfl ?_); refine goesL_ (some 53) rfl rfl Tryd.func64 (by kernel_rfl) rfl #[.string a0, .int .i64 x6_20] rfl (by (try simp only [List.map_toArray, List.map_cons, List.map_nil]); first | done | rfl | (simp only [List.length_drop, List.length_take]; rfl)) ?_; (with_reducible refine (chiselref14_digits.calls kj20 a0 x6_20 t167 _ A25.out).mono ?_); rintro e w' ⟨rfl, ⟨nd, rfl⟩⟩; refine ⟨_, rfl, ?_⟩))); (go_ret); (exact ⟨by first | rfl | (simp; done) | (simp [*]; done), by repeat (first | exact Drawn0.refl _ | apply Drawn0.step)⟩)
             ·replace c24 := Bool.eq_false_iff.mpr c24; subst c24; (have H1 : (some x5_7) = some r := by rw [if_neg (show ¬ (false = true) by decide)] at H; exact H); clear H; have H := H1; clear H1; obtain rfl := Option.some.inj H; (go_wp2_with (first | ((with_reducible refine gate_callee (f := 65) rfl ?_); refine goesL_ (some 50) rfl rfl Tryd.func65 (by kernel_rfl) rfl #[.string a0, .int .i64 x6_20] rfl (by (try simp only [List.map_toArray, List.map_cons, List.map_nil]); first | done | rfl | (simp only [List.length_drop, List.length_take]; rfl)) ?_; (with_reducible refine (chiselref14_digit.calls a0 x6_20 false _ A23.out).mono ?_); rintro e w' ⟨rfl, ⟨nd, rfl⟩⟩; refine ⟨_, rfl, ?_⟩))); (go_ret); (exact ⟨by first | rfl | (simp; done) | (simp [*]; done), by repeat (first | exact Drawn0.refl _ | apply Drawn0.step)⟩)
        ·replace c16 := Bool.eq_false_iff.mpr c16; subst c16; (have H1 : (some x5_7) = some r := by rw [if_neg (show ¬ (false = true) by decide)] at H; exact H); clear H; have H := H1; clear H1; obtain rfl := Option.some.inj H; (go_wp2); (go_ret); (exact ⟨by first | rfl | (simp; done) | (simp [*]; done), by repeat (first | exact Drawn0.refl _ | apply Drawn0.step)⟩)
def chiselref01_letter.f (a0 : Int) : Option (Bool) := if a0 ≥ 65 then (if a0 ≤ 90 then (some true) else (if a0 ≥ 97 then (if a0 ≤ 122 then (some true) else (if a0 = 95 then (some true) else (if a0 ≥ 192 then (if a0 = 215 then (some false) else (some (a0 != 247))) else (some false)))) else (if a0 = 95 then (some true) else (if a0 ≥ 192 then (if a0 = 215 then (some false) else (some (a0 != 247))) else (some false))))) else (if a0 ≥ 97 then (if a0 ≤ 122 then (some true) else (if a0 = 95 then (some true) else (if a0 ≥ 192 then (if a0 = 215 then (some false) else (some (a0 != 247))) else (some false)))) else (if a0 = 95 then (some true) else (if a0 ≥ 192 then (if a0 = 215 then (some false) else (some (a0 != 247))) else (some false))))
set_option maxHeartbeats 8000000 in
set_option maxRecDepth 100000 in
theorem chiselref01_letter.calls (a0 : Int) (r : Bool) (w : World) (h : chiselref01_letter.f a0 = some r) :
  Calls Tryd.prog 67 #[.int .i64 a0] w fun e w' => e = .returned (.bool r) ∧ Drawn0 w w' := by
 have H : (if a0 ≥ 65 then (if a0 ≤ 90 then (some true) else (if a0 ≥ 97 then (if a0 ≤ 122 then (some true) else (if a0 = 95 then (some true) else (if a0 ≥ 192 then (if a0 = 215 then (some false) else (some (a0 != 247))) else (some false)))) else (if a0 = 95 then (some true) else (if a0 ≥ 192 then (if a0 = 215 then (some false) else (some (a0 != 247))) else (some false))))) else (if a0 ≥ 97 then (if a0 ≤ 122 then (some true) else (if a0 = 95 then (some true) else (if a0 ≥ 192 then (if a0 = 215 then (some false) else (some (a0 != 247))) else (some false)))) else (if a0 = 95 then (some true) else (if a0 ≥ 192 then (if a0 = 215 then (some false) else (some (a0 != 247))) else (some false))))) = some r := h; clear h; by_cases c2 : a0 ≥ 65
 ·rw [if_pos c2] at H; have c2b0 : decide (65 ≤ a0) = true := decide_eq_true c2; clear c2; by_cases c3 : a0 ≤ 90
  ·rw [if_pos c3] at H; have c3b0 : decide (a0 ≤ 90) = true := decide_eq_true c3; clear c3; obtain rfl := Option.some.inj H; (go_enter Tryd.func67, Tryd.ntmps67); (go_wp2); (go_ret); (exact ⟨by first | rfl | (simp; done) | (simp [*]; done), by repeat (first | exact Drawn0.refl _ | apply Drawn0.step)⟩)
  ·rw [if_neg c3] at H; have c3b0 : decide (a0 ≤ 90) = false := decide_eq_false c3; clear c3; by_cases c4 : a0 ≥ 97
   ·rw [if_pos c4] at H; have c4b0 : decide (97 ≤ a0) = true := decide_eq_true c4; clear c4; by_cases c5 : a0 ≤ 122
    ·rw [if_pos c5] at H; have c5b0 : decide (a0 ≤ 122) = true := decide_eq_true c5; clear c5; obtain rfl := Option.some.inj H; (go_enter Tryd.func67, Tryd.ntmps67); (go_wp2); (go_ret); (exact ⟨by first | rfl | (simp; done) | (simp [*]; done), by repeat (first | exact Drawn0.refl _ | apply Drawn0.step)⟩)
    ·rw [if_neg c5] at H; have c5b0 : decide (a0 ≤ 122) = false := decide_eq_false c5; clear c5; by_cases c6 : a0 = 95
     ·rw [if_pos c6] at H; have c6b0 : (a0 == 95) = true := beq_iff_eq.mpr c6; have c6b1 : (a0 != 95) = false := bne_eq_false_iff_eq.mpr c6; clear c6; obtain rfl := Option.some.inj H; (go_enter Tryd.func67, Tryd.ntmps67); (go_wp2); (go_ret); (exact ⟨by first | rfl | (simp; done) | (simp [*]; done), by repeat (first | exact Drawn0.refl _ | apply Drawn0.step)⟩)
     ·rw [if_neg c6] at H; have c6b0 : (a0 == 95) = false := beq_eq_false_iff_ne.mpr c6; have c6b1 : (a0 != 95) = true := bne_iff_ne.mpr c6; by_cases c7 : a0 ≥ 192
      ·rw [if_pos c7] at H; have c7b0 : decide (192 ≤ a0) = true := decide_eq_true c7; clear c7; by_cases c8 : a0 = 215
       ·rw [if_pos c8] at H; have c8b0 : (a0 == 215) = true := beq_iff_eq.mpr c8; have c8b1 : (a0 != 215) = false := bne_eq_false_iff_eq.mpr c8; clear c8; obtain rfl := Option.some.inj H; (go_enter Tryd.func67, Tryd.ntmps67); (go_wp2); (go_ret); (exact ⟨by first | rfl | (simp; done) | (simp [*]; done), by repeat (first | exact Drawn0.refl _ | apply Drawn0.step)⟩)
       ·rw [if_neg c8] at H; have c8b0 : (a0 == 215) = false := beq_eq_false_iff_ne.mpr c8; have c8b1 : (a0 != 215) = true := bne_iff_ne.mpr c8; obtain rfl := Option.some.inj H; (go_enter Tryd.func67, Tryd.ntmps67); (go_wp2); (go_ret); (exact ⟨by first | rfl | (simp; done) | (simp [*]; done), by repeat (first | exact Drawn0.refl _ | apply Drawn0.step)⟩)
      ·rw [if_neg c7] at H; have c7b0 : decide (192 ≤ a0) = false := decide_eq_false c7; clear c7; obtain rfl := Option.some.inj H; (go_enter Tryd.func67, Tryd.ntmps67); (go_wp2); (go_ret); (exact ⟨by first | rfl | (simp; done) | (simp [*]; done), by repeat (first | exact Drawn0.refl _ | apply Drawn0.step)⟩)
   ·rw [if_neg c4] at H; have c4b0 : decide (97 ≤ a0) = false := decide_eq_false c4; clear c4; by_cases c9 : a0 = 95
    ·rw [if_pos c9] at H; have c9b0 : (a0 == 95) = true := beq_iff_eq.mpr c9; have c9b1 : (a0 != 95) = false := bne_eq_false_iff_eq.mpr c9; clear c9; obtain rfl := Option.some.inj H; (go_enter Tryd.func67, Tryd.ntmps67); (go_wp2); (go_ret); (exact ⟨by first | rfl | (simp; done) | (simp [*]; done), by repeat (first | exact Drawn0.refl _ | apply Drawn0.step)⟩)
    ·rw [if_neg c9] at H; have c9b0 : (a0 == 95) = false := beq_eq_false_iff_ne.mpr c9; have c9b1 : (a0 != 95) = true := bne_iff_ne.mpr c9; by_cases c10 : a0 ≥ 192
     ·rw [if_pos c10] at H; have c10b0 : decide (192 ≤ a0) = true := decide_eq_true c10; clear c10; by_cases c11 : a0 = 215
      ·rw [if_pos c11] at H; have c11b0 : (a0 == 215) = true := beq_iff_eq.mpr c11; have c11b1 : (a0 != 215) = false := bne_eq_false_iff_eq.mpr c11; clear c11; obtain rfl := Option.some.inj H; (go_enter Tryd.func67, Tryd.ntmps67); (go_wp2); (go_ret); (exact ⟨by first | rfl | (simp; done) | (simp [*]; done), by repeat (first | exact Drawn0.refl _ | apply Drawn0.step)⟩)
      ·rw [if_neg c11] at H; have c11b0 : (a0 == 215) = false := beq_eq_false_iff_ne.mpr c11; have c11b1 : (a0 != 215) = true := bne_iff_ne.mpr c11; obtain rfl := Option.some.inj H; (go_enter Tryd.func67, Tryd.ntmps67); (go_wp2); (go_ret); (exact ⟨by first | rfl | (simp; done) | (simp [*]; done), by repeat (first | exact Drawn0.refl _ | apply Drawn0.step)⟩)
     ·rw [if_neg c10] at H; have c10b0 : decide (192 ≤ a0) = false := decide_eq_false c10; clear c10; obtain rfl := Option.some.inj H; (go_enter Tryd.func67, Tryd.ntmps67); (go_wp2); (go_ret); (exact ⟨by first | rfl | (simp; done) | (simp [*]; done), by repeat (first | exact Drawn0.refl _ | apply Drawn0.step)⟩)
 ·rw [if_neg c2] at H; have c2b0 : decide (65 ≤ a0) = false := decide_eq_false c2; clear c2; by_cases c12 : a0 ≥ 97
  ·rw [if_pos c12] at H; have c12b0 : decide (97 ≤ a0) = true := decide_eq_true c12; clear c12; by_cases c13 : a0 ≤ 122
   ·rw [if_pos c13] at H; have c13b0 : decide (a0 ≤ 122) = true := decide_eq_true c13; clear c13; obtain rfl := Option.some.inj H; (go_enter Tryd.func67, Tryd.ntmps67); (go_wp2); (go_ret); (exact ⟨by first | rfl | (simp; done) | (simp [*]; done), by repeat (first | exact Drawn0.refl _ | apply Drawn0.step)⟩)
   ·rw [if_neg c13] at H; have c13b0 : decide (a0 ≤ 122) = false := decide_eq_false c13; clear c13; by_cases c14 : a0 = 95
    ·rw [if_pos c14] at H; have c14b0 : (a0 == 95) = true := beq_iff_eq.mpr c14; have c14b1 : (a0 != 95) = false := bne_eq_false_iff_eq.mpr c14; clear c14; obtain rfl := Option.some.inj H; (go_enter Tryd.func67, Tryd.ntmps67); (go_wp2); (go_ret); (exact ⟨by first | rfl | (simp; done) | (simp [*]; done), by repeat (first | exact Drawn0.refl _ | apply Drawn0.step)⟩)
    ·rw [if_neg c14] at H; have c14b0 : (a0 == 95) = false := beq_eq_false_iff_ne.mpr c14; have c14b1 : (a0 != 95) = true := bne_iff_ne.mpr c14; by_cases c15 : a0 ≥ 192
     ·rw [if_pos c15] at H; have c15b0 : decide (192 ≤ a0) = true := decide_eq_true c15; clear c15; by_cases c16 : a0 = 215
      ·rw [if_pos c16] at H; have c16b0 : (a0 == 215) = true := beq_iff_eq.mpr c16; have c16b1 : (a0 != 215) = false := bne_eq_false_iff_eq.mpr c16; clear c16; obtain rfl := Option.some.inj H; (go_enter Tryd.func67, Tryd.ntmps67); (go_wp2); (go_ret); (exact ⟨by first | rfl | (simp; done) | (simp [*]; done), by repeat (first | exact Drawn0.refl _ | apply Drawn0.step)⟩)
      ·rw [if_neg c16] at H; have c16b0 : (a0 == 215) = false := beq_eq_false_iff_ne.mpr c16; have c16b1 : (a0 != 215) = true := bne_iff_ne.mpr c16; obtain rfl := Option.some.inj H; (go_enter Tryd.func67, Tryd.ntmps67); (go_wp2); (go_ret); (exact ⟨by first | rfl | (simp; done) | (simp [*]; done), by repeat (first | exact Drawn0.refl _ | apply Drawn0.step)⟩)
     ·rw [if_neg c15] at H; have c15b0 : decide (192 ≤ a0) = false := decide_eq_false c15; clear c15; obtain rfl := Option.some.inj H; (go_enter Tryd.func67, Tryd.ntmps67); (go_wp2); (go_ret); (exact ⟨by first | rfl | (simp; done) | (simp [*]; done), by repeat (first | exact Drawn0.refl _ | apply Drawn0.step)⟩)
  ·rw [if_neg c12] at H; have c12b0 : decide (97 ≤ a0) = false := decide_eq_false c12; clear c12; by_cases c17 : a0 = 95
   ·rw [if_pos c17] at H; have c17b0 : (a0 == 95) = true := beq_iff_eq.mpr c17; have c17b1 : (a0 != 95) = false := bne_eq_false_iff_eq.mpr c17; clear c17; obtain rfl := Option.some.inj H; (go_enter Tryd.func67, Tryd.ntmps67); (go_wp2); (go_ret); (exact ⟨by first | rfl | (simp; done) | (simp [*]; done), by repeat (first | exact Drawn0.refl _ | apply Drawn0.step)⟩)
   ·rw [if_neg c17] at H; have c17b0 : (a0 == 95) = false := beq_eq_false_iff_ne.mpr c17; have c17b1 : (a0 != 95) = true := bne_iff_ne.mpr c17; by_cases c18 : a0 ≥ 192
    ·rw [if_pos c18] at H; have c18b0 : decide (192 ≤ a0) = true := decide_eq_true c18; clear c18; by_cases c19 : a0 = 215
     ·rw [if_pos c19] at H; have c19b0 : (a0 == 215) = true := beq_iff_eq.mpr c19; have c19b1 : (a0 != 215) = false := bne_eq_false_iff_eq.mpr c19; clear c19; obtain rfl := Option.some.inj H; (go_enter Tryd.func67, Tryd.ntmps67); (go_wp2); (go_ret); (exact ⟨by first | rfl | (simp; done) | (simp [*]; done), by repeat (first | exact Drawn0.refl _ | apply Drawn0.step)⟩)
     ·rw [if_neg c19] at H; have c19b0 : (a0 == 215) = false := beq_eq_false_iff_ne.mpr c19; have c19b1 : (a0 != 215) = true := bne_iff_ne.mpr c19; obtain rfl := Option.some.inj H; (go_enter Tryd.func67, Tryd.ntmps67); (go_wp2); (go_ret); (exact ⟨by first | rfl | (simp; done) | (simp [*]; done), by repeat (first | exact Drawn0.refl _ | apply Drawn0.step)⟩)
    ·rw [if_neg c18] at H; have c18b0 : decide (192 ≤ a0) = false := decide_eq_false c18; clear c18; obtain rfl := Option.some.inj H; (go_enter Tryd.func67, Tryd.ntmps67); (go_wp2); (go_ret); (exact ⟨by first | rfl | (simp; done) | (simp [*]; done), by repeat (first | exact Drawn0.refl _ | apply Drawn0.step)⟩)
def chiselref01_inName.f (a0 : Int) : Option (Bool) := (chiselref01_letter.f a0).bind fun t168 => (if t168 = true then (some true) else (if a0 ≥ 48 then (if a0 ≤ 57 then (some true) else (if a0 = 45 then (some true) else (if a0 = 46 then (some true) else (some (a0 == 183))))) else (if a0 = 45 then (some true) else (if a0 = 46 then (some true) else (some (a0 == 183))))))
set_option maxHeartbeats 8000000 in
set_option maxRecDepth 100000 in
theorem chiselref01_inName.calls (a0 : Int) (r : Bool) (w : World) (h : chiselref01_inName.f a0 = some r) :
  Calls Tryd.prog 68 #[.int .i64 a0] w fun e w' => e = .returned (.bool r) ∧ Drawn0 w w' := by
 (have H : ((chiselref01_letter.f a0).bind fun t168 => (if t168 = true then (some true) else (if a0 ≥ 48 then (if a0 ≤ 57 then (some true) else (if a0 = 45 then (some true) else (if a0 = 46 then (some true) else (some (a0 == 183))))) else (if a0 = 45 then (some true) else (if a0 = 46 then (some true) else (some (a0 == 183))))))) = some r := h); clear h; replace H := Option.bind_eq_some_iff.mp H; obtain ⟨t168, A20, H⟩ := H; replace H : (if t168 = true then (some true) else (if a0 ≥ 48 then (if a0 ≤ 57 then (some true) else (if a0 = 45 then (some true) else (if a0 = 46 then (some true) else (some (a0 == 183))))) else (if a0 = 45 then (some true) else (if a0 = 46 then (some true) else (some (a0 == 183)))))) = some r := H; have A2 := Aside0.mk A20; clear A20; by_cases c3 : t168 = true
 ·subst c3; (have H1 : (some true) = some r := by rw [if_pos rfl] at H; exact H); clear H; have H := H1; clear H1; obtain rfl := Option.some.inj H; (go_enter Tryd.func68, Tryd.ntmps68); (go_wp2_with (first | ((with_reducible refine gate_callee (f := 67) rfl ?_); refine goesL_ (some 4) rfl rfl Tryd.func67 (by kernel_rfl) rfl #[.int .i64 a0] rfl (by (try simp only [List.map_toArray, List.map_cons, List.map_nil]); first | done | rfl | (simp only [List.length_drop, List.length_take]; rfl)) ?_; (with_reducible refine (chiselref01_letter.calls a0 true _ A2.out).mono ?_); rintro e w' ⟨rfl, ⟨nd, rfl⟩⟩; refine ⟨_, rfl, ?_⟩))); (go_ret); (exact ⟨by first | rfl | (simp; done) | (simp [*]; done), by repeat (first | exact Drawn0.refl _ | apply Drawn0.step)⟩)
 ·replace c3 := Bool.eq_false_iff.mpr c3; subst c3; (have H1 : (if a0 ≥ 48 then (if a0 ≤ 57 then (some true) else (if a0 = 45 then (some true) else (if a0 = 46 then (some true) else (some (a0 == 183))))) else (if a0 = 45 then (some true) else (if a0 = 46 then (some true) else (some (a0 == 183))))) = some r := by rw [if_neg (show ¬ (false = true) by decide)] at H; exact H); clear H; have H := H1; clear H1; by_cases c4 : a0 ≥ 48
  ·rw [if_pos c4] at H; have c4b0 : decide (48 ≤ a0) = true := decide_eq_true c4; clear c4; by_cases c5 : a0 ≤ 57
   ·rw [if_pos c5] at H; have c5b0 : decide (a0 ≤ 57) = true := decide_eq_true c5; clear c5; obtain rfl := Option.some.inj H; (go_enter Tryd.func68, Tryd.ntmps68); (go_wp2_with (first | ((with_reducible refine gate_callee (f := 67) rfl ?_); refine goesL_ (some 4) rfl rfl Tryd.func67 (by kernel_rfl) rfl #[.int .i64 a0] rfl (by (try simp only [List.map_toArray, List.map_cons, List.map_nil]); first | done | rfl | (simp only [List.length_drop, List.length_take]; rfl)) ?_; (with_reducible refine (chiselref01_letter.calls a0 false _ A2.out).mono ?_); rintro e w' ⟨rfl, ⟨nd, rfl⟩⟩; refine ⟨_, rfl, ?_⟩))); (go_ret); (exact ⟨by first | rfl | (simp; done) | (simp [*]; done), by repeat (first | exact Drawn0.refl _ | apply Drawn0.step)⟩)
   ·rw [if_neg c5] at H; have c5b0 : decide (a0 ≤ 57) = false := decide_eq_false c5; clear c5; by_cases c6 : a0 = 45
    ·rw [if_pos c6] at H; have c6b0 : (a0 == 45) = true := beq_iff_eq.mpr c6; have c6b1 : (a0 != 45) = false := bne_eq_false_iff_eq.mpr c6; clear c6; obtain rfl := Option.some.inj H; (go_enter Tryd.func68, Tryd.ntmps68); (go_wp2_with (first | ((with_reducible refine gate_callee (f := 67) rfl ?_); refine goesL_ (some 4) rfl rfl Tryd.func67 (by kernel_rfl) rfl #[.int .i64 a0] rfl (by (try simp only [List.map_toArray, List.map_cons, List.map_nil]); first | done | rfl | (simp only [List.length_drop, List.length_take]; rfl)) ?_; (with_reducible refine (chiselref01_letter.calls a0 false _ A2.out).mono ?_); rintro e w' ⟨rfl, ⟨nd, rfl⟩⟩; refine ⟨_, rfl, ?_⟩))); (go_ret); (exact ⟨by first | rfl | (simp; done) | (simp [*]; done), by repeat (first | exact Drawn0.refl _ | apply Drawn0.step)⟩)
    ·rw [if_neg c6] at H; have c6b0 : (a0 == 45) = false := beq_eq_false_iff_ne.mpr c6; have c6b1 : (a0 != 45) = true := bne_iff_ne.mpr c6; by_cases c7 : a0 = 46
     ·rw [if_pos c7] at H; have c7b0 : (a0 == 46) = true := beq_iff_eq.mpr c7; have c7b1 : (a0 != 46) = false := bne_eq_false_iff_eq.mpr c7; clear c7; obtain rfl := Option.some.inj H; (go_enter Tryd.func68, Tryd.ntmps68); (go_wp2_with (first | ((with_reducible refine gate_callee (f := 67) rfl ?_); refine goesL_ (some 4) rfl rfl Tryd.func67 (by kernel_rfl) rfl #[.int .i64 a0] rfl (by (try simp only [List.map_toArray, List.map_cons, List.map_nil]); first | done | rfl | (simp only [List.length_drop, List.length_take]; rfl)) ?_; (with_reducible refine (chiselref01_letter.calls a0 false _ A2.out).mono ?_); rintro e w' ⟨rfl, ⟨nd, rfl⟩⟩; refine ⟨_, rfl, ?_⟩))); (go_ret); (exact ⟨by first | rfl | (simp; done) | (simp [*]; done), by repeat (first | exact Drawn0.refl _ | apply Drawn0.step)⟩)
     ·rw [if_neg c7] at H; have c7b0 : (a0 == 46) = false := beq_eq_false_iff_ne.mpr c7; have c7b1 : (a0 != 46) = true := bne_iff_ne.mpr c7; obtain rfl := Option.some.inj H; (go_enter Tryd.func68, Tryd.ntmps68); (go_wp2_with (first | ((with_reducible refine gate_callee (f := 67) rfl ?_); refine goesL_ (some 4) rfl rfl Tryd.func67 (by kernel_rfl) rfl #[.int .i64 a0] rfl (by (try simp only [List.map_toArray, List.map_cons, List.map_nil]); first | done | rfl | (simp only [List.length_drop, List.length_take]; rfl)) ?_; (with_reducible refine (chiselref01_letter.calls a0 false _ A2.out).mono ?_); rintro e w' ⟨rfl, ⟨nd, rfl⟩⟩; refine ⟨_, rfl, ?_⟩))); (go_ret); (exact ⟨by first | rfl | (simp; done) | (simp [*]; done), by repeat (first | exact Drawn0.refl _ | apply Drawn0.step)⟩)
  ·rw [if_neg c4] at H; have c4b0 : decide (48 ≤ a0) = false := decide_eq_false c4; clear c4; by_cases c8 : a0 = 45
   ·rw [if_pos c8] at H; have c8b0 : (a0 == 45) = true := beq_iff_eq.mpr c8; have c8b1 : (a0 != 45) = false := bne_eq_false_iff_eq.mpr c8; clear c8; obtain rfl := Option.some.inj H; (go_enter Tryd.func68, Tryd.ntmps68); (go_wp2_with (first | ((with_reducible refine gate_callee (f := 67) rfl ?_); refine goesL_ (some 4) rfl rfl Tryd.func67 (by kernel_rfl) rfl #[.int .i64 a0] rfl (by (try simp only [List.map_toArray, List.map_cons, List.map_nil]); first | done | rfl | (simp only [List.length_drop, List.length_take]; rfl)) ?_; (with_reducible refine (chiselref01_letter.calls a0 false _ A2.out).mono ?_); rintro e w' ⟨rfl, ⟨nd, rfl⟩⟩; refine ⟨_, rfl, ?_⟩))); (go_ret); (exact ⟨by first | rfl | (simp; done) | (simp [*]; done), by repeat (first | exact Drawn0.refl _ | apply Drawn0.step)⟩)
   ·rw [if_neg c8] at H; have c8b0 : (a0 == 45) = false := beq_eq_false_iff_ne.mpr c8; have c8b1 : (a0 != 45) = true := bne_iff_ne.mpr c8; by_cases c9 : a0 = 46
    ·rw [if_pos c9] at H; have c9b0 : (a0 == 46) = true := beq_iff_eq.mpr c9; have c9b1 : (a0 != 46) = false := bne_eq_false_iff_eq.mpr c9; clear c9; obtain rfl := Option.some.inj H; (go_enter Tryd.func68, Tryd.ntmps68); (go_wp2_with (first | ((with_reducible refine gate_callee (f := 67) rfl ?_); refine goesL_ (some 4) rfl rfl Tryd.func67 (by kernel_rfl) rfl #[.int .i64 a0] rfl (by (try simp only [List.map_toArray, List.map_cons, List.map_nil]); first | done | rfl | (simp only [List.length_drop, List.length_take]; rfl)) ?_; (with_reducible refine (chiselref01_letter.calls a0 false _ A2.out).mono ?_); rintro e w' ⟨rfl, ⟨nd, rfl⟩⟩; refine ⟨_, rfl, ?_⟩))); (go_ret); (exact ⟨by first | rfl | (simp; done) | (simp [*]; done), by repeat (first | exact Drawn0.refl _ | apply Drawn0.step)⟩)
    ·rw [if_neg c9] at H; have c9b0 : (a0 == 46) = false := beq_eq_false_iff_ne.mpr c9; have c9b1 : (a0 != 46) = true := bne_iff_ne.mpr c9; obtain rfl := Option.some.inj H; (go_enter Tryd.func68, Tryd.ntmps68); (go_wp2_with (first | ((with_reducible refine gate_callee (f := 67) rfl ?_); refine goesL_ (some 4) rfl rfl Tryd.func67 (by kernel_rfl) rfl #[.int .i64 a0] rfl (by (try simp only [List.map_toArray, List.map_cons, List.map_nil]); first | done | rfl | (simp only [List.length_drop, List.length_take]; rfl)) ?_; (with_reducible refine (chiselref01_letter.calls a0 false _ A2.out).mono ?_); rintro e w' ⟨rfl, ⟨nd, rfl⟩⟩; refine ⟨_, rfl, ?_⟩))); (go_ret); (exact ⟨by first | rfl | (simp; done) | (simp [*]; done), by repeat (first | exact Drawn0.refl _ | apply Drawn0.step)⟩)
end Go.Proofs.YtmpenkinheneoaaDoor.Q
