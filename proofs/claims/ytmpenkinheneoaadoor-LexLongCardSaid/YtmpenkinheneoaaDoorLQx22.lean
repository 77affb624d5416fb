/- Texts of the claim: Qx22. -/
import Derived.Test.YtmpenkinheneoaaDoorLQx0
import Derived.Test.YtmpenkinheneoaaDoorLQx21
namespace Go.Proofs.YtmpenkinheneoaaDoor.Q
open Go.RowKit Go.Proofs.YtmpenkinheneoaaDoorW.PrintWords Go.Proofs.YtmpenkinheneoaaDoorW.PrintLast Go.Proofs.YtmpenkinheneoaaDoorW.PrintMore
attribute [local go_sem] max2_int min2_int max_two min_two max_three min_three max_four min_four   -- for this text's walks alone
set_option linter.unusedVariables false
set_option linter.unusedSimpArgs false
mutual
def chiselref14_comment.l0 : Nat → ByteArray → Int → Option (Int)
 | 0, _, _ => none
 | k + 1, x0, x1 => if x1 < (x0.size : Int) then ((chiselref14_begins.f x0 x1 (⟨#[58, 41]⟩ : ByteArray)).bind fun t154 => (if t154 = true then (some (wrap64 (x1 + 2))) else ((chiselref14_begins.f x0 x1 (⟨#[40, 58]⟩ : ByteArray)).bind fun t155 => (if t155 = true then ((chiselref14_comment.f k x0 x1).bind fun t156 => (if t156 < 0 then (some (-1)) else (chiselref14_comment.l0 k x0 t156))) else (chiselref14_comment.l0 k x0 (wrap64 (x1 + 1))))))) else (some (-1))
def chiselref14_comment.f : Nat → ByteArray → Int → Option (Int)
 | 0, _, _ => none
 | k + 1, a0, a1 => chiselref14_comment.l0 k a0 (wrap64 (a1 + 2))
end
theorem chiselref14_comment.mono_l : ∀ k, (∀ y0 y1, LeO (chiselref14_comment.f k y0 y1) (chiselref14_comment.f (k + 1) y0 y1)) ∧ (∀ y0 y1, LeO (chiselref14_comment.l0 k y0 y1) (chiselref14_comment.l0 (k + 1) y0 y1))
 | 0 => ⟨fun _ _ r h => by simp [chiselref14_comment.f] at h, fun _ _ r h => by simp [chiselref14_comment.l0] at h⟩
 | k + 1 => by
  obtain ⟨ih0, ih1⟩ := chiselref14_comment.mono_l k
  refine ⟨?_, ?_⟩
  ·intro y0 y1
   unfold chiselref14_comment.f
   repeat' first
   | (with_reducible exact ih0 _ _)
   | (with_reducible exact ih1 _ _)
   | (with_reducible exact LeO.refl _)
   | (with_reducible exact LeO.none _)
   | (with_reducible refine LeO.ite ?_ ?_)
   | (with_reducible refine LeO.bind ?_ (fun _ => ?_))
   | exact ih0 _ _
   | exact ih1 _ _
   | exact LeO.none _
   | refine LeO.ite ?_ ?_
   | refine LeO.bind ?_ (fun _ => ?_)
  ·intro y0 y1
   unfold chiselref14_comment.l0
   repeat' first
   | (with_reducible exact ih0 _ _)
   | (with_reducible exact ih1 _ _)
   | (with_reducible exact LeO.refl _)
   | (with_reducible exact LeO.none _)
   | (with_reducible refine LeO.ite ?_ ?_)
   | (with_reducible refine LeO.bind ?_ (fun _ => ?_))
   | exact ih0 _ _
   | exact ih1 _ _
   | exact LeO.none _
   | refine LeO.ite ?_ ?_
   | refine LeO.bind ?_ (fun _ => ?_)
theorem chiselref14_comment.mono : ∀ a0 a1 k, LeO (chiselref14_comment.f k a0 a1) (chiselref14_comment.f (k + 1) a0 a1) := by
 intro a0 a1 k; obtain ⟨ih0, ih1⟩ := chiselref14_comment.mono_l k; exact ih0 a0 a1
set_option maxHeartbeats 8000000 in
set_option maxRecDepth 100000 in
theorem chiselref14_comment.calls (k : Nat) : ∀ (a0 : ByteArray) (a1 : Int) (r : Int) (w : World) (h : chiselref14_comment.f k a0 a1 = some r),
  Calls Tryd.prog 28 #[.string a0, .int .i64 a1] w fun e w' => e = .returned (.int .i64 r) ∧ Drawn0 w w' := by
 induction k using Nat.strongRecOn with
 | _ k ih =>
 intro a0 a1 r w h
 cases k with
 | zero => exact absurd h (by simp [chiselref14_comment.f])
 | succ k =>
 simp only [chiselref14_comment.f] at h; have H : (chiselref14_comment.l0 k a0 (wrap64 (a1 + 2))) = some r := h; clear h; have H' := Aside0.mk H; clear H; (go_enter Tryd.func28, Tryd.ntmps28); (go_wp2); (go_loopg [1] k (fun kq v1 w' => ∃ (x1_1 : Int), v1 = .int .i64 x1_1 ∧ Aside0 (chiselref14_comment.l0 kq a0 x1_1 = some r) ∧ Aside0 (kq ≤ k) ∧ Drawn0 w w'))
 case atStart => exact ⟨(wrap64 (a1 + 2)), (by first | rfl | (simp; done) | (simp [*]; done)), H', ⟨Nat.le_refl _⟩, by repeat (first | exact Drawn0.refl _ | apply Drawn0.step)⟩
 case round =>
  clear H'; ((try clear c2); (try clear p2)); obtain ⟨x1_1, rfl, HA, HK1, ⟨m1, rfl⟩⟩ := hrel
  cases gk with
  | zero => exact absurd HA.out (by simp [chiselref14_comment.l0])
  | succ k1 =>
   have H := HA.out; clear HA; simp only [chiselref14_comment.l0] at H; by_cases c3 : x1_1 < (a0.size : Int)
   ·rw [if_pos c3] at H; have c3b0 : decide (x1_1 < (a0.size : Int)) = true := decide_eq_true c3; clear c3; replace H := Option.bind_eq_some_iff.mp H; obtain ⟨t154, A40, H⟩ := H; (replace H : (if t154 = true then (some (wrap64 (x1_1 + 2))) else ((chiselref14_begins.f a0 x1_1 (⟨#[40, 58]⟩ : ByteArray)).bind fun t155 => (if t155 = true then ((chiselref14_comment.f k1 a0 x1_1).bind fun t156 => (if t156 < 0 then (some (-1)) else (chiselref14_comment.l0 k1 a0 t156))) else (chiselref14_comment.l0 k1 a0 (wrap64 (x1_1 + 1)))))) = some r := H); have A4 := Aside0.mk A40; clear A40; by_cases c5 : t154 = true
    ·subst c5; (have H1 : (some (wrap64 (x1_1 + 2))) = some r := by rw [if_pos rfl] at H; exact H); clear H; have H := H1; clear H1; obtain rfl := Option.some.inj H; (go_wp2_with (first | ((with_reducible refine gate_callee (f := 27) rfl ?_); refine goesL_ (some 13) rfl rfl Tryd.func27 (by kernel_rfl) rfl #[.string a0, .int .i64 x1_1, .string (⟨#[58, 41]⟩ : ByteArray)] rfl (by (try simp only [List.map_toArray, List.map_cons, List.map_nil]); first | done | rfl | (simp only [List.length_drop, List.length_take]; rfl)) ?_; (with_reducible refine (chiselref14_begins.calls a0 x1_1 (⟨#[58, 41]⟩ : ByteArray) true _ A4.out).mono ?_); rintro e w' ⟨rfl, ⟨nd, rfl⟩⟩; refine ⟨_, rfl, ?_⟩))); (go_ret); (exact ⟨by first | rfl | (simp; done) | (simp [*]; done), by repeat (first | exact Drawn0.refl _ | apply Drawn0.step)⟩)
    ·replace c5 := Bool.eq_false_iff.mpr c5; subst c5; (have H1 : ((chiselref14_begins.f a0 x1_1 (⟨#[40, 58]⟩ : ByteArray)).bind fun t155 => (if t155 = true then ((chiselref14_comment.f k1 a0 x1_1).bind fun t156 => (if t156 < 0 then (some (-1)) else (chiselref14_comment.l0 k1 a0 t156))) else (chiselref14_comment.l0 k1 a0 (wrap64 (x1_1 + 1))))) = some r := by rw [if_neg (show ¬ (false = true) by decide)] at H; exact H); clear H; have H := H1; clear H1; replace H := Option.bind_eq_some_iff.mp H; obtain ⟨t155, A60, H⟩ := H; (replace H : (if t155 = true then ((chiselref14_comment.f k1 a0 x1_1).bind fun t156 => (if t156 < 0 then (some (-1)) else (chiselref14_comment.l0 k1 a0 t156))) else (chiselref14_comment.l0 k1 a0 (wrap64 (x1_1 + 1)))) = some r := H); have A6 := Aside0.mk A60; clear A60; by_cases c7 : t155 = true
     ·subst c7; (have H1 : ((chiselref14_comment.f k1 a0 x1_1).bind fun t156 => (if t156 < 0 then (some (-1)) else (chiselref14_comment.l0 k1 a0 t156))) = some r := by rw [if_pos rfl] at H; exact H); clear H; have H := H1; clear H1; replace H := Option.bind_eq_some_iff.mp H; obtain ⟨t156, A80, H⟩ := H; replace H : (if t156 < 0 then (some (-1)) else (chiselref14_comment.l0 k1 a0 t156)) = some r := H; have A8 := Aside0.mk A80; clear A80; by_cases c9 : t156 < 0
      ·rw [if_pos c9] at H; have c9b0 : decide (t156 < 0) = true := decide_eq_true c9; clear c9; obtain rfl := Option.some.inj H; (go_wp2_with (first | ((with_reducible refine gate_callee (f := 27) rfl ?_); refine goesL_ (some 13) rfl rfl Tryd.func27 (by kernel_rfl) rfl #[.string a0, .int .i64 x1_1, .string (⟨#[58, 41]⟩ : ByteArray)] rfl (by (try simp only [List.map_toArray, List.map_cons, List.map_nil]); first | done | rfl | (simp only [List.length_drop, List.length_take]; rfl)) ?_; (with_reducible refine (chiselref14_begins.calls a0 x1_1 (⟨#[58, 41]⟩ : ByteArray) false _ A4.out).mono ?_); rintro e w' ⟨rfl, ⟨nd, rfl⟩⟩; refine ⟨_, rfl, ?_⟩) | ((with_reducible refine gate_callee (f := 27) rfl ?_); refine goesL_ (some 18) rfl rfl Tryd.func27 (by kernel_rfl) rfl #[.string a0, .int .i64 x1_1, .string (⟨#[40, 58]⟩ : ByteArray)] rfl (by (try simp only [List.map_toArray, List.map_cons, List.map_nil]); first | done | rfl | (simp only [List.length_drop, List.length_take]; rfl)) ?_; (with_reducible refine (chiselref14_begins.calls a0 x1_1 (⟨#[40, 58]⟩ : ByteArray) true _ A6.out).mono ?_); rintro e w' ⟨rfl, ⟨nd, rfl⟩⟩; refine ⟨_, rfl, ?_⟩) | ((with_reducible refine gate_callee (f := 28) rfl ?_); refine goesL_ (some 21) rfl rfl Tryd.func28 (by kernel_rfl) rfl #[.string a0, .int .i64 x1_1] rfl (by (try simp only [List.map_toArray, List.map_cons, List.map_nil]); first | done | rfl | (simp only [List.length_drop, List.length_take]; rfl)) ?_; (with_reducible refine (ih k1 (by have := HK1.out; omega) a0 x1_1 t156 _ A8.out).mono ?_); rintro e w' ⟨rfl, ⟨nd, rfl⟩⟩; refine ⟨_, rfl, ?_⟩))); (go_ret); (exact ⟨by first | rfl | (simp; done) | (simp [*]; done), by repeat (first | exact Drawn0.refl _ | apply Drawn0.step)⟩)
      ·rw [if_neg c9] at H; have c9b0 : decide (t156 < 0) = false := decide_eq_false c9; clear c9; have H' := Aside0.mk H; clear H; (go_wp2_with (first | ((with_reducible refine gate_callee (f := 27) rfl ?_); refine goesL_ (some 13) rfl rfl Tryd.func27 (by kernel_rfl) rfl #[.string a0, .int .i64 x1_1, .string (⟨#[58, 41]⟩ : ByteArray)] rfl (by (try simp only [List.map_toArray, List.map_cons, List.map_nil]); first | done | rfl | (simp only [List.length_drop, List.length_take]; rfl)) ?_; (with_reducible refine (chiselref14_begins.calls a0 x1_1 (⟨#[58, 41]⟩ : ByteArray) false _ A4.out).mono ?_); rintro e w' ⟨rfl, ⟨nd, rfl⟩⟩; refine ⟨_, rfl, ?_⟩) | ((with_reducible refine gate_callee (f := 27) rfl ?_); refine goesL_ (some 18) rfl rfl Tryd.func27 (by kernel_rfl) rfl #[.string a0, .int .i64 x1_1, .string (⟨#[40, 58]⟩ : ByteArray)] rfl (by (try simp only [List.map_toArray, List.map_cons, List.map_nil]); first | done | rfl | (simp only [List.length_drop, List.length_take]; rfl)) ?_; (with_reducible refine (chiselref14_begins.calls a0 x1_1 (⟨#[40, 58]⟩ : ByteArray) true _ A6.out).mono ?_); rintro e w' ⟨rfl, ⟨nd, rfl⟩⟩; refine ⟨_, rfl, ?_⟩) | ((with_reducible refine gate_callee (f := 28) rfl ?_); refine goesL_ (some 21) rfl rfl Tryd.func28 (by kernel_rfl) rfl #[.string a0, .int .i64 x1_1] rfl (by (try simp only [List.map_toArray, List.map_cons, List.map_nil]); first | done | rfl | (simp only [List.length_drop, List.length_take]; rfl)) ?_; (with_reducible refine (ih k1 (by have := HK1.out; omega) a0 x1_1 t156 _ A8.out).mono ?_); rintro e w' ⟨rfl, ⟨nd, rfl⟩⟩; refine ⟨_, rfl, ?_⟩))); (go_roundg k1)
       case measure => have := HK1.out; omega
       case rel => exact ⟨(t156), (by first | rfl | (simp; done) | (simp [*]; done)), H', ⟨by have := HK1.out; omega⟩, by repeat (first | exact Drawn0.refl _ | apply Drawn0.step)⟩
     ·replace c7 := Bool.eq_false_iff.mpr c7; subst c7; (have H1 : (chiselref14_comment.l0 k1 a0 (wrap64 (x1_1 + 1))) = some r := by rw [if_neg (show ¬ (false = true) by decide)] at H; exact H); clear H; have H := H1; clear H1; have H' := Aside0.mk H; clear H; (go_wp2_with (first | ((with_reducible refine gate_callee (f := 27) rfl ?_); refine goesL_ (some 13) rfl rfl Tryd.func27 (by kernel_rfl) rfl #[.string a0, .int .i64 x1_1, .string (⟨#[58, 41]⟩ : ByteArray)] rfl (by (try simp only [List.map_toArray, List.map_cons, List.map_nil]); first | done | rfl | (simp only [List.length_drop, List.length_take]; rfl)) ?_; (with_reducible refine (chiselref14_begins.calls a0 x1_1 (⟨#[58, 41]⟩ : ByteArray) false _ A4.out).mono ?_); rintro e w' ⟨rfl, ⟨nd, rfl⟩⟩; refine ⟨_, rfl, ?_⟩) | ((with_reducible refine gate_callee (f := 27) rfl ?_); refine goesL_ (some 18) rfl rfl Tryd.func27 (by kernel_rfl) rfl #[.string a0, .int .i64 x1_1, .string (⟨#[40, 58]⟩ : ByteArray)] rfl (by (try simp only [List.map_toArray, List.map_cons, List.map_nil]); first | done | rfl | (simp only [List.length_drop, List.length_take]; rfl)) ?_; (with_reducible refine (chiselref14_begins.calls a0 x1_1 (⟨#[40, 58]⟩ : ByteArray) false _ A6.out).mono ?_); rintro e w' ⟨rfl, ⟨nd, rfl⟩⟩; refine ⟨_, rfl, ?_⟩))); (go_roundg k1)
      case measure => have := HK1.out; omega
      case rel => exact ⟨(wrap64 (x1_1 + 1)), (by first | rfl | (simp; done) | (simp [*]; done)), H', ⟨by have := HK1.out; omega⟩, by repeat (first | exact Drawn0.refl _ | apply Drawn0.step)⟩
   ·rw [if_neg c3] at H; have c3b0 : decide (x1_1 < (a0.size : Int)) = false := decide_eq_false c3; clear c3; obtain rfl := Option.some.inj H; (go_wp2); (go_ret); (exact ⟨by first | rfl | (simp; done) | (simp [*]; done), by repeat (first | exact Drawn0.refl _ | apply Drawn0.step)⟩)
def chiselref14_quoted.l0 : Nat → ByteArray → Int → Int → ByteArray → Int → Option (ByteArray × Int)
 | 0, _, _, _, _, _ => none
 | k + 1, x0, x6, x7, x8, x9 => if x9 < (x0.size : Int) then (if 0 ≤ x9 then (if (bt x0 x9) = x6 then (if 0 ≤ x7 then (if x7 ≤ x9 then (if x9 ≤ (x0.size : Int) then (if x8.size + (x0.extract (x7 : Int).toNat (x9 : Int).toNat).size ≤ 9223372036854775807 then (if (wrap64 (x9 + 1)) = (x0.size : Int) then (some (x8 ++ (x0.extract (x7 : Int).toNat (x9 : Int).toNat), wrap64 (x9 + 1))) else (if 0 ≤ (wrap64 (x9 + 1)) then (if (wrap64 (x9 + 1)) < (x0.size : Int) then (if (bt x0 (wrap64 (x9 + 1))) = x6 then (if x9 ≤ (wrap64 (x9 + 1)) then (if (wrap64 (x9 + 1)) ≤ (x0.size : Int) then (if (x8 ++ (x0.extract (x7 : Int).toNat (x9 : Int).toNat)).size + (x0.extract (x9 : Int).toNat ((wrap64 (x9 + 1)) : Int).toNat).size ≤ 9223372036854775807 then (chiselref14_quoted.l0 k x0 x6 (wrap64 ((wrap64 (x9 + 1)) + 1)) ((x8 ++ (x0.extract (x7 : Int).toNat (x9 : Int).toNat)) ++ (x0.extract (x9 : Int).toNat ((wrap64 (x9 + 1)) : Int).toNat)) (wrap64 ((wrap64 (x9 + 1)) + 1))) else (none)) else (none)) else (none)) else (some (x8 ++ (x0.extract (x7 : Int).toNat (x9 : Int).toNat), wrap64 (x9 + 1)))) else (none)) else (none))) else (none)) else (none)) else (none)) else (none)) else (chiselref14_quoted.l0 k x0 x6 x7 x8 (wrap64 (x9 + 1)))) else (none)) else (some ((⟨#[]⟩ : ByteArray), (-1)))
def chiselref14_quoted.f (k : Nat) (a0 : ByteArray) (a1 : Int) : Option (ByteArray × Int) := if 0 ≤ a1 then (if a1 < (a0.size : Int) then (chiselref14_quoted.l0 k a0 (bt a0 a1) (wrap64 (a1 + 1)) (⟨#[]⟩ : ByteArray) (wrap64 (a1 + 1))) else (none)) else (none)
theorem chiselref14_quoted.mono_l : ∀ k, (∀ y0 y1 y2 y3 y4, LeO (chiselref14_quoted.l0 k y0 y1 y2 y3 y4) (chiselref14_quoted.l0 (k + 1) y0 y1 y2 y3 y4))
 | 0 => fun _ _ _ _ _ r h => by simp [chiselref14_quoted.l0] at h
 | k + 1 => by
  have ih0 := chiselref14_quoted.mono_l k
  ·intro y0 y1 y2 y3 y4
   unfold chiselref14_quoted.l0
   repeat' first
   | (with_reducible exact ih0 _ _ _ _ _)
   | (with_reducible exact LeO.refl _)
   | (with_reducible exact LeO.none _)
   | (with_reducible refine LeO.ite ?_ ?_)
   | (with_reducible refine LeO.bind ?_ (fun _ => ?_))
   | exact ih0 _ _ _ _ _
   | exact LeO.none _
   | refine LeO.ite ?_ ?_
   | refine LeO.bind ?_ (fun _ => ?_)
theorem chiselref14_quoted.mono : ∀ a0 a1 k, LeO (chiselref14_quoted.f k a0 a1) (chiselref14_quoted.f (k + 1) a0 a1) := by
 intro a0 a1 k; have ih0 := chiselref14_quoted.mono_l k; unfold chiselref14_quoted.f
 repeat' first
   | (with_reducible exact ih0 _ _ _ _ _)
   | (with_reducible exact LeO.refl _)
   | (with_reducible exact LeO.none _)
   | (with_reducible refine LeO.ite ?_ ?_)
   | (with_reducible refine LeO.bind ?_ (fun _ => ?_))
   | exact ih0 _ _ _ _ _
   | exact LeO.none _
   | refine LeO.ite ?_ ?_
   | refine LeO.bind ?_ (fun _ => ?_)
set_option maxHeartbeats 8000000 in
set_option maxRecDepth 100000 in
theorem chiselref14_quoted.calls (k : Nat) (a0 : ByteArray) (a1 : Int) (r1 : ByteArray) (r2 : Int) (w : World) (h : chiselref14_quoted.f k a0 a1 = some (r1, r2)) :
  Calls Tryd.prog 45 #[.string a0, .int .i64 a1] w fun e w' => e = .returned (.tuple #[.string r1, .int .i64 r2]) ∧ Drawn0 w w' := by
 have H : (if 0 ≤ a1 then (if a1 < (a0.size : Int) then (chiselref14_quoted.l0 k a0 (bt a0 a1) (wrap64 (a1 + 1)) (⟨#[]⟩ : ByteArray) (wrap64 (a1 + 1))) else (none)) else (none)) = some (r1, r2) := h; clear h; by_cases c3 : 0 ≤ a1
 ·rw [if_pos c3] at H; have c3b0 : decide (0 ≤ a1) = true := decide_eq_true c3; clear c3; by_cases c4 : a1 < (a0.size : Int)
  ·rw [if_pos c4] at H; have c4b0 : decide (a1 < (a0.size : Int)) = true := decide_eq_true c4; clear c4; have H' := Aside0.mk H; clear H; (have p5 : 0 ≤ (a1 : Int) := of_decide_eq_true (by first | (with_reducible assumption) | assumption)); (have q5 : a1 < (a0.size : Int) := of_decide_eq_true (by first | (with_reducible assumption) | assumption)); have hx5 := bt_at a0 a1; replace p5 := eq_true p5; replace q5 := eq_true q5; (go_enter Tryd.func45, Tryd.ntmps45); (go_wp2); (go_loopg [7, 8, 9] k (fun kq v7 v8 v9 w' => ∃ (x7_1 : Int) (x8_1 : ByteArray) (x9_1 : Int), v7 = .int .i64 x7_1 ∧ v8 = .string x8_1 ∧ v9 = .int .i64 x9_1 ∧ Aside0 (chiselref14_quoted.l0 kq a0 (bt a0 a1) x7_1 x8_1 x9_1 = some (r1, r2)) ∧ Aside0 (kq ≤ k) ∧ Drawn0 w w'))
   case atStart => exact ⟨(wrap64 (a1 + 1)), ((⟨#[]⟩ : ByteArray)), (wrap64 (a1 + 1)), (by first | rfl | (simp; done) | (simp [*]; done)), (by first | rfl | (simp; done) | (simp [*]; done)), (by first | rfl | (simp; done) | (simp [*]; done)), H', ⟨Nat.le_refl _⟩, by repeat (first | exact Drawn0.refl _ | apply Drawn0.step)⟩
   case round =>
    clear H'; ((try clear p2); (try clear c3); (try clear c3b0); (try clear c4); (try clear c4b0); (try clear p5); (try clear q5); (try clear hx5); (try clear p5); (try clear q5)); obtain ⟨x7_1, x8_1, x9_1, rfl, rfl, rfl, HA, HK1, ⟨m1, rfl⟩⟩ := hrel
    cases gk with
    | zero => exact absurd HA.out (by simp [chiselref14_quoted.l0])
    | succ k1 =>
     have H := HA.out; clear HA; simp only [chiselref14_quoted.l0] at H; by_cases c6 : x9_1 < (a0.size : Int)
     ·rw [if_pos c6] at H; have c6b0 : decide (x9_1 < (a0.size : Int)) = true := decide_eq_true c6; clear c6; by_cases c7 : 0 ≤ x9_1
      ·rw [if_pos c7] at H; have c7b0 : decide (0 ≤ x9_1) = true := decide_eq_true c7; clear c7; by_cases c9 : (bt a0 x9_1) = (bt a0 a1)
       ·rw [if_pos c9] at H; have c9b0 : ((bt a0 x9_1) == (bt a0 a1)) = true := beq_iff_eq.mpr c9; have c9b1 : ((bt a0 x9_1) != (bt a0 a1)) = false := bne_eq_false_iff_eq.mpr c9; clear c9; by_cases c10 : 0 ≤ x7_1
        ·rw [if_pos c10] at H; have c10b0 := eq_true c10; have c10b1 : decide (0 ≤ x7_1) = true := decide_eq_true c10; clear c10; by_cases c11 : x7_1 ≤ x9_1
         ·rw [if_pos c11] at H; have c11b0 := eq_true c11; have c11b1 : decide (x7_1 ≤ x9_1) = true := decide_eq_true c11; clear c11; by_cases c12 : x9_1 ≤ (a0.size : Int)
          ·rw [if_pos c12] at H; have c12b0 := eq_true c12; have c12b1 : decide (x9_1 ≤ (a0.size : Int)) = true := decide_eq_true c12; clear c12; by_cases c13 : x8_1.size + (a0.extract (x7_1 : Int).toNat (x9_1 : Int).toNat).size ≤ 9223372036854775807
           ·rw [if_pos c13] at H; have c13b0 := eq_true c13; have c13b1 : decide (x8_1.size + (a0.extract (x7_1 : Int).toNat (x9_1 : Int).toNat).size ≤ 9223372036854775807) = true := decide_eq_true c13; (try have c13b2 : (9223372036854775807 < x8_1.size + (a0.extract (x7_1 : Int).toNat (x9_1 : Int).toNat).size) = False := eq_false (Nat.not_lt.2 c13)); by_cases c14 : (wrap64 (x9_1 + 1)) = (a0.size : Int)
            ·rw [if_pos c14] at H; have c14b0 : ((wrap64 (x9_1 + 1)) == (a0.size : Int)) = true := beq_iff_eq.mpr c14; have c14b1 : ((wrap64 (x9_1 + 1)) != (a0.size : Int)) = false := bne_eq_false_iff_eq.mpr c14; clear c14; simp only [Option.some.injEq, Prod.mk.injEq] at H; obtain ⟨rfl, rfl⟩ := H; (have p8 : 0 ≤ (x9_1 : Int) := of_decide_eq_true (by first | (with_reducible assumption) | assumption)); (have q8 : x9_1 < (a0.size : Int) := of_decide_eq_true (by first | (with_reducible assumption) | assumption)); have hx8 := bt_at a0 x9_1; replace p8 := eq_true p8; replace q8 := eq_true q8; (go_wp2); (go_ret2); (exact ⟨by first | rfl | (simp; done) | (simp [*]; done), by repeat (first | exact Drawn0.refl _ | apply Drawn0.step)⟩)
            ·rw [if_neg c14] at H; have c14b0 : ((wrap64 (x9_1 + 1)) == (a0.size : Int)) = false := beq_eq_false_iff_ne.mpr c14; have c14b1 : ((wrap64 (x9_1 + 1)) != (a0.size : Int)) = true := bne_iff_ne.mpr c14; obtain ⟨ji15, hji15⟩ : ∃ j_ : Int, (wrap64 (x9_1 + 1)) = j_ := ⟨_, rfl⟩; (replace H : (if 0 ≤ (ji15) then (if (ji15) < (a0.size : Int) then (if (bt a0 (ji15)) = (bt a0 a1) then (if x9_1 ≤ (ji15) then (if (ji15) ≤ (a0.size : Int) then (if (x8_1 ++ (a0.extract (x7_1 : Int).toNat (x9_1 : Int).toNat)).size + (a0.extract (x9_1 : Int).toNat ((ji15) : Int).toNat).size ≤ 9223372036854775807 then (chiselref14_quoted.l0 k1 a0 (bt a0 a1) (wrap64 ((ji15) + 1)) ((x8_1 ++ (a0.extract (x7_1 : Int).toNat (x9_1 : Int).toNat)) ++ (a0.extract (x9_1 : Int).toNat ((ji15) : Int).toNat)) (wrap64 ((ji15) + 1))) else (none)) else (none)) else (none)) else (some (x8_1 ++ (a0.extract (x7_1 : Int).toNat (x9_1 : Int).toNat), ji15))) else (none)) else (none)) = some (r1, r2) := by first | (rw [hji15] at H; exact H) | (simp only [hji15] at H ⊢; exact H)); (try rw [hji15] at c14b0); (try rw [hji15] at c14b1); have hji15w : (IntKind.i64.wrap (x9_1 + 1)) = ji15 := (i64_w _).trans hji15; by_cases c16 : 0 ≤ (ji15)
             ·rw [if_pos c16] at H; have c16b0 : decide (0 ≤ (ji15)) = true := decide_eq_true c16; clear c16; by_cases c17 : (ji15) < (a0.size : Int)
              ·rw [if_pos c17] at H; have c17b0 : decide ((ji15) < (a0.size : Int)) = true := decide_eq_true c17; clear c17; by_cases c19 : (bt a0 (ji15)) = (bt a0 a1)
               ·rw [if_pos c19] at H; have c19b0 : ((bt a0 (ji15)) == (bt a0 a1)) = true := beq_iff_eq.mpr c19; have c19b1 : ((bt a0 (ji15)) != (bt a0 a1)) = false := bne_eq_false_iff_eq.mpr c19; clear c19; (have c20b0 := eq_true (of_decide_eq_true (by first | (with_reducible assumption) | assumption) : 0 ≤ x9_1)); by_cases c21 : x9_1 ≤ (ji15)
                ·rw [if_pos c21] at H; have c21b0 := eq_true c21; have c21b1 : decide (x9_1 ≤ (ji15)) = true := decide_eq_true c21; clear c21; by_cases c22 : (ji15) ≤ (a0.size : Int)
                 ·rw [if_pos c22] at H; have c22b0 := eq_true c22; have c22b1 : decide ((ji15) ≤ (a0.size : Int)) = true := decide_eq_true c22; clear c22; by_cases c23 : (x8_1 ++ (a0.extract (x7_1 : Int).toNat (x9_1 : Int).toNat)).size + (a0.extract (x9_1 : Int).toNat ((ji15) : Int).toNat).size ≤ 9223372036854775807
                  ·rw [if_pos c23] at H; have c23b0 := eq_true c23; have c23b1 : decide ((x8_1 ++ (a0.extract (x7_1 : Int).toNat (x9_1 : Int).toNat)).size + (a0.extract (x9_1 : Int).toNat ((ji15) : Int).toNat).size ≤ 9223372036854775807) = true := decide_eq_true c23; (try have c23b2 : (9223372036854775807 < (x8_1 ++ (a0.extract (x7_1 : Int).toNat (x9_1 : Int).toNat)).size + (a0.extract (x9_1 : Int).toNat ((ji15) : Int).toNat).size) = False := eq_false (Nat.not_lt.2 c23)); (try (have c23bS := c23b0; simp only [ByteArray.size_append] at c23bS)); (try (have c23bT := c23b2; simp only [ByteArray.size_append] at c23bT)); have H' := Aside0.mk H; clear H; (have p8 : 0 ≤ (x9_1 : Int) := of_decide_eq_true (by first | (with_reducible assumption) | assumption)); (have q8 : x9_1 < (a0.size : Int) := of_decide_eq_true (by first | (with_reducible assumption) | assumption)); have hx8 := bt_at a0 x9_1; replace p8 := eq_true p8; replace q8 := eq_true q8; (have p18 : 0 ≤ ((ji15) : Int) := of_decide_eq_true (by first | (with_reducible assumption) | assumption)); (have q18 : (ji15) < (a0.size : Int) := of_decide_eq_true (by first | (with_reducible assumption) | assumption)); have hx18 := bt_at a0 (ji15); replace p18 := eq_true p18; replace q18 := eq_true q18; (go_wp2); (go_roundg k1)
                   case measure => have := HK1.out; omega
                   case rel => exact ⟨(wrap64 ((ji15) + 1)), ((x8_1 ++ (a0.extract (x7_1 : Int).toNat (x9_1 : Int).toNat)) ++ (a0.extract (x9_1 : Int).toNat ((ji15) : Int).toNat)), (wrap64 ((ji15) + 1)), (by first | rfl | (simp; done) | (simp only [← hji15] <;> (first | rfl | simp)) | (simp [*]; done)), (by first | rfl | (simp; done) | (simp only [← hji15] <;> (first | rfl | simp)) | (simp [*]; done)), (by first | rfl | (simp; done) | (simp only [← hji15] <;> (first | rfl | simp)) | (simp [*]; done)), H', ⟨by have := HK1.out; omega⟩, by repeat (first | exact Drawn0.refl _ | apply Drawn0.step)⟩
                  ·rw [if_neg c23] at H; (exact absurd H (by simp))
                 ·rw [if_neg c22] at H; (exact absurd H (by simp))
                ·rw [if_neg c21] at H; (exact absurd H (by simp))
               ·rw [if_neg c19] at H; have c19b0 : ((bt a0 (ji15)) == (bt a0 a1)) = false := beq_eq_false_iff_ne.mpr c19; have c19b1 : ((bt a0 (ji15)) != (bt a0 a1)) = true := bne_iff_ne.mpr c19; simp only [Option.some.injEq, Prod.mk.injEq] at H; obtain ⟨rfl, rfl⟩ := H; (have p8 : 0 ≤ (x9_1 : Int) := of_decide_eq_true (by first | (with_reducible assumption) | assumption)); (have q8 : x9_1 < (a0.size : Int) := of_decide_eq_true (by first | (with_reducible assumption) | assumption)); have hx8 := bt_at a0 x9_1; replace p8 := eq_true p8; replace q8 := eq_true q8; (have p18 : 0 ≤ ((ji15) : Int) := of_decide_eq_true (by first | (with_reducible assumption) | assumption)); (have q18 : (ji15) < (a0.size : Int) := of_decide_eq_true (by first | (with_reducible assumption) | assumption)); have hx18 := bt_at a0 (ji15); replace p18 := eq_true p18; replace q18 := eq_true q18; (go_wp2); (go_ret2); (exact ⟨by first | rfl | (simp; done) | (simp only [← hji15] <;> (first | rfl | simp)) | (simp [*]; done), by repeat (first | exact Drawn0.refl _ | apply Drawn0.step)⟩)
              ·rw [if_neg c17] at H; (exact absurd H (by simp))
             ·rw [if_neg c16] at H; (exact absurd H (by simp))
           ·rw [if_neg c13] at H; (exact absurd H (by simp))
          ·rw [if_neg c12] at H; (exact absurd H (by simp))
         ·rw [if_neg c11] at H; (exact absurd H (by simp))
        ·rw [if_neg c10] at H; (exact absurd H (by simp))
       ·rw [if_neg c9] at H; have c9b0 : ((bt a0 x9_1) == (bt a0 a1)) = false := beq_eq_false_iff_ne.mpr c9; have c9b1 : ((bt a0 x9_1) != (bt a0 a1)) = true := bne_iff_ne.mpr c9; have H' := Aside0.mk H; clear H; (have p8 : 0 ≤ (x9_1 : Int) := of_decide_eq_true (by first | (with_reducible assumption) | assumption)); (have q8 : x9_1 < (a0.size : Int) := of_decide_eq_true (by first | (with_reducible assumption) | assumption)); have hx8 := bt_at a0 x9_1; replace p8 := eq_true p8; replace q8 := eq_true q8; (go_wp2); (go_roundg k1)
        case measure => have := HK1.out; omega
        case rel => exact ⟨(x7_1), (x8_1), (wrap64 (x9_1 + 1)), (by first | rfl | (simp; done) | (simp [*]; done)), (by first | rfl | (simp; done) | (simp [*]; done)), (by first | rfl | (simp; done) | (simp [*]; done)), H', ⟨by have := HK1.out; omega⟩, by repeat (first | exact Drawn0.refl _ | apply Drawn0.step)⟩
      ·rw [if_neg c7] at H; (exact absurd H (by simp))
     ·rw [if_neg c6] at H; have c6b0 : decide (x9_1 < (a0.size : Int)) = false := decide_eq_false c6; clear c6; simp only [Option.some.injEq, Prod.mk.injEq] at H; obtain ⟨rfl, rfl⟩ := H; (go_wp2); (go_ret2); (exact ⟨by first | rfl | (simp; done) | (simp [*]; done), by repeat (first | exact Drawn0.refl _ | apply Drawn0.step)⟩)
  ·rw [if_neg c4] at H; (exact absurd H (by simp))
 ·rw [if_neg c3] at H; (exact absurd H (by simp))
def chiselref14_digit.f (a0 : ByteArray) (a1 : Int) : Option (Bool) := if a1 < (a0.size : Int) then (if 0 ≤ a1 then (if (bt a0 a1) ≥ 48 then (some (decide ((bt a0 a1) ≤ 57))) else (some false)) else (none)) else (some false)
set_option maxHeartbeats 8000000 in
set_option maxRecDepth 100000 in
theorem chiselref14_digit.calls (a0 : ByteArray) (a1 : Int) (r : Bool) (w : World) (h : chiselref14_digit.f a0 a1 = some r) :
  Calls Tryd.prog 65 #[.string a0, .int .i64 a1] w fun e w' => e = .returned (.bool r) ∧ Drawn0 w w' := by
 have H : (if a1 < (a0.size : Int) then (if 0 ≤ a1 then (if (bt a0 a1) ≥ 48 then (some (decide ((bt a0 a1) ≤ 57))) else (some false)) else (none)) else (some false)) = some r := h; clear h; by_cases c3 : a1 < (a0.size : Int)
 ·rw [if_pos c3] at H; have c3b0 : decide (a1 < (a0.size : Int)) = true := decide_eq_true c3; clear c3; by_cases c4 : 0 ≤ a1
  ·rw [if_pos c4] at H; have c4b0 : decide (0 ≤ a1) = true := decide_eq_true c4; clear c4; by_cases c6 : (bt a0 a1) ≥ 48
   ·rw [if_pos c6] at H; have c6b0 : decide (48 ≤ (bt a0 a1)) = true := decide_eq_true c6; clear c6; obtain rfl := Option.some.inj H; (have p5 : 0 ≤ (a1 : Int) := of_decide_eq_true (by first | (with_reducible assumption) | assumption)); (have q5 : a1 < (a0.size : Int) := of_decide_eq_true (by first | (with_reducible assumption) | assumption)); have hx5 := bt_at a0 a1; replace p5 := eq_true p5; replace q5 := eq_true q5; (have p7 : 0 ≤ (a1 : Int) := of_decide_eq_true (by first | (with_reducible assumption) | assumption)); (have q7 : a1 < (a0.size : Int) := of_decide_eq_true (by first | (with_reducible assumption) | assumption)); have hx7 := bt_at a0 a1; replace p7 := eq_true p7; replace q7 := eq_true q7; (go_enter Tryd.func65, Tryd.ntmps65); (go_wp2); (go_ret); (exact ⟨by first | rfl | (simp; done) | (simp [*]; done), by repeat (first | exact Drawn0.refl _ | apply Drawn0.step)⟩)
   ·rw [if_neg c6] at H; have c6b0 : decide (48 ≤ (bt a0 a1)) = false := decide_eq_false c6; clear c6; obtain rfl := Option.some.inj H; (have p5 : 0 ≤ (a1 : Int) := of_decide_eq_true (by first | (with_reducible assumption) | assumption)); (have q5 : a1 < (a0.size : Int) := of_decide_eq_true (by first | (with_reducible assumption) | assumption)); have hx5 := bt_at a0 a1; replace p5 := eq_true p5; replace q5 := eq_true q5; (go_enter Tryd.func65, Tryd.ntmps65); (go_wp2); (go_ret); (exact ⟨by first | rfl | (simp; done) | (simp [*]; done), by repeat (first | exact Drawn0.refl _ | apply Drawn0.step)⟩)
  ·rw [if_neg c4] at H; (exact absurd H (by simp))
 ·rw [if_neg c3] at H; have c3b0 : decide (a1 < (a0.size : Int)) = false := decide_eq_false c3; clear c3; obtain rfl := Option.some.inj H; (go_enter Tryd.func65, Tryd.ntmps65); (go_wp2); (go_ret); (exact ⟨by first | rfl | (simp; done) | (simp [*]; done), by repeat (first | exact Drawn0.refl _ | apply Drawn0.step)⟩)
def chiselref14_digits.l0 : Nat → ByteArray → Int → Option (Int)
 | 0, _, _ => none
 | k + 1, x0, x1 => (chiselref14_digit.f x0 x1).bind fun t157 => (if t157 = true then (chiselref14_digits.l0 k x0 (wrap64 (x1 + 1))) else (some x1))
def chiselref14_digits.f (k : Nat) (a0 : ByteArray) (a1 : Int) : Option (Int) := chiselref14_digits.l0 k a0 a1
theorem chiselref14_digits.mono_l : ∀ k, (∀ y0 y1, LeO (chiselref14_digits.l0 k y0 y1) (chiselref14_digits.l0 (k + 1) y0 y1))
 | 0 => fun _ _ r h => by simp [chiselref14_digits.l0] at h
 | k + 1 => by
  have ih0 := chiselref14_digits.mono_l k
  ·intro y0 y1
   unfold chiselref14_digits.l0
   repeat' first
   | (with_reducible exact ih0 _ _)
   | (with_reducible exact LeO.refl _)
   | (with_reducible exact LeO.none _)
   | (with_reducible refine LeO.ite ?_ ?_)
   | (with_reducible refine LeO.bind ?_ (fun _ => ?_))
   | exact ih0 _ _
   | exact LeO.none _
   | refine LeO.ite ?_ ?_
   | refine LeO.bind ?_ (fun _ => ?_)
theorem chiselref14_digits.mono : ∀ a0 a1 k, LeO (chiselref14_digits.f k a0 a1) (chiselref14_digits.f (k + 1) a0 a1) := by
 intro a0 a1 k; have ih0 := chiselref14_digits.mono_l k; unfold chiselref14_digits.f
 repeat' first
   | (with_reducible exact ih0 _ _)
   | (with_reducible exact LeO.refl _)
   | (with_reducible exact LeO.none _)
   | (with_reducible refine LeO.ite ?_ ?_)
   | (with_reducible refine LeO.bind ?_ (fun _ => ?_))
   | exact ih0 _ _
   | exact LeO.none _
   | refine LeO.ite ?_ ?_
   | refine LeO.bind ?_ (fun _ => ?_)
set_option maxHeartbeats 8000000 in
set_option maxRecDepth 100000 in
theorem chiselref14_digits.calls (k : Nat) (a0 : ByteArray) (a1 : Int) (r : Int) (w : World) (h : chiselref14_digits.f k a0 a1 = some r) :
  Calls Tryd.prog 64 #[.string a0, .int .i64 a1] w fun e w' => e = .returned (.int .i64 r) ∧ Drawn0 w w' := by
 have H : (chiselref14_digits.l0 k a0 a1) = some r := h; clear h; have H' := Aside0.mk H; clear H; (go_enter Tryd.func64, Tryd.ntmps64); (go_wp2); (go_loopg [1] k (fun kq v1 w' => ∃ (x1_1 : Int), v1 = .int .i64 x1_1 ∧ Aside0 (chiselref14_digits.l0 kq a0 x1_1 = some r) ∧ Aside0 (kq ≤ k) ∧ Drawn0 w w'))
 case atStart => exact ⟨(a1), (by first | rfl | (simp; done) | (simp [*]; done)), H', ⟨Nat.le_refl _⟩, by repeat (first | exact Drawn0.refl _ | apply Drawn0.step)⟩
 case round =>
  clear H'; (try clear p2); obtain ⟨x1_1, rfl, HA, HK1, ⟨m1, rfl⟩⟩ := hrel
  cases gk with
  | zero => exact absurd HA.out (by simp [chiselref14_digits.l0])
  | succ k1 =>
   have H := HA.out; clear HA; simp only [chiselref14_digits.l0] at H; replace H := Option.bind_eq_some_iff.mp H; obtain ⟨t157, A30, H⟩ := H; replace H : (if t157 = true then (chiselref14_digits.l0 k1 a0 (wrap64 (x1_1 + 1))) else (some x1_1)) = some r := H; have A3 := Aside0.mk A30; clear A30; by_cases c4 : t157 = true
   ·subst c4; (have H1 : (chiselref14_digits.l0 k1 a0 (wrap64 (x1_1 + 1))) = some r := by rw [if_pos rfl] at H; exact H); clear H; have H := H1; clear H1; have H' := Aside0.mk H; clear H; (go_wp2_with (first | ((with_reducible refine gate_callee (f := 65) rfl ?_); refine goesL_ (some 7) rfl rfl Tryd.func65 (by kernel_rfl) rfl #[.string a0, .int .i64 x1_1] rfl (by (try simp only [List.map_toArray, List.map_cons, List.map_nil]); first | done | rfl | (simp only [List.length_drop, List.length_take]; rfl)) ?_; (with_reducible refine (chiselref14_digit.calls a0 x1_1 true _ A3.out).mono ?_); rintro e w' ⟨rfl, ⟨nd, rfl⟩⟩; refine ⟨_, rfl, ?_⟩))); (go_roundg k1)
    case measure => have := HK1.out; omega
    case rel => exact ⟨(wrap64 (x1_1 + 1)), (by first | rfl | (simp; done) | (simp [*]; done)), H', ⟨by have := HK1.out; omega⟩, by repeat (first | exact Drawn0.refl _ | apply Drawn0.step)⟩
   ·replace c4 := Bool.eq_false_iff.mpr c4; subst c4; (have H1 : (some x1_1) = some r := by rw [if_neg (show ¬ (false = true) by decide)] at H; exact H); clear H; have H := H1; clear H1; obtain rfl := Option.some.inj H; (go_wp2_with (first | ((with_reducible refine gate_callee (f := 65) rfl ?_); refine goesL_ (some 7) rfl rfl Tryd.func65 (by kernel_rfl) rfl #[.string a0, .int .i64 x1_1] rfl (by (try simp only [List.map_toArray, List.map_cons, List.map_nil]); first | done | rfl | (simp only [List.length_drop, List.length_take]; rfl)) ?_; (with_reducible refine (chiselref14_digit.calls a0 x1_1 false _ A3.out).mono ?_); rintro e w' ⟨rfl, ⟨nd, rfl⟩⟩; refine ⟨_, rfl, ?_⟩))); (go_ret); (exact ⟨by first | rfl | (simp; done) | (simp [*]; done), by repeat (first | exact Drawn0.refl _ | apply Drawn0.step)⟩)
end Go.Proofs.YtmpenkinheneoaaDoor.Q
