/- Texts of the claim: Qx24. -/
import Derived.Test.YtmpenkinheneoaaDoorLQx0
import Derived.Test.YtmpenkinheneoaaDoorLQx21
import Derived.Test.YtmpenkinheneoaaDoorLQx23
namespace Go.Proofs.YtmpenkinheneoaaDoor.Q
open Go.RowKit Go.Proofs.YtmpenkinheneoaaDoorW.PrintWords Go.Proofs.YtmpenkinheneoaaDoorW.PrintLast Go.Proofs.YtmpenkinheneoaaDoorW.PrintMore
attribute [local go_sem] max2_int min2_int max_two min_two max_three min_three max_four min_four   -- for this text's walks alone
set_option linter.unusedVariables false
set_option linter.unusedSimpArgs false
mutual
def chiselref01_IsName.j0 : Nat → List Int → Bool → Option (Bool)
 | 0, _, _ => none
 | k + 1, x3, x24 => if x24 = true then (some false) else (chiselref01_IsName.l0 k x3 0 true 0)
def chiselref01_IsName.l0 : Nat → List Int → Int → Bool → Int → Option (Bool)
 | 0, _, _, _, _ => none
 | k + 1, x3, x5, x6, x7 => if x7 < (x3.length : Int) then (if 0 ≤ x7 then (if (rd x3 x7) = 58 then (chiselref01_IsName.j2 k x3 x5 x6 x7 (!x6)) else (chiselref01_IsName.j2 k x3 x5 x6 x7 false)) else (none)) else (if x6 = true then (some false) else (some (decide (x5 ≤ 1))))
def chiselref01_IsName.j2 : Nat → List Int → Int → Bool → Int → Bool → Option (Bool)
 | 0, _, _, _, _, _ => none
 | k + 1, x3, x5, x6, x7, x39 => if x39 = true then (chiselref01_IsName.l0 k x3 (wrap64 (x5 + 1)) true (wrap64 (x7 + 1))) else (if x6 = true then (if 0 ≤ x7 then (if x7 < (x3.length : Int) then ((chiselref01_letter.f (rd x3 x7)).bind fun t175 => (if t175 = true then (chiselref01_IsName.l0 k x3 x5 false (wrap64 (x7 + 1))) else (some false))) else (none)) else (none)) else (if 0 ≤ x7 then (if x7 < (x3.length : Int) then ((chiselref01_inName.f (rd x3 x7)).bind fun t177 => (if t177 = true then (chiselref01_IsName.l0 k x3 x5 false (wrap64 (x7 + 1))) else (some false))) else (none)) else (none)))
end
def chiselref01_IsName.f (k : Nat) (a0 : ByteArray) : Option (Bool) := (chiselref01_Points.f k a0).bind fun bt169 => (if bt169.2 = 0 then (if (bt169.1.length : Int) < 1 then (chiselref01_IsName.j0 k bt169.1 true) else (chiselref01_IsName.j0 k bt169.1 (decide ((bt169.1.length : Int) > 100)))) else (chiselref01_IsName.j0 k bt169.1 true))
theorem chiselref01_IsName.mono_l : ∀ k, (∀ y0 y1, LeO (chiselref01_IsName.j0 k y0 y1) (chiselref01_IsName.j0 (k + 1) y0 y1)) ∧ (∀ y0 y1 y2 y3, LeO (chiselref01_IsName.l0 k y0 y1 y2 y3) (chiselref01_IsName.l0 (k + 1) y0 y1 y2 y3)) ∧ (∀ y0 y1 y2 y3 y4, LeO (chiselref01_IsName.j2 k y0 y1 y2 y3 y4) (chiselref01_IsName.j2 (k + 1) y0 y1 y2 y3 y4))
 | 0 => ⟨fun _ _ r h => by simp [chiselref01_IsName.j0] at h, fun _ _ _ _ r h => by simp [chiselref01_IsName.l0] at h, fun _ _ _ _ _ r h => by simp [chiselref01_IsName.j2] at h⟩
 | k + 1 => by
  obtain ⟨ih0, ih1, ih2⟩ := chiselref01_IsName.mono_l k
  refine ⟨?_, ?_, ?_⟩
  ·intro y0 y1
   unfold chiselref01_IsName.j0
   repeat' first
   | (with_reducible exact ih0 _ _)
   | (with_reducible exact ih1 _ _ _ _)
   | (with_reducible exact ih2 _ _ _ _ _)
   | (with_reducible exact chiselref01_Points.mono _ _)
   | (with_reducible exact LeO.refl _)
   | (with_reducible exact LeO.none _)
   | (with_reducible refine LeO.ite ?_ ?_)
   | (with_reducible refine LeO.bind ?_ (fun _ => ?_))
   | exact ih0 _ _
   | exact ih1 _ _ _ _
   | exact ih2 _ _ _ _ _
   | exact chiselref01_Points.mono _ _
   | exact LeO.none _
   | refine LeO.ite ?_ ?_
   | refine LeO.bind ?_ (fun _ => ?_)
  ·intro y0 y1 y2 y3
   unfold chiselref01_IsName.l0
   repeat' first
   | (with_reducible exact ih0 _ _)
   | (with_reducible exact ih1 _ _ _ _)
   | (with_reducible exact ih2 _ _ _ _ _)
   | (with_reducible exact chiselref01_Points.mono _ _)
   | (with_reducible exact LeO.refl _)
   | (with_reducible exact LeO.none _)
   | (with_reducible refine LeO.ite ?_ ?_)
   | (with_reducible refine LeO.bind ?_ (fun _ => ?_))
   | exact ih0 _ _
   | exact ih1 _ _ _ _
   | exact ih2 _ _ _ _ _
   | exact chiselref01_Points.mono _ _
   | exact LeO.none _
   | refine LeO.ite ?_ ?_
   | refine LeO.bind ?_ (fun _ => ?_)
  ·intro y0 y1 y2 y3 y4
   unfold chiselref01_IsName.j2
   repeat' first
   | (with_reducible exact ih0 _ _)
   | (with_reducible exact ih1 _ _ _ _)
   | (with_reducible exact ih2 _ _ _ _ _)
   | (with_reducible exact chiselref01_Points.mono _ _)
   | (with_reducible exact LeO.refl _)
   | (with_reducible exact LeO.none _)
   | (with_reducible refine LeO.ite ?_ ?_)
   | (with_reducible refine LeO.bind ?_ (fun _ => ?_))
   | exact ih0 _ _
   | exact ih1 _ _ _ _
   | exact ih2 _ _ _ _ _
   | exact chiselref01_Points.mono _ _
   | exact LeO.none _
   | refine LeO.ite ?_ ?_
   | refine LeO.bind ?_ (fun _ => ?_)
theorem chiselref01_IsName.mono : ∀ a0 k, LeO (chiselref01_IsName.f k a0) (chiselref01_IsName.f (k + 1) a0) := by
 intro a0 k; obtain ⟨ih0, ih1, ih2⟩ := chiselref01_IsName.mono_l k; unfold chiselref01_IsName.f
 repeat' first
   | (with_reducible exact ih0 _ _)
   | (with_reducible exact ih1 _ _ _ _)
   | (with_reducible exact ih2 _ _ _ _ _)
   | (with_reducible exact chiselref01_Points.mono _ _)
   | (with_reducible exact LeO.refl _)
   | (with_reducible exact LeO.none _)
   | (with_reducible refine LeO.ite ?_ ?_)
   | (with_reducible refine LeO.bind ?_ (fun _ => ?_))
   | exact ih0 _ _
   | exact ih1 _ _ _ _
   | exact ih2 _ _ _ _ _
   | exact chiselref01_Points.mono _ _
   | exact LeO.none _
   | refine LeO.ite ?_ ?_
   | refine LeO.bind ?_ (fun _ => ?_)
set_option maxHeartbeats 8000000 in
set_option maxRecDepth 100000 in
theorem chiselref01_IsName.calls (k : Nat) (a0 : ByteArray) (r : Bool) (w : World) (h : chiselref01_IsName.f k a0 = some r) :
  Calls Tryd.prog 49 #[.string a0] w fun e w' => e = .returned (.bool r) ∧ Below w.heap.size w w' := by
 have HB := Aside0.mk (Below.refl w.heap.size w); (have H : ((chiselref01_Points.f k a0).bind fun bt169 => (if bt169.2 = 0 then (if (bt169.1.length : Int) < 1 then (chiselref01_IsName.j0 k bt169.1 true) else (chiselref01_IsName.j0 k bt169.1 (decide ((bt169.1.length : Int) > 100)))) else (chiselref01_IsName.j0 k bt169.1 true))) = some r := h); clear h; replace H := Option.bind_eq_some_iff.mp H; obtain ⟨⟨t169, t170⟩, A20, H⟩ := H; replace H : (if t170 = 0 then (if (t169.length : Int) < 1 then (chiselref01_IsName.j0 k t169 true) else (chiselref01_IsName.j0 k t169 (decide ((t169.length : Int) > 100)))) else (chiselref01_IsName.j0 k t169 true)) = some r := H; have A2 := Aside0.mk A20; clear A20; have HC3 := Aside0.mk H; clear H; (go_enter Tryd.func49, Tryd.ntmps49); (go_upto_region 2 with (first | ((with_reducible refine gate_callee (f := 44) rfl ?_); refine goesL_ (some 10) rfl rfl Tryd.func44 (by kernel_rfl) rfl #[.string a0] rfl (by (try simp only [List.map_toArray, List.map_cons, List.map_nil]); first | done | rfl | (simp only [List.length_drop, List.length_take]; rfl)) ?_; (with_reducible refine (chiselref01_Points.calls k a0 t169 t170 _ A2.out).mono ?_); rintro e w4 ⟨v171, rfl, ho0, hb⟩; refine ⟨_, rfl, ?_⟩; have n0_ := Aside0.mk (Kd.R_lower ho0 (below_size (by repeat (first | (with_reducible first | exact HB.out | apply below_alloc | apply pw_below_drewN | apply below_drew1) | exact HB.out)))); have n1_ := Aside0.mk (below_step (by repeat (first | (with_reducible first | exact HB.out | apply below_alloc | apply pw_below_drewN | apply below_drew1) | exact HB.out)) hb); clear HB; have HO172 := n0_; have HB := n1_; clear n0_ n1_; (try clear hb); (try clear hb2); (try clear hk); (try clear hi); (try clear ho0)))); (try simp only [Act.put, List.setIfInBounds_toArray, List.set_cons_zero, List.set_cons_succ]); (go_cut [24] (fun v24 wc => ∃ (kq : Nat) (x24_2 : Bool), v24 = .bool x24_2 ∧ Aside0 (chiselref01_IsName.j0 kq t169 x24_2 = some r) ∧ Aside0 (kq ≤ k) ∧ Aside0 (Kd.R (Kd.int .i64) 3 wc w.heap.size (fun _ => True) v171 t169) ∧ Aside0 (Below w.heap.size w wc)))
 case first =>
  have H := HC3.out; clear HC3; by_cases c5 : t170 = 0
  ·rw [if_pos c5] at H; have c5b0 : (t170 == 0) = true := beq_iff_eq.mpr c5; have c5b1 : (t170 != 0) = false := bne_eq_false_iff_eq.mpr c5; clear c5; (first | rw [c5b0] | (simp only [i64_w, i32_w]; rw [c5b0]) | skip); by_cases c6 : (t169.length : Int) < 1
   ·rw [if_pos c6] at H; have c6b0 : decide ((t169.length : Int) < 1) = true := decide_eq_true c6; (have c6b1 : decide (t169.length < 1) = true := decide_eq_true (by omega)); clear c6; have H' := Aside0.mk H; clear H; obtain ⟨Ao7, co7, eo7⟩ := Kd.R_slice HO172.out; subst eo7; (go_wp2); (go_meet)
    case rel => exact ⟨_, (true), (by first | rfl | (simp; done) | (simp [*]; done)), H', ⟨by first | omega | exact Nat.le_refl _⟩, ⟨by (with_reducible repeat (first | apply Kd.R_alloc | apply Kd.R_drewN | apply Kd.R_drew)); exact HO172.out⟩, ⟨by repeat (first | (with_reducible first | exact HB.out | apply below_alloc | apply pw_below_drewN | apply below_drew1) | exact HB.out)⟩⟩
   ·rw [if_neg c6] at H; have c6b0 : decide ((t169.length : Int) < 1) = false := decide_eq_false c6; (have c6b1 : decide (t169.length < 1) = false := decide_eq_false (by omega)); clear c6; have H' := Aside0.mk H; clear H; obtain ⟨Ao8, co8, eo8⟩ := Kd.R_slice HO172.out; subst eo8; (go_wp2); (go_meet)
    case rel => exact ⟨_, (decide ((t169.length : Int) > 100)), (by first | rfl | (simp; done) | (simp [*]; done)), H', ⟨by first | omega | exact Nat.le_refl _⟩, ⟨by (with_reducible repeat (first | apply Kd.R_alloc | apply Kd.R_drewN | apply Kd.R_drew)); exact HO172.out⟩, ⟨by repeat (first | (with_reducible first | exact HB.out | apply below_alloc | apply pw_below_drewN | apply below_drew1) | exact HB.out)⟩⟩
  ·rw [if_neg c5] at H; have c5b0 : (t170 == 0) = false := beq_eq_false_iff_ne.mpr c5; have c5b1 : (t170 != 0) = true := bne_iff_ne.mpr c5; (first | rw [c5b0] | (simp only [i64_w, i32_w]; rw [c5b0]) | skip); have H' := Aside0.mk H; clear H; (go_wp2); (go_meet)
   case rel => exact ⟨_, (true), (by first | rfl | (simp; done) | (simp [*]; done)), H', ⟨by first | omega | exact Nat.le_refl _⟩, ⟨by (with_reducible repeat (first | apply Kd.R_alloc | apply Kd.R_drewN | apply Kd.R_drew)); exact HO172.out⟩, ⟨by repeat (first | (with_reducible first | exact HB.out | apply below_alloc | apply pw_below_drewN | apply below_drew1) | exact HB.out)⟩⟩
 case rest =>
  clear HC3; ((try clear p2); (try clear c4); (try clear c5); (try clear c5b0); (try clear c5b1); (try clear c6); (try clear c6b0); (try clear c6b1)); obtain ⟨kq, x24_2, rfl, HA, HJ2, HO_3, HB⟩ := hcut
  cases kq with
  | zero => exact absurd HA.out (by simp [chiselref01_IsName.j0])
  | succ kj2 =>
   have H := HA.out; clear HA; simp only [chiselref01_IsName.j0] at H; by_cases c9 : x24_2 = true
   ·subst c9; (have H1 : (some false) = some r := by rw [if_pos rfl] at H; exact H); clear H; have H := H1; clear H1; obtain rfl := Option.some.inj H; (go_wp2); (go_ret); (exact ⟨by first | rfl | (simp [errW_none, errW_some] <;> rfl) | (simp [*, errW_none, errW_some] <;> rfl), by repeat (first | (with_reducible first | exact HB.out | apply below_alloc | apply pw_below_drewN | apply below_drew1) | exact HB.out)⟩)
   ·replace c9 := Bool.eq_false_iff.mpr c9; subst c9; (have H1 : (chiselref01_IsName.l0 kj2 t169 0 true 0) = some r := by rw [if_neg (show ¬ (false = true) by decide)] at H; exact H); clear H; have H := H1; clear H1; have H' := Aside0.mk H; clear H; (go_wp2); (go_loopg [5, 6, 7] kj2 (fun kq v5 v6 v7 w' => ∃ (x5_2 : Int) (x6_2 : Bool) (x7_2 : Int), v5 = .int .i64 x5_2 ∧ v6 = .bool x6_2 ∧ v7 = .int .i64 x7_2 ∧ Aside0 (chiselref01_IsName.l0 kq t169 x5_2 x6_2 x7_2 = some r) ∧ Aside0 (kq ≤ kj2) ∧ Aside0 (Kd.R (Kd.int .i64) 3 w' w.heap.size (fun _ => True) v171 t169) ∧ Aside0 (Below w.heap.size w w')))
    case atStart => exact ⟨(0), (true), (0), (by first | rfl | (simp; done) | (simp [*]; done)), (by first | rfl | (simp; done) | (simp [*]; done)), (by first | rfl | (simp; done) | (simp [*]; done)), H', ⟨Nat.le_refl _⟩, ⟨by (with_reducible repeat (first | apply Kd.R_alloc | apply Kd.R_drewN | apply Kd.R_drew)); exact HO_3.out⟩, ⟨by repeat (first | (with_reducible first | exact HB.out | apply below_alloc | apply pw_below_drewN | apply below_drew1) | exact HB.out)⟩⟩
    case round =>
     clear H'; ((try clear p2); (try clear c4); (try clear c5); (try clear c5b0); (try clear c5b1); (try clear c6); (try clear c6b0); (try clear c6b1); (try clear c9); (try clear p2)); obtain ⟨x5_2, x6_2, x7_2, rfl, rfl, rfl, HA, HK2, HO_3, HB⟩ := hrel
     cases gk with
     | zero => exact absurd HA.out (by simp [chiselref01_IsName.l0])
     | succ k2 =>
      have H := HA.out; clear HA; simp only [chiselref01_IsName.l0] at H; by_cases c10 : x7_2 < (t169.length : Int)
      ·rw [if_pos c10] at H; have c10b0 : decide (x7_2 < (t169.length : Int)) = true := decide_eq_true c10; clear c10; have HC11 := Aside0.mk H; clear H; obtain ⟨Ao12, co12, eo12⟩ := Kd.R_slice HO_3.out; subst eo12; (go_upto_region 9 with (fail)); (go_cut [39] (fun v39 wc => ∃ (kq : Nat) (x39_10 : Bool), v39 = .bool x39_10 ∧ Aside0 (chiselref01_IsName.j2 kq t169 x5_2 x6_2 x7_2 x39_10 = some r) ∧ Aside0 (kq ≤ k2) ∧ Aside0 (Kd.R (Kd.int .i64) 3 wc w.heap.size (fun _ => True) (.slice Ao12 t169.length co12) t169) ∧ Aside0 (Below w.heap.size w wc)))
       case first =>
        have H := HC11.out; clear HC11; by_cases c13 : 0 ≤ x7_2
        ·rw [if_pos c13] at H; have c13b0 : decide (0 ≤ x7_2) = true := decide_eq_true c13; clear c13; (first | rw [c13b0] | (simp only [i64_w, i32_w]; rw [c13b0]) | skip); by_cases c14 : (rd t169 x7_2) = 58
         ·rw [if_pos c14] at H; have c14b0 : ((rd t169 x7_2) == 58) = true := beq_iff_eq.mpr c14; have c14b1 : ((rd t169 x7_2) != 58) = false := bne_eq_false_iff_eq.mpr c14; clear c14; have H' := Aside0.mk H; clear H; (have p173 : 0 ≤ (x7_2 : Int) := of_decide_eq_true (by first | (with_reducible assumption) | assumption)); (have q173 : x7_2 < (t169.length : Int) := of_decide_eq_true (by first | (with_reducible assumption) | assumption)); (obtain ⟨ad173, e173, hx173_0⟩ := Kd.at_int (Kd.R_reads' HO_3.out).2.2 x7_2 p173 q173); cases e173; replace p173 := eq_true p173; replace q173 := eq_true q173; (go_wp2); (go_meet)
          case rel => exact ⟨_, (!x6_2), (by first | rfl | (simp; done) | (simp [*]; done)), H', ⟨by have := HJ2.out; have := HK2.out; first | omega | exact Nat.le_refl _⟩, ⟨by (with_reducible repeat (first | apply Kd.R_alloc | apply Kd.R_drewN | apply Kd.R_drew)); exact HO_3.out⟩, ⟨by repeat (first | (with_reducible first | exact HB.out | apply below_alloc | apply pw_below_drewN | apply below_drew1) | exact HB.out)⟩⟩
         ·rw [if_neg c14] at H; have c14b0 : ((rd t169 x7_2) == 58) = false := beq_eq_false_iff_ne.mpr c14; have c14b1 : ((rd t169 x7_2) != 58) = true := bne_iff_ne.mpr c14; have H' := Aside0.mk H; clear H; (have p173 : 0 ≤ (x7_2 : Int) := of_decide_eq_true (by first | (with_reducible assumption) | assumption)); (have q173 : x7_2 < (t169.length : Int) := of_decide_eq_true (by first | (with_reducible assumption) | assumption)); (obtain ⟨ad173, e173, hx173_0⟩ := Kd.at_int (Kd.R_reads' HO_3.out).2.2 x7_2 p173 q173); cases e173; replace p173 := eq_true p173; replace q173 := eq_true q173; (go_wp2); (go_meet)
          case rel => exact ⟨_, (false), (by first | rfl | (simp; done) | (simp [*]; done)), H', ⟨by have := HJ2.out; have := HK2.out; first | omega | exact Nat.le_refl _⟩, ⟨by (with_reducible repeat (first | apply Kd.R_alloc | apply Kd.R_drewN | apply Kd.R_drew)); exact HO_3.out⟩, ⟨by repeat (first | (with_reducible first | exact HB.out | apply below_alloc | apply pw_below_drewN | apply below_drew1) | exact HB.out)⟩⟩
        ·rw [if_neg c13] at H; (exact absurd H (by simp))
       case rest =>
        clear HC11; ((try clear c1); (try clear p1); (try clear q1); (try clear hx1); (try clear p2); (try clear c4); (try clear c5); (try clear c5b0); (try clear c5b1); (try clear c6); (try clear c6b0); (try clear c6b1); (try clear c9); (try clear c10); (try clear c10b0); (try clear c13); (try clear c13b0); (try clear c14); (try clear c14b0); (try clear c14b1); (try clear hx173_0); (try clear p173); (try clear p2); (try clear q173)); obtain ⟨kq, x39_10, rfl, HA, HJ10, HO_3, HB⟩ := hcut
        cases kq with
        | zero => exact absurd HA.out (by simp [chiselref01_IsName.j2])
        | succ kj10 =>
         have H := HA.out; clear HA; simp only [chiselref01_IsName.j2] at H; by_cases c15 : x39_10 = true
         ·subst c15; (have H1 : (chiselref01_IsName.l0 kj10 t169 (wrap64 (x5_2 + 1)) true (wrap64 (x7_2 + 1))) = some r := by rw [if_pos rfl] at H; exact H); clear H; have H := H1; clear H1; have H' := Aside0.mk H; clear H; (go_wp2); (go_roundg kj10)
          case measure => have := HJ2.out; have := HK2.out; have := HJ10.out; omega
          case rel => exact ⟨(wrap64 (x5_2 + 1)), (true), (wrap64 (x7_2 + 1)), (by first | rfl | (simp; done) | (simp [*]; done)), (by first | rfl | (simp; done) | (simp [*]; done)), (by first | rfl | (simp; done) | (simp [*]; done)), H', ⟨by have := HJ2.out; have := HK2.out; have := HJ10.out; omega⟩, ⟨by (with_reducible repeat (first | apply Kd.R_alloc | apply Kd.R_drewN | apply Kd.R_drew)); exact HO_3.out⟩, ⟨by repeat (first | (with_reducible first | exact HB.out | apply below_alloc | apply pw_below_drewN | apply below_drew1) | exact HB.out)⟩⟩
         ·replace c15 := Bool.eq_false_iff.mpr c15; subst c15; (have H1 : (if x6_2 = true then (if 0 ≤ x7_2 then (if x7_2 < (t169.length : Int) then ((chiselref01_letter.f (rd t169 x7_2)).bind fun t175 => (if t175 = true then (chiselref01_IsName.l0 kj10 t169 x5_2 false (wrap64 (x7_2 + 1))) else (some false))) else (none)) else (none)) else (if 0 ≤ x7_2 then (if x7_2 < (t169.length : Int) then ((chiselref01_inName.f (rd t169 x7_2)).bind fun t177 => (if t177 = true then (chiselref01_IsName.l0 kj10 t169 x5_2 false (wrap64 (x7_2 + 1))) else (some false))) else (none)) else (none))) = some r := by rw [if_neg (show ¬ (false = true) by decide)] at H; exact H); clear H; have H := H1; clear H1; by_cases c16 : x6_2 = true
          ·subst c16; (have H1 : (if 0 ≤ x7_2 then (if x7_2 < (t169.length : Int) then ((chiselref01_letter.f (rd t169 x7_2)).bind fun t175 => (if t175 = true then (chiselref01_IsName.l0 kj10 t169 x5_2 false (wrap64 (x7_2 + 1))) else (some false))) else (none)) else (none)) = some r := by rw [if_pos rfl] at H; exact H); clear H; have H := H1; clear H1; by_cases c17 : 0 ≤ x7_2
           ·rw [if_pos c17] at H; have c17b0 : decide (0 ≤ x7_2) = true := decide_eq_true c17; clear c17; by_cases c18 : x7_2 < (t169.length : Int)
            ·rw [if_pos c18] at H; have c18b0 : decide (x7_2 < (t169.length : Int)) = true := decide_eq_true c18; clear c18; replace H := Option.bind_eq_some_iff.mp H; obtain ⟨t175, A190, H⟩ := H; replace H : (if t175 = true then (chiselref01_IsName.l0 kj10 t169 x5_2 false (wrap64 (x7_2 + 1))) else (some false)) = some r := H; have A19 := Aside0.mk A190; clear A190; by_cases c20 : t175 = true
             ·subst c20; (have H1 : (chiselref01_IsName.l0 kj10 t169 x5_2 false (wrap64 (x7_2 + 1))) = some r := by rw [if_pos rfl] at H; exact H); clear H; have H := H1; clear H1; have H' := Aside0.mk H; clear H; (have p174 : 0 ≤ (x7_2 : Int) := of_decide_eq_true (by first | (with_reducible assumption) | assumption)); (have q174 : x7_2 < (t169.length : Int) := of_decide_eq_true (by first | (with_reducible assumption) | assumption)); (obtain ⟨ad174, e174, hx174_0⟩ := Kd.at_int (Kd.R_reads' HO_3.out).2.2 x7_2 p174 q174); cases e174; replace p174 := eq_true p174; replace q174 := eq_true q174; (go_wp2_with (first | (go_at_call 67; (with_reducible refine (chiselref01_letter.calls (rd t169 x7_2) true _ A19.out).mono ?_); rintro e w' ⟨rfl, ⟨nd, rfl⟩⟩))); (go_roundg kj10)
              case measure => have := HJ2.out; have := HK2.out; have := HJ10.out; omega
              case rel => exact ⟨(x5_2), (false), (wrap64 (x7_2 + 1)), (by first | rfl | (simp; done) | (simp [*]; done)), (by first | rfl | (simp; done) | (simp [*]; done)), (by first | rfl | (simp; done) | (simp [*]; done)), H', ⟨by have := HJ2.out; have := HK2.out; have := HJ10.out; omega⟩, ⟨by (with_reducible repeat (first | apply Kd.R_alloc | apply Kd.R_drewN | apply Kd.R_drew)); exact HO_3.out⟩, ⟨by repeat (first | (with_reducible first | exact HB.out | apply below_alloc | apply pw_below_drewN | apply below_drew1) | exact HB.out)⟩⟩
             ·replace c20 := Bool.eq_false_iff.mpr c20; subst c20; (have H1 : (some false) = some r := by rw [if_neg (show ¬ (false = true) by decide)] at H; exact H); clear H; have H := H1; clear H1; obtain rfl := Option.some.inj H; (have p174 : 0 ≤ (x7_2 : Int) := of_decide_eq_true (by first | (with_reducible assumption) | assumption)); (have q174 : x7_2 < (t169.length : Int) := of_decide_eq_true (by first | (with_reducible assumption) | assumption)); (obtain ⟨ad174, e174, hx174_0⟩ := Kd.at_int (Kd.R_reads' HO_3.out).2.2 x7_2 p174 q174); cases e174; replace p174 := eq_true p174; replace q174 := eq_true q174; (go_wp2_with (first | (go_at_call 67; (with_reducible refine (chiselref01_letter.calls (rd t169 x7_2) false _ A19.out).mono ?_); rintro e w' ⟨rfl, ⟨nd, rfl⟩⟩))); (go_ret); (exact ⟨by first | rfl | (simp [errW_none, errW_some] <;> rfl) | (simp [*, errW_none, errW_some] <;> rfl), by repeat (first | (with_reducible first | exact HB.out | apply below_alloc | apply pw_below_drewN | apply below_drew1) | exact HB.out)⟩)
            ·rw [if_neg c18] at H; (exact absurd H (by simp))
           ·rw [if_neg c17] at H; (exact absurd H (by simp))
          ·replace c16 := Bool.eq_false_iff.mpr c16; subst c16; (have H1 : (if 0 ≤ x7_2 then (if x7_2 < (t169.length : Int) then ((chiselref01_inName.f (rd t169 x7_2)).bind fun t177 => (if t177 = true then (chiselref01_IsName.l0 kj10 t169 x5_2 false (wrap64 (x7_2 + 1))) else (some false))) else (none)) else (none)) = some r := by rw [if_neg (show ¬ (false = true) by decide)] at H; exact H); clear H; have H := H1; clear H1; by_cases c21 : 0 ≤ x7_2
           ·rw [if_pos c21] at H; have c21b0 : decide (0 ≤ x7_2) = true := decide_eq_true c21; clear c21; by_cases c22 : x7_2 < (t169.length : Int)
            ·rw [if_pos c22] at H; have c22b0 : decide (x7_2 < (t169.length : Int)) = true := decide_eq_true c22; clear c22; replace H := Option.bind_eq_some_iff.mp H; obtain ⟨t177, A230, H⟩ := H; replace H : (if t177 = true then (chiselref01_IsName.l0 kj10 t169 x5_2 false (wrap64 (x7_2 + 1))) else (some false)) = some r := H; have A23 := Aside0.mk A230; clear A230; by_cases c24 : t177 = true
             ·subst c24; (have H1 : (chiselref01_IsName.l0 kj10 t169 x5_2 false (wrap64 (x7_2 + 1))) = some r := by rw [if_pos rfl] at H; exact H); clear H; have H := H1; clear H1; have H' := Aside0.mk H; clear H; (have p176 : 0 ≤ (x7_2 : Int) := of_decide_eq_true (by first | (with_reducible assumption) | assumption)); (have q176 : x7_2 < (t169.length : Int) := of_decide_eq_true (by first | (with_reducible assumption) | assumption)); (obtain ⟨ad176, e176, hx176_0⟩ := Kd.at_int (Kd.R_reads' HO_3.out).2.2 x7_2 p176 q176); cases e176; replace p176 := eq_true p176; replace q176 := eq_true q176; (go_wp2_with (first | (go_at_call 68; (with_reducible refine (chiselref01_inName.calls (rd t169 x7_2) true _ A23.out).mono ?_); rintro e w' ⟨rfl, ⟨nd, rfl⟩⟩))); (go_roundg kj10)
              case measure => have := HJ2.out; have := HK2.out; have := HJ10.out; omega
              case rel => exact ⟨(x5_2), (false), (wrap64 (x7_2 + 1)), (by first | rfl | (simp; done) | (simp [*]; done)), (by first | rfl | (simp; done) | (simp [*]; done)), (by first | rfl | (simp; done) | (simp [*]; done)), H', ⟨by have := HJ2.out; have := HK2.out; have := HJ10.out; omega⟩, ⟨by (with_reducible repeat (first | apply Kd.R_alloc | apply Kd.R_drewN | apply Kd.R_drew)); exact HO_3.out⟩, ⟨by repeat (first | (with_reducible first | exact HB.out | apply below_alloc | apply pw_below_drewN | apply below_drew1) | exact HB.out)⟩⟩
             ·replace c24 := Bool.eq_false_iff.mpr c24; subst c24; (have H1 : (some false) = some r := by rw [if_neg (show ¬ (false = true) by decide)] at H; exact H); clear H; have H := H1; clear H1; obtain rfl := Option.some.inj H; (have p176 : 0 ≤ (x7_2 : Int) := of_decide_eq_true (by first | (with_reducible assumption) | assumption)); (have q176 : x7_2 < (t169.length : Int) := of_decide_eq_true (by first | (with_reducible assumption) | assumption)); (obtain ⟨ad176, e176, hx176_0⟩ := Kd.at_int (Kd.R_reads' HO_3.out).2.2 x7_2 p176 q176); cases e176; replace p176 := eq_true p176; replace q176 := eq_true q176; (go_wp2_with (first | (go_at_call 68; (with_reducible refine (chiselref01_inName.calls (rd t169 x7_2) false _ A23.out).mono ?_); rintro e w' ⟨rfl, ⟨nd, rfl⟩⟩))); (go_ret); (exact ⟨by first | rfl | (simp [errW_none, errW_some] <;> rfl) | (simp [*, errW_none, errW_some] <;> rfl), by repeat (first | (with_reducible first | exact HB.out | apply below_alloc | apply pw_below_drewN | apply below_drew1) | exact HB.out)⟩)
            ·rw [if_neg c22] at H; (exact absurd H (by simp))
           ·rw [if_neg c21] at H; (exact absurd H (by simp))
      ·rw [if_neg c10] at H; have c10b0 : decide (x7_2 < (t169.length : Int)) = false := decide_eq_false c10; clear c10; by_cases c25 : x6_2 = true
       ·subst c25; (have H1 : (some false) = some r := by rw [if_pos rfl] at H; exact H); clear H; have H := H1; clear H1; obtain rfl := Option.some.inj H; obtain ⟨Ao26, co26, eo26⟩ := Kd.R_slice HO_3.out; subst eo26; (go_wp2); (go_ret); (exact ⟨by first | rfl | (simp [errW_none, errW_some] <;> rfl) | (simp [*, errW_none, errW_some] <;> rfl), by repeat (first | (with_reducible first | exact HB.out | apply below_alloc | apply pw_below_drewN | apply below_drew1) | exact HB.out)⟩)
       ·replace c25 := Bool.eq_false_iff.mpr c25; subst c25; (have H1 : (some (decide (x5_2 ≤ 1))) = some r := by rw [if_neg (show ¬ (false = true) by decide)] at H; exact H); clear H; have H := H1; clear H1; obtain rfl := Option.some.inj H; obtain ⟨Ao27, co27, eo27⟩ := Kd.R_slice HO_3.out; subst eo27; (go_wp2); (go_ret); (exact ⟨by first | rfl | (simp [errW_none, errW_some] <;> rfl) | (simp [*, errW_none, errW_some] <;> rfl), by repeat (first | (with_reducible first | exact HB.out | apply below_alloc | apply pw_below_drewN | apply below_drew1) | exact HB.out)⟩)
def chiselref14_starts.f (k : Nat) (a0 : ByteArray) : Option (Bool) := (chiselref01_IsName.f k a0).bind fun t178 => (some t178)
theorem chiselref14_starts.mono : ∀ a0 k, LeO (chiselref14_starts.f k a0) (chiselref14_starts.f (k + 1) a0) := by
 intro a0 k; unfold chiselref14_starts.f
 repeat' first
   | (with_reducible exact chiselref01_IsName.mono _ _)
   | (with_reducible exact LeO.refl _)
   | (with_reducible exact LeO.none _)
   | (with_reducible refine LeO.ite ?_ ?_)
   | (with_reducible refine LeO.bind ?_ (fun _ => ?_))
   | exact chiselref01_IsName.mono _ _
   | exact LeO.none _
   | refine LeO.ite ?_ ?_
   | refine LeO.bind ?_ (fun _ => ?_)
set_option maxHeartbeats 8000000 in
set_option maxRecDepth 100000 in
theorem chiselref14_starts.calls (k : Nat) (a0 : ByteArray) (r : Bool) (w : World) (h : chiselref14_starts.f k a0 = some r) :
  Calls Tryd.prog 30 #[.string a0] w fun e w' => e = .returned (.bool r) ∧ Below w.heap.size w w' := by
 have HB := Aside0.mk (Below.refl w.heap.size w); (have H : ((chiselref01_IsName.f k a0).bind fun t178 => (some t178)) = some r := h); clear h; replace H := Option.bind_eq_some_iff.mp H; obtain ⟨t178, A20, H⟩ := H; replace H : (some t178) = some r := H; have A2 := Aside0.mk A20; clear A20; obtain rfl := Option.some.inj H; (go_enter Tryd.func30, Tryd.ntmps30); (go_wp2_with (first | ((with_reducible refine gate_callee (f := 49) rfl ?_); refine goesL_ (some 4) rfl rfl Tryd.func49 (by kernel_rfl) rfl #[.string a0] rfl (by (try simp only [List.map_toArray, List.map_cons, List.map_nil]); first | done | rfl | (simp only [List.length_drop, List.length_take]; rfl)) ?_; (with_reducible refine (chiselref01_IsName.calls k a0 t178 _ A2.out).mono ?_); rintro e w3 ⟨rfl, hb⟩; refine ⟨_, rfl, ?_⟩; have n0_ := Aside0.mk (below_step (by repeat (first | (with_reducible first | exact HB.out | apply below_alloc | apply pw_below_drewN | apply below_drew1) | exact HB.out)) hb); clear HB; have HB := n0_; clear n0_; (try clear hb); (try clear hb2); (try clear hk); (try clear hi)))); (go_ret); (exact ⟨by first | rfl | (simp [errW_none, errW_some] <;> rfl) | (simp [*, errW_none, errW_some] <;> rfl), by repeat (first | (with_reducible first | exact HB.out | apply below_alloc | apply pw_below_drewN | apply below_drew1) | exact HB.out)⟩)
def chiselref14_char.l0 : Nat → ByteArray → Int → Int → Option (ByteArray)
 | 0, _, _, _ => none
 | k + 1, x0, x1, x5 => if (wrap64 (x1 + x5)) < (x0.size : Int) then (if 0 ≤ (wrap64 (x1 + x5)) then (if (bt x0 (wrap64 (x1 + x5))) ≥ 128 then (if (bt x0 (wrap64 (x1 + x5))) < 192 then (chiselref14_char.l0 k x0 x1 (wrap64 (x5 + 1))) else (if 0 ≤ x1 then (if x1 ≤ (wrap64 (x1 + x5)) then (if (wrap64 (x1 + x5)) ≤ (x0.size : Int) then (some (x0.extract (x1 : Int).toNat ((wrap64 (x1 + x5)) : Int).toNat)) else (none)) else (none)) else (none))) else (if 0 ≤ x1 then (if x1 ≤ (wrap64 (x1 + x5)) then (if (wrap64 (x1 + x5)) ≤ (x0.size : Int) then (some (x0.extract (x1 : Int).toNat ((wrap64 (x1 + x5)) : Int).toNat)) else (none)) else (none)) else (none))) else (none)) else (if 0 ≤ x1 then (if x1 ≤ (wrap64 (x1 + x5)) then (if (wrap64 (x1 + x5)) ≤ (x0.size : Int) then (some (x0.extract (x1 : Int).toNat ((wrap64 (x1 + x5)) : Int).toNat)) else (none)) else (none)) else (none))
def chiselref14_char.f (k : Nat) (a0 : ByteArray) (a1 : Int) : Option (ByteArray) := if a1 ≥ (a0.size : Int) then (some (⟨#[]⟩ : ByteArray)) else (chiselref14_char.l0 k a0 a1 1)
theorem chiselref14_char.mono_l : ∀ k, (∀ y0 y1 y2, LeO (chiselref14_char.l0 k y0 y1 y2) (chiselref14_char.l0 (k + 1) y0 y1 y2))
 | 0 => fun _ _ _ r h => by simp [chiselref14_char.l0] at h
 | k + 1 => by
  have ih0 := chiselref14_char.mono_l k
  ·intro y0 y1 y2
   unfold chiselref14_char.l0
   repeat' first
   | (with_reducible exact ih0 _ _ _)
   | (with_reducible exact LeO.refl _)
   | (with_reducible exact LeO.none _)
   | (with_reducible refine LeO.ite ?_ ?_)
   | (with_reducible refine LeO.bind ?_ (fun _ => ?_))
   | exact ih0 _ _ _
   | exact LeO.none _
   | refine LeO.ite ?_ ?_
   | refine LeO.bind ?_ (fun _ => ?_)
theorem chiselref14_char.mono : ∀ a0 a1 k, LeO (chiselref14_char.f k a0 a1) (chiselref14_char.f (k + 1) a0 a1) := by
 intro a0 a1 k; have ih0 := chiselref14_char.mono_l k; unfold chiselref14_char.f
 repeat' first
   | (with_reducible exact ih0 _ _ _)
   | (with_reducible exact LeO.refl _)
   | (with_reducible exact LeO.none _)
   | (with_reducible refine LeO.ite ?_ ?_)
   | (with_reducible refine LeO.bind ?_ (fun _ => ?_))
   | exact ih0 _ _ _
   | exact LeO.none _
   | refine LeO.ite ?_ ?_
   | refine LeO.bind ?_ (fun _ => ?_)
set_option maxHeartbeats 8000000 in
set_option maxRecDepth 100000 in
theorem chiselref14_char.calls (k : Nat) (a0 : ByteArray) (a1 : Int) (r : ByteArray) (w : World) (h : chiselref14_char.f k a0 a1 = some r) :
  Calls Tryd.prog 31 #[.string a0, .int .i64 a1] w fun e w' => e = .returned (.string r) ∧ Drawn0 w w' := by
 have H : (if a1 ≥ (a0.size : Int) then (some (⟨#[]⟩ : ByteArray)) else (chiselref14_char.l0 k a0 a1 1)) = some r := h; clear h; by_cases c3 : a1 ≥ (a0.size : Int)
 ·rw [if_pos c3] at H; have c3b0 : decide ((a0.size : Int) ≤ a1) = true := decide_eq_true c3; clear c3; obtain rfl := Option.some.inj H; (go_enter Tryd.func31, Tryd.ntmps31); (go_wp2); (go_ret); (exact ⟨by first | rfl | (simp; done) | (simp [*]; done), by repeat (first | exact Drawn0.refl _ | apply Drawn0.step)⟩)
 ·rw [if_neg c3] at H; have c3b0 : decide ((a0.size : Int) ≤ a1) = false := decide_eq_false c3; clear c3; have H' := Aside0.mk H; clear H; (go_enter Tryd.func31, Tryd.ntmps31); (go_wp2); (go_loopg [5] k (fun kq v5 w' => ∃ (x5_1 : Int), v5 = .int .i64 x5_1 ∧ Aside0 (chiselref14_char.l0 kq a0 a1 x5_1 = some r) ∧ Aside0 (kq ≤ k) ∧ Drawn0 w w'))
  case atStart => exact ⟨(1), (by first | rfl | (simp; done) | (simp [*]; done)), H', ⟨Nat.le_refl _⟩, by repeat (first | exact Drawn0.refl _ | apply Drawn0.step)⟩
  case round =>
   clear H'; ((try clear p2); (try clear c3); (try clear c3b0)); obtain ⟨x5_1, rfl, HA, HK1, ⟨m1, rfl⟩⟩ := hrel
   cases gk with
   | zero => exact absurd HA.out (by simp [chiselref14_char.l0])
   | succ k1 =>
    have H := HA.out; clear HA; simp only [chiselref14_char.l0] at H; by_cases c4 : (wrap64 (a1 + x5_1)) < (a0.size : Int)
    ·rw [if_pos c4] at H; have c4b0 : decide ((wrap64 (a1 + x5_1)) < (a0.size : Int)) = true := decide_eq_true c4; clear c4; obtain ⟨ji5, hji5⟩ : ∃ j_ : Int, (wrap64 (a1 + x5_1)) = j_ := ⟨_, rfl⟩; (replace H : (if 0 ≤ (ji5) then (if (bt a0 (ji5)) ≥ 128 then (if (bt a0 (ji5)) < 192 then (chiselref14_char.l0 k1 a0 a1 (wrap64 (x5_1 + 1))) else (if 0 ≤ a1 then (if a1 ≤ (ji5) then (if (ji5) ≤ (a0.size : Int) then (some (a0.extract (a1 : Int).toNat ((ji5) : Int).toNat)) else (none)) else (none)) else (none))) else (if 0 ≤ a1 then (if a1 ≤ (ji5) then (if (ji5) ≤ (a0.size : Int) then (some (a0.extract (a1 : Int).toNat ((ji5) : Int).toNat)) else (none)) else (none)) else (none))) else (none)) = some r := by first | (rw [hji5] at H; exact H) | (simp only [hji5] at H ⊢; exact H)); (try rw [hji5] at c4b0); have hji5w : (IntKind.i64.wrap (a1 + x5_1)) = ji5 := (i64_w _).trans hji5; by_cases c6 : 0 ≤ (ji5)
     ·rw [if_pos c6] at H; have c6b0 : decide (0 ≤ (ji5)) = true := decide_eq_true c6; clear c6; by_cases c8 : (bt a0 (ji5)) ≥ 128
      ·rw [if_pos c8] at H; have c8b0 : decide (128 ≤ (bt a0 (ji5))) = true := decide_eq_true c8; clear c8; by_cases c10 : (bt a0 (ji5)) < 192
       ·rw [if_pos c10] at H; have c10b0 : decide ((bt a0 (ji5)) < 192) = true := decide_eq_true c10; clear c10; have H' := Aside0.mk H; clear H; (have p7 : 0 ≤ ((ji5) : Int) := of_decide_eq_true (by first | (with_reducible assumption) | assumption)); (have q7 : (ji5) < (a0.size : Int) := of_decide_eq_true (by first | (with_reducible assumption) | assumption)); have hx7 := bt_at a0 (ji5); replace p7 := eq_true p7; replace q7 := eq_true q7; (have p9 : 0 ≤ ((ji5) : Int) := of_decide_eq_true (by first | (with_reducible assumption) | assumption)); (have q9 : (ji5) < (a0.size : Int) := of_decide_eq_true (by first | (with_reducible assumption) | assumption)); have hx9 := bt_at a0 (ji5); replace p9 := eq_true p9; replace q9 := eq_true q9; (go_wp2); (go_roundg k1)
        case measure => have := HK1.out; omega
        case rel => exact ⟨(wrap64 (x5_1 + 1)), (by first | rfl | (simp; done) | (simp [*]; done)), H', ⟨by have := HK1.out; omega⟩, by repeat (first | exact Drawn0.refl _ | apply Drawn0.step)⟩
       ·rw [if_neg c10] at H; have c10b0 : decide ((bt a0 (ji5)) < 192) = false := decide_eq_false c10; clear c10; by_cases c11 : 0 ≤ a1
        ·rw [if_pos c11] at H; have c11b0 := eq_true c11; have c11b1 : decide (0 ≤ a1) = true := decide_eq_true c11; clear c11; by_cases c12 : a1 ≤ (ji5)
         ·rw [if_pos c12] at H; have c12b0 := eq_true c12; have c12b1 : decide (a1 ≤ (ji5)) = true := decide_eq_true c12; clear c12; by_cases c13 : (ji5) ≤ (a0.size : Int)
          ·rw [if_pos c13] at H; have c13b0 := eq_true c13; have c13b1 : decide ((ji5) ≤ (a0.size : Int)) = true := decide_eq_true c13; clear c13; obtain rfl := Option.some.inj H; (have p7 : 0 ≤ ((ji5) : Int) := of_decide_eq_true (by first | (with_reducible assumption) | assumption)); (have q7 : (ji5) < (a0.size : Int) := of_decide_eq_true (by first | (with_reducible assumption) | assumption)); have hx7 := bt_at a0 (ji5); replace p7 := eq_true p7; replace q7 := eq_true q7; (have p9 : 0 ≤ ((ji5) : Int) := of_decide_eq_true (by first | (with_reducible assumption) | assumption)); (have q9 : (ji5) < (a0.size : Int) := of_decide_eq_true (by first | (with_reducible assumption) | assumption)); have hx9 := bt_at a0 (ji5); replace p9 := eq_true p9; replace q9 := eq_true q9; (go_wp2); (go_ret); (exact ⟨by first | rfl | (simp; done) | (simp only [← hji5] <;> (first | rfl | simp)) | (simp [*]; done), by repeat (first | exact Drawn0.refl _ | apply Drawn0.step)⟩)
          ·rw [if_neg c13] at H; (exact absurd H (by simp))
         ·rw [if_neg c12] at H; (exact absurd H (by simp))
        ·rw [if_neg c11] at H; (exact absurd H (by simp))
      ·rw [if_neg c8] at H; have c8b0 : decide (128 ≤ (bt a0 (ji5))) = false := decide_eq_false c8; clear c8; by_cases c14 : 0 ≤ a1
       ·rw [if_pos c14] at H; have c14b0 := eq_true c14; have c14b1 : decide (0 ≤ a1) = true := decide_eq_true c14; clear c14; by_cases c15 : a1 ≤ (ji5)
        ·rw [if_pos c15] at H; have c15b0 := eq_true c15; have c15b1 : decide (a1 ≤ (ji5)) = true := decide_eq_true c15; clear c15; by_cases c16 : (ji5) ≤ (a0.size : Int)
         ·rw [if_pos c16] at H; have c16b0 := eq_true c16; have c16b1 : decide ((ji5) ≤ (a0.size : Int)) = true := decide_eq_true c16; clear c16; obtain rfl := Option.some.inj H; (have p7 : 0 ≤ ((ji5) : Int) := of_decide_eq_true (by first | (with_reducible assumption) | assumption)); (have q7 : (ji5) < (a0.size : Int) := of_decide_eq_true (by first | (with_reducible assumption) | assumption)); have hx7 := bt_at a0 (ji5); replace p7 := eq_true p7; replace q7 := eq_true q7; (go_wp2); (go_ret); (exact ⟨by first | rfl | (simp; done) | (simp only [← hji5] <;> (first | rfl | simp)) | (simp [*]; done), by repeat (first | exact Drawn0.refl _ | apply Drawn0.step)⟩)
         ·rw [if_neg c16] at H; (exact absurd H (by simp))
        ·rw [if_neg c15] at H; (exact absurd H (by simp))
       ·rw [if_neg c14] at H; (exact absurd H (by simp))
     ·rw [if_neg c6] at H; (exact absurd H (by simp))
    ·rw [if_neg c4] at H; have c4b0 : decide ((wrap64 (a1 + x5_1)) < (a0.size : Int)) = false := decide_eq_false c4; clear c4; by_cases c17 : 0 ≤ a1
     ·rw [if_pos c17] at H; have c17b0 := eq_true c17; have c17b1 : decide (0 ≤ a1) = true := decide_eq_true c17; clear c17; by_cases c18 : a1 ≤ (wrap64 (a1 + x5_1))
      ·rw [if_pos c18] at H; have c18b0 := eq_true c18; have c18b1 : decide (a1 ≤ (wrap64 (a1 + x5_1))) = true := decide_eq_true c18; by_cases c19 : (wrap64 (a1 + x5_1)) ≤ (a0.size : Int)
       ·rw [if_pos c19] at H; have c19b0 := eq_true c19; have c19b1 : decide ((wrap64 (a1 + x5_1)) ≤ (a0.size : Int)) = true := decide_eq_true c19; obtain rfl := Option.some.inj H; (go_wp2); (go_ret); (exact ⟨by first | rfl | (simp; done) | (simp [*]; done), by repeat (first | exact Drawn0.refl _ | apply Drawn0.step)⟩)
       ·rw [if_neg c19] at H; (exact absurd H (by simp))
      ·rw [if_neg c18] at H; (exact absurd H (by simp))
     ·rw [if_neg c17] at H; (exact absurd H (by simp))
def chiselref14_continues.f (k : Nat) (a0 : ByteArray) : Option (Bool) := if a0.toList = ([] : List UInt8) then (some false) else (if 1 + a0.size ≤ 9223372036854775807 then ((chiselref01_IsName.f k ((⟨#[97]⟩ : ByteArray) ++ a0)).bind fun t179 => (some t179)) else (none))
theorem chiselref14_continues.mono : ∀ a0 k, LeO (chiselref14_continues.f k a0) (chiselref14_continues.f (k + 1) a0) := by
 intro a0 k; unfold chiselref14_continues.f
 repeat' first
   | (with_reducible exact chiselref01_IsName.mono _ _)
   | (with_reducible exact LeO.refl _)
   | (with_reducible exact LeO.none _)
   | (with_reducible refine LeO.ite ?_ ?_)
   | (with_reducible refine LeO.bind ?_ (fun _ => ?_))
   | exact chiselref01_IsName.mono _ _
   | exact LeO.none _
   | refine LeO.ite ?_ ?_
   | refine LeO.bind ?_ (fun _ => ?_)
set_option maxHeartbeats 8000000 in
set_option maxRecDepth 100000 in
theorem chiselref14_continues.calls (k : Nat) (a0 : ByteArray) (r : Bool) (w : World) (h : chiselref14_continues.f k a0 = some r) :
  Calls Tryd.prog 66 #[.string a0] w fun e w' => e = .returned (.bool r) ∧ Below w.heap.size w w' := by
 have HB := Aside0.mk (Below.refl w.heap.size w); (have H : (if a0.toList = ([] : List UInt8) then (some false) else (if 1 + a0.size ≤ 9223372036854775807 then ((chiselref01_IsName.f k ((⟨#[97]⟩ : ByteArray) ++ a0)).bind fun t179 => (some t179)) else (none))) = some r := h); clear h; by_cases c2 : a0.toList = ([] : List UInt8)
 ·rw [if_pos c2] at H; have c2b0 : (a0.toList == ([] : List UInt8)) = true := beq_iff_eq.mpr c2; have c2b1 : (a0.toList != ([] : List UInt8)) = false := bne_eq_false_iff_eq.mpr c2; clear c2; obtain rfl := Option.some.inj H; (go_enter Tryd.func66, Tryd.ntmps66); (go_wp2); (go_ret); (exact ⟨by first | rfl | (simp [errW_none, errW_some] <;> rfl) | (simp [*, errW_none, errW_some] <;> rfl), by repeat (first | (with_reducible first | exact HB.out | apply below_alloc | apply pw_below_drewN | apply below_drew1) | exact HB.out)⟩)
 ·rw [if_neg c2] at H; have c2b0 : (a0.toList == ([] : List UInt8)) = false := beq_eq_false_iff_ne.mpr c2; have c2b1 : (a0.toList != ([] : List UInt8)) = true := bne_iff_ne.mpr c2; by_cases c3 : 1 + a0.size ≤ 9223372036854775807
  ·rw [if_pos c3] at H; have c3b0 := eq_true c3; have c3b1 : decide (1 + a0.size ≤ 9223372036854775807) = true := decide_eq_true c3; (try have c3b2 : (9223372036854775807 < 1 + a0.size) = False := eq_false (Nat.not_lt.2 c3)); replace H := Option.bind_eq_some_iff.mp H; obtain ⟨t179, A40, H⟩ := H; replace H : (some t179) = some r := H; have A4 := Aside0.mk A40; clear A40; obtain rfl := Option.some.inj H; (go_enter Tryd.func66, Tryd.ntmps66); (go_wp2_with (first | (go_at_call 49; (with_reducible refine (chiselref01_IsName.calls k ((⟨#[97]⟩ : ByteArray) ++ a0) t179 _ A4.out).mono ?_); rintro e w5 ⟨rfl, hb⟩; have n0_ := Aside0.mk (below_step (by repeat (first | (with_reducible first | exact HB.out | apply below_alloc | apply pw_below_drewN | apply below_drew1) | exact HB.out)) hb); clear HB; have HB := n0_; clear n0_; (try clear hb); (try clear hb2); (try clear hk); (try clear hi)))); (go_ret); (exact ⟨by first | rfl | (simp [errW_none, errW_some] <;> rfl) | (simp [*, errW_none, errW_some] <;> rfl), by repeat (first | (with_reducible first | exact HB.out | apply below_alloc | apply pw_below_drewN | apply below_drew1) | exact HB.out)⟩)
  ·rw [if_neg c3] at H; (exact absurd H (by simp))
end Go.Proofs.YtmpenkinheneoaaDoor.Q
