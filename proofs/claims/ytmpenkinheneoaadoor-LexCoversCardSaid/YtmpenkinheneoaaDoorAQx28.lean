/- Texts of the claim: Qx28. -/
import Derived.Test.YtmpenkinheneoaaDoorAQx0
namespace Go.Proofs.YtmpenkinheneoaaDoor.Q
open Go.RowKit Go.Proofs.YtmpenkinheneoaaDoorW.PrintWords Go.Proofs.YtmpenkinheneoaaDoorW.PrintLast Go.Proofs.YtmpenkinheneoaaDoorW.PrintMore
attribute [local go_sem] max2_int min2_int max_two min_two max_three min_three max_four min_four   -- for this text's walks alone
set_option linter.unusedVariables false
set_option linter.unusedSimpArgs false
mutual
def chisellaw14_ends.j0 : Nat → ByteArray → Bool → Int → ByteArray → Int → Option (Int)
  | 0, _, _, _, _, _ => none
  | k + 1, x0, x18, x233000, x233001, x233002 => if x18 = true then (some (-1)) else (if x233000 = 2 then (if 0 ≤ x233002 then (if x233002 < (x0.size : Int) then (if (bt x0 x233002) = 34 then (chisellaw14_ends.j1 k x0 (bt x0 x233002) false x233000 x233001 x233002) else (chisellaw14_ends.j1 k x0 (bt x0 x233002) ((bt x0 x233002) != 39) x233000 x233001 x233002)) else (none)) else (none)) else (if (wrap64 (x233002 + (x233001.size : Int))) > (x0.size : Int) then (some (-1)) else (if 0 ≤ x233002 then (if x233002 ≤ (wrap64 (x233002 + (x233001.size : Int))) then (if (wrap64 (x233002 + (x233001.size : Int))) ≤ (x0.size : Int) then (if (x0.extract (x233002 : Int).toNat ((wrap64 (x233002 + (x233001.size : Int))) : Int).toNat).toList = x233001.toList then (some (wrap64 (x233002 + (x233001.size : Int)))) else (some (-1))) else (none)) else (none)) else (none))))
def chisellaw14_ends.j1 : Nat → ByteArray → Int → Bool → Int → ByteArray → Int → Option (Int)
  | 0, _, _, _, _, _, _ => none
  | k + 1, x0, x6, x52, x233000, x233001, x233002 => if x52 = true then (some (-1)) else (chisellaw14_ends.l0 k x0 x6 (wrap64 (x233002 + 1)) 0 x233000 x233001 x233002)
def chisellaw14_ends.l0 : Nat → ByteArray → Int → Int → Int → Int → ByteArray → Int → Option (Int)
  | 0, _, _, _, _, _, _, _ => none
  | k + 1, x0, x6, x7, x8, x233000, x233001, x233002 => if x8 < (x233001.size : Int) then (if x7 ≥ (x0.size : Int) then (chisellaw14_ends.j3 k x0 x6 x7 x8 true x233000 x233001 x233002) else (if 0 ≤ x7 then (if x7 < (x0.size : Int) then (if 0 ≤ x8 then (chisellaw14_ends.j3 k x0 x6 x7 x8 ((bt x0 x7) != (bt x233001 x8)) x233000 x233001 x233002) else (none)) else (none)) else (none))) else (if x7 ≥ (x0.size : Int) then (some (-1)) else (if 0 ≤ x7 then (if x7 < (x0.size : Int) then (if (bt x0 x7) = x6 then (some (wrap64 (x7 + 1))) else (some (-1))) else (none)) else (none)))
def chisellaw14_ends.j3 : Nat → ByteArray → Int → Int → Int → Bool → Int → ByteArray → Int → Option (Int)
  | 0, _, _, _, _, _, _, _, _ => none
  | k + 1, x0, x6, x7, x8, x76, x233000, x233001, x233002 => if x76 = true then (some (-1)) else (if 0 ≤ x8 then (if x8 < (x233001.size : Int) then (if (bt x233001 x8) = x6 then (if (wrap64 (x7 + 1)) ≥ (x0.size : Int) then (some (-1)) else (if 0 ≤ (wrap64 (x7 + 1)) then (if (wrap64 (x7 + 1)) < (x0.size : Int) then (if (bt x0 (wrap64 (x7 + 1))) = x6 then (chisellaw14_ends.l0 k x0 x6 (wrap64 ((wrap64 (x7 + 1)) + 1)) (wrap64 (x8 + 1)) x233000 x233001 x233002) else (some (-1))) else (none)) else (none))) else (chisellaw14_ends.l0 k x0 x6 (wrap64 (x7 + 1)) (wrap64 (x8 + 1)) x233000 x233001 x233002)) else (none)) else (none))
end
def chisellaw14_ends.f (k : Nat) (a0 : ByteArray) (a1_0 : Int) (a1_1 : ByteArray) (a1_2 : Int) : Option (Int) := if a1_2 < 0 then (chisellaw14_ends.j0 k a0 true a1_0 a1_1 a1_2) else (chisellaw14_ends.j0 k a0 (decide (a1_2 ≥ (a0.size : Int))) a1_0 a1_1 a1_2)
theorem chisellaw14_ends.mono_l : ∀ k, (∀ y0 y1 y2 y3 y4, LeO (chisellaw14_ends.j0 k y0 y1 y2 y3 y4) (chisellaw14_ends.j0 (k + 1) y0 y1 y2 y3 y4)) ∧ (∀ y0 y1 y2 y3 y4 y5, LeO (chisellaw14_ends.j1 k y0 y1 y2 y3 y4 y5) (chisellaw14_ends.j1 (k + 1) y0 y1 y2 y3 y4 y5)) ∧ (∀ y0 y1 y2 y3 y4 y5 y6, LeO (chisellaw14_ends.l0 k y0 y1 y2 y3 y4 y5 y6) (chisellaw14_ends.l0 (k + 1) y0 y1 y2 y3 y4 y5 y6)) ∧ (∀ y0 y1 y2 y3 y4 y5 y6 y7, LeO (chisellaw14_ends.j3 k y0 y1 y2 y3 y4 y5 y6 y7) (chisellaw14_ends.j3 (k + 1) y0 y1 y2 y3 y4 y5 y6 y7))
  | 0 => ⟨fun _ _ _ _ _ r h => by simp [chisellaw14_ends.j0] at h, fun _ _ _ _ _ _ r h => by simp [chisellaw14_ends.j1] at h, fun _ _ _ _ _ _ _ r h => by simp [chisellaw14_ends.l0] at h, fun _ _ _ _ _ _ _ _ r h => by simp [chisellaw14_ends.j3] at h⟩
  | k + 1 => by
    obtain ⟨ih0, ih1, ih2, ih3⟩ := chisellaw14_ends.mono_l k
    refine ⟨?_, ?_, ?_, ?_⟩
    · intro y0 y1 y2 y3 y4
      unfold chisellaw14_ends.j0
      repeat' first
      | (with_reducible exact ih0 _ _ _ _ _)
      | (with_reducible exact ih1 _ _ _ _ _ _)
      | (with_reducible exact ih2 _ _ _ _ _ _ _)
      | (with_reducible exact ih3 _ _ _ _ _ _ _ _)
      | (with_reducible exact LeO.refl _)
      | (with_reducible exact LeO.none _)
      | (with_reducible refine LeO.ite ?_ ?_)
      | (with_reducible refine LeO.bind ?_ (fun _ => ?_))
      | exact ih0 _ _ _ _ _
      | exact ih1 _ _ _ _ _ _
      | exact ih2 _ _ _ _ _ _ _
      | exact ih3 _ _ _ _ _ _ _ _
      | exact LeO.none _
      | refine LeO.ite ?_ ?_
      | refine LeO.bind ?_ (fun _ => ?_)
    · intro y0 y1 y2 y3 y4 y5
      unfold chisellaw14_ends.j1
      repeat' first
      | (with_reducible exact ih0 _ _ _ _ _)
      | (with_reducible exact ih1 _ _ _ _ _ _)
      | (with_reducible exact ih2 _ _ _ _ _ _ _)
      | (with_reducible exact ih3 _ _ _ _ _ _ _ _)
      | (with_reducible exact LeO.refl _)
      | (with_reducible exact LeO.none _)
      | (with_reducible refine LeO.ite ?_ ?_)
      | (with_reducible refine LeO.bind ?_ (fun _ => ?_))
      | exact ih0 _ _ _ _ _
      | exact ih1 _ _ _ _ _ _
      | exact ih2 _ _ _ _ _ _ _
      | exact ih3 _ _ _ _ _ _ _ _
      | exact LeO.none _
      | refine LeO.ite ?_ ?_
      | refine LeO.bind ?_ (fun _ => ?_)
    · intro y0 y1 y2 y3 y4 y5 y6
      unfold chisellaw14_ends.l0
      repeat' first
      | (with_reducible exact ih0 _ _ _ _ _)
      | (with_reducible exact ih1 _ _ _ _ _ _)
      | (with_reducible exact ih2 _ _ _ _ _ _ _)
      | (with_reducible exact ih3 _ _ _ _ _ _ _ _)
      | (with_reducible exact LeO.refl _)
      | (with_reducible exact LeO.none _)
      | (with_reducible refine LeO.ite ?_ ?_)
      | (with_reducible refine LeO.bind ?_ (fun _ => ?_))
      | exact ih0 _ _ _ _ _
      | exact ih1 _ _ _ _ _ _
      | exact ih2 _ _ _ _ _ _ _
      | exact ih3 _ _ _ _ _ _ _ _
      | exact LeO.none _
      | refine LeO.ite ?_ ?_
      | refine LeO.bind ?_ (fun _ => ?_)
    · intro y0 y1 y2 y3 y4 y5 y6 y7
      unfold chisellaw14_ends.j3
      repeat' first
      | (with_reducible exact ih0 _ _ _ _ _)
      | (with_reducible exact ih1 _ _ _ _ _ _)
      | (with_reducible exact ih2 _ _ _ _ _ _ _)
      | (with_reducible exact ih3 _ _ _ _ _ _ _ _)
      | (with_reducible exact LeO.refl _)
      | (with_reducible exact LeO.none _)
      | (with_reducible refine LeO.ite ?_ ?_)
      | (with_reducible refine LeO.bind ?_ (fun _ => ?_))
      | exact ih0 _ _ _ _ _
      | exact ih1 _ _ _ _ _ _
      | exact ih2 _ _ _ _ _ _ _
      | exact ih3 _ _ _ _ _ _ _ _
      | exact LeO.none _
      | refine LeO.ite ?_ ?_
      | refine LeO.bind ?_ (fun _ => ?_)
theorem chisellaw14_ends.mono : ∀ a0 a1 a2 a3 k, LeO (chisellaw14_ends.f k a0 a1 a2 a3) (chisellaw14_ends.f (k + 1) a0 a1 a2 a3) := by
  intro a0 a1 a2 a3 k
  obtain ⟨ih0, ih1, ih2, ih3⟩ := chisellaw14_ends.mono_l k
  unfold chisellaw14_ends.f
  repeat' first
      | (with_reducible exact ih0 _ _ _ _ _)
      | (with_reducible exact ih1 _ _ _ _ _ _)
      | (with_reducible exact ih2 _ _ _ _ _ _ _)
      | (with_reducible exact ih3 _ _ _ _ _ _ _ _)
      | (with_reducible exact LeO.refl _)
      | (with_reducible exact LeO.none _)
      | (with_reducible refine LeO.ite ?_ ?_)
      | (with_reducible refine LeO.bind ?_ (fun _ => ?_))
      | exact ih0 _ _ _ _ _
      | exact ih1 _ _ _ _ _ _
      | exact ih2 _ _ _ _ _ _ _
      | exact ih3 _ _ _ _ _ _ _ _
      | exact LeO.none _
      | refine LeO.ite ?_ ?_
      | refine LeO.bind ?_ (fun _ => ?_)
set_option maxHeartbeats 8000000 in
set_option maxRecDepth 100000 in
theorem chisellaw14_ends.calls (k : Nat) (a0 : ByteArray) (a1_0 : Int) (a1_1 : ByteArray) (a1_2 : Int) (r : Int) (w : World) (h : chisellaw14_ends.f k a0 a1_0 a1_1 a1_2 = some r) :
    Calls Tryd.prog 15 #[.string a0, .agg #[.int .i64 a1_0, .string a1_1, .int .i64 a1_2]] w fun e w' => e = .returned (.int .i64 r) ∧ Below w.heap.size w w' := by
  have hu34 := Tryd.underlying34
  have HB := Aside0.mk (Below.refl w.heap.size w)
  have H : (if a1_2 < 0 then (chisellaw14_ends.j0 k a0 true a1_0 a1_1 a1_2) else (chisellaw14_ends.j0 k a0 (decide (a1_2 ≥ (a0.size : Int))) a1_0 a1_1 a1_2)) = some r := h
  clear h
  have HC3 := Aside0.mk H
  clear H
  go_enter Tryd.func15, Tryd.ntmps15
  go_upto_region 1 with (first | ((with_reducible refine gate_dst (N := 3) rfl ?_); (try (refine gate_guard (by rfl) ?_; dsimp only)); refine box_event ?hg (N := 3) ?hd (cs := #[.int .i64 a1_0, .string a1_1, .int .i64 a1_2]) (t := 34) ?hr ?_; (case hd => rfl); (case hg => rfl); (case hr => first | (go_simp; done) | (go_simp; rfl)); intro gb232 hg w4 hbox hb; have n0_ := Aside0.mk (below_step (by repeat (first | (with_reducible first | exact HB.out | apply below_alloc | apply pw_below_drewN | apply below_drew1) | exact HB.out)) hb); have n1_ := Aside0.mk (hbox); have n2_ := Aside0.mk ((by rw [hg]; exact (below_size (by repeat (first | (with_reducible first | exact HB.out | apply below_alloc | apply pw_below_drewN | apply below_drew1) | exact HB.out))) : w.heap.size ≤ gb232)); have n3_ := Aside0.mk ((by rw [hg]; exact (below_size (by repeat (first | (with_reducible first | exact HB.out | apply below_alloc | apply pw_below_drewN | apply below_drew1) | exact HB.out))) : w.heap.size ≤ gb232)); clear HB; have HB := n0_; have BK232 := n1_; have GW232 := n2_; have GE232 := n3_; clear n0_ n1_ n2_ n3_; clear hb hbox hg))
  repeat (go_quiet (first | ((with_reducible refine gate_dst (N := 3) rfl ?_); (try (refine gate_guard (by rfl) ?_; dsimp only)); refine box_event ?hg (N := 3) ?hd (cs := #[.int .i64 a1_0, .string a1_1, .int .i64 a1_2]) (t := 34) ?hr ?_; (case hd => rfl); (case hg => rfl); (case hr => first | (go_simp; done) | (go_simp; rfl)); intro gb232 hg w4 hbox hb; have n0_ := Aside0.mk (below_step (by repeat (first | (with_reducible first | exact HB.out | apply below_alloc | apply pw_below_drewN | apply below_drew1) | exact HB.out)) hb); have n1_ := Aside0.mk (hbox); have n2_ := Aside0.mk ((by rw [hg]; exact (below_size (by repeat (first | (with_reducible first | exact HB.out | apply below_alloc | apply pw_below_drewN | apply below_drew1) | exact HB.out))) : w.heap.size ≤ gb232)); have n3_ := Aside0.mk ((by rw [hg]; exact (below_size (by repeat (first | (with_reducible first | exact HB.out | apply below_alloc | apply pw_below_drewN | apply below_drew1) | exact HB.out))) : w.heap.size ≤ gb232)); clear HB; have HB := n0_; have BK232 := n1_; have GW232 := n2_; have GE232 := n3_; clear n0_ n1_ n2_ n3_; clear hb hbox hg)); go_upto_region 1 with (first | ((with_reducible refine gate_dst (N := 3) rfl ?_); (try (refine gate_guard (by rfl) ?_; dsimp only)); refine box_event ?hg (N := 3) ?hd (cs := #[.int .i64 a1_0, .string a1_1, .int .i64 a1_2]) (t := 34) ?hr ?_; (case hd => rfl); (case hg => rfl); (case hr => first | (go_simp; done) | (go_simp; rfl)); intro gb232 hg w4 hbox hb; have n0_ := Aside0.mk (below_step (by repeat (first | (with_reducible first | exact HB.out | apply below_alloc | apply pw_below_drewN | apply below_drew1) | exact HB.out)) hb); have n1_ := Aside0.mk (hbox); have n2_ := Aside0.mk ((by rw [hg]; exact (below_size (by repeat (first | (with_reducible first | exact HB.out | apply below_alloc | apply pw_below_drewN | apply below_drew1) | exact HB.out))) : w.heap.size ≤ gb232)); have n3_ := Aside0.mk ((by rw [hg]; exact (below_size (by repeat (first | (with_reducible first | exact HB.out | apply below_alloc | apply pw_below_drewN | apply below_drew1) | exact HB.out))) : w.heap.size ≤ gb232)); clear HB; have HB := n0_; have BK232 := n1_; have GW232 := n2_; have GE232 := n3_; clear n0_ n1_ n2_ n3_; clear hb hbox hg)))
  (try simp only [Act.put, List.setIfInBounds_toArray, List.set_cons_zero, List.set_cons_succ])
  go_cut [18] (fun v18 wc => ∃ (kq : Nat) (x18_2 : Bool), v18 = .bool x18_2 ∧ Aside0 (chisellaw14_ends.j0 kq a0 x18_2 a1_0 a1_1 a1_2 = some r) ∧ Aside0 (kq ≤ k) ∧ Aside0 (wc.heap[gb232]? = some (.cells #[.int .i64 a1_0, .string a1_1, .int .i64 a1_2] 34 (0, 0))) ∧ Aside0 (Below w.heap.size w wc))
  case first =>
    have H := HC3.out
    clear HC3
    by_cases c5 : a1_2 < 0
    · rw [if_pos c5] at H
      have c5b0 : decide (a1_2 < 0) = true := decide_eq_true c5
      clear c5
      (first | rw [c5b0] | (simp only [i64_w, i32_w]; rw [c5b0]) | skip)
      have H' := Aside0.mk H
      clear H
      have hcz6_0 : w4.cell? ⟨gb232, 0, none⟩ = some (.int .i64 a1_0) := (blk_cell BK232.out 0).trans rfl
      have hcz6_1 : w4.cell? ⟨gb232, 1, none⟩ = some (.string a1_1) := (blk_cell BK232.out 1).trans rfl
      have hcz6_2 : w4.cell? ⟨gb232, 2, none⟩ = some (.int .i64 a1_2) := (blk_cell BK232.out 2).trans rfl
      have hfz6_0 := blk_frozen BK232.out 0
      have hfz6_1 := blk_frozen BK232.out 1
      have hfz6_2 := blk_frozen BK232.out 2
      go_wp2
      repeat (go_quiet (fail); try go_wp2)
      go_meet
      case rel => exact ⟨_, (true), (by first | rfl | (simp; done) | (simp [*]; done)), H', ⟨by first | omega | exact Nat.le_refl _⟩, ⟨by (with_reducible repeat (first | refine blk_drewN ?_ _ | refine blk_drew ?_ | refine blk_alloc ?_ _)); exact BK232.out⟩, ⟨by repeat (first | (with_reducible first | exact HB.out | apply below_alloc | apply pw_below_drewN | apply below_drew1 | refine below_set ?_ GE232.out) | exact HB.out)⟩⟩
    · rw [if_neg c5] at H
      have c5b0 : decide (a1_2 < 0) = false := decide_eq_false c5
      clear c5
      (first | rw [c5b0] | (simp only [i64_w, i32_w]; rw [c5b0]) | skip)
      have H' := Aside0.mk H
      clear H
      have hcz7_0 : w4.cell? ⟨gb232, 0, none⟩ = some (.int .i64 a1_0) := (blk_cell BK232.out 0).trans rfl
      have hcz7_1 : w4.cell? ⟨gb232, 1, none⟩ = some (.string a1_1) := (blk_cell BK232.out 1).trans rfl
      have hcz7_2 : w4.cell? ⟨gb232, 2, none⟩ = some (.int .i64 a1_2) := (blk_cell BK232.out 2).trans rfl
      have hfz7_0 := blk_frozen BK232.out 0
      have hfz7_1 := blk_frozen BK232.out 1
      have hfz7_2 := blk_frozen BK232.out 2
      go_wp2
      repeat (go_quiet (fail); try go_wp2)
      go_meet
      case rel => exact ⟨_, (decide (a1_2 ≥ (a0.size : Int))), (by first | rfl | (simp; done) | (simp [*]; done)), H', ⟨by first | omega | exact Nat.le_refl _⟩, ⟨by (with_reducible repeat (first | refine blk_drewN ?_ _ | refine blk_drew ?_ | refine blk_alloc ?_ _)); exact BK232.out⟩, ⟨by repeat (first | (with_reducible first | exact HB.out | apply below_alloc | apply pw_below_drewN | apply below_drew1 | refine below_set ?_ GE232.out) | exact HB.out)⟩⟩
  case rest =>
    clear HC3
    try clear c1
    try clear p2
    try clear c5
    try clear c5b0
    try clear hcz6_0
    try clear hcz6_1
    try clear hcz6_2
    try clear hcz7_0
    try clear hcz7_1
    try clear hcz7_2
    try clear hfz6_0
    try clear hfz6_1
    try clear hfz6_2
    try clear hfz7_0
    try clear hfz7_1
    try clear hfz7_2
    obtain ⟨kq, x18_2, rfl, HA, HJ2, BK232, HB⟩ := hcut
    cases kq with
    | zero => exact absurd HA.out (by simp [chisellaw14_ends.j0])
    | succ kj2 =>
      have H := HA.out
      clear HA
      simp only [chisellaw14_ends.j0] at H
      by_cases c8 : x18_2 = true
      · subst c8
        have H1 : (some (-1)) = some r := by rw [if_pos rfl] at H; exact H
        clear H
        have H := H1
        clear H1
        obtain rfl := Option.some.inj H
        go_wp2
        repeat (go_quiet (fail); try go_wp2)
        go_ret
        exact ⟨by first | rfl | (simp [errW_none, errW_some] <;> rfl) | (simp [*, errW_none, errW_some] <;> rfl), by repeat (first | (with_reducible first | exact HB.out | apply below_alloc | apply pw_below_drewN | apply below_drew1 | refine below_set ?_ GE232.out) | exact HB.out)⟩
      · replace c8 := Bool.eq_false_iff.mpr c8
        subst c8
        have H1 : (if a1_0 = 2 then (if 0 ≤ a1_2 then (if a1_2 < (a0.size : Int) then (if (bt a0 a1_2) = 34 then (chisellaw14_ends.j1 kj2 a0 (bt a0 a1_2) false a1_0 a1_1 a1_2) else (chisellaw14_ends.j1 kj2 a0 (bt a0 a1_2) ((bt a0 a1_2) != 39) a1_0 a1_1 a1_2)) else (none)) else (none)) else (if (wrap64 (a1_2 + (a1_1.size : Int))) > (a0.size : Int) then (some (-1)) else (if 0 ≤ a1_2 then (if a1_2 ≤ (wrap64 (a1_2 + (a1_1.size : Int))) then (if (wrap64 (a1_2 + (a1_1.size : Int))) ≤ (a0.size : Int) then (if (a0.extract (a1_2 : Int).toNat ((wrap64 (a1_2 + (a1_1.size : Int))) : Int).toNat).toList = a1_1.toList then (some (wrap64 (a1_2 + (a1_1.size : Int)))) else (some (-1))) else (none)) else (none)) else (none)))) = some r := by rw [if_neg (show ¬ (false = true) by decide)] at H; exact H
        clear H
        have H := H1
        clear H1
        by_cases c9 : a1_0 = 2
        · rw [if_pos c9] at H
          have c9b0 : (a1_0 == 2) = true := beq_iff_eq.mpr c9
          have c9b1 : (a1_0 != 2) = false := bne_eq_false_iff_eq.mpr c9
          clear c9
          by_cases c10 : 0 ≤ a1_2
          · rw [if_pos c10] at H
            have c10b0 : decide (0 ≤ a1_2) = true := decide_eq_true c10
            clear c10
            by_cases c11 : a1_2 < (a0.size : Int)
            · rw [if_pos c11] at H
              have c11b0 : decide (a1_2 < (a0.size : Int)) = true := decide_eq_true c11
              clear c11
              have HC13 := Aside0.mk H
              clear H
              have hcz14_0 : wc.cell? ⟨gb232, 0, none⟩ = some (.int .i64 a1_0) := (blk_cell BK232.out 0).trans rfl
              have hcz14_1 : wc.cell? ⟨gb232, 1, none⟩ = some (.string a1_1) := (blk_cell BK232.out 1).trans rfl
              have hcz14_2 : wc.cell? ⟨gb232, 2, none⟩ = some (.int .i64 a1_2) := (blk_cell BK232.out 2).trans rfl
              have hfz14_0 := blk_frozen BK232.out 0
              have hfz14_1 := blk_frozen BK232.out 1
              have hfz14_2 := blk_frozen BK232.out 2
              have p12 : 0 ≤ (a1_2 : Int) := of_decide_eq_true (by first | (with_reducible assumption) | assumption)
              have q12 : a1_2 < (a0.size : Int) := of_decide_eq_true (by first | (with_reducible assumption) | assumption)
              have hx12 := bt_at a0 a1_2
              replace p12 := eq_true p12
              replace q12 := eq_true q12
              go_upto_region 9 with (fail)
              repeat (go_quiet (fail); go_upto_region 9 with (fail))
              go_cut [52] (fun v52 wc => ∃ (kq : Nat) (x52_12 : Bool), v52 = .bool x52_12 ∧ Aside0 (chisellaw14_ends.j1 kq a0 (bt a0 a1_2) x52_12 a1_0 a1_1 a1_2 = some r) ∧ Aside0 (kq ≤ kj2) ∧ Aside0 (wc.heap[gb232]? = some (.cells #[.int .i64 a1_0, .string a1_1, .int .i64 a1_2] 34 (0, 0))) ∧ Aside0 (Below w.heap.size w wc))
              case first =>
                have H := HC13.out
                clear HC13
                by_cases c15 : (bt a0 a1_2) = 34
                · rw [if_pos c15] at H
                  have c15b0 : ((bt a0 a1_2) == 34) = true := beq_iff_eq.mpr c15
                  have c15b1 : ((bt a0 a1_2) != 34) = false := bne_eq_false_iff_eq.mpr c15
                  clear c15
                  (first | rw [c15b0] | (simp only [i64_w, i32_w]; rw [c15b0]) | skip)
                  have H' := Aside0.mk H
                  clear H
                  go_wp2
                  repeat (go_quiet (fail); try go_wp2)
                  go_meet
                  case rel => exact ⟨_, (false), (by first | rfl | (simp; done) | (simp [*]; done)), H', ⟨by have := HJ2.out; first | omega | exact Nat.le_refl _⟩, ⟨by (with_reducible repeat (first | refine blk_drewN ?_ _ | refine blk_drew ?_ | refine blk_alloc ?_ _)); exact BK232.out⟩, ⟨by repeat (first | (with_reducible first | exact HB.out | apply below_alloc | apply pw_below_drewN | apply below_drew1 | refine below_set ?_ GE232.out) | exact HB.out)⟩⟩
                · rw [if_neg c15] at H
                  have c15b0 : ((bt a0 a1_2) == 34) = false := beq_eq_false_iff_ne.mpr c15
                  have c15b1 : ((bt a0 a1_2) != 34) = true := bne_iff_ne.mpr c15
                  (first | rw [c15b0] | (simp only [i64_w, i32_w]; rw [c15b0]) | skip)
                  have H' := Aside0.mk H
                  clear H
                  go_wp2
                  repeat (go_quiet (fail); try go_wp2)
                  go_meet
                  case rel => exact ⟨_, (((bt a0 a1_2) != 39)), (by first | rfl | (simp; done) | (simp [*]; done)), H', ⟨by have := HJ2.out; first | omega | exact Nat.le_refl _⟩, ⟨by (with_reducible repeat (first | refine blk_drewN ?_ _ | refine blk_drew ?_ | refine blk_alloc ?_ _)); exact BK232.out⟩, ⟨by repeat (first | (with_reducible first | exact HB.out | apply below_alloc | apply pw_below_drewN | apply below_drew1 | refine below_set ?_ GE232.out) | exact HB.out)⟩⟩
              case rest =>
                clear HC13
                try clear c1
                try clear p1
                try clear q1
                try clear hx1
                try clear p2
                try clear c5
                try clear c5b0
                try clear p6
                try clear c8
                try clear c9
                try clear c9b0
                try clear c9b1
                try clear c10
                try clear c10b0
                try clear c11
                try clear c11b0
                try clear p12
                try clear q12
                try clear hx12
                try clear c15
                try clear c15b0
                try clear c15b1
                try clear hcz14_0
                try clear hcz14_1
                try clear hcz14_2
                try clear hcz6_0
                try clear hcz6_1
                try clear hcz6_2
                try clear hcz7_0
                try clear hcz7_1
                try clear hcz7_2
                try clear hfz14_0
                try clear hfz14_1
                try clear hfz14_2
                try clear hfz6_0
                try clear hfz6_1
                try clear hfz6_2
                try clear hfz7_0
                try clear hfz7_1
                try clear hfz7_2
                try clear p12
                try clear p2
                try clear q12
                obtain ⟨kq, x52_12, rfl, HA, HJ12, BK232, HB⟩ := hcut
                cases kq with
                | zero => exact absurd HA.out (by simp [chisellaw14_ends.j1])
                | succ kj12 =>
                  have H := HA.out
                  clear HA
                  simp only [chisellaw14_ends.j1] at H
                  by_cases c16 : x52_12 = true
                  · subst c16
                    have H1 : (some (-1)) = some r := by rw [if_pos rfl] at H; exact H
                    clear H
                    have H := H1
                    clear H1
                    obtain rfl := Option.some.inj H
                    go_wp2
                    repeat (go_quiet (fail); try go_wp2)
                    go_ret
                    exact ⟨by first | rfl | (simp [errW_none, errW_some] <;> rfl) | (simp [*, errW_none, errW_some] <;> rfl), by repeat (first | (with_reducible first | exact HB.out | apply below_alloc | apply pw_below_drewN | apply below_drew1 | refine below_set ?_ GE232.out) | exact HB.out)⟩
                  · replace c16 := Bool.eq_false_iff.mpr c16
                    subst c16
                    have H1 : (chisellaw14_ends.l0 kj12 a0 (bt a0 a1_2) (wrap64 (a1_2 + 1)) 0 a1_0 a1_1 a1_2) = some r := by rw [if_neg (show ¬ (false = true) by decide)] at H; exact H
                    clear H
                    have H := H1
                    clear H1
                    have H' := Aside0.mk H
                    clear H
                    have hcz17_0 : wc.cell? ⟨gb232, 0, none⟩ = some (.int .i64 a1_0) := (blk_cell BK232.out 0).trans rfl
                    have hcz17_1 : wc.cell? ⟨gb232, 1, none⟩ = some (.string a1_1) := (blk_cell BK232.out 1).trans rfl
                    have hcz17_2 : wc.cell? ⟨gb232, 2, none⟩ = some (.int .i64 a1_2) := (blk_cell BK232.out 2).trans rfl
                    have hfz17_0 := blk_frozen BK232.out 0
                    have hfz17_1 := blk_frozen BK232.out 1
                    have hfz17_2 := blk_frozen BK232.out 2
                    go_wp2
                    repeat (go_quiet (fail); try go_wp2)
                    go_loopg [7, 8] kj12 (fun kq v7 v8 w' => ∃ (x7_3 : Int) (x8_3 : Int), v7 = .int .i64 x7_3 ∧ v8 = .int .i64 x8_3 ∧ Aside0 (chisellaw14_ends.l0 kq a0 (bt a0 a1_2) x7_3 x8_3 a1_0 a1_1 a1_2 = some r) ∧ Aside0 (kq ≤ kj12) ∧ Aside0 (w'.heap[gb232]? = some (.cells #[.int .i64 a1_0, .string a1_1, .int .i64 a1_2] 34 (0, 0))) ∧ Aside0 (Below w.heap.size w w'))
                    case atStart => exact ⟨(wrap64 (a1_2 + 1)), (0), (by first | rfl | (simp; done) | (simp [*]; done)), (by first | rfl | (simp; done) | (simp [*]; done)), H', ⟨Nat.le_refl _⟩, ⟨by (with_reducible repeat (first | refine blk_drewN ?_ _ | refine blk_drew ?_ | refine blk_alloc ?_ _)); exact BK232.out⟩, ⟨by repeat (first | (with_reducible first | exact HB.out | apply below_alloc | apply pw_below_drewN | apply below_drew1 | refine below_set ?_ GE232.out) | exact HB.out)⟩⟩
                    case round =>
                      clear H'
                      try clear c1
                      try clear p1
                      try clear q1
                      try clear hx1
                      try clear p2
                      try clear c5
                      try clear c5b0
                      try clear p6
                      try clear c8
                      try clear c9
                      try clear c9b0
                      try clear c9b1
                      try clear c10
                      try clear c10b0
                      try clear c11
                      try clear c11b0
                      try clear p12
                      try clear q12
                      try clear hx12
                      try clear c15
                      try clear c15b0
                      try clear c15b1
                      try clear c16
                      try clear hcz14_0
                      try clear hcz14_1
                      try clear hcz14_2
                      try clear hcz17_0
                      try clear hcz17_1
                      try clear hcz17_2
                      try clear hcz6_0
                      try clear hcz6_1
                      try clear hcz6_2
                      try clear hcz7_0
                      try clear hcz7_1
                      try clear hcz7_2
                      try clear hfz14_0
                      try clear hfz14_1
                      try clear hfz14_2
                      try clear hfz17_0
                      try clear hfz17_1
                      try clear hfz17_2
                      try clear hfz6_0
                      try clear hfz6_1
                      try clear hfz6_2
                      try clear hfz7_0
                      try clear hfz7_1
                      try clear hfz7_2
                      try clear p1
                      try clear p12
                      try clear p2
                      try clear p6
                      try clear q1
                      try clear q12
                      obtain ⟨x7_3, x8_3, rfl, rfl, HA, HK3, BK232, HB⟩ := hrel
                      cases gk with
                      | zero => exact absurd HA.out (by simp [chisellaw14_ends.l0])
                      | succ k3 =>
                        have H := HA.out
                        clear HA
                        simp only [chisellaw14_ends.l0] at H
                        by_cases c18 : x8_3 < (a1_1.size : Int)
                        · rw [if_pos c18] at H
                          have c18b0 : decide (x8_3 < (a1_1.size : Int)) = true := decide_eq_true c18
                          clear c18
                          have HC19 := Aside0.mk H
                          clear H
                          have hcz20_0 : wr.cell? ⟨gb232, 0, none⟩ = some (.int .i64 a1_0) := (blk_cell BK232.out 0).trans rfl
                          have hcz20_1 : wr.cell? ⟨gb232, 1, none⟩ = some (.string a1_1) := (blk_cell BK232.out 1).trans rfl
                          have hcz20_2 : wr.cell? ⟨gb232, 2, none⟩ = some (.int .i64 a1_2) := (blk_cell BK232.out 2).trans rfl
                          have hfz20_0 := blk_frozen BK232.out 0
                          have hfz20_1 := blk_frozen BK232.out 1
                          have hfz20_2 := blk_frozen BK232.out 2
                          go_upto_region 15 with (fail)
                          repeat (go_quiet (fail); go_upto_region 15 with (fail))
                          go_cut [76] (fun v76 wc => ∃ (kq : Nat) (x76_18 : Bool), v76 = .bool x76_18 ∧ Aside0 (chisellaw14_ends.j3 kq a0 (bt a0 a1_2) x7_3 x8_3 x76_18 a1_0 a1_1 a1_2 = some r) ∧ Aside0 (kq ≤ k3) ∧ Aside0 (wc.heap[gb232]? = some (.cells #[.int .i64 a1_0, .string a1_1, .int .i64 a1_2] 34 (0, 0))) ∧ Aside0 (Below w.heap.size w wc))
                          case first =>
                            have H := HC19.out
                            clear HC19
                            by_cases c21 : x7_3 ≥ (a0.size : Int)
                            · rw [if_pos c21] at H
                              have c21b0 : decide ((a0.size : Int) ≤ x7_3) = true := decide_eq_true c21
                              clear c21
                              (first | rw [c21b0] | (simp only [i64_w, i32_w]; rw [c21b0]) | skip)
                              have H' := Aside0.mk H
                              clear H
                              go_wp2
                              repeat (go_quiet (fail); try go_wp2)
                              go_meet
                              case rel => exact ⟨_, (true), (by first | rfl | (simp; done) | (simp [*]; done)), H', ⟨by have := HJ2.out; have := HJ12.out; have := HK3.out; first | omega | exact Nat.le_refl _⟩, ⟨by (with_reducible repeat (first | refine blk_drewN ?_ _ | refine blk_drew ?_ | refine blk_alloc ?_ _)); exact BK232.out⟩, ⟨by repeat (first | (with_reducible first | exact HB.out | apply below_alloc | apply pw_below_drewN | apply below_drew1 | refine below_set ?_ GE232.out) | exact HB.out)⟩⟩
                            · rw [if_neg c21] at H
                              have c21b0 : decide ((a0.size : Int) ≤ x7_3) = false := decide_eq_false c21
                              clear c21
                              (first | rw [c21b0] | (simp only [i64_w, i32_w]; rw [c21b0]) | skip)
                              by_cases c22 : 0 ≤ x7_3
                              · rw [if_pos c22] at H
                                have c22b0 : decide (0 ≤ x7_3) = true := decide_eq_true c22
                                clear c22
                                by_cases c23 : x7_3 < (a0.size : Int)
                                · rw [if_pos c23] at H
                                  have c23b0 : decide (x7_3 < (a0.size : Int)) = true := decide_eq_true c23
                                  clear c23
                                  by_cases c25 : 0 ≤ x8_3
                                  · rw [if_pos c25] at H
                                    have c25b0 : decide (0 ≤ x8_3) = true := decide_eq_true c25
                                    clear c25
                                    have H' := Aside0.mk H
                                    clear H
                                    have p24 : 0 ≤ (x7_3 : Int) := of_decide_eq_true (by first | (with_reducible assumption) | assumption)
                                    have q24 : x7_3 < (a0.size : Int) := of_decide_eq_true (by first | (with_reducible assumption) | assumption)
                                    have hx24 := bt_at a0 x7_3
                                    replace p24 := eq_true p24
                                    replace q24 := eq_true q24
                                    have hcz27_0 : wr.cell? ⟨gb232, 0, none⟩ = some (.int .i64 a1_0) := (blk_cell BK232.out 0).trans rfl
                                    have hcz27_1 : wr.cell? ⟨gb232, 1, none⟩ = some (.string a1_1) := (blk_cell BK232.out 1).trans rfl
                                    have hcz27_2 : wr.cell? ⟨gb232, 2, none⟩ = some (.int .i64 a1_2) := (blk_cell BK232.out 2).trans rfl
                                    have hfz27_0 := blk_frozen BK232.out 0
                                    have hfz27_1 := blk_frozen BK232.out 1
                                    have hfz27_2 := blk_frozen BK232.out 2
                                    have p26 : 0 ≤ (x8_3 : Int) := of_decide_eq_true (by first | (with_reducible assumption) | assumption)
                                    have q26 : x8_3 < (a1_1.size : Int) := of_decide_eq_true (by first | (with_reducible assumption) | assumption)
                                    have hx26 := bt_at a1_1 x8_3
                                    replace p26 := eq_true p26
                                    replace q26 := eq_true q26
                                    go_wp2
                                    repeat (go_quiet (fail); try go_wp2)
                                    go_meet
                                    case rel => exact ⟨_, (((bt a0 x7_3) != (bt a1_1 x8_3))), (by first | rfl | (simp; done) | (simp [*]; done)), H', ⟨by have := HJ2.out; have := HJ12.out; have := HK3.out; first | omega | exact Nat.le_refl _⟩, ⟨by (with_reducible repeat (first | refine blk_drewN ?_ _ | refine blk_drew ?_ | refine blk_alloc ?_ _)); exact BK232.out⟩, ⟨by repeat (first | (with_reducible first | exact HB.out | apply below_alloc | apply pw_below_drewN | apply below_drew1 | refine below_set ?_ GE232.out) | exact HB.out)⟩⟩
                                  · rw [if_neg c25] at H
                                    exact absurd H (by simp)
                                · rw [if_neg c23] at H
                                  exact absurd H (by simp)
                              · rw [if_neg c22] at H
                                exact absurd H (by simp)
                          case rest =>
                            clear HC19
                            try clear c1
                            try clear p1
                            try clear q1
                            try clear hx1
                            try clear c2
                            try clear p2
                            try clear q2
                            try clear hx2
                            try clear c5
                            try clear c5b0
                            try clear p6
                            try clear c8
                            try clear c9
                            try clear c9b0
                            try clear c9b1
                            try clear c10
                            try clear c10b0
                            try clear c11
                            try clear c11b0
                            try clear p12
                            try clear q12
                            try clear hx12
                            try clear c15
                            try clear c15b0
                            try clear c15b1
                            try clear c16
                            try clear c18
                            try clear c18b0
                            try clear c21
                            try clear c21b0
                            try clear c22
                            try clear c22b0
                            try clear c23
                            try clear c23b0
                            try clear p24
                            try clear q24
                            try clear hx24
                            try clear c25
                            try clear c25b0
                            try clear p26
                            try clear q26
                            try clear hx26
                            try clear hcz14_0
                            try clear hcz14_1
                            try clear hcz14_2
                            try clear hcz17_0
                            try clear hcz17_1
                            try clear hcz17_2
                            try clear hcz20_0
                            try clear hcz20_1
                            try clear hcz20_2
                            try clear hcz27_0
                            try clear hcz27_1
                            try clear hcz27_2
                            try clear hcz6_0
                            try clear hcz6_1
                            try clear hcz6_2
                            try clear hcz7_0
                            try clear hcz7_1
                            try clear hcz7_2
                            try clear hfz14_0
                            try clear hfz14_1
                            try clear hfz14_2
                            try clear hfz17_0
                            try clear hfz17_1
                            try clear hfz17_2
                            try clear hfz20_0
                            try clear hfz20_1
                            try clear hfz20_2
                            try clear hfz27_0
                            try clear hfz27_1
                            try clear hfz27_2
                            try clear hfz6_0
                            try clear hfz6_1
                            try clear hfz6_2
                            try clear hfz7_0
                            try clear hfz7_1
                            try clear hfz7_2
                            try clear p1
                            try clear p12
                            try clear p2
                            try clear p24
                            try clear p26
                            try clear p6
                            try clear q1
                            try clear q12
                            try clear q24
                            try clear q26
                            obtain ⟨kq, x76_18, rfl, HA, HJ18, BK232, HB⟩ := hcut
                            cases kq with
                            | zero => exact absurd HA.out (by simp [chisellaw14_ends.j3])
                            | succ kj18 =>
                              have H := HA.out
                              clear HA
                              simp only [chisellaw14_ends.j3] at H
                              by_cases c28 : x76_18 = true
                              · subst c28
                                have H1 : (some (-1)) = some r := by rw [if_pos rfl] at H; exact H
                                clear H
                                have H := H1
                                clear H1
                                obtain rfl := Option.some.inj H
                                go_wp2
                                repeat (go_quiet (fail); try go_wp2)
                                go_ret
                                exact ⟨by first | rfl | (simp [errW_none, errW_some] <;> rfl) | (simp [*, errW_none, errW_some] <;> rfl), by repeat (first | (with_reducible first | exact HB.out | apply below_alloc | apply pw_below_drewN | apply below_drew1 | refine below_set ?_ GE232.out) | exact HB.out)⟩
                              · replace c28 := Bool.eq_false_iff.mpr c28
                                subst c28
                                have H1 : (if 0 ≤ x8_3 then (if x8_3 < (a1_1.size : Int) then (if (bt a1_1 x8_3) = (bt a0 a1_2) then (if (wrap64 (x7_3 + 1)) ≥ (a0.size : Int) then (some (-1)) else (if 0 ≤ (wrap64 (x7_3 + 1)) then (if (wrap64 (x7_3 + 1)) < (a0.size : Int) then (if (bt a0 (wrap64 (x7_3 + 1))) = (bt a0 a1_2) then (chisellaw14_ends.l0 kj18 a0 (bt a0 a1_2) (wrap64 ((wrap64 (x7_3 + 1)) + 1)) (wrap64 (x8_3 + 1)) a1_0 a1_1 a1_2) else (some (-1))) else (none)) else (none))) else (chisellaw14_ends.l0 kj18 a0 (bt a0 a1_2) (wrap64 (x7_3 + 1)) (wrap64 (x8_3 + 1)) a1_0 a1_1 a1_2)) else (none)) else (none)) = some r := by rw [if_neg (show ¬ (false = true) by decide)] at H; exact H
                                clear H
                                have H := H1
                                clear H1
                                by_cases c29 : 0 ≤ x8_3
                                · rw [if_pos c29] at H
                                  have c29b0 : decide (0 ≤ x8_3) = true := decide_eq_true c29
                                  clear c29
                                  by_cases c30 : x8_3 < (a1_1.size : Int)
                                  · rw [if_pos c30] at H
                                    have c30b0 : decide (x8_3 < (a1_1.size : Int)) = true := decide_eq_true c30
                                    clear c30
                                    by_cases c32 : (bt a1_1 x8_3) = (bt a0 a1_2)
                                    · rw [if_pos c32] at H
                                      have c32b0 : ((bt a1_1 x8_3) == (bt a0 a1_2)) = true := beq_iff_eq.mpr c32
                                      have c32b1 : ((bt a1_1 x8_3) != (bt a0 a1_2)) = false := bne_eq_false_iff_eq.mpr c32
                                      clear c32
                                      by_cases c33 : (wrap64 (x7_3 + 1)) ≥ (a0.size : Int)
                                      · rw [if_pos c33] at H
                                        have c33b0 : decide ((a0.size : Int) ≤ (wrap64 (x7_3 + 1))) = true := decide_eq_true c33
                                        clear c33
                                        obtain rfl := Option.some.inj H
                                        have hcz34_0 : wc.cell? ⟨gb232, 0, none⟩ = some (.int .i64 a1_0) := (blk_cell BK232.out 0).trans rfl
                                        have hcz34_1 : wc.cell? ⟨gb232, 1, none⟩ = some (.string a1_1) := (blk_cell BK232.out 1).trans rfl
                                        have hcz34_2 : wc.cell? ⟨gb232, 2, none⟩ = some (.int .i64 a1_2) := (blk_cell BK232.out 2).trans rfl
                                        have hfz34_0 := blk_frozen BK232.out 0
                                        have hfz34_1 := blk_frozen BK232.out 1
                                        have hfz34_2 := blk_frozen BK232.out 2
                                        have p31 : 0 ≤ (x8_3 : Int) := of_decide_eq_true (by first | (with_reducible assumption) | assumption)
                                        have q31 : x8_3 < (a1_1.size : Int) := of_decide_eq_true (by first | (with_reducible assumption) | assumption)
                                        have hx31 := bt_at a1_1 x8_3
                                        replace p31 := eq_true p31
                                        replace q31 := eq_true q31
                                        go_wp2
                                        repeat (go_quiet (fail); try go_wp2)
                                        go_ret
                                        exact ⟨by first | rfl | (simp [errW_none, errW_some] <;> rfl) | (simp [*, errW_none, errW_some] <;> rfl), by repeat (first | (with_reducible first | exact HB.out | apply below_alloc | apply pw_below_drewN | apply below_drew1 | refine below_set ?_ GE232.out) | exact HB.out)⟩
                                      · rw [if_neg c33] at H
                                        have c33b0 : decide ((a0.size : Int) ≤ (wrap64 (x7_3 + 1))) = false := decide_eq_false c33
                                        clear c33
                                        obtain ⟨ji35, hji35⟩ : ∃ j_ : Int, (wrap64 (x7_3 + 1)) = j_ := ⟨_, rfl⟩
                                        replace H : (if 0 ≤ (ji35) then (if (ji35) < (a0.size : Int) then (if (bt a0 (ji35)) = (bt a0 a1_2) then (chisellaw14_ends.l0 kj18 a0 (bt a0 a1_2) (wrap64 ((ji35) + 1)) (wrap64 (x8_3 + 1)) a1_0 a1_1 a1_2) else (some (-1))) else (none)) else (none)) = some r := by first | (rw [hji35] at H; exact H) | (simp only [hji35] at H ⊢; exact H)
                                        (try rw [hji35] at c33b0)
                                        have hji35w : (IntKind.i64.wrap (x7_3 + 1)) = ji35 := (i64_w _).trans hji35
                                        by_cases c36 : 0 ≤ (ji35)
                                        · rw [if_pos c36] at H
                                          have c36b0 : decide (0 ≤ (ji35)) = true := decide_eq_true c36
                                          clear c36
                                          by_cases c37 : (ji35) < (a0.size : Int)
                                          · rw [if_pos c37] at H
                                            have c37b0 : decide ((ji35) < (a0.size : Int)) = true := decide_eq_true c37
                                            clear c37
                                            by_cases c39 : (bt a0 (ji35)) = (bt a0 a1_2)
                                            · rw [if_pos c39] at H
                                              have c39b0 : ((bt a0 (ji35)) == (bt a0 a1_2)) = true := beq_iff_eq.mpr c39
                                              have c39b1 : ((bt a0 (ji35)) != (bt a0 a1_2)) = false := bne_eq_false_iff_eq.mpr c39
                                              clear c39
                                              have H' := Aside0.mk H
                                              clear H
                                              have hcz40_0 : wc.cell? ⟨gb232, 0, none⟩ = some (.int .i64 a1_0) := (blk_cell BK232.out 0).trans rfl
                                              have hcz40_1 : wc.cell? ⟨gb232, 1, none⟩ = some (.string a1_1) := (blk_cell BK232.out 1).trans rfl
                                              have hcz40_2 : wc.cell? ⟨gb232, 2, none⟩ = some (.int .i64 a1_2) := (blk_cell BK232.out 2).trans rfl
                                              have hfz40_0 := blk_frozen BK232.out 0
                                              have hfz40_1 := blk_frozen BK232.out 1
                                              have hfz40_2 := blk_frozen BK232.out 2
                                              have p31 : 0 ≤ (x8_3 : Int) := of_decide_eq_true (by first | (with_reducible assumption) | assumption)
                                              have q31 : x8_3 < (a1_1.size : Int) := of_decide_eq_true (by first | (with_reducible assumption) | assumption)
                                              have hx31 := bt_at a1_1 x8_3
                                              replace p31 := eq_true p31
                                              replace q31 := eq_true q31
                                              have p38 : 0 ≤ ((ji35) : Int) := of_decide_eq_true (by first | (with_reducible assumption) | assumption)
                                              have q38 : (ji35) < (a0.size : Int) := of_decide_eq_true (by first | (with_reducible assumption) | assumption)
                                              have hx38 := bt_at a0 (ji35)
                                              replace p38 := eq_true p38
                                              replace q38 := eq_true q38
                                              go_wp2
                                              repeat (go_quiet (fail); try go_wp2)
                                              go_roundg kj18
                                              case measure => have := HJ2.out; have := HJ12.out; have := HK3.out; have := HJ18.out; omega
                                              case rel => exact ⟨(wrap64 ((ji35) + 1)), (wrap64 (x8_3 + 1)), (by first | rfl | (simp; done) | (simp only [← hji35] <;> (first | rfl | simp)) | (simp [*]; done)), (by first | rfl | (simp; done) | (simp [*]; done)), H', ⟨by have := HJ2.out; have := HJ12.out; have := HK3.out; have := HJ18.out; omega⟩, ⟨by (with_reducible repeat (first | refine blk_drewN ?_ _ | refine blk_drew ?_ | refine blk_alloc ?_ _)); exact BK232.out⟩, ⟨by repeat (first | (with_reducible first | exact HB.out | apply below_alloc | apply pw_below_drewN | apply below_drew1 | refine below_set ?_ GE232.out) | exact HB.out)⟩⟩
                                            · rw [if_neg c39] at H
                                              have c39b0 : ((bt a0 (ji35)) == (bt a0 a1_2)) = false := beq_eq_false_iff_ne.mpr c39
                                              have c39b1 : ((bt a0 (ji35)) != (bt a0 a1_2)) = true := bne_iff_ne.mpr c39
                                              obtain rfl := Option.some.inj H
                                              have hcz41_0 : wc.cell? ⟨gb232, 0, none⟩ = some (.int .i64 a1_0) := (blk_cell BK232.out 0).trans rfl
                                              have hcz41_1 : wc.cell? ⟨gb232, 1, none⟩ = some (.string a1_1) := (blk_cell BK232.out 1).trans rfl
                                              have hcz41_2 : wc.cell? ⟨gb232, 2, none⟩ = some (.int .i64 a1_2) := (blk_cell BK232.out 2).trans rfl
                                              have hfz41_0 := blk_frozen BK232.out 0
                                              have hfz41_1 := blk_frozen BK232.out 1
                                              have hfz41_2 := blk_frozen BK232.out 2
                                              have p31 : 0 ≤ (x8_3 : Int) := of_decide_eq_true (by first | (with_reducible assumption) | assumption)
                                              have q31 : x8_3 < (a1_1.size : Int) := of_decide_eq_true (by first | (with_reducible assumption) | assumption)
                                              have hx31 := bt_at a1_1 x8_3
                                              replace p31 := eq_true p31
                                              replace q31 := eq_true q31
                                              have p38 : 0 ≤ ((ji35) : Int) := of_decide_eq_true (by first | (with_reducible assumption) | assumption)
                                              have q38 : (ji35) < (a0.size : Int) := of_decide_eq_true (by first | (with_reducible assumption) | assumption)
                                              have hx38 := bt_at a0 (ji35)
                                              replace p38 := eq_true p38
                                              replace q38 := eq_true q38
                                              go_wp2
                                              repeat (go_quiet (fail); try go_wp2)
                                              go_ret
                                              exact ⟨by first | rfl | (simp [errW_none, errW_some] <;> rfl) | (simp only [← hji35]; first | rfl | (simp [errW_none, errW_some] <;> rfl)) | (simp [*, errW_none, errW_some] <;> rfl), by repeat (first | (with_reducible first | exact HB.out | apply below_alloc | apply pw_below_drewN | apply below_drew1 | refine below_set ?_ GE232.out) | exact HB.out)⟩
                                          · rw [if_neg c37] at H
                                            exact absurd H (by simp)
                                        · rw [if_neg c36] at H
                                          exact absurd H (by simp)
                                    · rw [if_neg c32] at H
                                      have c32b0 : ((bt a1_1 x8_3) == (bt a0 a1_2)) = false := beq_eq_false_iff_ne.mpr c32
                                      have c32b1 : ((bt a1_1 x8_3) != (bt a0 a1_2)) = true := bne_iff_ne.mpr c32
                                      have H' := Aside0.mk H
                                      clear H
                                      have hcz42_0 : wc.cell? ⟨gb232, 0, none⟩ = some (.int .i64 a1_0) := (blk_cell BK232.out 0).trans rfl
                                      have hcz42_1 : wc.cell? ⟨gb232, 1, none⟩ = some (.string a1_1) := (blk_cell BK232.out 1).trans rfl
                                      have hcz42_2 : wc.cell? ⟨gb232, 2, none⟩ = some (.int .i64 a1_2) := (blk_cell BK232.out 2).trans rfl
                                      have hfz42_0 := blk_frozen BK232.out 0
                                      have hfz42_1 := blk_frozen BK232.out 1
                                      have hfz42_2 := blk_frozen BK232.out 2
                                      have p31 : 0 ≤ (x8_3 : Int) := of_decide_eq_true (by first | (with_reducible assumption) | assumption)
                                      have q31 : x8_3 < (a1_1.size : Int) := of_decide_eq_true (by first | (with_reducible assumption) | assumption)
                                      have hx31 := bt_at a1_1 x8_3
                                      replace p31 := eq_true p31
                                      replace q31 := eq_true q31
                                      go_wp2
                                      repeat (go_quiet (fail); try go_wp2)
                                      go_roundg kj18
                                      case measure => have := HJ2.out; have := HJ12.out; have := HK3.out; have := HJ18.out; omega
                                      case rel => exact ⟨(wrap64 (x7_3 + 1)), (wrap64 (x8_3 + 1)), (by first | rfl | (simp; done) | (simp [*]; done)), (by first | rfl | (simp; done) | (simp [*]; done)), H', ⟨by have := HJ2.out; have := HJ12.out; have := HK3.out; have := HJ18.out; omega⟩, ⟨by (with_reducible repeat (first | refine blk_drewN ?_ _ | refine blk_drew ?_ | refine blk_alloc ?_ _)); exact BK232.out⟩, ⟨by repeat (first | (with_reducible first | exact HB.out | apply below_alloc | apply pw_below_drewN | apply below_drew1 | refine below_set ?_ GE232.out) | exact HB.out)⟩⟩
                                  · rw [if_neg c30] at H
                                    exact absurd H (by simp)
                                · rw [if_neg c29] at H
                                  exact absurd H (by simp)
                        · rw [if_neg c18] at H
                          have c18b0 : decide (x8_3 < (a1_1.size : Int)) = false := decide_eq_false c18
                          clear c18
                          by_cases c43 : x7_3 ≥ (a0.size : Int)
                          · rw [if_pos c43] at H
                            have c43b0 : decide ((a0.size : Int) ≤ x7_3) = true := decide_eq_true c43
                            clear c43
                            obtain rfl := Option.some.inj H
                            have hcz44_0 : wr.cell? ⟨gb232, 0, none⟩ = some (.int .i64 a1_0) := (blk_cell BK232.out 0).trans rfl
                            have hcz44_1 : wr.cell? ⟨gb232, 1, none⟩ = some (.string a1_1) := (blk_cell BK232.out 1).trans rfl
                            have hcz44_2 : wr.cell? ⟨gb232, 2, none⟩ = some (.int .i64 a1_2) := (blk_cell BK232.out 2).trans rfl
                            have hfz44_0 := blk_frozen BK232.out 0
                            have hfz44_1 := blk_frozen BK232.out 1
                            have hfz44_2 := blk_frozen BK232.out 2
                            go_wp2
                            repeat (go_quiet (fail); try go_wp2)
                            go_ret
                            exact ⟨by first | rfl | (simp [errW_none, errW_some] <;> rfl) | (simp [*, errW_none, errW_some] <;> rfl), by repeat (first | (with_reducible first | exact HB.out | apply below_alloc | apply pw_below_drewN | apply below_drew1 | refine below_set ?_ GE232.out) | exact HB.out)⟩
                          · rw [if_neg c43] at H
                            have c43b0 : decide ((a0.size : Int) ≤ x7_3) = false := decide_eq_false c43
                            clear c43
                            by_cases c45 : 0 ≤ x7_3
                            · rw [if_pos c45] at H
                              have c45b0 : decide (0 ≤ x7_3) = true := decide_eq_true c45
                              clear c45
                              by_cases c46 : x7_3 < (a0.size : Int)
                              · rw [if_pos c46] at H
                                have c46b0 : decide (x7_3 < (a0.size : Int)) = true := decide_eq_true c46
                                clear c46
                                by_cases c48 : (bt a0 x7_3) = (bt a0 a1_2)
                                · rw [if_pos c48] at H
                                  have c48b0 : ((bt a0 x7_3) == (bt a0 a1_2)) = true := beq_iff_eq.mpr c48
                                  have c48b1 : ((bt a0 x7_3) != (bt a0 a1_2)) = false := bne_eq_false_iff_eq.mpr c48
                                  clear c48
                                  obtain rfl := Option.some.inj H
                                  have hcz49_0 : wr.cell? ⟨gb232, 0, none⟩ = some (.int .i64 a1_0) := (blk_cell BK232.out 0).trans rfl
                                  have hcz49_1 : wr.cell? ⟨gb232, 1, none⟩ = some (.string a1_1) := (blk_cell BK232.out 1).trans rfl
                                  have hcz49_2 : wr.cell? ⟨gb232, 2, none⟩ = some (.int .i64 a1_2) := (blk_cell BK232.out 2).trans rfl
                                  have hfz49_0 := blk_frozen BK232.out 0
                                  have hfz49_1 := blk_frozen BK232.out 1
                                  have hfz49_2 := blk_frozen BK232.out 2
                                  have p47 : 0 ≤ (x7_3 : Int) := of_decide_eq_true (by first | (with_reducible assumption) | assumption)
                                  have q47 : x7_3 < (a0.size : Int) := of_decide_eq_true (by first | (with_reducible assumption) | assumption)
                                  have hx47 := bt_at a0 x7_3
                                  replace p47 := eq_true p47
                                  replace q47 := eq_true q47
                                  go_wp2
                                  repeat (go_quiet (fail); try go_wp2)
                                  go_ret
                                  exact ⟨by first | rfl | (simp [errW_none, errW_some] <;> rfl) | (simp [*, errW_none, errW_some] <;> rfl), by repeat (first | (with_reducible first | exact HB.out | apply below_alloc | apply pw_below_drewN | apply below_drew1 | refine below_set ?_ GE232.out) | exact HB.out)⟩
                                · rw [if_neg c48] at H
                                  have c48b0 : ((bt a0 x7_3) == (bt a0 a1_2)) = false := beq_eq_false_iff_ne.mpr c48
                                  have c48b1 : ((bt a0 x7_3) != (bt a0 a1_2)) = true := bne_iff_ne.mpr c48
                                  obtain rfl := Option.some.inj H
                                  have hcz50_0 : wr.cell? ⟨gb232, 0, none⟩ = some (.int .i64 a1_0) := (blk_cell BK232.out 0).trans rfl
                                  have hcz50_1 : wr.cell? ⟨gb232, 1, none⟩ = some (.string a1_1) := (blk_cell BK232.out 1).trans rfl
                                  have hcz50_2 : wr.cell? ⟨gb232, 2, none⟩ = some (.int .i64 a1_2) := (blk_cell BK232.out 2).trans rfl
                                  have hfz50_0 := blk_frozen BK232.out 0
                                  have hfz50_1 := blk_frozen BK232.out 1
                                  have hfz50_2 := blk_frozen BK232.out 2
                                  have p47 : 0 ≤ (x7_3 : Int) := of_decide_eq_true (by first | (with_reducible assumption) | assumption)
                                  have q47 : x7_3 < (a0.size : Int) := of_decide_eq_true (by first | (with_reducible assumption) | assumption)
                                  have hx47 := bt_at a0 x7_3
                                  replace p47 := eq_true p47
                                  replace q47 := eq_true q47
                                  go_wp2
                                  repeat (go_quiet (fail); try go_wp2)
                                  go_ret
                                  exact ⟨by first | rfl | (simp [errW_none, errW_some] <;> rfl) | (simp [*, errW_none, errW_some] <;> rfl), by repeat (first | (with_reducible first | exact HB.out | apply below_alloc | apply pw_below_drewN | apply below_drew1 | refine below_set ?_ GE232.out) | exact HB.out)⟩
                              · rw [if_neg c46] at H
                                exact absurd H (by simp)
                            · rw [if_neg c45] at H
                              exact absurd H (by simp)
            · rw [if_neg c11] at H
              exact absurd H (by simp)
          · rw [if_neg c10] at H
            exact absurd H (by simp)
        · rw [if_neg c9] at H
          have c9b0 : (a1_0 == 2) = false := beq_eq_false_iff_ne.mpr c9
          have c9b1 : (a1_0 != 2) = true := bne_iff_ne.mpr c9
          by_cases c51 : (wrap64 (a1_2 + (a1_1.size : Int))) > (a0.size : Int)
          · rw [if_pos c51] at H
            have c51b0 : decide ((a0.size : Int) < (wrap64 (a1_2 + (a1_1.size : Int)))) = true := decide_eq_true c51
            clear c51
            obtain rfl := Option.some.inj H
            have hcz52_0 : wc.cell? ⟨gb232, 0, none⟩ = some (.int .i64 a1_0) := (blk_cell BK232.out 0).trans rfl
            have hcz52_1 : wc.cell? ⟨gb232, 1, none⟩ = some (.string a1_1) := (blk_cell BK232.out 1).trans rfl
            have hcz52_2 : wc.cell? ⟨gb232, 2, none⟩ = some (.int .i64 a1_2) := (blk_cell BK232.out 2).trans rfl
            have hfz52_0 := blk_frozen BK232.out 0
            have hfz52_1 := blk_frozen BK232.out 1
            have hfz52_2 := blk_frozen BK232.out 2
            go_wp2
            repeat (go_quiet (fail); try go_wp2)
            go_ret
            exact ⟨by first | rfl | (simp [errW_none, errW_some] <;> rfl) | (simp [*, errW_none, errW_some] <;> rfl), by repeat (first | (with_reducible first | exact HB.out | apply below_alloc | apply pw_below_drewN | apply below_drew1 | refine below_set ?_ GE232.out) | exact HB.out)⟩
          · rw [if_neg c51] at H
            have c51b0 : decide ((a0.size : Int) < (wrap64 (a1_2 + (a1_1.size : Int)))) = false := decide_eq_false c51
            clear c51
            by_cases c53 : 0 ≤ a1_2
            · rw [if_pos c53] at H
              have c53b0 := eq_true c53
              have c53b1 : decide (0 ≤ a1_2) = true := decide_eq_true c53
              clear c53
              by_cases c54 : a1_2 ≤ (wrap64 (a1_2 + (a1_1.size : Int)))
              · rw [if_pos c54] at H
                have c54b0 := eq_true c54
                have c54b1 : decide (a1_2 ≤ (wrap64 (a1_2 + (a1_1.size : Int)))) = true := decide_eq_true c54
                by_cases c55 : (wrap64 (a1_2 + (a1_1.size : Int))) ≤ (a0.size : Int)
                · rw [if_pos c55] at H
                  have c55b0 := eq_true c55
                  have c55b1 : decide ((wrap64 (a1_2 + (a1_1.size : Int))) ≤ (a0.size : Int)) = true := decide_eq_true c55
                  by_cases c56 : (a0.extract (a1_2 : Int).toNat ((wrap64 (a1_2 + (a1_1.size : Int))) : Int).toNat).toList = a1_1.toList
                  · rw [if_pos c56] at H
                    have c56b0 : ((a0.extract (a1_2 : Int).toNat ((wrap64 (a1_2 + (a1_1.size : Int))) : Int).toNat).toList == a1_1.toList) = true := beq_iff_eq.mpr c56
                    have c56b1 : ((a0.extract (a1_2 : Int).toNat ((wrap64 (a1_2 + (a1_1.size : Int))) : Int).toNat).toList != a1_1.toList) = false := bne_eq_false_iff_eq.mpr c56
                    clear c56
                    obtain rfl := Option.some.inj H
                    have hcz57_0 : wc.cell? ⟨gb232, 0, none⟩ = some (.int .i64 a1_0) := (blk_cell BK232.out 0).trans rfl
                    have hcz57_1 : wc.cell? ⟨gb232, 1, none⟩ = some (.string a1_1) := (blk_cell BK232.out 1).trans rfl
                    have hcz57_2 : wc.cell? ⟨gb232, 2, none⟩ = some (.int .i64 a1_2) := (blk_cell BK232.out 2).trans rfl
                    have hfz57_0 := blk_frozen BK232.out 0
                    have hfz57_1 := blk_frozen BK232.out 1
                    have hfz57_2 := blk_frozen BK232.out 2
                    go_wp2
                    repeat (go_quiet (fail); try go_wp2)
                    go_ret
                    exact ⟨by first | rfl | (simp [errW_none, errW_some] <;> rfl) | (simp [*, errW_none, errW_some] <;> rfl), by repeat (first | (with_reducible first | exact HB.out | apply below_alloc | apply pw_below_drewN | apply below_drew1 | refine below_set ?_ GE232.out) | exact HB.out)⟩
                  · rw [if_neg c56] at H
                    have c56b0 : ((a0.extract (a1_2 : Int).toNat ((wrap64 (a1_2 + (a1_1.size : Int))) : Int).toNat).toList == a1_1.toList) = false := beq_eq_false_iff_ne.mpr c56
                    have c56b1 : ((a0.extract (a1_2 : Int).toNat ((wrap64 (a1_2 + (a1_1.size : Int))) : Int).toNat).toList != a1_1.toList) = true := bne_iff_ne.mpr c56
                    obtain rfl := Option.some.inj H
                    have hcz58_0 : wc.cell? ⟨gb232, 0, none⟩ = some (.int .i64 a1_0) := (blk_cell BK232.out 0).trans rfl
                    have hcz58_1 : wc.cell? ⟨gb232, 1, none⟩ = some (.string a1_1) := (blk_cell BK232.out 1).trans rfl
                    have hcz58_2 : wc.cell? ⟨gb232, 2, none⟩ = some (.int .i64 a1_2) := (blk_cell BK232.out 2).trans rfl
                    have hfz58_0 := blk_frozen BK232.out 0
                    have hfz58_1 := blk_frozen BK232.out 1
                    have hfz58_2 := blk_frozen BK232.out 2
                    go_wp2
                    repeat (go_quiet (fail); try go_wp2)
                    go_ret
                    exact ⟨by first | rfl | (simp [errW_none, errW_some] <;> rfl) | (simp [*, errW_none, errW_some] <;> rfl), by repeat (first | (with_reducible first | exact HB.out | apply below_alloc | apply pw_below_drewN | apply below_drew1 | refine below_set ?_ GE232.out) | exact HB.out)⟩
                · rw [if_neg c55] at H
                  exact absurd H (by simp)
              · rw [if_neg c54] at H
                exact absurd H (by simp)
            · rw [if_neg c53] at H
              exact absurd H (by simp)
end Go.Proofs.YtmpenkinheneoaaDoor.Q
