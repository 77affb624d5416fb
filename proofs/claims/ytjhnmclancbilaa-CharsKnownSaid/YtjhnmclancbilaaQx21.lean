/- Walks of functions, each against a plain Lean function: written by this session's program wip/hand.py, which runs the kit's print with this session's own contracts put in. -/
import Derived.Test.YtjhnmclancbilaaQx0
import Derived.Test.YtjhnmclancbilaaQx16
import Derived.Test.YtjhnmclancbilaaQx19
namespace Go.Proofs.Ytjhnmclancbilaa.Q
open Go.RowKit Go.Proofs.YtjhnmclancbilaaW.PrintWords Go.Proofs.YtjhnmclancbilaaW.PrintLast Go.Proofs.YtjhnmclancbilaaW.PrintMore
attribute [local go_sem] max2_int min2_int max_two min_two max_three min_three max_four min_four   -- for this text's walks alone
set_option linter.unusedVariables false
set_option linter.unusedSimpArgs false

/-! ### chiselref01_Len: function 22 -/
def chiselref01_Len.f (k : Nat) (a0 : ByteArray) : Option (Int) := (chiselref01_Points.f k a0).bind fun bt197 => (some (bt197.1.length : Int))
theorem chiselref01_Len.mono : ∀ a0 k, LeO (chiselref01_Len.f k a0) (chiselref01_Len.f (k + 1) a0) := by
  intro a0 k
  unfold chiselref01_Len.f
  repeat' first
      | (with_reducible exact chiselref01_Points.mono _ _)
      | (with_reducible exact LeO.refl _)
      | (with_reducible exact LeO.none _)
      | (with_reducible refine LeO.ite ?_ ?_)
      | (with_reducible refine LeO.bind ?_ (fun _ => ?_))
      | exact chiselref01_Points.mono _ _
      | exact LeO.none _
      | refine LeO.ite ?_ ?_
      | refine LeO.bind ?_ (fun _ => ?_)
set_option maxHeartbeats 8000000 in
set_option maxRecDepth 100000 in
theorem chiselref01_Len.calls (k : Nat) (a0 : ByteArray) (r : Int) (w : World) (h : chiselref01_Len.f k a0 = some r) :
    Calls Try.prog 22 #[.string a0] w fun e w' => e = .returned (.int .i64 r) ∧ Below w.heap.size w w' := by
  have HB := Aside0.mk (Below.refl w.heap.size w)
  have H : ((chiselref01_Points.f k a0).bind fun bt197 => (some (bt197.1.length : Int))) = some r := h
  clear h
  replace H := Option.bind_eq_some_iff.mp H
  obtain ⟨⟨t197, t198⟩, A20, H⟩ := H
  replace H : (some (t197.length : Int)) = some r := H
  have A2 := Aside0.mk A20
  clear A20
  obtain rfl := Option.some.inj H
  go_enter Try.func22, Try.ntmps22
  go_wp2_with (first | ((with_reducible refine gate_callee (f := 17) rfl ?_); refine goesL_ (some 7) rfl rfl Try.func17 (by kernel_rfl) rfl #[.string a0] rfl (by (try simp only [List.map_toArray, List.map_cons, List.map_nil]); first | done | rfl | (simp only [List.length_drop, List.length_take]; rfl)) ?_; (with_reducible refine (chiselref01_Points.calls k a0 t197 t198 _ A2.out).mono ?_); rintro e w3 ⟨v199, rfl, ho0, hb⟩; refine ⟨_, rfl, ?_⟩; have n0_ := Aside0.mk (Kd.R_lower ho0 (below_size (by repeat (first | (with_reducible first | exact HB.out | apply below_alloc | apply pw_below_drewN | apply below_drew1) | exact HB.out)))); have n1_ := Aside0.mk (below_step (by repeat (first | (with_reducible first | exact HB.out | apply below_alloc | apply pw_below_drewN | apply below_drew1) | exact HB.out)) hb); clear HB; have HO200 := n0_; have HB := n1_; clear n0_ n1_; (try clear hb); (try clear hb2); (try clear hk); (try clear hi); (try clear ho0); obtain ⟨Ao4, co4, eo4⟩ := Kd.R_slice HO200.out; subst eo4))
  go_ret
  exact ⟨by first | rfl | (simp [errW_none, errW_some] <;> rfl) | (simp [*, errW_none, errW_some] <;> rfl), by repeat (first | (with_reducible first | exact HB.out | apply below_alloc | apply pw_below_drewN | apply below_drew1) | exact HB.out)⟩

/-! ### chiselref01_Cut: function 24 -/
def chiselref01_Cut.f (k : Nat) (a0 : ByteArray) (a1 : Int) (a2 : Int) : Option (ByteArray) := (chiselref01_Points.f k a0).bind fun bt201 => (if (mx a1 0) ≥ (mn a2 (bt201.1.length : Int)) then (some (⟨#[]⟩ : ByteArray)) else (if 0 ≤ (mx a1 0) then (if (mx a1 0) ≤ (mn a2 (bt201.1.length : Int)) then (if (mn a2 (bt201.1.length : Int)) ≤ (bt201.1.length : Int) then ((chiselref01_From.f k ((bt201.1.take ((mn a2 (bt201.1.length : Int)) : Int).toNat).drop ((mx a1 0) : Int).toNat)).bind fun bt209 => (some bt209.1)) else (none)) else (none)) else (none)))
theorem chiselref01_Cut.mono : ∀ a0 a1 a2 k, LeO (chiselref01_Cut.f k a0 a1 a2) (chiselref01_Cut.f (k + 1) a0 a1 a2) := by
  intro a0 a1 a2 k
  unfold chiselref01_Cut.f
  repeat' first
      | (with_reducible exact chiselref01_From.mono _ _)
      | (with_reducible exact chiselref01_Points.mono _ _)
      | (with_reducible exact LeO.refl _)
      | (with_reducible exact LeO.none _)
      | (with_reducible refine LeO.ite ?_ ?_)
      | (with_reducible refine LeO.bind ?_ (fun _ => ?_))
      | exact chiselref01_From.mono _ _
      | exact chiselref01_Points.mono _ _
      | exact LeO.none _
      | refine LeO.ite ?_ ?_
      | refine LeO.bind ?_ (fun _ => ?_)
set_option maxHeartbeats 8000000 in
set_option maxRecDepth 100000 in
theorem chiselref01_Cut.calls (k : Nat) (a0 : ByteArray) (a1 : Int) (a2 : Int) (r : ByteArray) (w : World) (h : chiselref01_Cut.f k a0 a1 a2 = some r) :
    Calls Try.prog 24 #[.string a0, .int .i64 a1, .int .i64 a2] w fun e w' => e = .returned (.string r) ∧ Below w.heap.size w w' := by
  have HB := Aside0.mk (Below.refl w.heap.size w)
  have H : ((chiselref01_Points.f k a0).bind fun bt201 => (if (mx a1 0) ≥ (mn a2 (bt201.1.length : Int)) then (some (⟨#[]⟩ : ByteArray)) else (if 0 ≤ (mx a1 0) then (if (mx a1 0) ≤ (mn a2 (bt201.1.length : Int)) then (if (mn a2 (bt201.1.length : Int)) ≤ (bt201.1.length : Int) then ((chiselref01_From.f k ((bt201.1.take ((mn a2 (bt201.1.length : Int)) : Int).toNat).drop ((mx a1 0) : Int).toNat)).bind fun bt209 => (some bt209.1)) else (none)) else (none)) else (none)))) = some r := h
  clear h
  replace H := Option.bind_eq_some_iff.mp H
  obtain ⟨⟨t201, t202⟩, A40, H⟩ := H
  replace H : (if (mx a1 0) ≥ (mn a2 (t201.length : Int)) then (some (⟨#[]⟩ : ByteArray)) else (if 0 ≤ (mx a1 0) then (if (mx a1 0) ≤ (mn a2 (t201.length : Int)) then (if (mn a2 (t201.length : Int)) ≤ (t201.length : Int) then ((chiselref01_From.f k ((t201.take ((mn a2 (t201.length : Int)) : Int).toNat).drop ((mx a1 0) : Int).toNat)).bind fun bt209 => (some bt209.1)) else (none)) else (none)) else (none))) = some r := H
  have A4 := Aside0.mk A40
  clear A40
  obtain ⟨ji5, hji5⟩ : ∃ j_ : Int, (mx a1 0) = j_ := ⟨_, rfl⟩
  replace H : (if (ji5) ≥ (mn a2 (t201.length : Int)) then (some (⟨#[]⟩ : ByteArray)) else (if 0 ≤ (ji5) then (if (ji5) ≤ (mn a2 (t201.length : Int)) then (if (mn a2 (t201.length : Int)) ≤ (t201.length : Int) then ((chiselref01_From.f k ((t201.take ((mn a2 (t201.length : Int)) : Int).toNat).drop ((ji5) : Int).toNat)).bind fun bt209 => (some bt209.1)) else (none)) else (none)) else (none))) = some r := by first | (rw [hji5] at H; exact H) | (simp only [hji5] at H ⊢; exact H)
  (try rw [hji5] at A4)
  (try (have hji5l : 0 ≤ ji5 := by (rw [← hji5]; unfold mx; (repeat' split) <;> omega)))
  (try (have hji5m : 0 ≤ ji5 := by omega))
  have hji5_ : (if a1 < 0 then 0 else a1) = ji5 := hji5
  obtain ⟨ji6, hji6⟩ : ∃ j_ : Int, (mn a2 (t201.length : Int)) = j_ := ⟨_, rfl⟩
  replace H : (if (ji5) ≥ (ji6) then (some (⟨#[]⟩ : ByteArray)) else (if 0 ≤ (ji5) then (if (ji5) ≤ (ji6) then (if (ji6) ≤ (t201.length : Int) then ((chiselref01_From.f k ((t201.take ((ji6) : Int).toNat).drop ((ji5) : Int).toNat)).bind fun bt209 => (some bt209.1)) else (none)) else (none)) else (none))) = some r := by first | (rw [hji6] at H; exact H) | (simp only [hji6] at H ⊢; exact H)
  (try rw [hji6] at A4)
  have hji6_ : (if (t201.length : Int) < a2 then (t201.length : Int) else a2) = ji6 := hji6
  by_cases c7 : (ji5) ≥ (ji6)
  · rw [if_pos c7] at H
    have c7b0 : decide ((ji6) ≤ (ji5)) = true := decide_eq_true c7
    clear c7
    obtain rfl := Option.some.inj H
    go_enter Try.func24, Try.ntmps24
    go_wp2_with (first | ((with_reducible refine gate_callee (f := 17) rfl ?_); refine goesL_ (some 13) rfl rfl Try.func17 (by kernel_rfl) rfl #[.string a0] rfl (by (try simp only [List.map_toArray, List.map_cons, List.map_nil]); first | done | rfl | (simp only [List.length_drop, List.length_take]; rfl)) ?_; (with_reducible refine (chiselref01_Points.calls k a0 t201 t202 _ A4.out).mono ?_); rintro e w8 ⟨v203, rfl, ho0, hb⟩; refine ⟨_, rfl, ?_⟩; have n0_ := Aside0.mk (Kd.R_lower ho0 (below_size (by repeat (first | (with_reducible first | exact HB.out | apply below_alloc | apply pw_below_drewN | apply below_drew1) | exact HB.out)))); have n1_ := Aside0.mk (below_step (by repeat (first | (with_reducible first | exact HB.out | apply below_alloc | apply pw_below_drewN | apply below_drew1) | exact HB.out)) hb); clear HB; have HO204 := n0_; have HB := n1_; clear n0_ n1_; (try clear hb); (try clear hb2); (try clear hk); (try clear hi); (try clear ho0); obtain ⟨Ao9, co9, eo9⟩ := Kd.R_slice HO204.out; subst eo9))
    go_ret
    exact ⟨by first | rfl | (simp [errW_none, errW_some] <;> rfl) | (simp only [← hji5, ← hji6]; first | rfl | (simp [errW_none, errW_some] <;> rfl)) | (simp [*, errW_none, errW_some] <;> rfl), by repeat (first | (with_reducible first | exact HB.out | apply below_alloc | apply pw_below_drewN | apply below_drew1) | exact HB.out)⟩
  · rw [if_neg c7] at H
    have c7b0 : decide ((ji6) ≤ (ji5)) = false := decide_eq_false c7
    clear c7
    by_cases c10 : 0 ≤ (ji5)
    · rw [if_pos c10] at H
      have c10b0 := eq_true c10
      have c10b1 : decide (0 ≤ (ji5)) = true := decide_eq_true c10
      clear c10
      by_cases c11 : (ji5) ≤ (ji6)
      · rw [if_pos c11] at H
        have c11b0 := eq_true c11
        have c11b1 : decide ((ji5) ≤ (ji6)) = true := decide_eq_true c11
        clear c11
        by_cases c12 : (ji6) ≤ (t201.length : Int)
        · rw [if_pos c12] at H
          have c12b0 := eq_true c12
          have c12b1 : decide ((ji6) ≤ (t201.length : Int)) = true := decide_eq_true c12
          clear c12
          obtain ⟨y205, hy205⟩ : ∃ y_ : List Int, y_ = ((t201.take ((ji6) : Int).toNat).drop ((ji5) : Int).toNat) := ⟨_, rfl⟩
          replace H : ((chiselref01_From.f k y205).bind fun bt209 => (some bt209.1)) = some r := by first | (rw [hy205]; with_reducible exact H) | (have H2_ := (Option.bind_some _ _).symm.trans H; rw [hy205]; with_reducible exact H2_) | (have H2_ := (Option.bind_some _ _).symm.trans H; with_reducible exact H2_) | with_reducible exact H | (rw [hy205]; exact H) | exact H
          have Ny205 := Aside0.mk hy205
          clear hy205
          replace H := Option.bind_eq_some_iff.mp H
          obtain ⟨⟨t209, t210⟩, A130, H⟩ := H
          replace H : (some t209) = some r := H
          have A13 := Aside0.mk A130
          clear A130
          obtain rfl := Option.some.inj H
          go_enter Try.func24, Try.ntmps24
          go_wp2_with (first | ((with_reducible refine gate_callee (f := 17) rfl ?_); refine goesL_ (some 13) rfl rfl Try.func17 (by kernel_rfl) rfl #[.string a0] rfl (by (try simp only [List.map_toArray, List.map_cons, List.map_nil]); first | done | rfl | (simp only [List.length_drop, List.length_take]; rfl)) ?_; (with_reducible refine (chiselref01_Points.calls k a0 t201 t202 _ A4.out).mono ?_); rintro e w14 ⟨v203, rfl, ho0, hb⟩; refine ⟨_, rfl, ?_⟩; have n0_ := Aside0.mk (Kd.R_lower ho0 (below_size (by repeat (first | (with_reducible first | exact HB.out | apply below_alloc | apply pw_below_drewN | apply below_drew1) | exact HB.out)))); have n1_ := Aside0.mk (below_step (by repeat (first | (with_reducible first | exact HB.out | apply below_alloc | apply pw_below_drewN | apply below_drew1) | exact HB.out)) hb); clear HB; have HO204 := n0_; have HB := n1_; clear n0_ n1_; (try clear hb); (try clear hb2); (try clear hk); (try clear hi); (try clear ho0); obtain ⟨Ao15, co15, eo15⟩ := Kd.R_slice HO204.out; subst eo15; have q16 : ((ji6) : Int) ≤ ((t201.length : Int) : Int) := of_decide_eq_true (by first | (with_reducible assumption) | assumption); obtain ⟨i016, hi016, _, hsz16, _⟩ := info_parts info3; have hroom16 : t201.length ≤ co15 := (Kd.R_reads' HO204.out).2.1; have hC16 : Kd.C (Kd.int .i64) _ Ao15 t201.length t201 := (Kd.R_reads' HO204.out).2.2; have ql16 : ((ji5) : Int) ≤ ((ji6) : Int) := of_decide_eq_true (by first | (with_reducible assumption) | assumption); have q016 : (0 : Int) ≤ ((ji5) : Int) := of_decide_eq_true (by first | (with_reducible assumption) | assumption); have hcut16 := cut_mid (P := Try.prog) 25 3 .i64 .i64 Try.underlying25 hi016 1 hsz16 Ao15 t201.length co15 (ji5) (ji6) q016 ql16 q16 hroom16; have hr16 := Kd.C_mid (lo := ((ji5) : Int).toNat) (hi := ((ji6) : Int).toNat) (c := co15) hC16 (by omega) (by omega) hroom16; obtain ⟨A16, hA16⟩ : ∃ A1, A1 = (if co15 = ((ji5) : Int).toNat then Ao15 else (Ao15 : Option Addr).map (·.add (((ji5) : Int).toNat * 1))) := ⟨_, rfl⟩; obtain ⟨c16, hc16⟩ : ∃ c1, c1 = co15 - ((ji5) : Int).toNat := ⟨_, rfl⟩; have hy16 : y205.length = ((ji6) : Int).toNat - ((ji5) : Int).toNat := (by rw [Ny205.out, List.length_drop, List.length_take] <;> omega); rw [show ((t201).take ((ji6) : Int).toNat).drop ((ji5) : Int).toNat = y205 from Ny205.out.symm] at hr16; replace hr16 : Kd.C (Kd.int .i64) _ A16 y205.length y205 := (by rw [hA16]; exact hr16); rw [← hy16, ← hA16, ← hc16] at hcut16; have HR208 := Aside0.mk hr16; have HC208 := Aside0.mk (show y205.length ≤ c16 from by rw [hy16, hc16]; exact Nat.sub_le_sub_right (Nat.le_trans (by omega) hroom16) _); clear hr16 hC16 hroom16 hi016 hsz16 hc16; have KY16 := Aside0.mk hy16; have KA16 := Aside0.mk hA16; clear hy16 hA16; have KL16 := Aside0.mk (show ((ji6) : Int).toNat ≤ t201.length from by omega); have KM16 := Aside0.mk (show ((ji5) : Int).toNat ≤ ((ji6) : Int).toNat from by omega); replace q16 := eq_true q16) | ((with_reducible refine gate_callee (f := 20) rfl ?_); refine goesL_ (some 30) rfl rfl Try.func20 (by kernel_rfl) rfl #[.slice A16 y205.length c16] rfl (by (try simp only [List.map_toArray, List.map_cons, List.map_nil]); first | done | rfl | (simp only [List.length_drop, List.length_take]; rfl)) ?_; (with_reducible refine (chiselref01_From.calls k _ _ y205 t209 t210 _ ?side1 ?side2 A13.out).mono ?_); (case side1 => repeat (first | exact (by repeat (first | (with_reducible exact HR208.out) | (with_reducible refine Kd.C_alloc ?_ _) | (with_reducible refine Kd.C_drewN ?_ _) | (with_reducible refine Kd.C_drew ?_) | exact HR208.out)) | (with_reducible refine Kd.C_alloc ?_ _) | (with_reducible refine Kd.C_drewN ?_ _) | (with_reducible refine Kd.C_drew ?_))); (case side2 => exact HC208.out); rintro e w17 ⟨rfl, hb⟩; refine ⟨_, rfl, ?_⟩; have n0_ := Aside0.mk (Kd.R_below (by (with_reducible repeat (first | apply Kd.R_alloc | apply Kd.R_drewN | apply Kd.R_drew)); exact HO204.out) hb); have n1_ := Aside0.mk (Kd.C_below (by repeat (first | (with_reducible exact HR208.out) | (with_reducible refine Kd.C_alloc ?_ _) | (with_reducible refine Kd.C_drewN ?_ _) | (with_reducible refine Kd.C_drew ?_) | exact HR208.out)) hb); have n2_ := Aside0.mk (below_step (by repeat (first | (with_reducible first | exact HB.out | apply below_alloc | apply pw_below_drewN | apply below_drew1) | exact HB.out)) hb); clear HO204; clear HR208; clear HB; have HO204 := n0_; have HR208 := n1_; have HB := n2_; clear n0_ n1_ n2_; (try clear hb); (try clear hb2); (try clear hk); (try clear hi)))
          go_ret
          exact ⟨by first | rfl | (simp [errW_none, errW_some] <;> rfl) | (simp only [← hji5, ← hji6]; first | rfl | (simp [errW_none, errW_some] <;> rfl)) | (simp [*, errW_none, errW_some] <;> rfl), by repeat (first | (with_reducible first | exact HB.out | apply below_alloc | apply pw_below_drewN | apply below_drew1) | exact HB.out)⟩
        · rw [if_neg c12] at H
          exact absurd H (by simp)
      · rw [if_neg c11] at H
        exact absurd H (by simp)
    · rw [if_neg c10] at H
      exact absurd H (by simp)

end Go.Proofs.Ytjhnmclancbilaa.Q
