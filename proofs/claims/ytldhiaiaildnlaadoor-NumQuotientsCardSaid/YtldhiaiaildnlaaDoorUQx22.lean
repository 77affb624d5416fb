/- Texts of the claim: Qx22, Qx25. -/
import Derived.Test.YtldhiaiaildnlaaDoorUQx21
set_option maxHeartbeats 8000000
set_option maxRecDepth 100000
namespace Go.Proofs.YtldhiaiaildnlaaDoor.Q
open Go.RowKit Go.Proofs.YtldhiaiaildnlaaDoorW.PrintWords Go.Proofs.YtldhiaiaildnlaaDoorW.PrintLast Go.Proofs.YtldhiaiaildnlaaDoorW.PrintMore
attribute [local go_sem] yA yy yR yQ yh yg yz yx
set_option linter.unusedVariables false
set_option linter.unusedSimpArgs false
def zX.j0 : Nat → Int → Bool → Bool → List Int → Option (ByteArray × Int)
 | 0, _, _, _, _ => none
 | k + 1, x1, x25, x382000, x382001 => if x25 = true then (some ((⟨#[]⟩ : ByteArray), 6)) else ((yw.f k (wrap64 (20 - x1))).bind fun t382 => ((xk.f k x382000 x382001 t382 67).bind fun t385 => ((zL.f k t385 t382).bind fun t388 => ((yO.f k x382000 t388).bind fun bt391 => (some (bt391.1, bt391.2))))))
def zX.f (k : Nat) (a0 : ByteArray) (a1 : Int) (a2 : ByteArray) : Option (ByteArray × Int) := (zH.f k a0).bind fun bt376 => (if bt376.2.2 = 0 then (if a1 < (-30) then (zX.j0 k a1 true bt376.1 bt376.2.1) else (zX.j0 k a1 (decide (a1 > 20)) bt376.1 bt376.2.1)) else (some ((⟨#[]⟩ : ByteArray), bt376.2.2)))
def zX.T10 : Bool × List (List Nat × List Nat) := (true, [([], []), ([0], [0]), ([], []), ([2], [2]), ([], []), ([4], [4]), ([], []), ([], []), ([3, 5, 6, 7], [3, 5, 6, 7]), ([], []), ([8, 9, 8], [8, 9]), ([1, 10], [1, 10]), ([11, 10], [11]), ([12], [12]), ([12], [12]), ([13, 12, 0, 1, 2, 3, 4, 5, 6, 7, 8, 9, 10, 11, 12, 13, 14], [13]), ([14, 15, 0, 1, 2, 3, 4, 5, 6, 7, 8, 9, 10, 11, 12, 13, 14, 15], [14])])
def zX.B10 : List Nat := [0, 1, 0, 4, 0, 16, 0, 0, 252, 0, 1020, 2047, 4095, 8191, 8191, 32767, 65535]
theorem zX.tab10 : rtab .any (opsOf Tryd.f14 10) = zX.T10 := by kernel_rfl
theorem zX.bits10 : waitsOk zX.T10.2 zX.B10 = true := by kernel_rfl
theorem zX.calls (k : Nat) (a0 : ByteArray) (a1 : Int) (a2 : ByteArray) (r1 : ByteArray) (r2 : Int) (w : World) (h : zX.f k a0 a1 a2 = some (r1, r2)) (hway : yk.f a2 = some 67) :
  Calls Tryd.prog 14 #[.string a0, .int .i64 a1, .string a2] w fun e w' => e = .returned (.tuple #[.string r1, .int .i64 r2]) ∧ Below w.heap.size w w' := by
 have HWAY := za.mk hway; clear hway; (have hne : ∀ W : World, (binOp .eql 47 (.func (.func 67) #[] #[]) .nilFunc).run Tryd.prog W = .ok (.bool false) W := fun _ => rfl); have hu43 := Tryd.underlying43; have HB := za.mk (Below.refl w.heap.size w); (have H : ((zH.f k a0).bind fun bt376 => (if bt376.2.2 = 0 then (if a1 < (-30) then (zX.j0 k a1 true bt376.1 bt376.2.1) else (zX.j0 k a1 (decide (a1 > 20)) bt376.1 bt376.2.1)) else (some ((⟨#[]⟩ : ByteArray), bt376.2.2)))) = some (r1, r2) := h); clear h; replace H := Option.bind_eq_some_iff.mp H; obtain ⟨⟨t376, t377, t380⟩, A40, H⟩ := H; replace H : (if t380 = 0 then (if a1 < (-30) then (zX.j0 k a1 true t376 t377) else (zX.j0 k a1 (decide (a1 > 20)) t376 t377)) else (some ((⟨#[]⟩ : ByteArray), t380))) = some (r1, r2) := H; have A4 := za.mk A40; clear A40; by_cases c5 : t380 = 0
 ·rw [if_pos c5] at H; have c5b0 : (t380 == 0) = true := beq_iff_eq.mpr c5; have c5b1 : (t380 != 0) = false := bne_eq_false_iff_eq.mpr c5; clear c5; have HC6 := za.mk H; clear H; (go_enter Tryd.func14, Tryd.ntmps14); (go_upto_region 4 with (first | (go_at_call 36; (with_reducible refine (yk.same a2 67 _ HWAY.out).mono ?_); rintro e w' ⟨rfl, rfl⟩) | ((with_reducible refine zj (f := 35) rfl ?_); refine zD (some 14) rfl rfl Tryd.func35 (by kernel_rfl) rfl #[.string a0] rfl qM ?_; (with_reducible refine (zH.calls k a0 t376 t377 t380 _ A4.out).mono ?_); rintro e w7 ⟨v378, rfl, ho0, hb⟩; refine ⟨_, rfl, ?_⟩; have HO379 := za.mk (Kd.zB (Kd.zk (ok' := fun k_ => True) ho0 (fun k_ hk_ => trivial)) (zb qB)); replace HB := qS hb; (try clear hb); (try clear hb2); (try clear hk); (try clear hi); (try clear ho0)) | ((with_reducible refine zv (N := 8) rfl ?_); refine qE1 (N := 8) (cs := #[.bool false, .slice none 0 0]) (t := 43) (h := ?_); intro gb381 hg w8 hbox hb; replace HO379 := qY HO379 hg hb; have BK381 := za.mk (hbox); have GW381 := za.mk (qW hg : w.heap.size ≤ gb381); have GE381 := za.mk (qW hg : w.heap.size ≤ gb381); replace HB := qS hb; clear hb hbox hg; have hcz9_0 : w8.cell? ⟨gb381, 0, none⟩ = some (.bool false) := (zf BK381.out 0).trans rfl; have hcz9_1 : w8.cell? ⟨gb381, 1, none⟩ = some (.slice none 0 0) := (zf BK381.out 1).trans rfl; have hfz9_0 := zg BK381.out 0; have hfz9_1 := zg BK381.out 1; obtain ⟨Ao10, co10, eo10⟩ := Kd.zA HO379.out; subst eo10))); (try simp only [Act.put, List.setIfInBounds_toArray, List.set_cons_zero, List.set_cons_succ]); (go_cut [25] (fun v25 wc => ∃ (kq : Nat) (x25_5 : Bool), v25 = .bool x25_5 ∧ za (zX.j0 kq a1 x25_5 t376 t377 = some (r1, r2)) ∧ za (kq ≤ k) ∧ za (Kd.V (Kd.int .u64) 81 wc w.heap.size (fun k_ => k_ ≠ gb381) (.slice Ao10 t377.length co10) t377) ∧ za (wc.heap[gb381]? = some (.cells #[.bool t376, (.slice Ao10 t377.length co10)] 43 (0, 0))) ∧ za (Below w.heap.size w wc)))
  case first =>
   have H := HC6.out; clear HC6; by_cases c11 : a1 < (-30)
   ·rw [if_pos c11] at H; have c11b0 : decide (a1 < (-30)) = true := decide_eq_true c11; clear c11; (first | rw [c11b0] | rw [c11b1] | (simp only [xb, xF]; rw [c11b0]) | skip); have H' := za.mk H; clear H; (go_wp2_with (first | (go_at_call 36; (with_reducible refine (yk.same a2 67 _ HWAY.out).mono ?_); rintro e w' ⟨rfl, rfl⟩))); (go_meet)
    case rel => exact ⟨_, (true), qI, H', ⟨by first | omega | exact Nat.le_refl _⟩, ⟨by (with_reducible repeat (first | apply Kd.zr | apply Kd.zq | apply Kd.zu)); exact Kd.zk (Kd.zJ (p := ⟨gb381, 1, none⟩) (Kd.zJ (p := ⟨gb381, 0, none⟩) (Kd.zk HO379.out (fun k_ hk => (⟨hk, hk.2⟩ : _ ∧ k_ ≠ gb381))) (fun _ hk => hk.2) (.bool t376)) (fun _ hk => hk.2) (.slice Ao10 t377.length co10)) (fun _ hk => hk.1.2)⟩, ⟨by (try simp only [c5b0, c5b1]); (with_reducible repeat (first | refine zc ?_ _ | refine ze ?_ | refine zd ?_ _)); refine zs (cs := #[.bool t376, .slice none 0 0]) ?_ 1 _ rfl; (with_reducible repeat (first | refine zc ?_ _ | refine ze ?_ | refine zd ?_ _)); refine zs (cs := #[.bool false, .slice none 0 0]) ?_ 0 _ rfl; (with_reducible repeat (first | refine zc ?_ _ | refine ze ?_ | refine zd ?_ _)); exact BK381.out⟩, ⟨qC GE381.out⟩⟩
   ·rw [if_neg c11] at H; have c11b0 : decide (a1 < (-30)) = false := decide_eq_false c11; clear c11; (first | rw [c11b0] | rw [c11b1] | (simp only [xb, xF]; rw [c11b0]) | skip); have H' := za.mk H; clear H; (go_wp2_with (first | (go_at_call 36; (with_reducible refine (yk.same a2 67 _ HWAY.out).mono ?_); rintro e w' ⟨rfl, rfl⟩))); (go_meet)
    case rel => exact ⟨_, (decide (a1 > 20)), qI, H', ⟨by first | omega | exact Nat.le_refl _⟩, ⟨by (with_reducible repeat (first | apply Kd.zr | apply Kd.zq | apply Kd.zu)); exact Kd.zk (Kd.zJ (p := ⟨gb381, 1, none⟩) (Kd.zJ (p := ⟨gb381, 0, none⟩) (Kd.zk HO379.out (fun k_ hk => (⟨hk, hk.2⟩ : _ ∧ k_ ≠ gb381))) (fun _ hk => hk.2) (.bool t376)) (fun _ hk => hk.2) (.slice Ao10 t377.length co10)) (fun _ hk => hk.1.2)⟩, ⟨by (try simp only [c5b0, c5b1]); (with_reducible repeat (first | refine zc ?_ _ | refine ze ?_ | refine zd ?_ _)); refine zs (cs := #[.bool t376, .slice none 0 0]) ?_ 1 _ rfl; (with_reducible repeat (first | refine zc ?_ _ | refine ze ?_ | refine zd ?_ _)); refine zs (cs := #[.bool false, .slice none 0 0]) ?_ 0 _ rfl; (with_reducible repeat (first | refine zc ?_ _ | refine ze ?_ | refine zd ?_ _)); exact BK381.out⟩, ⟨qC GE381.out⟩⟩
  case rest =>
   clear HC6; ((try clear c1); (try clear p2); (try clear c3); (try clear c5); (try clear c5b0); (try clear c5b1); (try clear c7); (try clear c11); (try clear c11b0); (try clear hcz9_0); (try clear hcz9_1); (try clear hfz9_0); (try clear hfz9_1)); obtain ⟨kq, x25_5, rfl, HA, HJ5, HO_382001, BK381, HB⟩ := hcut
   cases kq with
   | zero => exact absurd HA.out (by simp [zX.j0])
   | succ kj5 =>
    have H := HA.out; clear HA; simp only [zX.j0] at H; by_cases c12 : x25_5 = true
    ·subst c12; (have H1 : (some ((⟨#[]⟩ : ByteArray), 6)) = some (r1, r2) := by rw [if_pos rfl] at H; exact H); clear H; have H := H1; clear H1; simp only [Option.some.injEq, Prod.mk.injEq] at H; obtain ⟨rfl, rfl⟩ := H; (go_wp2_with (first | (go_at_call 36; (with_reducible refine (yk.same a2 67 _ HWAY.out).mono ?_); rintro e w' ⟨rfl, rfl⟩))); (go_ret2); (exact ⟨qE, qC GE381.out⟩)
    ·replace c12 := Bool.eq_false_iff.mpr c12; subst c12; (have H1 : ((yw.f kj5 (wrap64 (20 - a1))).bind fun t382 => ((xk.f kj5 t376 t377 t382 67).bind fun t385 => ((zL.f kj5 t385 t382).bind fun t388 => ((yO.f kj5 t376 t388).bind fun bt391 => (some (bt391.1, bt391.2)))))) = some (r1, r2) := by rw [if_neg (show ¬ (false = true) by decide)] at H; exact H); clear H; have H := H1; clear H1; replace H := Option.bind_eq_some_iff.mp H; obtain ⟨t382, A130, H⟩ := H; (replace H : ((xk.f kj5 t376 t377 t382 67).bind fun t385 => ((zL.f kj5 t385 t382).bind fun t388 => ((yO.f kj5 t376 t388).bind fun bt391 => (some (bt391.1, bt391.2))))) = some (r1, r2) := H); have A13 := za.mk A130; clear A130; replace H := Option.bind_eq_some_iff.mp H; obtain ⟨t385, A140, H⟩ := H; (replace H : ((zL.f kj5 t385 t382).bind fun t388 => ((yO.f kj5 t376 t388).bind fun bt391 => (some (bt391.1, bt391.2)))) = some (r1, r2) := H); have A14 := za.mk A140; clear A140; replace H := Option.bind_eq_some_iff.mp H; obtain ⟨t388, A150, H⟩ := H; (replace H : ((yO.f kj5 t376 t388).bind fun bt391 => (some (bt391.1, bt391.2))) = some (r1, r2) := H); have A15 := za.mk A150; clear A150; replace H := Option.bind_eq_some_iff.mp H; obtain ⟨⟨t391, t392⟩, A160, H⟩ := H; replace H : (some (t391, t392)) = some (r1, r2) := H; have A16 := za.mk A160; clear A160; simp only [Option.some.injEq, Prod.mk.injEq] at H; obtain ⟨rfl, rfl⟩ := H; (try go_wp2_with (first | (go_at_call 36; (with_reducible refine (yk.same a2 67 _ HWAY.out).mono ?_); rintro e w' ⟨rfl, rfl⟩) | ((with_reducible refine zj (f := 37) rfl ?_); refine zD (some 32) rfl rfl Tryd.func37 (by kernel_rfl) rfl #[.int .i64 (wrap64 (20 - a1))] rfl qM ?_; (with_reducible refine (yw.calls kj5 (wrap64 (20 - a1)) t382 _ A13.out).mono ?_); rintro e w17 ⟨v383, rfl, ho0, hb⟩; refine ⟨_, rfl, ?_⟩; replace HO_382001 := qU HO_382001 hb; have HO384 := za.mk (Kd.zB (Kd.zk (ok' := fun k_ => k_ ≠ gb381) ho0 (fun k_ hk_ => (qF BK381.out k_ hk_))) (zb (qC GE381.out))); replace BK381 := qM1 BK381 hb; replace HB := qS1 GE381 hb; (try clear hb); (try clear hb2); (try clear hk); (try clear hi); (try clear ho0)))); replace HO_382001 := za.mk (Kd.zu HO_382001.out); replace HO384 := za.mk (Kd.zu HO384.out); replace BK381 := za.mk (ze BK381.out); replace HB := za.mk (zT HB.out); obtain ⟨Ao19, co19, eo19⟩ := Kd.zA HO384.out; (first | subst eo19 | (injection eo19 with f1_ f2_ f3_; have f4_ := f1_.symm; have f5_ := f3_.symm; clear f1_ f2_ f3_; subst f4_; subst f5_)); (refine xI (n := 17) (S := fun w' => w'.cell? ⟨gb381, 0, none⟩ = some (.bool t376) ∧ w'.cell? ⟨gb381, 1, none⟩ = some (.slice Ao10 t377.length co10)) (ds := []) #[false, false, false, false, false, false, false, false, false, false, false, false, false, false, false, false, false] (by kernel_rfl) rfl rfl ⟨(zf BK381.out 0).trans rfl, (zf BK381.out 1).trans rfl⟩ (fun hHeld => ?_); refine xp zX.tab10 zX.bits10 (fun HT_ HW_ => ?_)); (generalize w17.drew = w18 at HO_382001 HO384 BK381 HB hHeld ⊢); (refine zM (i := 0) (N := some 33) (v := ?_) (a' := ?_) #[true, false, false, false, false, false, false, false, false, false, false, false, false, false, false, false, false] rfl rfl (zF HT_.out (by kernel_rfl)) (fun _ _ _ h => h) (Or.inl ⟨by rfl, ?_⟩) ?_ ?_); rotate_left
     ·intro w'; (go_simp); (with_reducible rfl)
     rotate_left
     ·simp only [qZ]; rfl
     (refine zM (i := 2) (N := some 35) (v := ?_) (a' := ?_) #[true, false, true, false, false, false, false, false, false, false, false, false, false, false, false, false, false] rfl rfl (zF HT_.out (by kernel_rfl)) (fun _ _ _ h => h) (Or.inl ⟨by rfl, ?_⟩) ?_ ?_); rotate_left
     ·intro w'; (go_simp); (with_reducible rfl)
     rotate_left
     ·simp only [qZ]; rfl
     (refine zM (i := 4) (N := some 37) (v := ?_) (a' := ?_) #[true, false, true, false, true, false, false, false, false, false, false, false, false, false, false, false, false] rfl rfl (zF HT_.out (by kernel_rfl)) (fun _ _ _ h => h) (Or.inl ⟨by rfl, ?_⟩) ?_ ?_); rotate_left
     ·intro w'; (go_simp); (with_reducible rfl)
     rotate_left
     ·simp only [qZ]; rfl
     (refine zM (i := 6) (N := some 39) (v := ?_) (a' := ?_) #[true, false, true, false, true, false, true, false, false, false, false, false, false, false, false, false, false] rfl rfl (zF HT_.out (by kernel_rfl)) (fun _ _ _ h => h) (Or.inl ⟨by rfl, ?_⟩) ?_ ?_); rotate_left
     ·intro w'; (go_simp); (with_reducible rfl)
     rotate_left
     ·simp only [qZ]; rfl
     (refine zM (i := 7) (N := some 40) (v := ?_) (a' := ?_) #[true, false, true, false, true, false, true, true, false, false, false, false, false, false, false, false, false] rfl rfl (zF HT_.out (by kernel_rfl)) (fun _ _ _ h => h) (Or.inl ⟨by rfl, ?_⟩) ?_ ?_); rotate_left
     ·intro w'; (go_simp); (with_reducible rfl)
     rotate_left
     ·simp only [qZ]; rfl
     (refine zM (i := 9) (N := some 42) (v := ?_) (a' := ?_) #[true, false, true, false, true, false, true, true, false, true, false, false, false, false, false, false, false] rfl rfl (zF HT_.out (by kernel_rfl)) (fun _ _ _ h => h) (Or.inl ⟨by rfl, ?_⟩) ?_ ?_); rotate_left
     ·intro w'; (go_simp); (with_reducible rfl)
     rotate_left
     ·simp only [qZ]; rfl
     (refine xJ (i := 1) (N := some 34) (v := ?_) (a' := ?_) #[true, true, true, false, true, false, true, true, false, true, false, false, false, false, false, false, false] rfl rfl (xi HT_.out HW_.out (by kernel_rfl)) (fun _ _ _ h => h) (Or.inl ⟨by rfl, ?_⟩) hHeld ?_ ?_); rotate_left
     ·rintro w' ⟨s0, s1⟩; (go_simp); (with_reducible rfl)
     rotate_left
     ·simp only [qZ]; rfl
     (refine xJ (i := 3) (N := some 36) (v := ?_) (a' := ?_) #[true, true, true, true, true, false, true, true, false, true, false, false, false, false, false, false, false] rfl rfl (xi HT_.out HW_.out (by kernel_rfl)) (fun _ _ _ h => h) (Or.inl ⟨by rfl, ?_⟩) hHeld ?_ ?_); rotate_left
     ·rintro w' ⟨s0, s1⟩; (go_simp); (with_reducible rfl)
     rotate_left
     ·simp only [qZ]; rfl
     (refine xJ (i := 5) (N := some 38) (v := ?_) (a' := ?_) #[true, true, true, true, true, true, true, true, false, true, false, false, false, false, false, false, false] rfl rfl (xi HT_.out HW_.out (by kernel_rfl)) (fun _ _ _ h => h) (Or.inl ⟨by rfl, ?_⟩) hHeld ?_ ?_); rotate_left
     ·rintro w' ⟨s0, s1⟩; (go_simp); (with_reducible rfl)
     rotate_left
     ·simp only [qZ]; rfl
     (refine one_ (i := 8) (N := some 41) #[true, true, true, true, true, true, true, true, true, true, false, false, false, false, false, false, false] rfl rfl (yP HT_.out (by kernel_rfl)) (by decide) (fun K hK => ?_)); (refine xv Tryd.func40 (by kernel_rfl) rfl #[.bool t376, .slice Ao10 t377.length co10, .slice Ao19 t382.length co19, (.func (.func 67) #[] #[])] (by rfl) rfl rfl qM ?_); (with_reducible refine (xk.calls kj5 t376 _ _ t377 _ _ t382 67 t385 _ ?side1 ?side2 ?side3 ?side4 A14.out).mono ?_); (case side1 => exact qG (Kd.zm HO_382001.out).2.2); (case side2 => exact (Kd.zm HO_382001.out).2.1); (case side3 => exact qG (Kd.zm HO384.out).2.2); (case side4 => exact (Kd.zm HO384.out).2.1); rintro e w20 ⟨v386, rfl, ho0, hb⟩; refine ⟨_, rfl, ?_⟩; replace HO_382001 := qU HO_382001 hb; replace HO384 := qU HO384 hb; have HO387 := za.mk (Kd.zB (Kd.zk (ok' := fun k_ => k_ ≠ gb381) ho0 (fun k_ hk_ => (qF BK381.out k_ hk_))) (zb (qC GE381.out))); replace BK381 := qM1 BK381 hb; replace HB := qS1 GE381 hb; (try clear hb); (try clear hb2); (try clear hk); (try clear hi); (try clear ho0); obtain ⟨Ao21, co21, eo21⟩ := Kd.zA HO387.out; (first | subst eo21 | (injection eo21 with f1_ f2_ f3_; have f4_ := f1_.symm; have f5_ := f3_.symm; clear f1_ f2_ f3_; subst f4_; subst f5_)); (refine hK.out _ _ ⟨(zf BK381.out 0).trans rfl, (zf BK381.out 1).trans rfl⟩ (fun hHeld => ?_)); clear hK K; refine yZ (a' := ?_) ?_ ?_; rotate_left
     ·(show Act.put _ (some 41) _ = _); simp only [qZ]; rfl
     (refine one_ (i := 10) (N := some 43) #[true, true, true, true, true, true, true, true, true, true, true, false, false, false, false, false, false] rfl rfl (yP HT_.out (by kernel_rfl)) (by decide) (fun K hK => ?_)); (refine xv Tryd.func39 (by kernel_rfl) rfl #[.slice Ao21 t385.length co21, .slice Ao19 t382.length co19] (by rfl) rfl rfl qM ?_); (with_reducible refine (zL.calls kj5 _ _ t385 _ _ t382 t388 _ ?side1 ?side2 ?side3 ?side4 A15.out).mono ?_); (case side1 => exact qG (Kd.zm HO387.out).2.2); (case side2 => exact (Kd.zm HO387.out).2.1); (case side3 => exact qG (Kd.zm HO384.out).2.2); (case side4 => exact (Kd.zm HO384.out).2.1); rintro e w22 ⟨v389, rfl, ho0, hb⟩; refine ⟨_, rfl, ?_⟩; replace HO_382001 := qU HO_382001 hb; replace HO384 := qU HO384 hb; replace HO387 := qU HO387 hb; have HO390 := za.mk (Kd.zB (Kd.zk (ok' := fun k_ => k_ ≠ gb381) ho0 (fun k_ hk_ => (qF BK381.out k_ hk_))) (zb (qC GE381.out))); replace BK381 := qM1 BK381 hb; replace HB := qS1 GE381 hb; (try clear hb); (try clear hb2); (try clear hk); (try clear hi); (try clear ho0); obtain ⟨Ao23, co23, eo23⟩ := Kd.zA HO390.out; (first | subst eo23 | (injection eo23 with f1_ f2_ f3_; have f4_ := f1_.symm; have f5_ := f3_.symm; clear f1_ f2_ f3_; subst f4_; subst f5_)); (refine hK.out _ _ ⟨(zf BK381.out 0).trans rfl, (zf BK381.out 1).trans rfl⟩ (fun hHeld => ?_)); clear hK K; refine yZ (a' := ?_) ?_ ?_; rotate_left
     ·(show Act.put _ (some 43) _ = _); simp only [qZ]; rfl
     (refine zM (i := 11) (N := some 44) (v := ?_) (a' := ?_) #[true, true, true, true, true, true, true, true, true, true, true, true, false, false, false, false, false] rfl rfl (zF HT_.out (by kernel_rfl)) (fun _ _ _ h => h) (Or.inl ⟨by rfl, ?_⟩) ?_ ?_); rotate_left
     ·intro w'; (go_simp); (with_reducible rfl)
     rotate_left
     ·simp only [qZ]; rfl
     (refine one_ (i := 12) (N := some 45) #[true, true, true, true, true, true, true, true, true, true, true, true, true, false, false, false, false] rfl rfl (yP HT_.out (by kernel_rfl)) (by decide) (fun K hK => ?_)); (refine xv Tryd.func38 (by kernel_rfl) rfl #[.agg #[.bool t376, .slice Ao23 t388.length co23]] (by rfl) rfl rfl qM ?_); (with_reducible refine (yO.calls kj5 t376 _ _ t388 t391 t392 _ ?side1 ?side2 A16.out).mono ?_); (case side1 => exact qG (Kd.zm HO390.out).2.2); (case side2 => exact (Kd.zm HO390.out).2.1); rintro e w24 ⟨rfl, hb⟩; refine ⟨_, rfl, ?_⟩; replace HO_382001 := qU HO_382001 hb; replace HO384 := qU HO384 hb; replace HO387 := qU HO387 hb; replace HO390 := qU HO390 hb; replace BK381 := qM1 BK381 hb; replace HB := qS1 GE381 hb; (try clear hb); (try clear hb2); (try clear hk); (try clear hi); (refine hK.out _ _ ⟨(zf BK381.out 0).trans rfl, (zf BK381.out 1).trans rfl⟩ (fun hHeld => ?_)); clear hK K; refine yZ (a' := ?_) ?_ ?_; rotate_left
     ·(show Act.put _ (some 45) _ = _); simp only [qZ]; rfl
     (refine zM (i := 13) (N := some 46) (v := ?_) (a' := ?_) #[true, true, true, true, true, true, true, true, true, true, true, true, true, true, false, false, false] rfl rfl (zF HT_.out (by kernel_rfl)) (fun _ _ _ h => h) (Or.inl ⟨by rfl, ?_⟩) ?_ ?_); rotate_left
     ·intro w'; (go_simp); (with_reducible rfl)
     rotate_left
     ·simp only [qZ]; rfl
     (refine zM (i := 14) (N := some 47) (v := ?_) (a' := ?_) #[true, true, true, true, true, true, true, true, true, true, true, true, true, true, true, false, false] rfl rfl (zF HT_.out (by kernel_rfl)) (fun _ _ _ h => h) (Or.inl ⟨by rfl, ?_⟩) ?_ ?_); rotate_left
     ·intro w'; (go_simp); (with_reducible rfl)
     rotate_left
     ·simp only [qZ]; rfl
     (refine zM (i := 15) (N := some 6) (v := ?_) (a' := ?_) #[true, true, true, true, true, true, true, true, true, true, true, true, true, true, true, true, false] rfl rfl (zF HT_.out (by kernel_rfl)) (fun _ _ _ h => h) (Or.inl ⟨by rfl, ?_⟩) ?_ ?_); rotate_left
     ·intro w'; (go_simp); (with_reducible rfl)
     rotate_left
     ·simp only [qZ]; rfl
     (refine zM (i := 16) (N := some 7) (v := ?_) (a' := ?_) #[true, true, true, true, true, true, true, true, true, true, true, true, true, true, true, true, true] rfl rfl (zF HT_.out (by kernel_rfl)) (fun _ _ _ h => h) (Or.inl ⟨by rfl, ?_⟩) ?_ ?_); rotate_left
     ·intro w'; (go_simp); (with_reducible rfl)
     rotate_left
     ·simp only [qZ]; rfl
     (refine xY (xG HT_.out (by kernel_rfl)) ?_); (try go_wp2_with (first | (go_at_call 36; (with_reducible refine (yk.same a2 67 _ HWAY.out).mono ?_); rintro e w' ⟨rfl, rfl⟩))); (go_ret2); (exact ⟨qE, qC GE381.out⟩)
 ·rw [if_neg c5] at H; have c5b0 : (t380 == 0) = false := beq_eq_false_iff_ne.mpr c5; have c5b1 : (t380 != 0) = true := bne_iff_ne.mpr c5; simp only [Option.some.injEq, Prod.mk.injEq] at H; obtain ⟨rfl, rfl⟩ := H; (go_enter Tryd.func14, Tryd.ntmps14); (go_wp2_with (first | (go_at_call 36; (with_reducible refine (yk.same a2 67 _ HWAY.out).mono ?_); rintro e w' ⟨rfl, rfl⟩) | ((with_reducible refine zj (f := 35) rfl ?_); refine zD (some 14) rfl rfl Tryd.func35 (by kernel_rfl) rfl #[.string a0] rfl qM ?_; (with_reducible refine (zH.calls k a0 t376 t377 t380 _ A4.out).mono ?_); rintro e w25 ⟨v378, rfl, ho0, hb⟩; refine ⟨_, rfl, ?_⟩; have HO379 := za.mk (Kd.zB (Kd.zk (ok' := fun k_ => True) ho0 (fun k_ hk_ => trivial)) (zb qB)); replace HB := qS hb; (try clear hb); (try clear hb2); (try clear hk); (try clear hi); (try clear ho0)) | ((with_reducible refine zv (N := 8) rfl ?_); refine qE1 (N := 8) (cs := #[.bool false, .slice none 0 0]) (t := 43) (h := ?_); intro gb381 hg w26 hbox hb; replace HO379 := qY HO379 hg hb; have BK381 := za.mk (hbox); have GW381 := za.mk (qW hg : w.heap.size ≤ gb381); have GE381 := za.mk (qW hg : w.heap.size ≤ gb381); replace HB := qS hb; clear hb hbox hg; have hcz27_0 : w26.cell? ⟨gb381, 0, none⟩ = some (.bool false) := (zf BK381.out 0).trans rfl; have hcz27_1 : w26.cell? ⟨gb381, 1, none⟩ = some (.slice none 0 0) := (zf BK381.out 1).trans rfl; have hfz27_0 := zg BK381.out 0; have hfz27_1 := zg BK381.out 1; obtain ⟨Ao28, co28, eo28⟩ := Kd.zA HO379.out; subst eo28))); (go_ret2); (exact ⟨qE, qC GE381.out⟩)
-- HAND: function 14, by this session's own text
def xd.f (k : Nat) (a0 : ByteArray) (a1 : Int) (a2 : ByteArray) : Option (ByteArray × Int) := if yk.f a2 = some 67 then zX.f k a0 a1 a2 else if yk.f a2 = some 68 then none else if yk.f a2 = some 69 then none else if yk.f a2 = some 70 then none else if yk.f a2 = some 71 then none else if yk.f a2 = none then none else none
theorem xd.calls (k : Nat) (a0 : ByteArray) (a1 : Int) (a2 : ByteArray) (r1 : ByteArray) (r2 : Int) (w : World) (h : xd.f k a0 a1 a2 = some (r1, r2)) :
  Calls Tryd.prog 14 #[.string a0, .int .i64 a1, .string a2] w fun e w' => e = .returned (.tuple #[.string r1, .int .i64 r2]) ∧ Below w.heap.size w w' := by
 unfold xd.f at h
 split at h
 ·rename_i e; exact zX.calls k a0 a1 a2 r1 r2 w h e
 ·split at h
  ·cases h
  ·split at h
   ·cases h
   ·split at h
    ·cases h
    ·split at h
     ·cases h
     ·split at h
      ·cases h
      ·cases h
end Go.Proofs.YtldhiaiaildnlaaDoor.Q
