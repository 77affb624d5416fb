/- Texts of the claim: Qx18, Qx19. -/
import Derived.Test.YtldhiaiaildnlaaGreatDoorSQx4
set_option maxHeartbeats 8000000
set_option maxRecDepth 100000
namespace Go.Proofs.YtldhiaiaildnlaaGreatDoor.Q
open Go.RowKit Go.Proofs.YtldhiaiaildnlaaGreatDoorW.PrintWords Go.Proofs.YtldhiaiaildnlaaGreatDoorW.PrintLast Go.Proofs.YtldhiaiaildnlaaGreatDoorW.PrintMore
attribute [local go_sem] yy yw yP yO yj yi yx yv
set_option linter.unusedVariables false
set_option linter.unusedSimpArgs false
def zC.l0 : Nat → List Int → Int → Int → Option (List Int)
 | 0, _, _, _ => none
 | k + 1, x0, x2, x3 => if x2 < x3 then (if 0 ≤ x3 then (if x3 < (x0.length : Int) then (if 0 ≤ x2 then (if x2 < (x0.length : Int) then (zC.l0 k ((x0.set (x2 : Int).toNat (rd x0 x3)).set (x3 : Int).toNat (rd x0 x2)) (wrap64 (x2 + 1)) (wrap64 (x3 - 1))) else (none)) else (none)) else (none)) else (none)) else (some x0)
def zC.f (k : Nat) (l0 : List Int) : Option (List Int) := zC.l0 k l0 0 (wrap64 ((l0.length : Int) - 1))
def zC.T3 : Bool × List (List Nat × List Nat) := (true, [([], []), ([], []), ([], []), ([], []), ([], []), ([], []), ([4, 5], [4, 5]), ([6], [6]), ([], []), ([], []), ([8, 9], [8, 9]), ([10], [10]), ([0, 1, 0, 1, 4, 5, 6, 7, 11], [0, 1]), ([12, 7, 0, 1, 4, 5, 6, 7, 11], [7, 12]), ([2, 3, 0, 1, 2, 3, 4, 5, 6, 7, 8, 9, 10, 11, 12, 13], [2, 3]), ([14, 11, 13, 0, 1, 2, 3, 4, 5, 6, 7, 8, 9, 10, 11, 12, 13], [11, 14])])
def zC.B3 : List Nat := [0, 0, 0, 0, 0, 0, 48, 112, 0, 0, 768, 1792, 4083, 8179, 16383, 32767]
theorem zC.tab3 : rtab .any (opsOf Tryz.f77 3) = zC.T3 := by kernel_rfl
theorem zC.bits3 : waitsOk zC.T3.2 zC.B3 = true := by kernel_rfl
theorem zC.calls (k : Nat) (P0_ : Nat → Prop) (u9000_ : Value) (l0 : List Int) (r : List Int) (w0 w : World) (hB : Below w0.heap.size w0 w) (ho0 : Kd.R (Kd.int .u8) 5 w w0.heap.size P0_ u9000_ l0) (h : zC.f k l0 = some r) :
  Calls Tryz.prog 77 #[u9000_] w fun e w' => e = .returned (.tuple #[]) ∧ Kd.R (Kd.int .u8) 5 w' w0.heap.size (fun k_ => (P0_ k_ ∨ w.heap.size ≤ k_)) u9000_ r ∧ Below w0.heap.size w0 w' ∧ Kept w w' (fun k_ => P0_ k_) := by
 (have HO0 := za.mk (show Kd.R (Kd.int .u8) 5 w w0.heap.size (fun k_ => (P0_ k_ ∨ w.heap.size ≤ k_)) u9000_ l0 from Kd.xn ho0 (fun k_ hk => (.inl hk)))); (have HK := za.mk (Kept.refl w (fun k_ => P0_ k_))); have HW0 := za.mk hB.size; have HB := za.mk hB; clear hB; have H : (zC.l0 k l0 0 (wrap64 ((l0.length : Int) - 1))) = some r := h; clear h; have H' := za.mk H; clear H; obtain ⟨Ao2, co2, eo2⟩ := Kd.yL HO0.out; subst eo2; (go_enter Tryz.func77, Tryz.ntmps77); (go_wp2); (go_loopg [2, 3] k (fun kq v2 v3 w' => ∃ (x0_1 : List Int) (x2_1 : Int) (x3_1 : Int), v2 = .int .i64 x2_1 ∧ v3 = .int .i64 x3_1 ∧ za (zC.l0 kq x0_1 x2_1 x3_1 = some r) ∧ za (kq ≤ k) ∧ za (Kd.R (Kd.int .u8) 5 w' w0.heap.size (fun k_ => (P0_ k_ ∨ w.heap.size ≤ k_)) (.slice Ao2 l0.length co2) x0_1) ∧ za (Kept w w' (fun k_ => P0_ k_)) ∧ za (Below w0.heap.size w0 w')))
 case atStart => exact ⟨(l0), (0), (wrap64 ((l0.length : Int) - 1)), qI, qI, H', ⟨Nat.le_refl _⟩, ⟨by (with_reducible repeat (first | apply Kd.zZ | apply Kd.zY | apply Kd.ye)); exact HO0.out⟩, ⟨by repeat (first | (with_reducible first | exact HK.out | apply Kept.alloc | apply Kept.drewN | apply Kept.drew) | exact HK.out)⟩, ⟨qB⟩⟩
 case round =>
  clear H'; (try clear p2); obtain ⟨x0_1, x2_1, x3_1, rfl, rfl, HA, HK1, HO_0, HK, HB⟩ := hrel; have hl0_1 := (Kd.yc HO_0.out).1; rw [hl0_1] at HO_0; (try simp only [hl0_1])
  cases gk with
  | zero => exact absurd HA.out (by simp [zC.l0])
  | succ k1 =>
   have H := HA.out; clear HA; simp only [zC.l0] at H; by_cases c3 : x2_1 < x3_1
   ·rw [if_pos c3] at H; have c3b0 : decide (x2_1 < x3_1) = true := decide_eq_true c3; clear c3; by_cases c4 : 0 ≤ x3_1
    ·rw [if_pos c4] at H; have c4b0 : decide (0 ≤ x3_1) = true := decide_eq_true c4; clear c4; by_cases c5 : x3_1 < (x0_1.length : Int)
     ·rw [if_pos c5] at H; have c5b0 : decide (x3_1 < (x0_1.length : Int)) = true := decide_eq_true c5; (try (have c5b0h := c5b0; simp only [hl0_1] at c5b0h)); clear c5; by_cases c6 : 0 ≤ x2_1
      ·rw [if_pos c6] at H; have c6b0 : decide (0 ≤ x2_1) = true := decide_eq_true c6; clear c6; by_cases c7 : x2_1 < (x0_1.length : Int)
       ·rw [if_pos c7] at H; have c7b0 : decide (x2_1 < (x0_1.length : Int)) = true := decide_eq_true c7; (try (have c7b0h := c7b0; simp only [hl0_1] at c7b0h)); clear c7; obtain ⟨y344, hy344⟩ : ∃ y_ : List Int, y_ = (x0_1.set (x2_1 : Int).toNat (rd x0_1 x3_1)) := ⟨_, rfl⟩; (replace H : (zC.l0 k1 (y344.set (x3_1 : Int).toNat (rd x0_1 x2_1)) (wrap64 (x2_1 + 1)) (wrap64 (x3_1 - 1))) = some r := by first | (rw [hy344]; with_reducible exact H) | (have H2_ := (Option.bind_some _ _).symm.trans H; rw [hy344]; with_reducible exact H2_) | (have H2_ := (Option.bind_some _ _).symm.trans H; with_reducible exact H2_) | with_reducible exact H | (rw [hy344]; exact H) | exact H); have Ny344 := za.mk hy344; clear hy344; obtain ⟨y345, hy345⟩ : ∃ y_ : List Int, y_ = (y344.set (x3_1 : Int).toNat (rd x0_1 x2_1)) := ⟨_, rfl⟩; (replace H : (zC.l0 k1 y345 (wrap64 (x2_1 + 1)) (wrap64 (x3_1 - 1))) = some r := by first | (rw [hy345]; with_reducible exact H) | (have H2_ := (Option.bind_some _ _).symm.trans H; rw [hy345]; with_reducible exact H2_) | (have H2_ := (Option.bind_some _ _).symm.trans H; with_reducible exact H2_) | with_reducible exact H | (rw [hy345]; exact H) | exact H); have Ny345 := za.mk hy345; clear hy345; have H' := za.mk H; clear H; (try go_wp2); replace HO_0 := za.mk (Kd.ye HO_0.out); replace HK := za.mk (Kept.drew HK.out); replace HB := za.mk (zQ HB.out); (have p342 : 0 ≤ (x3_1 : Int) := of_decide_eq_true qA); (have q342 : x3_1 < (x0_1.length : Int) := of_decide_eq_true qA); (obtain ⟨ad342, e342, hx342_0⟩ := Kd.yn (Kd.yc HO_0.out).2.2 x3_1 p342 q342); cases e342; replace p342 := eq_true p342; replace q342 := eq_true q342; (have p343 : 0 ≤ (x2_1 : Int) := of_decide_eq_true qA); (have q343 : x2_1 < (x0_1.length : Int) := of_decide_eq_true qA); (obtain ⟨ad343, e343, hx343_0⟩ := Kd.yn (Kd.yc HO_0.out).2.2 x2_1 p343 q343); (obtain rfl : ad342 = ad343 := (by injection e343)); replace p343 := eq_true p343; replace q343 := eq_true q343; (have p8 : 0 ≤ (x2_1 : Int) := of_decide_eq_true qA); (have q8 : (x2_1 : Int) < ((x0_1.length : Int) : Int) := of_decide_eq_true qA); (obtain ⟨go8, co8, eo8, gb8, gl8, cl8, HG8⟩ := Kd.xW HO_0.out (by omega)); (first | cases eo8 | (injection eo8 with ea_ en_ ec_; (first | subst ea_ | (injection ea_ with ea_; subst ea_)); subst ec_; clear en_)); have GB8 := za.mk gb8; have GG8 := za.mk HG8; clear gb8 gl8 HG8; (have HMgo8 := za.mk (show (P0_ go8 ∨ w.heap.size ≤ go8) from (HO_0.out.1 _ rfl))); (first | simp only [y7] at hx342_0 | skip); (first | simp only [y7] at hx343_0 | skip); obtain ⟨hx8_0, hf8_0⟩ := Kd.yT 0 HO_0.out (x2_1 : Int) p8 q8; replace p8 := eq_true p8; replace q8 := eq_true q8; have HP11 := Kd.R_putn HO_0.out (x2_1 : Int) (rd x0_1 x3_1); rw [← Ny344.out] at HP11; have HQ11 := za.mk HP11; clear HP11; (have p9 : 0 ≤ (x3_1 : Int) := of_decide_eq_true qA); (have q9 : (x3_1 : Int) < ((x0_1.length : Int) : Int) := of_decide_eq_true qA); obtain ⟨hx9_0, hf9_0⟩ := Kd.yT 0 HQ11.out (x3_1 : Int) p9 q9; replace p9 := eq_true p9; replace q9 := eq_true q9; have HP12 := Kd.R_putn HQ11.out (x3_1 : Int) (rd x0_1 x2_1); rw [← Ny345.out] at HP12; have HQ12 := za.mk HP12; clear HP12; (refine xL (n := 16) (S := fun w' => w'.cell? ⟨go8, (x3_1).toNat, none⟩ = some (.int .u8 (rd x0_1 x3_1)) ∧ w'.cell? ⟨go8, (x2_1).toNat, none⟩ = some (.int .u8 (rd x0_1 x2_1))) (ds := [13, 15]) #[false, false, false, false, false, false, false, false, false, false, false, false, false, false, false, false] (by kernel_rfl) rfl rfl ⟨hx342_0, hx343_0⟩ (fun hHeld => ?_); refine xo zC.tab3 zC.bits3 (fun HT_ HW_ => ?_)); (generalize wr.drew = w10 at HO_0 HK HB GG8 HQ11 HQ12 hf8_0 hf9_0 hx342_0 hx343_0 hx8_0 hx9_0 hHeld ⊢); (refine zM (i := 0) (N := some 14) (v := ?_) (a' := ?_) #[true, false, false, false, false, false, false, false, false, false, false, false, false, false, false, false] rfl rfl (zE HT_.out (by kernel_rfl)) (fun _ _ _ h => h) (Or.inl ⟨by rfl, ?_⟩) ?_ ?_); rotate_left
        ·intro w'; (go_simp); (with_reducible rfl)
        rotate_left
        ·simp only [qZ]; rfl
        (refine zM (i := 1) (N := some 15) (v := ?_) (a' := ?_) #[true, true, false, false, false, false, false, false, false, false, false, false, false, false, false, false] rfl rfl (zE HT_.out (by kernel_rfl)) (fun _ _ _ h => h) (Or.inl ⟨by rfl, ?_⟩) ?_ ?_); rotate_left
        ·intro w'; (go_simp); (with_reducible rfl)
        rotate_left
        ·simp only [qZ]; rfl
        (refine zM (i := 2) (N := some 16) (v := ?_) (a' := ?_) #[true, true, true, false, false, false, false, false, false, false, false, false, false, false, false, false] rfl rfl (zE HT_.out (by kernel_rfl)) (fun _ _ _ h => h) (Or.inl ⟨by rfl, ?_⟩) ?_ ?_); rotate_left
        ·intro w'; (go_simp); (with_reducible rfl)
        rotate_left
        ·simp only [qZ]; rfl
        (refine zM (i := 3) (N := some 17) (v := ?_) (a' := ?_) #[true, true, true, true, false, false, false, false, false, false, false, false, false, false, false, false] rfl rfl (zE HT_.out (by kernel_rfl)) (fun _ _ _ h => h) (Or.inl ⟨by rfl, ?_⟩) ?_ ?_); rotate_left
        ·intro w'; (go_simp); (with_reducible rfl)
        rotate_left
        ·simp only [qZ]; rfl
        (refine zM (i := 4) (N := some 18) (v := ?_) (a' := ?_) #[true, true, true, true, true, false, false, false, false, false, false, false, false, false, false, false] rfl rfl (zE HT_.out (by kernel_rfl)) (fun _ _ _ h => h) (Or.inl ⟨by rfl, ?_⟩) ?_ ?_); rotate_left
        ·intro w'; (go_simp); (with_reducible rfl)
        rotate_left
        ·simp only [qZ]; rfl
        (refine zM (i := 5) (N := some 19) (v := ?_) (a' := ?_) #[true, true, true, true, true, true, false, false, false, false, false, false, false, false, false, false] rfl rfl (zE HT_.out (by kernel_rfl)) (fun _ _ _ h => h) (Or.inl ⟨by rfl, ?_⟩) ?_ ?_); rotate_left
        ·intro w'; (go_simp); (with_reducible rfl)
        rotate_left
        ·simp only [qZ]; rfl
        (refine zM (i := 6) (N := some 20) (v := ?_) (a' := ?_) #[true, true, true, true, true, true, true, false, false, false, false, false, false, false, false, false] rfl rfl (zE HT_.out (by kernel_rfl)) (fun _ _ _ h => h) (Or.inl ⟨by rfl, ?_⟩) ?_ ?_); rotate_left
        ·intro w'; (go_simp); (with_reducible rfl)
        rotate_left
        ·simp only [qZ]; rfl
        (refine zM (i := 8) (N := some 22) (v := ?_) (a' := ?_) #[true, true, true, true, true, true, true, false, true, false, false, false, false, false, false, false] rfl rfl (zE HT_.out (by kernel_rfl)) (fun _ _ _ h => h) (Or.inl ⟨by rfl, ?_⟩) ?_ ?_); rotate_left
        ·intro w'; (go_simp); (with_reducible rfl)
        rotate_left
        ·simp only [qZ]; rfl
        (refine zM (i := 9) (N := some 23) (v := ?_) (a' := ?_) #[true, true, true, true, true, true, true, false, true, true, false, false, false, false, false, false] rfl rfl (zE HT_.out (by kernel_rfl)) (fun _ _ _ h => h) (Or.inl ⟨by rfl, ?_⟩) ?_ ?_); rotate_left
        ·intro w'; (go_simp); (with_reducible rfl)
        rotate_left
        ·simp only [qZ]; rfl
        (refine zM (i := 10) (N := some 24) (v := ?_) (a' := ?_) #[true, true, true, true, true, true, true, false, true, true, true, false, false, false, false, false] rfl rfl (zE HT_.out (by kernel_rfl)) (fun _ _ _ h => h) (Or.inl ⟨by rfl, ?_⟩) ?_ ?_); rotate_left
        ·intro w'; (go_simp); (with_reducible rfl)
        rotate_left
        ·simp only [qZ]; rfl
        (refine xw (i := 7) (N := some 21) (v := ?_) (a' := ?_) #[true, true, true, true, true, true, true, true, true, true, true, false, false, false, false, false] rfl rfl (yG HT_.out HW_.out (by kernel_rfl)) (fun _ _ _ h => h) (Or.inl ⟨by rfl, ?_⟩) hHeld ?_ ?_); rotate_left
        ·rintro w' ⟨s0, s1⟩; (go_simp); (with_reducible rfl)
        rotate_left
        ·simp only [qZ]; rfl
        (refine xw (i := 11) (N := some 25) (v := ?_) (a' := ?_) #[true, true, true, true, true, true, true, true, true, true, true, true, false, false, false, false] rfl rfl (yG HT_.out HW_.out (by kernel_rfl)) (fun _ _ _ h => h) (Or.inl ⟨by rfl, ?_⟩) hHeld ?_ ?_); rotate_left
        ·rintro w' ⟨s0, s1⟩; (go_simp); (with_reducible rfl)
        rotate_left
        ·simp only [qZ]; rfl
        (refine zM (i := 12) (N := some 26) (v := ?_) (a' := ?_) #[true, true, true, true, true, true, true, true, true, true, true, true, true, false, false, false] rfl rfl (zE HT_.out (by kernel_rfl)) (fun _ _ _ h => h) (Or.inl ⟨by rfl, ?_⟩) ?_ ?_); rotate_left
        ·intro w'; (go_simp); (with_reducible rfl)
        rotate_left
        ·simp only [qZ]; rfl
        (refine last_ (i := 13) (N := none) #[true, true, true, true, true, true, true, true, true, true, true, true, true, true, false, false] rfl rfl (xb HT_.out (by kernel_rfl)) (by decide) (fun K hK => ?_)); (refine zbN (w1 := ?_) (by rfl) rfl ?_ ?_); rotate_left
        ·(go_simp); rfl
        refine hK.out _ _ ?_; clear hK K; (refine zM (i := 14) (N := some 27) (v := ?_) (a' := ?_) #[true, true, true, true, true, true, true, true, true, true, true, true, true, true, true, false] rfl rfl (zE HT_.out (by kernel_rfl)) (fun _ _ _ h => h) (Or.inl ⟨by rfl, ?_⟩) ?_ ?_); rotate_left
        ·intro w'; (go_simp); (with_reducible rfl)
        rotate_left
        ·simp only [qZ]; rfl
        (refine last_ (i := 15) (N := none) #[true, true, true, true, true, true, true, true, true, true, true, true, true, true, true, true] rfl rfl (xb HT_.out (by kernel_rfl)) (by decide) (fun K hK => ?_)); (refine zbN (w1 := ?_) (by rfl) rfl ?_ ?_); rotate_left
        ·(go_simp); rfl
        refine hK.out _ _ ?_; clear hK K; (refine zab (xK HT_.out (by kernel_rfl)) ?_); (try go_wp2); (try simp only [← hl0_1]); (go_roundg k1)
        case measure => have := HK1.out; omega
        case rel => exact ⟨(y345), (wrap64 (x2_1 + 1)), (wrap64 (x3_1 - 1)), qI, qI, H', ⟨by have := HK1.out; omega⟩, ⟨by (try simp only [hl0_1]); (with_reducible repeat (first | apply Kd.zZ | apply Kd.zY | apply Kd.ye)); exact HQ12.out⟩, ⟨by repeat (first | (with_reducible first | exact HK.out | apply Kept.alloc | apply Kept.drewN | apply Kept.drew | refine Kept.setCell ?_ HMgo8.out _ | refine Kept.setCell ?_ HMgo8.out _) | exact HK.out)⟩, ⟨qD GB8.out GB8.out⟩⟩
       ·rw [if_neg c7] at H; (exact absurd H (by simp))
      ·rw [if_neg c6] at H; (exact absurd H (by simp))
     ·rw [if_neg c5] at H; (exact absurd H (by simp))
    ·rw [if_neg c4] at H; (exact absurd H (by simp))
   ·rw [if_neg c3] at H; have c3b0 : decide (x2_1 < x3_1) = false := decide_eq_false c3; clear c3; obtain rfl := Option.some.inj H; (go_wp2); (first | go_end0 | ((try simp only [Exit.inBlock, Exit.then]); refine bodyPost_ret (results_none rfl _ _ _) rfl ?_)); (exact ⟨qE, (by first | exact (qR HO_0.out) | (simp only [hl0_1]; exact (qR HO_0.out))), qB, by repeat (first | (with_reducible first | exact HK.out | apply Kept.alloc | apply Kept.drewN | apply Kept.drew) | exact HK.out)⟩)
mutual
def zp.l0 : Nat → Int → List Int → List Int → Int → Int → Option (ByteArray)
 | 0, _, _, _, _, _ => none
 | k + 1, x1, x5, x8, x9, x10 => if x10 < x9 then (if 0 ≤ x10 then (if x10 < (x8.length : Int) then (zp.l1 k x1 x5 (rd x8 x10) x8 x9 x10 0) else (none)) else (none)) else (zp.l2 k x1 x5)
def zp.l1 : Nat → Int → List Int → Int → List Int → Int → Int → Int → Option (ByteArray)
 | 0, _, _, _, _, _, _, _ => none
 | k + 1, x1, x5, x7, x8, x9, x10, x14 => if x14 < 9 then (if x5.length < 140737488355328 then (zp.l1 k x1 (x5 ++ [(IntKind.u64.wrap (48 + (Int.tmod x7 10))) % 256]) (IntKind.u64.wrap (Int.tdiv x7 10)) x8 x9 x10 (wrap64 (x14 + 1))) else (none)) else (zp.l0 k x1 x5 x8 x9 (wrap64 (x10 + 1)))
def zp.j3 : Nat → Int → List Int → Option (ByteArray)
 | 0, _, _ => none
 | k + 1, x1, x5 => zp.l3 k x1 x5
def zp.l3 : Nat → Int → List Int → Option (ByteArray)
 | 0, _, _ => none
 | k + 1, x1, x5 => if (x5.length : Int) < x1 then (if x5.length < 140737488355328 then (zp.l3 k x1 (x5 ++ [48])) else (none)) else ((zC.f k x5).bind fun t357 => (some (strOfNums t357)))
def zp.l2 : Nat → Int → List Int → Option (ByteArray)
 | 0, _, _ => none
 | k + 1, x1, x5 => if (x5.length : Int) > x1 then (if 0 ≤ (wrap64 ((x5.length : Int) - 1)) then (if (wrap64 ((x5.length : Int) - 1)) < (x5.length : Int) then (if (rd x5 (wrap64 ((x5.length : Int) - 1))) = 48 then (if (wrap64 ((x5.length : Int) - 1)) ≤ (x5.length : Int) then (zp.l2 k x1 (x5.take ((wrap64 ((x5.length : Int) - 1)) : Int).toNat)) else (none)) else (zp.j3 k x1 x5)) else (none)) else (none)) else (zp.j3 k x1 x5)
end
def zp.f (k : Nat) (l0 : List Int) (a1 : Int) : Option (ByteArray) := zp.l0 k a1 ([] : List Int) l0 (l0.length : Int) 0
theorem zp.calls (k : Nat) (A0 : Option Addr) (c0 : Nat) (l0 : List Int) (a1 : Int) (r : ByteArray) (w : World) (hr0 : Kd.C (Kd.int .u64) w A0 l0.length l0) (hc0 : l0.length ≤ c0) (h : zp.f k l0 a1 = some r) :
  Calls Tryz.prog 63 #[.slice A0 l0.length c0, .int .i64 a1] w fun e w' => e = .returned (.string r) ∧ Below w.heap.size w w' := by
 have HR0 := za.mk hr0; have HC0 := za.mk hc0; clear hr0 hc0; have HB := za.mk (Below.refl w.heap.size w); have H : (zp.l0 k a1 ([] : List Int) l0 (l0.length : Int) 0) = some r := h; clear h; have H' := za.mk H; clear H; (go_enter Tryz.func63, Tryz.ntmps63); (go_wp2); (go_loopg [5, 10] k (fun kq v5 v10 w' => ∃ (x5_1 : List Int) (x10_1 : Int), v10 = .int .i64 x10_1 ∧ za (zp.l0 kq a1 x5_1 l0 (l0.length : Int) x10_1 = some r) ∧ za (kq ≤ k) ∧ za (Kd.R (Kd.int .u8) 5 w' w.heap.size (fun _ => True) v5 x5_1) ∧ za (Below w.heap.size w w')))
 case atStart => exact ⟨(([] : List Int)), (0), qI, H', ⟨Nat.le_refl _⟩, ⟨by first | exact Kd.zaT _ _ _ _ _ | exact Kd.N_nil _ _ _ _ _ | exact Kd.zao _ _ _ _ _ | exact Kd.Q_nil _ _ _ _ _ | exact Kd.zaT _ _ _ _ _⟩, ⟨qB⟩⟩
 case round =>
  clear H'; (try clear p2); obtain ⟨x5_1, x10_1, rfl, HA, HK1, HO_5, HB⟩ := hrel
  cases gk with
  | zero => exact absurd HA.out (by simp [zp.l0])
  | succ k1 =>
   have H := HA.out; clear HA; simp only [zp.l0] at H; by_cases c3 : x10_1 < (l0.length : Int)
   ·rw [if_pos c3] at H; have c3b0 : decide (x10_1 < (l0.length : Int)) = true := decide_eq_true c3; clear c3; by_cases c4 : 0 ≤ x10_1
    ·rw [if_pos c4] at H; have c4b0 : decide (0 ≤ x10_1) = true := decide_eq_true c4; clear c4; by_cases c5 : x10_1 < (l0.length : Int)
     ·rw [if_pos c5] at H; have c5b0 : decide (x10_1 < (l0.length : Int)) = true := decide_eq_true c5; clear c5; have H' := za.mk H; clear H; (have p346 : 0 ≤ (x10_1 : Int) := of_decide_eq_true qA); (have q346 : x10_1 < (l0.length : Int) := of_decide_eq_true qA); (obtain ⟨ad346, e346, hx346_0⟩ := Kd.yn HR0.out x10_1 p346 q346); cases e346; replace hx346_0 := (HB.out.cell (World.block_lt_of_cell? w _ hx346_0)).trans hx346_0; replace p346 := eq_true p346; replace q346 := eq_true q346; (go_wp2); (go_loopg [5, 7, 14] k1 (fun kq v5 v7 v14 w' => ∃ (x5_2 : List Int) (x7_2 : Int) (x14_2 : Int), v7 = .int .u64 x7_2 ∧ v14 = .int .i64 x14_2 ∧ za (zp.l1 kq a1 x5_2 x7_2 l0 (l0.length : Int) x10_1 x14_2 = some r) ∧ za (kq ≤ k1) ∧ za (Kd.R (Kd.int .u8) 5 w' w.heap.size (fun _ => True) v5 x5_2) ∧ za (Below w.heap.size w w')))
      case atStart => exact ⟨(x5_1), (rd l0 x10_1), (0), qI, qI, H', ⟨Nat.le_refl _⟩, ⟨by (with_reducible repeat (first | apply Kd.zZ | apply Kd.zY | apply Kd.ye)); exact HO_5.out⟩, ⟨qB⟩⟩
      case round =>
       clear H'; ((try clear p2); (try clear c3); (try clear c3b0); (try clear p3); (try clear q3); (try clear hx3); (try clear c4); (try clear c4b0); (try clear c5); (try clear c5b0); (try clear hx346_0); (try clear p2); (try clear p346); (try clear q346)); obtain ⟨x5_2, x7_2, x14_2, rfl, rfl, HA, HK2, HO_5, HB⟩ := hrel
       cases gk with
       | zero => exact absurd HA.out (by simp [zp.l1])
       | succ k2 =>
        have H := HA.out; clear HA; simp only [zp.l1] at H; by_cases c6 : x14_2 < 9
        ·rw [if_pos c6] at H; have c6b0 : decide (x14_2 < 9) = true := decide_eq_true c6; clear c6; by_cases c7 : x5_2.length < 140737488355328
         ·rw [if_pos c7] at H; have LMc7 := za.mk c7; clear c7; obtain ⟨y347, hy347⟩ : ∃ y_ : List Int, y_ = (x5_2 ++ [(IntKind.u64.wrap (48 + (Int.tmod x7_2 10))) % 256]) := ⟨_, rfl⟩; (replace H : (zp.l1 k2 a1 y347 (IntKind.u64.wrap (Int.tdiv x7_2 10)) l0 (l0.length : Int) x10_1 (wrap64 (x14_2 + 1))) = some r := by first | (rw [hy347]; with_reducible exact H) | (have H2_ := (Option.bind_some _ _).symm.trans H; rw [hy347]; with_reducible exact H2_) | (have H2_ := (Option.bind_some _ _).symm.trans H; with_reducible exact H2_) | with_reducible exact H | (rw [hy347]; exact H) | exact H); have Ny347 := za.mk hy347; clear hy347; have H' := za.mk H; clear H; (go_wp2_with (first | ((with_reducible refine yJ (b := .append) (xs := #[.tmp 16, .tmp 21]) rfl ?_); (try (refine yz (by rfl) ?_; dsimp only)); at_builtin; refine Kd.zap (Kd.int .u8) (w0 := w) w.heap.size rfl (.tmp 16) (.tmp 21) 78 5 (.int .u8 0) 1 rfl Tryz.underlying78 info5 rfl (by decide) (by omega) u5 x5_2 ((IntKind.u64.wrap (48 + (Int.tmod x7_2 10))) % 256) [.int .u8 ((IntKind.u64.wrap (48 + (Int.tmod x7_2 10))) % 256)] (fun _ => True) (fun _ => False) rfl rfl ?aP (fun _ hk => hk.elim) ?aF ?aO ?aB ?aS ?aL ?_; (case aP => exact rfl); (case aB => exact qB); (case aF => exact (fun _ _ => trivial)); (case aO => exact (qR HO_5.out)); (case aS => exact (zb qB)); (case aL => have := LMc7.out; omega); intro v348 w8 ho hb hg hat; rw [← Ny347.out] at ho; have n0_ := za.mk (hb); have n1_ := za.mk (ho); clear HB; clear HO_5; have HB := n0_; have HO349 := n1_; clear n0_ n1_; clear ho hb hg hat))); (go_roundg k2)
          case measure => have := HK1.out; have := HK2.out; omega
          case rel => exact ⟨(y347), (IntKind.u64.wrap (Int.tdiv x7_2 10)), (wrap64 (x14_2 + 1)), qI, qI, H', ⟨by have := HK1.out; have := HK2.out; omega⟩, ⟨by (with_reducible repeat (first | apply Kd.zZ | apply Kd.zY | apply Kd.ye)); exact HO349.out⟩, ⟨qB⟩⟩
         ·rw [if_neg c7] at H; (exact absurd H (by simp))
        ·rw [if_neg c6] at H; have c6b0 : decide (x14_2 < 9) = false := decide_eq_false c6; clear c6; have H' := za.mk H; clear H; (go_wp2); (go_roundg k2)
         case measure => have := HK1.out; have := HK2.out; omega
         case rel => exact ⟨(x5_2), (wrap64 (x10_1 + 1)), qI, H', ⟨by have := HK1.out; have := HK2.out; omega⟩, ⟨by (with_reducible repeat (first | apply Kd.zZ | apply Kd.zY | apply Kd.ye)); exact HO_5.out⟩, ⟨qB⟩⟩
     ·rw [if_neg c5] at H; (exact absurd H (by simp))
    ·rw [if_neg c4] at H; (exact absurd H (by simp))
   ·rw [if_neg c3] at H; have c3b0 : decide (x10_1 < (l0.length : Int)) = false := decide_eq_false c3; clear c3; have HC9 := za.mk H; clear H; (go_upto_block 4 with (fail)); (go_cut [5] (fun v5 wc => ∃ (kq : Nat) (x5_8 : List Int), za (zp.j3 kq a1 x5_8 = some r) ∧ za (kq ≤ k1) ∧ za (Kd.R (Kd.int .u8) 5 wc w.heap.size (fun _ => True) v5 x5_8) ∧ za (Below w.heap.size w wc)))
    case first =>
     have H := HC9.out; clear HC9; have H' := za.mk H; clear H; (go_wp2); (go_loopg [5] k1 (fun kq v5 w' => ∃ (x5_2 : List Int), za (zp.l2 kq a1 x5_2 = some r) ∧ za (kq ≤ k1) ∧ za (Kd.R (Kd.int .u8) 5 w' w.heap.size (fun _ => True) v5 x5_2) ∧ za (Below w.heap.size w w')))
     case atStart => exact ⟨(x5_1), H', ⟨Nat.le_refl _⟩, ⟨by (with_reducible repeat (first | apply Kd.zZ | apply Kd.zY | apply Kd.ye)); exact HO_5.out⟩, ⟨qB⟩⟩
     case round =>
      clear H'; ((try clear p2); (try clear c3); (try clear c3b0); (try clear p3); (try clear q3); (try clear hx3); (try clear c4); (try clear c4b0); (try clear c5); (try clear c5b0); (try clear c6); (try clear c6b0); (try clear p6); (try clear c7); (try clear hx346_0); (try clear p2); (try clear p3); (try clear p346); (try clear q3); (try clear q346)); obtain ⟨x5_2, HA, HK2, HO_5, HB⟩ := hrel
      cases gk with
      | zero => exact absurd HA.out (by simp [zp.l2])
      | succ k2 =>
       have H := HA.out; clear HA; simp only [zp.l2] at H; by_cases c10 : (x5_2.length : Int) > a1
       ·rw [if_pos c10] at H; have c10b0 : decide (a1 < (x5_2.length : Int)) = true := decide_eq_true c10; clear c10; (first | rw [c10b0] | rw [c10b1] | (simp only [xd, xO]; rw [c10b0]) | skip); obtain ⟨ji11, hji11⟩ : ∃ j_ : Int, (wrap64 ((x5_2.length : Int) - 1)) = j_ := ⟨_, rfl⟩; (replace H : (if 0 ≤ (ji11) then (if (ji11) < (x5_2.length : Int) then (if (rd x5_2 (ji11)) = 48 then (if (ji11) ≤ (x5_2.length : Int) then (zp.l2 k2 a1 (x5_2.take ((ji11) : Int).toNat)) else (none)) else (zp.j3 k2 a1 x5_2)) else (none)) else (none)) = some r := by first | (rw [hji11] at H; exact H) | (simp only [hji11] at H ⊢; exact H)); have hji11w : (IntKind.i64.wrap ((x5_2.length : Int) - 1)) = ji11 := (xd _).trans hji11; by_cases c12 : 0 ≤ (ji11)
        ·rw [if_pos c12] at H; have c12b0 : decide (0 ≤ (ji11)) = true := decide_eq_true c12; clear c12; by_cases c13 : (ji11) < (x5_2.length : Int)
         ·rw [if_pos c13] at H; have c13b0 : decide ((ji11) < (x5_2.length : Int)) = true := decide_eq_true c13; clear c13; by_cases c14 : (rd x5_2 (ji11)) = 48
          ·rw [if_pos c14] at H; have c14b0 : ((rd x5_2 (ji11)) == 48) = true := beq_iff_eq.mpr c14; have c14b1 : ((rd x5_2 (ji11)) != 48) = false := bne_eq_false_iff_eq.mpr c14; clear c14; by_cases c15 : (ji11) ≤ (x5_2.length : Int)
           ·rw [if_pos c15] at H; have c15b0 := eq_true c15; have c15b1 : decide ((ji11) ≤ (x5_2.length : Int)) = true := decide_eq_true c15; clear c15; obtain ⟨y351, hy351⟩ : ∃ y_ : List Int, y_ = (x5_2.take ((ji11) : Int).toNat) := ⟨_, rfl⟩; (replace H : (zp.l2 k2 a1 y351) = some r := by first | (rw [hy351]; with_reducible exact H) | (have H2_ := (Option.bind_some _ _).symm.trans H; rw [hy351]; with_reducible exact H2_) | (have H2_ := (Option.bind_some _ _).symm.trans H; with_reducible exact H2_) | with_reducible exact H | (rw [hy351]; exact H) | exact H); have Ny351 := za.mk hy351; clear hy351; have H' := za.mk H; clear H; obtain ⟨Ao16, co16, eo16⟩ := Kd.yL HO_5.out; subst eo16; (have p350 : 0 ≤ ((ji11) : Int) := of_decide_eq_true qA); (have q350 : (ji11) < (x5_2.length : Int) := of_decide_eq_true qA); (obtain ⟨ad350, e350, hx350_0⟩ := Kd.yn (Kd.yc HO_5.out).2.2 (ji11) p350 q350); cases e350; replace p350 := eq_true p350; replace q350 := eq_true q350; (have q17 : ((ji11) : Int) ≤ ((x5_2.length : Int) : Int) := of_decide_eq_true qA); obtain ⟨i017, hi017, _, hsz17, _⟩ := info_parts info5; (have hcut17 := zdR (P := Tryz.prog) 78 5 .i64 Tryz.underlying78 hi017 (some ad350) x5_2.length co16 (ji11) (of_decide_eq_true qA) q17 (Kd.yc HO_5.out).2.1); (have hr17 := Kd.R_take (m := ((ji11) : Int).toNat) HO_5.out (by omega)); (have hy17 : y351.length = ((ji11) : Int).toNat := (by rw [Ny351.out, List.length_take]; omega)); rw [← Ny351.out] at hr17; rw [← hy17] at hr17 hcut17; clear hy17 hi017 hsz17 HO_5; have HO353 := za.mk hr17; clear hr17; replace q17 := eq_true q17; (go_wp2); (go_roundg k2)
            case measure => have := HK1.out; have := HK2.out; omega
            case rel => exact ⟨(y351), H', ⟨by have := HK1.out; have := HK2.out; omega⟩, ⟨by (with_reducible repeat (first | apply Kd.zZ | apply Kd.zY | apply Kd.ye)); exact HO353.out⟩, ⟨qB⟩⟩
           ·rw [if_neg c15] at H; (exact absurd H (by simp))
          ·rw [if_neg c14] at H; have c14b0 : ((rd x5_2 (ji11)) == 48) = false := beq_eq_false_iff_ne.mpr c14; have c14b1 : ((rd x5_2 (ji11)) != 48) = true := bne_iff_ne.mpr c14; have H' := za.mk H; clear H; obtain ⟨Ao18, co18, eo18⟩ := Kd.yL HO_5.out; subst eo18; (have p350 : 0 ≤ ((ji11) : Int) := of_decide_eq_true qA); (have q350 : (ji11) < (x5_2.length : Int) := of_decide_eq_true qA); (obtain ⟨ad350, e350, hx350_0⟩ := Kd.yn (Kd.yc HO_5.out).2.2 (ji11) p350 q350); cases e350; replace p350 := eq_true p350; replace q350 := eq_true q350; (go_wp2); (go_meet)
           case rel => exact ⟨_, (x5_2), H', ⟨by have := HK1.out; have := HK2.out; first | omega | exact Nat.le_refl _⟩, ⟨by (with_reducible repeat (first | apply Kd.zZ | apply Kd.zY | apply Kd.ye)); exact HO_5.out⟩, ⟨qB⟩⟩
         ·rw [if_neg c13] at H; (exact absurd H (by simp))
        ·rw [if_neg c12] at H; (exact absurd H (by simp))
       ·rw [if_neg c10] at H; have c10b0 : decide (a1 < (x5_2.length : Int)) = false := decide_eq_false c10; clear c10; (first | rw [c10b0] | rw [c10b1] | (simp only [xd, xO]; rw [c10b0]) | skip); have H' := za.mk H; clear H; obtain ⟨Ao19, co19, eo19⟩ := Kd.yL HO_5.out; subst eo19; (go_wp2); (go_meet)
        case rel => exact ⟨_, (x5_2), H', ⟨by have := HK1.out; have := HK2.out; first | omega | exact Nat.le_refl _⟩, ⟨by (with_reducible repeat (first | apply Kd.zZ | apply Kd.zY | apply Kd.ye)); exact HO_5.out⟩, ⟨qB⟩⟩
    case rest =>
     clear HC9; ((try clear c1); (try clear q1); (try clear p2); (try clear c3); (try clear c3b0); (try clear p3); (try clear q3); (try clear hx3); (try clear c4); (try clear c4b0); (try clear c5); (try clear c5b0); (try clear c6); (try clear c6b0); (try clear p6); (try clear c7); (try clear c10); (try clear c10b0); (try clear c12); (try clear c12b0); (try clear c13); (try clear c13b0); (try clear c14); (try clear c14b0); (try clear c14b1); (try clear c15); (try clear c15b0); (try clear c15b1); (try clear q17); (try clear hx346_0); (try clear hx350_0); (try clear p2); (try clear p3); (try clear p346); (try clear p350); (try clear p6); (try clear q17); (try clear q3); (try clear q346); (try clear q350)); obtain ⟨kq, x5_8, HA, HJ8, HO_5, HB⟩ := hcut
     cases kq with
     | zero => exact absurd HA.out (by simp [zp.j3])
     | succ kj8 =>
      have H := HA.out; clear HA; simp only [zp.j3] at H; have H' := za.mk H; clear H; (go_wp2); (go_loopg [5] kj8 (fun kq v5 w' => ∃ (x5_3 : List Int), za (zp.l3 kq a1 x5_3 = some r) ∧ za (kq ≤ kj8) ∧ za (Kd.R (Kd.int .u8) 5 w' w.heap.size (fun _ => True) v5 x5_3) ∧ za (Below w.heap.size w w')))
      case atStart => exact ⟨(x5_8), H', ⟨Nat.le_refl _⟩, ⟨by (with_reducible repeat (first | apply Kd.zZ | apply Kd.zY | apply Kd.ye)); exact HO_5.out⟩, ⟨qB⟩⟩
      case round =>
       clear H'; ((try clear c1); (try clear q1); (try clear p2); (try clear c3); (try clear c3b0); (try clear p3); (try clear q3); (try clear hx3); (try clear c4); (try clear c4b0); (try clear c5); (try clear c5b0); (try clear c6); (try clear c6b0); (try clear p6); (try clear c7); (try clear c10); (try clear c10b0); (try clear c12); (try clear c12b0); (try clear c13); (try clear c13b0); (try clear c14); (try clear c14b0); (try clear c14b1); (try clear c15); (try clear c15b0); (try clear c15b1); (try clear q17); (try clear hx346_0); (try clear hx350_0); (try clear p2); (try clear p3); (try clear p346); (try clear p350); (try clear p6); (try clear q1); (try clear q17); (try clear q3); (try clear q346); (try clear q350)); obtain ⟨x5_3, HA, HK3, HO_5, HB⟩ := hrel
       cases gk with
       | zero => exact absurd HA.out (by simp [zp.l3])
       | succ k3 =>
        have H := HA.out; clear HA; simp only [zp.l3] at H; by_cases c20 : (x5_3.length : Int) < a1
        ·rw [if_pos c20] at H; have c20b0 : decide ((x5_3.length : Int) < a1) = true := decide_eq_true c20; clear c20; by_cases c21 : x5_3.length < 140737488355328
         ·rw [if_pos c21] at H; have LMc21 := za.mk c21; clear c21; obtain ⟨y354, hy354⟩ : ∃ y_ : List Int, y_ = (x5_3 ++ [48]) := ⟨_, rfl⟩; (replace H : (zp.l3 k3 a1 y354) = some r := by first | (rw [hy354]; with_reducible exact H) | (have H2_ := (Option.bind_some _ _).symm.trans H; rw [hy354]; with_reducible exact H2_) | (have H2_ := (Option.bind_some _ _).symm.trans H; with_reducible exact H2_) | with_reducible exact H | (rw [hy354]; exact H) | exact H); have Ny354 := za.mk hy354; clear hy354; have H' := za.mk H; clear H; obtain ⟨Ao22, co22, eo22⟩ := Kd.yL HO_5.out; subst eo22; (go_wp2_with (first | ((with_reducible refine yJ (b := .append) (xs := #[.tmp 49, .tmp 50]) rfl ?_); (try (refine yz (by rfl) ?_; dsimp only)); at_builtin; refine Kd.zap (Kd.int .u8) (w0 := w) w.heap.size rfl (.tmp 49) (.tmp 50) 78 5 (.int .u8 0) 1 rfl Tryz.underlying78 info5 rfl (by decide) (by omega) (.slice Ao22 x5_3.length co22) x5_3 48 [.int .u8 48] (fun _ => True) (fun _ => False) rfl rfl ?aP (fun _ hk => hk.elim) ?aF ?aO ?aB ?aS ?aL ?_; (case aP => exact rfl); (case aB => exact qB); (case aF => exact (fun _ _ => trivial)); (case aO => exact (qR HO_5.out)); (case aS => exact (zb qB)); (case aL => have := LMc21.out; omega); intro v355 w23 ho hb hg hat; rw [← Ny354.out] at ho; have n0_ := za.mk (hb); have n1_ := za.mk (ho); clear HB; clear HO_5; have HB := n0_; have HO356 := n1_; clear n0_ n1_; clear ho hb hg hat))); (go_roundg k3)
          case measure => have := HK1.out; have := HJ8.out; have := HK3.out; omega
          case rel => exact ⟨(y354), H', ⟨by have := HK1.out; have := HJ8.out; have := HK3.out; omega⟩, ⟨by (with_reducible repeat (first | apply Kd.zZ | apply Kd.zY | apply Kd.ye)); exact HO356.out⟩, ⟨qB⟩⟩
         ·rw [if_neg c21] at H; (exact absurd H (by simp))
        ·rw [if_neg c20] at H; have c20b0 : decide ((x5_3.length : Int) < a1) = false := decide_eq_false c20; clear c20; replace H := Option.bind_eq_some_iff.mp H; obtain ⟨t357, A240, H⟩ := H; replace H : (some (strOfNums t357)) = some r := H; have A24 := za.mk A240; clear A240; obtain rfl := Option.some.inj H; obtain ⟨Ao25, co25, eo25⟩ := Kd.yL HO_5.out; subst eo25; (go_wp2_with (first | ((with_reducible refine zh (f := 77) rfl ?_); refine zy (some 53) rfl rfl Tryz.func77 (by kernel_rfl) rfl #[.slice Ao25 x5_3.length co25] rfl qM ?_; (with_reducible refine (zC.calls k3 (fun k_ => some k_ = (.slice Ao25 x5_3.length co25 : Value).ownBlock) (.slice Ao25 x5_3.length co25) x5_3 t357 w _ ?side1 ?side2 A24.out).mono ?_); (case side1 => repeat (first | (with_reducible first | exact HB.out | apply yf | apply z1 | apply zQ) | exact HB.out)); (case side2 => exact Kd.xD rfl HO_5.out); rintro e w26 ⟨rfl, hy0, hb, hkp⟩; refine ⟨_, rfl, ?_⟩; replace HO_5 := za.mk (Kd.R_reok rfl hy0 (fun k_ e_ => HO_5.out.1 k_ e_)); replace HB := za.mk (hb); (try clear hb); (try clear hkp); (try clear hy0); have hcv27 := zcb (P := Tryz.prog) Tryz.underlying78 Tryz.underlying5 Tryz.underlying9 (Kd.zbz HO_5.out)))); (go_ret); (exact ⟨qE, qB⟩)
-- HAND: function 64, by this session's own text
def yk.f (a0 : ByteArray) (a1 : ByteArray) : Option (ByteArray) := if a1.size = 1 ∧ (a1.get! 0).toNat < 128 ∧ a0.size ≤ 9223372036854775807 then some ⟨(Lib.trimRightB a0.data.toList (a1.get! 0)).toArray⟩ else none
theorem yk.calls (a0 : ByteArray) (a1 : ByteArray) (r : ByteArray) (w : World) (h : yk.f a0 a1 = some r) :
  Calls Tryz.prog 64 #[.string a0, .string a1] w fun e w' => e = .returned (.string r) ∧ Below w.heap.size w w' := by
 unfold yk.f at h
 split at h
 ·rename_i hs
  obtain rfl := Option.some.inj h
  have hc := Tryz.strings_TrimRight_one a0 (a1.get! 0) hs.2.1 w hs.2.2
  rw [← zde a1 hs.1] at hc
  refine hc.mono ?_
  rintro e w' ⟨he, rfl⟩
  exact ⟨he, Below.refl _ _⟩
 ·cases h
end Go.Proofs.YtldhiaiaildnlaaGreatDoor.Q
