/- Printed by sv.py: what the program's code asks and does, piece by piece. -/
import Derived.Test.YtpmdlaojndejfaaGreatDoorKc11
import Derived.ProofKit
namespace Go.Proofs.YtpmdlaojndejfaaGreatDoor.E
open Go
set_option linter.unusedVariables false
set_option linter.unusedSimpArgs false
set_option maxRecDepth 1000000
abbrev σ_fits : Type := (List (List V)) × Int × Int × ByteArray × ByteArray × Int × Int × Int
def d_fits : List V → Heap → Option σ_fits := fun vs H => match vs, H with
  | [.lit (.int .i64 i), .ptr 0 0 0 0, .ptr 1 100055558127616 0 0, .lit (.int .i64 last), .lit (.int .i64 k)], [.rows 1 0 [[.arr rows]], .rows 4 100055558127616 [[.lit (.int .i64 xk), .lit (.string xn), .lit (.string xt), .lit (.int .i64 xu)]]] => some (rows, i, xk, xn, xt, xu, last, k)
  | _, _ => none
def e_fits : σ_fits → List V := fun a => match a with
  | (rows, i, xk, xn, xt, xu, last, k) => [.lit (.int .i64 i), .ptr 0 0 0 0, .ptr 1 100055558127616 0 0, .lit (.int .i64 last), .lit (.int .i64 k)]
def h_fits : σ_fits → Heap := fun a => match a with
  | (rows, i, xk, xn, xt, xu, last, k) => [.rows 1 0 [[.arr rows]], .rows 4 100055558127616 [[.lit (.int .i64 xk), .lit (.string xn), .lit (.string xt), .lit (.int .i64 xu)]]]
theorem k_fits {fg : Bool} {P : σ_fits → Prop} : DecOK fg d_fits e_fits h_fits P := by
  intro vs H a h hp
  unfold d_fits at h
  split at h
  · simp only [Option.some.injEq] at h; subst h; exact ⟨rfl, .inl rfl⟩
  · cases h
abbrev σ_fits_1 : Type := (List (List V)) × Int × ByteArray × ByteArray × Int × Int
def d_fits_1 : List V → Heap → Option σ_fits_1 := fun vs H => match vs, H with
  | [.ptr 0 0 0 0, .ptr 1 100055558127616 0 0, .lit (.int .i64 last)], [.rows 1 0 [[.arr rows]], .rows 4 100055558127616 [[.lit (.int .i64 xk), .lit (.string xn), .lit (.string xt), .lit (.int .i64 xu)]]] => some (rows, xk, xn, xt, xu, last)
  | _, _ => none
def e_fits_1 : σ_fits_1 → List V := fun a => match a with
  | (rows, xk, xn, xt, xu, last) => [.ptr 0 0 0 0, .ptr 1 100055558127616 0 0, .lit (.int .i64 last)]
def h_fits_1 : σ_fits_1 → Heap := fun a => match a with
  | (rows, xk, xn, xt, xu, last) => [.rows 1 0 [[.arr rows]], .rows 4 100055558127616 [[.lit (.int .i64 xk), .lit (.string xn), .lit (.string xt), .lit (.int .i64 xu)]]]
theorem k_fits_1 {fg : Bool} {P : σ_fits_1 → Prop} : DecOK fg d_fits_1 e_fits_1 h_fits_1 P := by
  intro vs H a h hp
  unfold d_fits_1 at h
  split at h
  · simp only [Option.some.injEq] at h; subst h; exact ⟨rfl, .inl rfl⟩
  · cases h
abbrev σ_fits_2 : Type := Bool
def d_fits_2 : List V → Heap → Option σ_fits_2 := fun vs H => match vs, H with
  | [.lit (.bool b)], _ => some b
  | _, _ => none
def e_fits_2 : σ_fits_2 → List V := fun a => match a with
  | b => [.lit (.bool b)]
def h_fits_2 : σ_fits_2 → Heap := fun a => match a with
  | b => []
theorem k_fits_2 {P : σ_fits_2 → Prop} : DecOK true d_fits_2 e_fits_2 h_fits_2 P := by
  intro vs H a h hp
  unfold d_fits_2 at h
  split at h
  · simp only [Option.some.injEq] at h; subst h; exact ⟨rfl, .inr ⟨rfl, _, rfl, (fun b hb => by simp [h_fits_2] at hb), (fun v hv => by
      simp only [e_fits_2, List.mem_cons, List.not_mem_nil, or_false] at hv
      subst hv; exact lowVb_ok rfl)⟩⟩
  · cases h
def L_fits (P_fits : σ_fits → Prop) (Q_fits_1 : σ_fits → σ_fits_1 → Prop) (Q_fits_2 : σ_fits → σ_fits_2 → Prop) : LD σ_fits := ⟨121, [1, 2, 5, 7, 8], d_fits, e_fits, h_fits, P_fits, [⟨σ_fits_1, .exit 0, [2, 5, 7], d_fits_1, e_fits_1, h_fits_1, Q_fits_1⟩, ⟨σ_fits_2, .ret, [4], d_fits_2, e_fits_2, h_fits_2, Q_fits_2⟩]⟩
def r_fits (rows : List (List V)) (i : Int) (xk : Int) (xn : ByteArray) (xt : ByteArray) (xu : Int) (last : Int) (k : Int) (Q_fits_1 : σ_fits → σ_fits_1 → Prop) (Q_fits_2 : σ_fits → σ_fits_2 → Prop) (N : σ_fits → σ_fits → Prop) : Prop :=
    (if decide (k < i) = true then (if rowsOk nodeSh rows = true then (if 0 ≤ k then (if Int.toNat k < List.length rows then (if (uR rows (Int.toNat k) == xu) = true then (if (xk == 2) = true then (if rowsOk nodeSh rows = true then (if 0 ≤ k then (if Int.toNat k < List.length rows then (if (kR rows (Int.toNat k) != 2) = true then (Q_fits_2 ((rows, i, xk, xn, xt, xu, last, k)) (false)) else (if rowsOk nodeSh rows = true then (if 0 ≤ k then (if Int.toNat k < List.length rows then (if (ByteArray.toList (nR rows (Int.toNat k)) == ByteArray.toList xn) = true then (Q_fits_2 ((rows, i, xk, xn, xt, xu, last, k)) (false)) else (N ((rows, i, xk, xn, xt, xu, last, k)) ((rows, i, xk, xn, xt, xu, k, IntKind.wrap IntKind.i64 (k + 1))))) else False) else False) else False)) else False) else False) else False) else (N ((rows, i, xk, xn, xt, xu, last, k)) ((rows, i, xk, xn, xt, xu, k, IntKind.wrap IntKind.i64 (k + 1))))) else (N ((rows, i, xk, xn, xt, xu, last, k)) ((rows, i, xk, xn, xt, xu, last, IntKind.wrap IntKind.i64 (k + 1))))) else False) else False) else False) else (Q_fits_1 ((rows, i, xk, xn, xt, xu, last, k)) ((rows, xk, xn, xt, xu, last))))
theorem w_fits (m : Int) (rows : List (List V)) (i : Int) (xk : Int) (xn : ByteArray) (xt : ByteArray) (xu : Int) (last : Int) (k : Int) (P_fits : σ_fits → Prop) (Q_fits_1 : σ_fits → σ_fits_1 → Prop) (Q_fits_2 : σ_fits → σ_fits_2 → Prop) (N : σ_fits → σ_fits → Prop) :
    codeF (env m) (con12) (fun _ => none) 0 (atC [1, 1, 1, 1, 1, 1, 1, 0, 1, 0, 0] (bodyOf (env m).P 51)) [1, 1, 1, 1, 1, 1, 1, 0, 1, 0, 0] ((L_fits P_fits Q_fits_1 Q_fits_2).st (rows, i, xk, xn, xt, xu, last, k)) ((L_fits P_fits Q_fits_1 Q_fits_2).leaf N (rows, i, xk, xn, xt, xu, last, k)) =
    r_fits rows i xk xn xt xu last k Q_fits_1 Q_fits_2 N := by kernel_rfl
theorem l_fits (m : Int) {ro : Option Nat} (hc : ConR (env m) (Lw m) (con12)) {P_fits : σ_fits → Prop} {Q_fits_1 : σ_fits → σ_fits_1 → Prop} {Q_fits_2 : σ_fits → σ_fits_2 → Prop} (μ : σ_fits → Nat)
    (h0 : ∀ (rows : List (List V)) (i : Int) (xk : Int) (xn : ByteArray) (xt : ByteArray) (xu : Int) (last : Int) (k : Int), P_fits (rows, i, xk, xn, xt, xu, last, k) → r_fits rows i xk xn xt xu last k Q_fits_1 Q_fits_2 (fun a a' => P_fits a' ∧ μ a' < μ a ∧ (∀ c, Q_fits_1 a' c → Q_fits_1 a c) ∧ (∀ c, Q_fits_2 a' c → Q_fits_2 a c))) :
    SpOK (env m) (Lw m) ro (atC [1, 1, 1, 1, 1, 1, 1, 0, 1, 0] (bodyOf (env m).P 51)) (L_fits P_fits Q_fits_1 Q_fits_2).sp true := by
  rw [show atC [1, 1, 1, 1, 1, 1, 1, 0, 1, 0] (bodyOf (env m).P 51) = .loop (atC [1, 1, 1, 1, 1, 1, 1, 0, 1, 0, 0] (bodyOf (env m).P 51)) from by kernel_rfl]
  have hd : (L_fits P_fits Q_fits_1 Q_fits_2).dok true := ⟨k_fits, fun o ho => by
    simp only [L_fits, List.mem_cons, List.mem_singleton, List.not_mem_nil, or_false] at ho
    rcases ho with rfl | rfl
    · intro a; exact k_fits_1
    · intro a; exact k_fits_2⟩
  refine LD.loop_ok hd hc L_up lok_none (u := 0) μ (p := [1, 1, 1, 1, 1, 1, 1, 0, 1, 0, 0]) rfl ?_
  rintro (⟨rows, i, xk, xn, xt, xu, last, k⟩) ha
  · exact Eq.mpr (w_fits m rows i xk xn xt xu last k P_fits Q_fits_1 Q_fits_2 _) (h0 rows i xk xn xt xu last k ha)
abbrev σ_fitsR : Type := (List (List V)) × Int × Int × ByteArray × ByteArray × Int
def d_fitsR : List V → Heap → Option σ_fitsR := fun vs H => match vs, H with
  | [.lit (.int .i64 i), .ptr 0 0 0 0, .ptr 1 100055558127616 0 0], [.rows 1 0 [[.arr rows]], .rows 4 100055558127616 [[.lit (.int .i64 xk), .lit (.string xn), .lit (.string xt), .lit (.int .i64 xu)]]] => some (rows, i, xk, xn, xt, xu)
  | _, _ => none
def e_fitsR : σ_fitsR → List V := fun a => match a with
  | (rows, i, xk, xn, xt, xu) => [.lit (.int .i64 i), .ptr 0 0 0 0, .ptr 1 100055558127616 0 0]
def h_fitsR : σ_fitsR → Heap := fun a => match a with
  | (rows, i, xk, xn, xt, xu) => [.rows 1 0 [[.arr rows]], .rows 4 100055558127616 [[.lit (.int .i64 xk), .lit (.string xn), .lit (.string xt), .lit (.int .i64 xu)]]]
theorem k_fitsR {fg : Bool} {P : σ_fitsR → Prop} : DecOK fg d_fitsR e_fitsR h_fitsR P := by
  intro vs H a h hp
  unfold d_fitsR at h
  split at h
  · simp only [Option.some.injEq] at h; subst h; exact ⟨rfl, .inl rfl⟩
  · cases h
abbrev σ_fitsR_1 : Type := Bool
def d_fitsR_1 : List V → Heap → Option σ_fitsR_1 := fun vs H => match vs, H with
  | [.lit (.bool b)], _ => some b
  | _, _ => none
def e_fitsR_1 : σ_fitsR_1 → List V := fun a => match a with
  | b => [.lit (.bool b)]
def h_fitsR_1 : σ_fitsR_1 → Heap := fun a => match a with
  | b => []
theorem k_fitsR_1 {P : σ_fitsR_1 → Prop} : DecOK true d_fitsR_1 e_fitsR_1 h_fitsR_1 P := by
  intro vs H a h hp
  unfold d_fitsR_1 at h
  split at h
  · simp only [Option.some.injEq] at h; subst h; exact ⟨rfl, .inr ⟨rfl, _, rfl, (fun b hb => by simp [h_fitsR_1] at hb), (fun v hv => by
      simp only [e_fitsR_1, List.mem_cons, List.not_mem_nil, or_false] at hv
      subst hv; exact lowVb_ok rfl)⟩⟩
  · cases h
def L_fitsR (P_fitsR : σ_fitsR → Prop) (Q_fitsR_1 : σ_fitsR → σ_fitsR_1 → Prop) : LD σ_fitsR := ⟨121, [1, 2, 5], d_fitsR, e_fitsR, h_fitsR, P_fitsR, [⟨σ_fitsR_1, .ret, [4], d_fitsR_1, e_fitsR_1, h_fitsR_1, Q_fitsR_1⟩]⟩
def r_fitsR (rows : List (List V)) (i : Int) (xk : Int) (xn : ByteArray) (xt : ByteArray) (xu : Int) (Q_fitsR_1 : σ_fitsR → σ_fitsR_1 → Prop) (P_fits : σ_fits → Prop) (Q_fits_1 : σ_fits → σ_fits_1 → Prop) (Q_fits_2 : σ_fits → σ_fits_2 → Prop) : Prop :=
    ((P_fits ((rows, i, xk, xn, xt, xu, -1, IntKind.wrap IntKind.i64 (xu + 1)))) ∧ ((∀ c1 : List (List V) × Int × ByteArray × ByteArray × Int × Int, ((Q_fits_1 ((rows, i, xk, xn, xt, xu, -1, IntKind.wrap IntKind.i64 (xu + 1))) (c1)) → (if decide (c1.2.2.2.2.2 < 0) = true then (Q_fitsR_1 ((rows, i, xk, xn, xt, xu)) (true)) else (if (c1.2.1 != 3) = true then (Q_fitsR_1 ((rows, i, xk, xn, xt, xu)) (true)) else (if rowsOk nodeSh c1.1 = true then (if 0 ≤ c1.2.2.2.2.2 then (if Int.toNat c1.2.2.2.2.2 < List.length c1.1 then (if (kR c1.1 (Int.toNat c1.2.2.2.2.2) != 3) = true then (Q_fitsR_1 ((rows, i, xk, xn, xt, xu)) (true)) else (Q_fitsR_1 ((rows, i, xk, xn, xt, xu)) (false))) else False) else False) else False))))) ∧ (∀ c2 : Bool, ((Q_fits_2 ((rows, i, xk, xn, xt, xu, -1, IntKind.wrap IntKind.i64 (xu + 1))) (c2)) → (Q_fitsR_1 ((rows, i, xk, xn, xt, xu)) (c2))))))
theorem w_fitsR (m : Int) (rows : List (List V)) (i : Int) (xk : Int) (xn : ByteArray) (xt : ByteArray) (xu : Int) (P_fitsR : σ_fitsR → Prop) (Q_fitsR_1 : σ_fitsR → σ_fitsR_1 → Prop) (P_fits : σ_fits → Prop) (Q_fits_1 : σ_fits → σ_fits_1 → Prop) (Q_fits_2 : σ_fits → σ_fits_2 → Prop) :
    codeF (env m) (con12) (lcAdd [1, 1, 1, 1, 1, 1, 1, 0, 1, 0] (L_fits P_fits Q_fits_1 Q_fits_2).sp (fun _ => none)) 0 (atC [1, 1, 1, 1, 1, 1] (bodyOf (env m).P 51)) [1, 1, 1, 1, 1, 1] ((L_fitsR P_fitsR Q_fitsR_1).st (rows, i, xk, xn, xt, xu)) (arrO 121 (L_fitsR P_fitsR Q_fitsR_1).outs (rows, i, xk, xn, xt, xu)) =
    r_fitsR rows i xk xn xt xu Q_fitsR_1 P_fits Q_fits_1 Q_fits_2 := by kernel_rfl
theorem l_fitsR (m : Int) {ro : Option Nat} (hc : ConR (env m) (Lw m) (con12)) {P_fitsR : σ_fitsR → Prop} {Q_fitsR_1 : σ_fitsR → σ_fitsR_1 → Prop} {P_fits : σ_fits → Prop} {Q_fits_1 : σ_fits → σ_fits_1 → Prop} {Q_fits_2 : σ_fits → σ_fits_2 → Prop} (hl_fits : SpOK (env m) (Lw m) ro (atC [1, 1, 1, 1, 1, 1, 1, 0, 1, 0] (bodyOf (env m).P 51)) (L_fits P_fits Q_fits_1 Q_fits_2).sp true)
    (h0 : ∀ (rows : List (List V)) (i : Int) (xk : Int) (xn : ByteArray) (xt : ByteArray) (xu : Int), P_fitsR (rows, i, xk, xn, xt, xu) → r_fitsR rows i xk xn xt xu Q_fitsR_1 P_fits Q_fits_1 Q_fits_2) :
    SpOK (env m) (Lw m) ro (atC [1, 1, 1, 1, 1, 1] (bodyOf (env m).P 51)) (L_fitsR P_fitsR Q_fitsR_1).sp true := by
  have hd : (L_fitsR P_fitsR Q_fitsR_1).dok true := ⟨k_fitsR, fun o ho => by
    simp only [L_fitsR, List.mem_cons, List.mem_singleton, List.not_mem_nil, or_false] at ho
    subst ho; intro a; exact k_fitsR_1⟩
  refine LD.piece_ok hd hc L_up (lok_add hl_fits lok_none) (u := 0) (p := [1, 1, 1, 1, 1, 1]) rfl ?_
  rintro (⟨rows, i, xk, xn, xt, xu⟩) ha
  · exact Eq.mpr (w_fitsR m rows i xk xn xt xu P_fitsR Q_fitsR_1 P_fits Q_fits_1 Q_fits_2) (h0 rows i xk xn xt xu ha)
def r_Ffits (rows : List (List V)) (i : Int) (P_fitsR : σ_fitsR → Prop) (Q_fitsR_1 : σ_fitsR → σ_fitsR_1 → Prop) (q : V → Prop) : Prop :=
    (if rowsOk nodeSh rows = true then (if 0 ≤ i then (if Int.toNat i < List.length rows then (if decide (uR rows (Int.toNat i) < 0) = true then (q (V.lit (Value.bool false))) else (if decide (uR rows (Int.toNat i) ≥ i) = true then (q (V.lit (Value.bool false))) else (if (rowsOk nodeSh rows && (decide (uR rows 0 < 0) && (decide (IntKind.wrap IntKind.i64 (i - 1) < toI (List.length rows)) && upB rows (IntKind.wrap IntKind.i64 (i - 1))))) = true then (if raboveB rows (uR rows (Int.toNat i)) (IntKind.wrap IntKind.i64 (i - 1)) = true then (if (kR rows (Int.toNat i) == 0) = true then (q (V.lit (Value.bool false))) else (if rowsOk nodeSh rows = true then (if 0 ≤ uR rows (Int.toNat i) then (if Int.toNat (uR rows (Int.toNat i)) < List.length rows then (if (kR rows (Int.toNat (uR rows (Int.toNat i))) != 1) = true then (if (kR rows (Int.toNat (uR rows (Int.toNat i))) != 0) = true then (q (V.lit (Value.bool false))) else (if (kR rows (Int.toNat i) == 2) = true then (q (V.lit (Value.bool false))) else (if (kR rows (Int.toNat i) != 2) = true then (if (rowsOk nodeSh rows && (decide (List.length rows ≤ 1000000000) && (decide (uR rows 0 < 0) && (decide (i < toI (List.length rows)) && upB rows i)))) = true then (if decide (toI (depthI rows i) > 200) = true then (q (V.lit (Value.bool false))) else ((P_fitsR ((rows, i, kR rows (Int.toNat i), nR rows (Int.toNat i), tR rows (Int.toNat i), uR rows (Int.toNat i)))) ∧ (∀ c1 : Bool, ((Q_fitsR_1 ((rows, i, kR rows (Int.toNat i), nR rows (Int.toNat i), tR rows (Int.toNat i), uR rows (Int.toNat i))) (c1)) → (q (V.lit (Value.bool c1))))))) else False) else ((P_fitsR ((rows, i, kR rows (Int.toNat i), nR rows (Int.toNat i), tR rows (Int.toNat i), uR rows (Int.toNat i)))) ∧ (∀ c2 : Bool, ((Q_fitsR_1 ((rows, i, kR rows (Int.toNat i), nR rows (Int.toNat i), tR rows (Int.toNat i), uR rows (Int.toNat i))) (c2)) → (q (V.lit (Value.bool c2))))))))) else (if (kR rows (Int.toNat i) != 2) = true then (if (rowsOk nodeSh rows && (decide (List.length rows ≤ 1000000000) && (decide (uR rows 0 < 0) && (decide (i < toI (List.length rows)) && upB rows i)))) = true then (if decide (toI (depthI rows i) > 200) = true then (q (V.lit (Value.bool false))) else ((P_fitsR ((rows, i, kR rows (Int.toNat i), nR rows (Int.toNat i), tR rows (Int.toNat i), uR rows (Int.toNat i)))) ∧ (∀ c3 : Bool, ((Q_fitsR_1 ((rows, i, kR rows (Int.toNat i), nR rows (Int.toNat i), tR rows (Int.toNat i), uR rows (Int.toNat i))) (c3)) → (q (V.lit (Value.bool c3))))))) else False) else ((P_fitsR ((rows, i, kR rows (Int.toNat i), nR rows (Int.toNat i), tR rows (Int.toNat i), uR rows (Int.toNat i)))) ∧ (∀ c4 : Bool, ((Q_fitsR_1 ((rows, i, kR rows (Int.toNat i), nR rows (Int.toNat i), tR rows (Int.toNat i), uR rows (Int.toNat i))) (c4)) → (q (V.lit (Value.bool c4)))))))) else False) else False) else False)) else (q (V.lit (Value.bool false)))) else False))) else False) else False) else False)
theorem w_Ffits (m : Int) (rows : List (List V)) (i : Int) (P_fitsR : σ_fitsR → Prop) (Q_fitsR_1 : σ_fitsR → σ_fitsR_1 → Prop) (q : V → Prop) :
    codeF (env m) (con12) (lcAdd [1, 1, 1, 1, 1, 1] (L_fitsR P_fitsR Q_fitsR_1).sp (fun _ => none)) 0 (bodyOf (env m).P 51) [] ⟨[.agg [.arr rows], .lit (.int .i64 i)] ++ List.replicate (121 - 2) un, [], []⟩ (finR (env m) (resOf (env m).P 51) (fun v _ => q v)) =
    r_Ffits rows i P_fitsR Q_fitsR_1 q := by kernel_rfl
theorem cc_fits (m : Int) (rows : List (List V)) (i : Int) (hc : ConR (env m) (Lw m) (con12)) {P_fitsR : σ_fitsR → Prop} {Q_fitsR_1 : σ_fitsR → σ_fitsR_1 → Prop} (hl_fitsR : SpOK (env m) (Lw m) none (atC [1, 1, 1, 1, 1, 1] (bodyOf (env m).P 51)) (L_fitsR P_fitsR Q_fitsR_1).sp true) {q : V → Prop} (hr : r_Ffits rows i P_fitsR Q_fitsR_1 q) :
    ∃ v_ K_ r_ H_, (Lw m).callX 51 [.agg [.arr rows], .lit (.int .i64 i)] [] = some (.ret (mapV r_ v_), H_) ∧ Rn r_ K_ H_ ∧ q v_ := by
  refine F_own (fg := true) hc (f := 51) (q := fun v _ => q v) (lok_add hl_fitsR lok_none) (u := 0) (by kernel_rfl) rfl ?_
  rw [show ntmpsOf (env m).P 51 = 121 from by kernel_rfl]
  exact Eq.mpr (w_Ffits m rows i P_fitsR Q_fitsR_1 q) hr
theorem ff_fits (m : Int) (rows : List (List V)) (i : Int) (hc : ConR (env m) (Lw m) (con12)) {P_fitsR : σ_fitsR → Prop} {Q_fitsR_1 : σ_fitsR → σ_fitsR_1 → Prop} (hl_fitsR : SpOK (env m) (Lw m) none (atC [1, 1, 1, 1, 1, 1] (bodyOf (env m).P 51)) (L_fitsR P_fitsR Q_fitsR_1).sp true) {w_ : V} (hw : closedV w_ = true) (hr : r_Ffits rows i P_fitsR Q_fitsR_1 (fun v_ => v_ = w_)) :
    ∃ H_, (Lw m).callX 51 [.agg [.arr rows], .lit (.int .i64 i)] [] = some (.ret w_, H_) := by
  obtain ⟨v_, K_, r_, H_, h1, h2, rfl⟩ := cc_fits m rows i hc hl_fitsR hr
  rw [closed_eq hw] at h1
  exact ⟨H_, h1⟩
abbrev σ_valid : Type := (List (List V)) × Int
def d_valid : List V → Heap → Option σ_valid := fun vs H => match vs, H with
  | [.ptr 0 0 0 0, .lit (.int .i64 i)], [.rows 1 0 [[.arr rows]]] => some (rows, i)
  | _, _ => none
def e_valid : σ_valid → List V := fun a => match a with
  | (rows, i) => [.ptr 0 0 0 0, .lit (.int .i64 i)]
def h_valid : σ_valid → Heap := fun a => match a with
  | (rows, i) => [.rows 1 0 [[.arr rows]]]
theorem k_valid {fg : Bool} {P : σ_valid → Prop} : DecOK fg d_valid e_valid h_valid P := by
  intro vs H a h hp
  unfold d_valid at h
  split at h
  · simp only [Option.some.injEq] at h; subst h; exact ⟨rfl, .inl rfl⟩
  · cases h
abbrev σ_valid_1 : Type := Unit
def d_valid_1 : List V → Heap → Option σ_valid_1 := fun vs H => match vs, H with
  | [], _ => some ()
  | _, _ => none
def e_valid_1 : σ_valid_1 → List V := fun a => match a with
  | () => []
def h_valid_1 : σ_valid_1 → Heap := fun a => match a with
  | () => []
theorem k_valid_1 {P : σ_valid_1 → Prop} : DecOK true d_valid_1 e_valid_1 h_valid_1 P := by
  intro vs H a h hp
  unfold d_valid_1 at h
  split at h
  · cases a; exact ⟨rfl, .inr ⟨rfl, _, rfl, (fun b hb => by simp [h_valid_1] at hb), (fun v hv => by simp [e_valid_1] at hv)⟩⟩
  · cases h
abbrev σ_valid_2 : Type := Bool
def d_valid_2 : List V → Heap → Option σ_valid_2 := fun vs H => match vs, H with
  | [.lit (.bool b)], _ => some b
  | _, _ => none
def e_valid_2 : σ_valid_2 → List V := fun a => match a with
  | b => [.lit (.bool b)]
def h_valid_2 : σ_valid_2 → Heap := fun a => match a with
  | b => []
theorem k_valid_2 {P : σ_valid_2 → Prop} : DecOK true d_valid_2 e_valid_2 h_valid_2 P := by
  intro vs H a h hp
  unfold d_valid_2 at h
  split at h
  · simp only [Option.some.injEq] at h; subst h; exact ⟨rfl, .inr ⟨rfl, _, rfl, (fun b hb => by simp [h_valid_2] at hb), (fun v hv => by
      simp only [e_valid_2, List.mem_cons, List.not_mem_nil, or_false] at hv
      subst hv; exact lowVb_ok rfl)⟩⟩
  · cases h
def L_valid (P_valid : σ_valid → Prop) (Q_valid_1 : σ_valid → σ_valid_1 → Prop) (Q_valid_2 : σ_valid → σ_valid_2 → Prop) : LD σ_valid := ⟨59, [1, 3], d_valid, e_valid, h_valid, P_valid, [⟨σ_valid_1, .exit 0, [], d_valid_1, e_valid_1, h_valid_1, Q_valid_1⟩, ⟨σ_valid_2, .ret, [2], d_valid_2, e_valid_2, h_valid_2, Q_valid_2⟩]⟩
def r_valid (rows : List (List V)) (i : Int) (Q_valid_1 : σ_valid → σ_valid_1 → Prop) (Q_valid_2 : σ_valid → σ_valid_2 → Prop) (N : σ_valid → σ_valid → Prop) : Prop :=
    (if decide (i < toI (List.length rows)) = true then (if rowsOk nodeSh rows = true then (if 0 ≤ i then (if Int.toNat i < List.length rows then (if rowsOk nodeSh rows = true then (if 0 ≤ i then (if Int.toNat i < List.length rows then (if rowsOk nodeSh rows = true then (if 0 ≤ i then (if Int.toNat i < List.length rows then (if (decide (ByteArray.size (nR rows (Int.toNat i)) ≤ 1000000) && decide (ByteArray.size (tR rows (Int.toNat i)) ≤ 1000000)) = true then (if allowedB (kR rows (Int.toNat i)) (nR rows (Int.toNat i)) (tR rows (Int.toNat i)) = true then (if decide (i > 0) = true then (if (rowsOk nodeSh rows && (decide (List.length rows ≤ 1000000) && (decide (uR rows 0 < 0) && (decide (0 < i) && (decide (i < toI (List.length rows)) && upB rows (i - 1)))))) = true then (if fitsB rows (Int.toNat i) = true then (N ((rows, i)) ((rows, IntKind.wrap IntKind.i64 (i + 1)))) else (Q_valid_2 ((rows, i)) (false))) else False) else (N ((rows, i)) ((rows, IntKind.wrap IntKind.i64 (i + 1))))) else (Q_valid_2 ((rows, i)) (false))) else False) else False) else False) else False) else False) else False) else False) else False) else False) else False) else (Q_valid_1 ((rows, i)) (PUnit.unit)))
theorem w_valid (m : Int) (rows : List (List V)) (i : Int) (P_valid : σ_valid → Prop) (Q_valid_1 : σ_valid → σ_valid_1 → Prop) (Q_valid_2 : σ_valid → σ_valid_2 → Prop) (N : σ_valid → σ_valid → Prop) :
    codeF (env m) (con13) (fun _ => none) 0 (atC [1, 1, 0, 1, 0, 0] (bodyOf (env m).P 25)) [1, 1, 0, 1, 0, 0] ((L_valid P_valid Q_valid_1 Q_valid_2).st (rows, i)) ((L_valid P_valid Q_valid_1 Q_valid_2).leaf N (rows, i)) =
    r_valid rows i Q_valid_1 Q_valid_2 N := by kernel_rfl
theorem l_valid (m : Int) {ro : Option Nat} (hc : ConR (env m) (Lw m) (con13)) {P_valid : σ_valid → Prop} {Q_valid_1 : σ_valid → σ_valid_1 → Prop} {Q_valid_2 : σ_valid → σ_valid_2 → Prop} (μ : σ_valid → Nat)
    (h0 : ∀ (rows : List (List V)) (i : Int), P_valid (rows, i) → r_valid rows i Q_valid_1 Q_valid_2 (fun a a' => P_valid a' ∧ μ a' < μ a ∧ (∀ c, Q_valid_1 a' c → Q_valid_1 a c) ∧ (∀ c, Q_valid_2 a' c → Q_valid_2 a c))) :
    SpOK (env m) (Lw m) ro (atC [1, 1, 0, 1, 0] (bodyOf (env m).P 25)) (L_valid P_valid Q_valid_1 Q_valid_2).sp true := by
  rw [show atC [1, 1, 0, 1, 0] (bodyOf (env m).P 25) = .loop (atC [1, 1, 0, 1, 0, 0] (bodyOf (env m).P 25)) from by kernel_rfl]
  have hd : (L_valid P_valid Q_valid_1 Q_valid_2).dok true := ⟨k_valid, fun o ho => by
    simp only [L_valid, List.mem_cons, List.mem_singleton, List.not_mem_nil, or_false] at ho
    rcases ho with rfl | rfl
    · intro a; exact k_valid_1
    · intro a; exact k_valid_2⟩
  refine LD.loop_ok hd hc L_up lok_none (u := 0) μ (p := [1, 1, 0, 1, 0, 0]) rfl ?_
  rintro (⟨rows, i⟩) ha
  · exact Eq.mpr (w_valid m rows i P_valid Q_valid_1 Q_valid_2 _) (h0 rows i ha)
def r_FValid (rows : List (List V)) (P_valid : σ_valid → Prop) (Q_valid_1 : σ_valid → σ_valid_1 → Prop) (Q_valid_2 : σ_valid → σ_valid_2 → Prop) (q : V → Prop) : Prop :=
    (if decide (toI (List.length rows) < 1) = true then (q (V.lit (Value.bool false))) else (if decide (toI (List.length rows) > 65536) = true then (q (V.lit (Value.bool false))) else (if rowsOk nodeSh rows = true then (if 0 < List.length rows then (if (uR rows 0 != -1) = true then (q (V.lit (Value.bool false))) else ((P_valid ((rows, 0))) ∧ ((∀ c1 : PUnit, ((Q_valid_1 ((rows, 0)) (c1)) → (q (V.lit (Value.bool true))))) ∧ (∀ c2 : Bool, ((Q_valid_2 ((rows, 0)) (c2)) → (q (V.lit (Value.bool c2)))))))) else False) else False)))
theorem w_FValid (m : Int) (rows : List (List V)) (P_valid : σ_valid → Prop) (Q_valid_1 : σ_valid → σ_valid_1 → Prop) (Q_valid_2 : σ_valid → σ_valid_2 → Prop) (q : V → Prop) :
    codeF (env m) (con13) (lcAdd [1, 1, 0, 1, 0] (L_valid P_valid Q_valid_1 Q_valid_2).sp (fun _ => none)) 0 (bodyOf (env m).P 25) [] ⟨[.agg [.arr rows]] ++ List.replicate (59 - 1) un, [], []⟩ (finR (env m) (resOf (env m).P 25) (fun v _ => q v)) =
    r_FValid rows P_valid Q_valid_1 Q_valid_2 q := by kernel_rfl
theorem cc_Valid (m : Int) (rows : List (List V)) (hc : ConR (env m) (Lw m) (con13)) {P_valid : σ_valid → Prop} {Q_valid_1 : σ_valid → σ_valid_1 → Prop} {Q_valid_2 : σ_valid → σ_valid_2 → Prop} (hl_valid : SpOK (env m) (Lw m) none (atC [1, 1, 0, 1, 0] (bodyOf (env m).P 25)) (L_valid P_valid Q_valid_1 Q_valid_2).sp true) {q : V → Prop} (hr : r_FValid rows P_valid Q_valid_1 Q_valid_2 q) :
    ∃ v_ K_ r_ H_, (Lw m).callX 25 [.agg [.arr rows]] [] = some (.ret (mapV r_ v_), H_) ∧ Rn r_ K_ H_ ∧ q v_ := by
  refine F_own (fg := true) hc (f := 25) (q := fun v _ => q v) (lok_add hl_valid lok_none) (u := 0) (by kernel_rfl) rfl ?_
  rw [show ntmpsOf (env m).P 25 = 59 from by kernel_rfl]
  exact Eq.mpr (w_FValid m rows P_valid Q_valid_1 Q_valid_2 q) hr
theorem ff_Valid (m : Int) (rows : List (List V)) (hc : ConR (env m) (Lw m) (con13)) {P_valid : σ_valid → Prop} {Q_valid_1 : σ_valid → σ_valid_1 → Prop} {Q_valid_2 : σ_valid → σ_valid_2 → Prop} (hl_valid : SpOK (env m) (Lw m) none (atC [1, 1, 0, 1, 0] (bodyOf (env m).P 25)) (L_valid P_valid Q_valid_1 Q_valid_2).sp true) {w_ : V} (hw : closedV w_ = true) (hr : r_FValid rows P_valid Q_valid_1 Q_valid_2 (fun v_ => v_ = w_)) :
    ∃ H_, (Lw m).callX 25 [.agg [.arr rows]] [] = some (.ret w_, H_) := by
  obtain ⟨v_, K_, r_, H_, h1, h2, rfl⟩ := cc_Valid m rows hc hl_valid hr
  rw [closed_eq hw] at h1
  exact ⟨H_, h1⟩
end Go.Proofs.YtpmdlaojndejfaaGreatDoor.E

/- The reference's fits and Valid. -/
set_option linter.unusedVariables false
set_option linter.unusedSimpArgs false
set_option maxRecDepth 100000
namespace Go.Proofs.YtpmdlaojndejfaaGreatDoor.E
open Go
theorem attrB_mono {rows : List (List V)} {p : Int} {n : ByteArray} : ∀ {i k : Nat}, k ≤ i → attrB rows p n i = true → attrB rows p n k = true
  | 0, k, h, ha => by have : k = 0 := by omega
                      subst this; exact ha
  | i + 1, k, h, ha => by
    by_cases e : k = i + 1
    · subst e; exact ha
    · simp only [attrB, Bool.and_eq_true] at ha
      exact attrB_mono (by omega) ha.1
theorem lastC_lt {rows : List (List V)} {p : Int} : ∀ (k : Nat), lastC rows p k < k ∧ (lastC rows p k < 0 ∨ (p < lastC rows p k ∧ uR rows (lastC rows p k).toNat = p))
  | 0 => by simp [lastC]
  | k + 1 => by
    have := lastC_lt (rows := rows) (p := p) k
    simp only [lastC]
    split
    · rename_i h
      refine ⟨by omega, .inr ⟨h.1, ?_⟩⟩
      simpa using h.2
    · exact ⟨by omega, this.2⟩
theorem fits_loop (m : Int) (rows : List (List V)) (i : Int) (hok : rowsOk nodeSh rows = true) (hlen : rows.length ≤ 1000000) (hi : i < rows.length) : SpOK (env m) (Lw m) none (atC [1, 1, 1, 1, 1, 1, 1, 0, 1, 0] (bodyOf (env m).P 51))
    (L_fits (fun (rows', i', xk, xn, xt, xu, last, k) => rows' = rows ∧ i' = i ∧ xk = kR rows i.toNat ∧ xn = nR rows i.toNat ∧ xt = tR rows i.toNat ∧ xu = uR rows i.toNat ∧ 0 ≤ k ∧ xu < k ∧ k ≤ i ∧ last = lastC rows xu k.toNat ∧ (xk = 2 → attrB rows xu xn k.toNat = true))
      (fun _ (rows', xk, xn, xt, xu, last) => rows' = rows ∧ xk = kR rows i.toNat ∧ last = lastC rows (uR rows i.toNat) i.toNat ∧ (xk = 2 → attrB rows (uR rows i.toNat) (nR rows i.toNat) i.toNat = true))
      (fun _ b => b = false ∧ kR rows i.toNat = 2 ∧ attrB rows (uR rows i.toNat) (nR rows i.toNat) i.toNat = false)).sp true := by
  refine l_fits m (con12_r m) (fun (rows', i', xk, xn, xt, xu, last, k) => (i - k).toNat) ?_
  rintro rows' i' xk xn xt xu last k ⟨rfl, rfl, rfl, rfl, rfl, rfl, h0, h1, h2, rfl, ha⟩
  unfold r_fits
  by_cases hk : k < i'
  · have hkl : k.toNat < rows'.length := by omega
    have w : IntKind.wrap .i64 (k + 1) = k + 1 := w64_id (by omega) (by omega)
    have ek : (k + 1).toNat = k.toNat + 1 := by omega
    have hcast : ((k.toNat : Nat) : Int) = k := by omega
    have hmeas : (i' - (k + 1)).toNat < (i' - k).toNat := by omega
    rw [if_pos (by simpa using hk)]
    simp only [hok, h0, hkl, if_true, w]
    by_cases hu : uR rows' k.toNat = uR rows' i'.toNat
    · have hl : lastC rows' (uR rows' i'.toNat) (k + 1).toNat = k := by
        rw [ek]; simp only [lastC, hcast]; rw [if_pos ⟨h1, hu⟩]
      rw [if_pos (by simpa using hu)]
      by_cases hx : kR rows' i'.toNat = 2
      · rw [if_pos (by simpa using hx)]
        have ea : attrB rows' (uR rows' i'.toNat) (nR rows' i'.toNat) (k + 1).toNat = (decide (kR rows' k.toNat = 2) && !((nR rows' k.toNat).toList == (nR rows' i'.toNat).toList)) := by
          rw [ek]; simp only [attrB, ha hx, hcast, decide_eq_true h1, decide_eq_true hu, Bool.true_and, Bool.not_true, Bool.false_or]
        have hno : attrB rows' (uR rows' i'.toNat) (nR rows' i'.toNat) (k + 1).toNat = false → attrB rows' (uR rows' i'.toNat) (nR rows' i'.toNat) i'.toNat = false := fun hf => by
          cases hc : attrB rows' (uR rows' i'.toNat) (nR rows' i'.toNat) i'.toNat
          · rfl
          · rw [attrB_mono (by omega) hc] at hf; cases hf
        refine ite_of (fun h => ⟨by trivial, hx, hno ?_⟩) fun h => ite_of (fun h3 => ⟨by trivial, hx, hno ?_⟩) fun h3 => ?_
        · rw [ea]; simp only [bne_iff_ne, ne_eq] at h; simp [h]
        · rw [ea, h3]; simp
        · simp only [bne_iff_ne, ne_eq, Decidable.not_not] at h
          refine ⟨⟨by trivial, by trivial, by trivial, by trivial, by trivial, by trivial, by omega, by omega, by omega, hl.symm, fun _ => ?_⟩, hmeas, fun _ h => h, fun _ h => h⟩
          rw [Bool.not_eq_true] at h3
          rw [ea, h3]; simp [h]
      · rw [if_neg (by simpa using hx)]
        exact ⟨⟨by trivial, by trivial, by trivial, by trivial, by trivial, by trivial, by omega, by omega, by omega, hl.symm, fun h => absurd h hx⟩, hmeas, fun _ h => h, fun _ h => h⟩
    · rw [if_neg (by simpa using hu)]
      refine ⟨⟨by trivial, by trivial, by trivial, by trivial, by trivial, by trivial, by omega, by omega, by omega, ?_, fun hx => ?_⟩, hmeas, fun _ h => h, fun _ h => h⟩
      · rw [ek]; simp only [lastC]; rw [if_neg (fun h => hu h.2)]
      · rw [ek]; simp only [attrB, ha hx, decide_eq_false hu, Bool.and_false, Bool.not_false, Bool.true_or, Bool.and_self]
  · rw [if_neg (by simpa using hk)]
    have : k = i' := by omega
    subst this
    exact ⟨rfl, rfl, rfl, ha⟩
def restB (rows : List (List V)) (i : Nat) : Bool := (!decide (kR rows i = 2) || attrB rows (uR rows i) (nR rows i) i) && (decide (lastC rows (uR rows i) i < 0) || (!decide (kR rows i = 3) || !decide (kR rows (lastC rows (uR rows i) i).toNat = 3)))
theorem fitsR_piece (m : Int) (rows : List (List V)) (i : Int) (hok : rowsOk nodeSh rows = true) (hlen : rows.length ≤ 1000000) (h0 : 0 ≤ uR rows i.toNat) (hu : uR rows i.toNat < i) (hi : i < rows.length) : SpOK (env m) (Lw m) none (atC [1, 1, 1, 1, 1, 1] (bodyOf (env m).P 51))
    (L_fitsR (fun (rows', i', xk, xn, xt, xu) => rows' = rows ∧ i' = i ∧ xk = kR rows i.toNat ∧ xn = nR rows i.toNat ∧ xt = tR rows i.toNat ∧ xu = uR rows i.toNat) (fun _ b => b = restB rows i.toNat)).sp true := by
  refine l_fitsR m (con12_r m) (fits_loop m rows i hok hlen hi) ?_
  rintro rows' i' xk xn xt xu ⟨rfl, rfl, rfl, rfl, rfl, rfl⟩
  unfold r_fitsR
  have w : IntKind.wrap .i64 (uR rows' i'.toNat + 1) = uR rows' i'.toNat + 1 := w64_id (by omega) (by omega)
  rw [w]
  have hnot : ∀ k : Nat, (k : Int) ≤ uR rows' i'.toNat + 1 → lastC rows' (uR rows' i'.toNat) k = -1 ∧ attrB rows' (uR rows' i'.toNat) (nR rows' i'.toNat) k = true := by
    intro k
    induction k with
    | zero => intro _; exact ⟨rfl, rfl⟩
    | succ k ih =>
      intro hk
      obtain ⟨a, b⟩ := ih (by omega)
      simp only [lastC, attrB]
      rw [if_neg (by omega), decide_eq_false (by omega)]
      exact ⟨a, by simp [b]⟩
  have hn := hnot (uR rows' i'.toNat + 1).toNat (by omega)
  refine ⟨⟨rfl, rfl, rfl, rfl, rfl, rfl, by omega, by omega, by omega, hn.1.symm, fun _ => hn.2⟩, ?_, ?_⟩
  · rintro ⟨r1, xk, xn, xt, xu, last⟩ ⟨rfl, rfl, rfl, ha⟩
    have ha' : (!decide (kR r1 i'.toNat = 2) || attrB r1 (uR r1 i'.toNat) (nR r1 i'.toNat) i'.toNat) = true := by
      by_cases hx : kR r1 i'.toNat = 2
      · simp [ha hx]
      · simp [hx]
    unfold restB
    rw [ha']
    have hl := lastC_lt (rows := r1) (p := uR r1 i'.toNat) i'.toNat
    simp only
    generalize lastC r1 (uR r1 i'.toNat) i'.toNat = last at *
    by_cases hl0 : last < 0
    · simp [hl0]
    · have hl1 : last.toNat < r1.length := by omega
      simp only [hok, hl1, show 0 ≤ last by omega, if_true]
      rw [if_neg (by simpa using hl0), decide_eq_false hl0]
      by_cases h3 : kR r1 i'.toNat = 3 <;> by_cases h4 : kR r1 last.toNat = 3 <;> simp [h3, h4]
  · rintro b ⟨rfl, hx, ha⟩
    simp only [restB, hx, ha]; simp
theorem fits_does (m : Int) (rows : List (List V)) (i : Int) (hok : rowsOk nodeSh rows = true) (hlen : rows.length ≤ 1000000) (hz : uR rows 0 < 0) (h0 : 0 < i) (hi : i < rows.length) (hup : upB rows (i - 1) = true) :
    ∃ H', (Lw m).callX 51 [.agg [.arr rows], .lit (.int .i64 i)] [] = some (.ret (.lit (.bool (fitsB rows i.toNat))), H') := by
  have w : IntKind.wrap .i64 (i - 1) = i - 1 := w64_id (by omega) (by omega)
  by_cases hu : 0 ≤ uR rows i.toNat ∧ uR rows i.toNat < i
  · have hci : ((i.toNat : Nat) : Int) = i := by omega
    have hup' : upB rows i = true := upB_iff.2 fun j a b => by
      by_cases e : (j : Int) = i
      · rw [e]
        have : j = i.toNat := by omega
        rw [this]; exact hu.2
      · exact upB_iff.1 hup j a (by omega)
    refine ff_fits m rows i (con12_r m) (fitsR_piece m rows i hok hlen hu.1 hu.2 hi) rfl ?_
    unfold r_Ffits fitsB
    have g1 : i.toNat < rows.length := by omega
    have g2 : (uR rows i.toNat).toNat < rows.length := by omega
    have g3 : decide (i - 1 < toI rows.length) = true := by simp [toI]; omega
    have g4 : decide (i < toI rows.length) = true := by simpa [toI] using hi
    have g5 : decide (rows.length ≤ 1000000000) = true := by simp; omega
    simp only [w, hok, show (0 : Int) ≤ i by omega, g1, g2, g3, g4, g5, hz, hup, hup', hu.1, hci, decide_true, Bool.and_self, if_true, decide_eq_true hu.2, Bool.true_and]
    rw [if_neg (by simp; omega), if_neg (by simp; omega)]
    cases hA : raboveB rows (uR rows i.toNat) (i - 1)
    · simp
    simp only [if_true, Bool.true_and]
    by_cases hk0 : kR rows i.toNat = 0
    · simp [hk0]
    rw [if_neg (by simpa using hk0), decide_eq_false hk0]
    have hfin : ∀ d : Bool, d = true → ((fun (rows', i', xk, xn, xt, xu) => rows' = rows ∧ i' = i ∧ xk = kR rows i.toNat ∧ xn = nR rows i.toNat ∧ xt = tR rows i.toNat ∧ xu = uR rows i.toNat : σ_fitsR → Prop) (rows, i, kR rows i.toNat, nR rows i.toNat, tR rows i.toNat, uR rows i.toNat) ∧
        (∀ c1 : Bool, ((fun _ b => b = restB rows i.toNat : σ_fitsR → σ_fitsR_1 → Prop) (rows, i, kR rows i.toNat, nR rows i.toNat, tR rows i.toNat, uR rows i.toNat) c1 → V.lit (Value.bool c1) = V.lit (Value.bool (d && restB rows i.toNat))))) := fun d hd => ⟨⟨rfl, rfl, rfl, rfl, rfl, rfl⟩, fun c1 hc => by rw [hd, hc]; rfl⟩
    simp only [Bool.not_false, Bool.true_and]
    have hdep : decide (toI (depthI rows i) > 200) = !decide (depthI rows i ≤ 200) := by
      rw [Bool.eq_iff_iff]; simp [toI]; omega
    rw [hdep]
    have hr : ∀ d : Bool, (d && ((!decide (kR rows i.toNat = 2) || attrB rows (uR rows i.toNat) (nR rows i.toNat) i.toNat) && (decide (lastC rows (uR rows i.toNat) i.toNat < 0) || (!decide (kR rows i.toNat = 3) || !decide (kR rows (lastC rows (uR rows i.toNat) i.toNat).toNat = 3))))) = (d && restB rows i.toNat) := fun d => rfl
    by_cases hk1 : kR rows (uR rows i.toNat).toNat = 1
    · rw [if_neg (by simp [hk1]), decide_eq_true hk1]
      by_cases hk2 : kR rows i.toNat = 2
      · rw [if_neg (by simp [hk2]), decide_eq_true hk2]
        refine ⟨by trivial, fun c1 hc => ?_⟩
        have hc' : c1 = restB rows i.toNat := hc
        rw [hc']; unfold restB; rw [hk2]; rfl
      · rw [if_pos (by simpa using hk2), decide_eq_false hk2]
        by_cases hd : depthI rows i ≤ 200
        · rw [if_neg (by simp [hd]), decide_eq_true hd]
          simpa only [hk2, decide_false, Bool.true_or, Bool.false_or, Bool.true_and, restB] using hfin true rfl
        · rw [if_pos (by simp; omega), decide_eq_false hd]; rfl
    · rw [if_pos (by simpa using hk1), decide_eq_false hk1]
      by_cases hk3 : kR rows (uR rows i.toNat).toNat = 0
      · rw [if_neg (by simp [hk3]), decide_eq_true hk3]
        by_cases hk2 : kR rows i.toNat = 2
        · rw [if_pos (by simp [hk2]), decide_eq_true hk2]; rfl
        · rw [if_neg (by simpa using hk2), if_pos (by simpa using hk2), decide_eq_false hk2]
          by_cases hd : depthI rows i ≤ 200
          · rw [if_neg (by simp [hd]), decide_eq_true hd]
            simpa only [hk2, decide_false, Bool.not_false, Bool.true_or, Bool.false_or, Bool.true_and, restB] using hfin true rfl
          · rw [if_pos (by simp; omega), decide_eq_false hd]; rfl
      · rw [if_pos (by simpa using hk3), decide_eq_false hk3]; rfl
  · refine ff_fits m rows i (con12_r m) (P_fitsR := fun _ => False) (Q_fitsR_1 := fun _ _ => True) (sp_false fun _ => id) rfl ?_
    unfold r_Ffits fitsB
    have g1 : i.toNat < rows.length := by omega
    simp only [hok, show (0 : Int) ≤ i by omega, g1, if_true]
    have hci : ((i.toNat : Nat) : Int) = i := by omega
    by_cases h1 : uR rows i.toNat < 0
    · rw [if_pos (by simpa using h1), decide_eq_false (by omega)]; rfl
    · rw [if_neg (by simpa using h1), if_pos (by simp; omega), hci, decide_eq_false (by omega : ¬ uR rows i.toNat < i)]
      simp
theorem fitsS_r {m : Int} : ConR (env m) (Lw m) con13 := addP_r (con12_r m) (by kernel_rfl) fun args v hs => by
  unfold fitsS at hs
  split at hs
  · simp only [Option.some.injEq, Prod.mk.injEq, Bool.and_eq_true, decide_eq_true_eq] at hs
    obtain ⟨⟨h1, h2, h3, h4, h5, h6⟩, rfl⟩ := hs
    exact ⟨rfl, rfl, fits_does m _ _ h1 h2 h3 h4 h5 h6⟩
  · cases hs
theorem con13_r (m : Int) : ConR (env m) (Lw m) con13 := fitsS_r
theorem validN_le {rows : List (List V)} : ∀ {n i : Nat}, i ≤ n → validN rows n = true → validN rows i = true
  | 0, i, h, ha => by have : i = 0 := by omega
                      subst this; exact ha
  | n + 1, i, h, ha => by
    by_cases e : i = n + 1
    · subst e; exact ha
    · simp only [validN, Bool.and_eq_true] at ha
      exact validN_le (by omega) ha.1
theorem validN_up {rows : List (List V)} (hz : uR rows 0 < 0) {n : Nat} (h : validN rows n = true) {i : Int} (hi : i < n) : upB rows i = true := upB_iff.2 fun j a b => by
  have := validN_le (i := j + 1) (by omega) h
  simp only [validN, Bool.and_eq_true, Bool.or_eq_true, decide_eq_true_eq, fitsB] at this
  rcases this.2.2 with h | h
  · omega
  · exact h.2.1
theorem smallB_at {rows : List (List V)} (h : smallB rows = true) {i : Nat} (hi : i < rows.length) : (decide ((nR rows i).size ≤ 1000000) && decide ((tR rows i).size ≤ 1000000)) = true := List.all_eq_true.1 h i (List.mem_range.2 hi)
theorem valid_loop (m : Int) (rows : List (List V)) (hok : rowsOk nodeSh rows = true) (hlen : rows.length ≤ 65536) (hz : uR rows 0 < 0) (hs : smallB rows = true) : SpOK (env m) (Lw m) none (atC [1, 1, 0, 1, 0] (bodyOf (env m).P 25))
    (L_valid (fun (rows', i) => rows' = rows ∧ 0 ≤ i ∧ i ≤ rows.length ∧ validN rows i.toNat = true) (fun _ _ => validN rows rows.length = true) (fun _ b => b = false ∧ validN rows rows.length = false)).sp true := by
  refine l_valid m (con13_r m) (fun (rows', i) => rows.length - i.toNat) ?_
  rintro rows' i ⟨rfl, h0, h1, hv⟩
  unfold r_valid
  by_cases hi : i < rows'.length
  · have g1 : i.toNat < rows'.length := by omega
    have w : IntKind.wrap .i64 (i + 1) = i + 1 := w64_id (by omega) (by omega)
    have hno : validN rows' (i.toNat + 1) = false → validN rows' rows'.length = false := fun hf => by
      cases hc : validN rows' rows'.length
      · rfl
      · rw [validN_le (by omega) hc] at hf; cases hf
    have ek : (i + 1).toNat = i.toNat + 1 := by omega
    have hci : ((i.toNat : Nat) : Int) = i := by omega
    have hup := validN_up (n := i.toNat) hz hv (i := i - 1) (by omega)
    have hv1 : validN rows' (i.toNat + 1) = (allowedB (kR rows' i.toNat) (nR rows' i.toNat) (tR rows' i.toNat) && (decide (i.toNat = 0) || fitsB rows' i.toNat)) := by simp only [validN, hv, Bool.true_and]
    rw [if_pos (by simpa [toI] using hi)]
    simp only [hok, h0, g1, smallB_at hs g1, if_true, w]
    cases hA : allowedB (kR rows' i.toNat) (nR rows' i.toNat) (tR rows' i.toNat)
    · exact ⟨by trivial, hno (by rw [hv1, hA]; rfl)⟩
    simp only [if_true]
    by_cases hp : 0 < i
    · rw [if_pos (by simpa using hp), if_pos (by simp [toI, hz, hp, hi, hup]; omega)]
      cases hF : fitsB rows' i.toNat
      · exact ⟨by trivial, hno (by rw [hv1, hA, hF, decide_eq_false (by omega)]; rfl)⟩
      · refine ⟨⟨by trivial, by omega, by omega, ?_⟩, ?_, fun _ h => h, fun _ h => h⟩
        · rw [ek, hv1, hA, hF]; simp
        · omega
    · rw [if_neg (by simpa using hp)]
      refine ⟨⟨by trivial, by omega, by omega, ?_⟩, ?_, fun _ h => h, fun _ h => h⟩
      · rw [ek, hv1, hA, decide_eq_true (by omega)]; rfl
      · omega
  · rw [if_neg (by simpa [toI] using hi)]
    show validN rows' rows'.length = true
    rw [show rows'.length = i.toNat by omega]; exact hv
theorem valid_does (m : Int) (rows : List (List V)) (hok : rowsOk nodeSh rows = true) (hs : smallB rows = true) :
    ∃ H', (Lw m).callX 25 [.agg [.arr rows]] [] = some (.ret (.lit (.bool (validB rows))), H') := by
  by_cases hg : (1 ≤ rows.length ∧ rows.length ≤ 65536) ∧ uR rows 0 = -1
  · obtain ⟨⟨h1, h2⟩, hz⟩ := hg
    refine ff_Valid m rows (con13_r m) (valid_loop m rows hok h2 (by omega) hs) rfl ?_
    unfold r_FValid validB
    rw [if_neg (by simp [toI]; omega), if_neg (by simp [toI]; omega), if_pos hok, if_pos (by omega), if_neg (by simp [hz]), decide_eq_true h1, decide_eq_true h2, decide_eq_true hz]
    refine ⟨⟨rfl, Int.le_refl 0, by omega, rfl⟩, fun c h => ?_, ?_⟩
    · rw [h]; rfl
    · rintro b ⟨rfl, h⟩; rw [h]; rfl
  · refine ff_Valid m rows (con13_r m) (P_valid := fun _ => False) (Q_valid_1 := fun _ _ => True) (Q_valid_2 := fun _ _ => True) (sp_false fun _ => id) rfl ?_
    unfold r_FValid validB
    by_cases h1 : 1 ≤ rows.length
    · rw [if_neg (by simp [toI]; omega), decide_eq_true h1]
      by_cases h2 : rows.length ≤ 65536
      · rw [if_neg (by simp [toI]; omega), if_pos hok, if_pos (by omega), if_pos (by simp; exact fun h => hg ⟨⟨h1, h2⟩, h⟩), decide_eq_false (fun h => hg ⟨⟨h1, h2⟩, h⟩)]
        simp
      · rw [if_pos (by simp [toI]; omega), decide_eq_false h2]; rfl
    · rw [if_pos (by simp [toI]; omega), decide_eq_false h1]; rfl
end Go.Proofs.YtpmdlaojndejfaaGreatDoor.E

/- Printed by sv.py: what the program's code asks and does, piece by piece. -/
namespace Go.Proofs.YtpmdlaojndejfaaGreatDoor.E
open Go
set_option linter.unusedVariables false
set_option linter.unusedSimpArgs false
set_option maxRecDepth 1000000
noncomputable def con14 (m : Int) : Con := addIP (env m) 74 9 con13 (fun _ => none) 0 con13
theorem con14_r (m : Int) : ConR (env m) (Lw m) (con14 m) := addIP_r (con13_r m) (con13_r m) (fg := true) lok_none (by kernel_rfl) (by kernel_rfl) fun _ => rfl
abbrev σ_idxF : Type := (List (List V)) × Int × ByteArray × ByteArray × Int × Int × Int
def d_idxF : List V → Heap → Option σ_idxF := fun vs H => match vs, H with
  | [.arr rows, .fn 74 [.row [.lit (.int .i64 xk), .lit (.string xn), .lit (.string xt), .lit (.int .i64 xu)]], .lit (.int .i64 l), .lit (.int .i64 i)], _ => some (rows, xk, xn, xt, xu, l, i)
  | _, _ => none
def e_idxF : σ_idxF → List V := fun a => match a with
  | (rows, xk, xn, xt, xu, l, i) => [.arr rows, .fn 74 [.row [.lit (.int .i64 xk), .lit (.string xn), .lit (.string xt), .lit (.int .i64 xu)]], .lit (.int .i64 l), .lit (.int .i64 i)]
def h_idxF : σ_idxF → Heap := fun a => match a with
  | (rows, xk, xn, xt, xu, l, i) => []
theorem k_idxF {P : σ_idxF → Prop} : DecOK true d_idxF e_idxF h_idxF P := by
  intro vs H a h hp
  unfold d_idxF at h
  split at h
  · simp only [Option.some.injEq] at h; subst h; exact ⟨rfl, .inr ⟨rfl, _, rfl, (fun b hb => by simp [h_idxF] at hb), (fun v hv => by
      simp only [e_idxF, List.mem_cons, List.not_mem_nil, or_false] at hv
      rcases hv with rfl | rfl | rfl | rfl <;> exact lowVb_ok rfl)⟩⟩
  · cases h
abbrev σ_idxF_1 : Type := Unit
def d_idxF_1 : List V → Heap → Option σ_idxF_1 := fun vs H => match vs, H with
  | [], _ => some ()
  | _, _ => none
def e_idxF_1 : σ_idxF_1 → List V := fun a => match a with
  | () => []
def h_idxF_1 : σ_idxF_1 → Heap := fun a => match a with
  | () => []
theorem k_idxF_1 {P : σ_idxF_1 → Prop} : DecOK true d_idxF_1 e_idxF_1 h_idxF_1 P := by
  intro vs H a h hp
  unfold d_idxF_1 at h
  split at h
  · cases a; exact ⟨rfl, .inr ⟨rfl, _, rfl, (fun b hb => by simp [h_idxF_1] at hb), (fun v hv => by simp [e_idxF_1] at hv)⟩⟩
  · cases h
abbrev σ_idxF_2 : Type := Int
def d_idxF_2 : List V → Heap → Option σ_idxF_2 := fun vs H => match vs, H with
  | [.lit (.int .i64 j)], _ => some j
  | _, _ => none
def e_idxF_2 : σ_idxF_2 → List V := fun a => match a with
  | j => [.lit (.int .i64 j)]
def h_idxF_2 : σ_idxF_2 → Heap := fun a => match a with
  | j => []
theorem k_idxF_2 {P : σ_idxF_2 → Prop} : DecOK true d_idxF_2 e_idxF_2 h_idxF_2 P := by
  intro vs H a h hp
  unfold d_idxF_2 at h
  split at h
  · simp only [Option.some.injEq] at h; subst h; exact ⟨rfl, .inr ⟨rfl, _, rfl, (fun b hb => by simp [h_idxF_2] at hb), (fun v hv => by
      simp only [e_idxF_2, List.mem_cons, List.not_mem_nil, or_false] at hv
      subst hv; exact lowVb_ok rfl)⟩⟩
  · cases h
def L_idxF (P_idxF : σ_idxF → Prop) (Q_idxF_1 : σ_idxF → σ_idxF_1 → Prop) (Q_idxF_2 : σ_idxF → σ_idxF_2 → Prop) : LD σ_idxF := ⟨19, [0, 1, 7, 8], d_idxF, e_idxF, h_idxF, P_idxF, [⟨σ_idxF_1, .exit 0, [], d_idxF_1, e_idxF_1, h_idxF_1, Q_idxF_1⟩, ⟨σ_idxF_2, .ret, [4], d_idxF_2, e_idxF_2, h_idxF_2, Q_idxF_2⟩]⟩
def r_idxF (rows : List (List V)) (xk : Int) (xn : ByteArray) (xt : ByteArray) (xu : Int) (l : Int) (i : Int) (Q_idxF_1 : σ_idxF → σ_idxF_1 → Prop) (Q_idxF_2 : σ_idxF → σ_idxF_2 → Prop) (N : σ_idxF → σ_idxF → Prop) : Prop :=
    (if decide (i < l) = true then (if rowsOk nodeSh rows = true then (if 0 ≤ i then (if Int.toNat i < List.length rows then (if (ByteArray.toList (nR rows (Int.toNat i)) == ByteArray.toList xn) = true then (Q_idxF_2 ((rows, xk, xn, xt, xu, l, i)) (i)) else (N ((rows, xk, xn, xt, xu, l, i)) ((rows, xk, xn, xt, xu, l, IntKind.wrap IntKind.i64 (i + 1))))) else False) else False) else False) else (Q_idxF_1 ((rows, xk, xn, xt, xu, l, i)) (PUnit.unit)))
theorem w_idxF (m : Int) (rows : List (List V)) (xk : Int) (xn : ByteArray) (xt : ByteArray) (xu : Int) (l : Int) (i : Int) (P_idxF : σ_idxF → Prop) (Q_idxF_1 : σ_idxF → σ_idxF_1 → Prop) (Q_idxF_2 : σ_idxF → σ_idxF_2 → Prop) (N : σ_idxF → σ_idxF → Prop) :
    codeF (env m) (con14 m) (fun _ => none) 0 (atC [1, 0, 1, 0, 0] (bodyOf (env m).P 105)) [1, 0, 1, 0, 0] ((L_idxF P_idxF Q_idxF_1 Q_idxF_2).st (rows, xk, xn, xt, xu, l, i)) ((L_idxF P_idxF Q_idxF_1 Q_idxF_2).leaf N (rows, xk, xn, xt, xu, l, i)) =
    r_idxF rows xk xn xt xu l i Q_idxF_1 Q_idxF_2 N := by kernel_rfl
theorem l_idxF (m : Int) {ro : Option Nat} (hc : ConR (env m) (Lw m) (con14 m)) {P_idxF : σ_idxF → Prop} {Q_idxF_1 : σ_idxF → σ_idxF_1 → Prop} {Q_idxF_2 : σ_idxF → σ_idxF_2 → Prop} (μ : σ_idxF → Nat)
    (h0 : ∀ (rows : List (List V)) (xk : Int) (xn : ByteArray) (xt : ByteArray) (xu : Int) (l : Int) (i : Int), P_idxF (rows, xk, xn, xt, xu, l, i) → r_idxF rows xk xn xt xu l i Q_idxF_1 Q_idxF_2 (fun a a' => P_idxF a' ∧ μ a' < μ a ∧ (∀ c, Q_idxF_1 a' c → Q_idxF_1 a c) ∧ (∀ c, Q_idxF_2 a' c → Q_idxF_2 a c))) :
    SpOK (env m) (Lw m) ro (atC [1, 0, 1, 0] (bodyOf (env m).P 105)) (L_idxF P_idxF Q_idxF_1 Q_idxF_2).sp true := by
  rw [show atC [1, 0, 1, 0] (bodyOf (env m).P 105) = .loop (atC [1, 0, 1, 0, 0] (bodyOf (env m).P 105)) from by kernel_rfl]
  have hd : (L_idxF P_idxF Q_idxF_1 Q_idxF_2).dok true := ⟨k_idxF, fun o ho => by
    simp only [L_idxF, List.mem_cons, List.mem_singleton, List.not_mem_nil, or_false] at ho
    rcases ho with rfl | rfl
    · intro a; exact k_idxF_1
    · intro a; exact k_idxF_2⟩
  refine LD.loop_ok hd hc L_up lok_none (u := 0) μ (p := [1, 0, 1, 0, 0]) rfl ?_
  rintro (⟨rows, xk, xn, xt, xu, l, i⟩) ha
  · exact Eq.mpr (w_idxF m rows xk xn xt xu l i P_idxF Q_idxF_1 Q_idxF_2 _) (h0 rows xk xn xt xu l i ha)
def r_FidxF (rows : List (List V)) (xk : Int) (xn : ByteArray) (xt : ByteArray) (xu : Int) (P_idxF : σ_idxF → Prop) (Q_idxF_1 : σ_idxF → σ_idxF_1 → Prop) (Q_idxF_2 : σ_idxF → σ_idxF_2 → Prop) (q : V → Prop) : Prop :=
    ((P_idxF ((rows, xk, xn, xt, xu, toI (List.length rows), 0))) ∧ ((∀ c1 : PUnit, ((Q_idxF_1 ((rows, xk, xn, xt, xu, toI (List.length rows), 0)) (c1)) → (q (V.lit (Value.int IntKind.i64 (-1)))))) ∧ (∀ c2 : Int, ((Q_idxF_2 ((rows, xk, xn, xt, xu, toI (List.length rows), 0)) (c2)) → (q (V.lit (Value.int IntKind.i64 c2)))))))
theorem w_FidxF (m : Int) (rows : List (List V)) (xk : Int) (xn : ByteArray) (xt : ByteArray) (xu : Int) (P_idxF : σ_idxF → Prop) (Q_idxF_1 : σ_idxF → σ_idxF_1 → Prop) (Q_idxF_2 : σ_idxF → σ_idxF_2 → Prop) (q : V → Prop) :
    codeF (env m) (con14 m) (lcAdd [1, 0, 1, 0] (L_idxF P_idxF Q_idxF_1 Q_idxF_2).sp (fun _ => none)) 0 (bodyOf (env m).P 105) [] ⟨[.arr rows, .fn 74 [.row [.lit (.int .i64 xk), .lit (.string xn), .lit (.string xt), .lit (.int .i64 xu)]]] ++ List.replicate (19 - 2) un, [], []⟩ (finR (env m) (resOf (env m).P 105) (fun v _ => q v)) =
    r_FidxF rows xk xn xt xu P_idxF Q_idxF_1 Q_idxF_2 q := by kernel_rfl
theorem cc_idxF (m : Int) (rows : List (List V)) (xk : Int) (xn : ByteArray) (xt : ByteArray) (xu : Int) (hc : ConR (env m) (Lw m) (con14 m)) {P_idxF : σ_idxF → Prop} {Q_idxF_1 : σ_idxF → σ_idxF_1 → Prop} {Q_idxF_2 : σ_idxF → σ_idxF_2 → Prop} (hl_idxF : SpOK (env m) (Lw m) none (atC [1, 0, 1, 0] (bodyOf (env m).P 105)) (L_idxF P_idxF Q_idxF_1 Q_idxF_2).sp true) {q : V → Prop} (hr : r_FidxF rows xk xn xt xu P_idxF Q_idxF_1 Q_idxF_2 q) :
    ∃ v_ K_ r_ H_, (Lw m).callX 105 [.arr rows, .fn 74 [.row [.lit (.int .i64 xk), .lit (.string xn), .lit (.string xt), .lit (.int .i64 xu)]]] [] = some (.ret (mapV r_ v_), H_) ∧ Rn r_ K_ H_ ∧ q v_ := by
  refine F_own (fg := true) hc (f := 105) (q := fun v _ => q v) (lok_add hl_idxF lok_none) (u := 0) (by kernel_rfl) rfl ?_
  rw [show ntmpsOf (env m).P 105 = 19 from by kernel_rfl]
  exact Eq.mpr (w_FidxF m rows xk xn xt xu P_idxF Q_idxF_1 Q_idxF_2 q) hr
theorem ff_idxF (m : Int) (rows : List (List V)) (xk : Int) (xn : ByteArray) (xt : ByteArray) (xu : Int) (hc : ConR (env m) (Lw m) (con14 m)) {P_idxF : σ_idxF → Prop} {Q_idxF_1 : σ_idxF → σ_idxF_1 → Prop} {Q_idxF_2 : σ_idxF → σ_idxF_2 → Prop} (hl_idxF : SpOK (env m) (Lw m) none (atC [1, 0, 1, 0] (bodyOf (env m).P 105)) (L_idxF P_idxF Q_idxF_1 Q_idxF_2).sp true) {w_ : V} (hw : closedV w_ = true) (hr : r_FidxF rows xk xn xt xu P_idxF Q_idxF_1 Q_idxF_2 (fun v_ => v_ = w_)) :
    ∃ H_, (Lw m).callX 105 [.arr rows, .fn 74 [.row [.lit (.int .i64 xk), .lit (.string xn), .lit (.string xt), .lit (.int .i64 xu)]]] [] = some (.ret w_, H_) := by
  obtain ⟨v_, K_, r_, H_, h1, h2, rfl⟩ := cc_idxF m rows xk xn xt xu hc hl_idxF hr
  rw [closed_eq hw] at h1
  exact ⟨H_, h1⟩
end Go.Proofs.YtpmdlaojndejfaaGreatDoor.E

/- Is there a node with a name. -/
set_option linter.unusedVariables false
set_option linter.unusedSimpArgs false
set_option maxRecDepth 100000
namespace Go.Proofs.YtpmdlaojndejfaaGreatDoor.E
open Go
/-- A node with that name. -/
def nameAt (rows : List (List V)) (n : ByteArray) (i : Nat) : Bool := (nR rows i).toList == n.toList
def someN (rows : List (List V)) (n : ByteArray) : Bool := (List.range rows.length).any (nameAt rows n)
theorem idxF_loop (m : Int) (rows : List (List V)) (xk : Int) (xn xt : ByteArray) (xu : Int) (hok : rowsOk nodeSh rows = true) (hlen : rows.length ≤ 1000000) : SpOK (env m) (Lw m) none (atC [1, 0, 1, 0] (bodyOf (env m).P 105))
    (L_idxF (fun (rows', _, xn', _, _, l, i) => rows' = rows ∧ xn' = xn ∧ l = rows.length ∧ 0 ≤ i ∧ i ≤ rows.length ∧ ∀ j : Nat, j < i.toNat → nameAt rows xn j = false) (fun _ _ => someN rows xn = false) (fun _ j => 0 ≤ j ∧ someN rows xn = true)).sp true := by
  refine l_idxF m (con14_r m) (fun (_, _, _, _, _, _, i) => rows.length - i.toNat) ?_
  rintro rows' xk xn' xt xu l i ⟨rfl, rfl, rfl, h0, h1, hn⟩
  unfold r_idxF
  by_cases hi : i < rows'.length
  · have g1 : i.toNat < rows'.length := by omega
    have w : IntKind.wrap .i64 (i + 1) = i + 1 := w64_id (by omega) (by omega)
    rw [if_pos (by simpa using hi), if_pos hok, if_pos h0, if_pos g1, w]
    refine ite_of (fun h => ⟨h0, ?_⟩) fun h => ⟨⟨rfl, rfl, rfl, by omega, by omega, fun j hj => ?_⟩, ?_, fun _ h => h, fun _ h => h⟩
    · exact List.any_eq_true.2 ⟨i.toNat, List.mem_range.2 g1, h⟩
    · by_cases e : j = i.toNat
      · subst e; rw [Bool.not_eq_true] at h; exact h
      · exact hn j (by omega)
    · show rows'.length - (i + 1).toNat < rows'.length - i.toNat; omega
  · rw [if_neg (by simpa using hi)]
    show someN rows' xn' = false
    unfold someN
    rw [List.any_eq_false]
    intro j hj
    rw [hn j (by have := List.mem_range.1 hj; omega)]; simp
theorem idxF_does (m : Int) (rows : List (List V)) (xk : Int) (xn xt : ByteArray) (xu : Int) (hok : rowsOk nodeSh rows = true) (hlen : rows.length ≤ 1000000) :
    ∃ j : Int, (decide (j ≥ 0) = someN rows xn) ∧ ∃ H', (Lw m).callX 105 [.arr rows, .fn 74 [.row [.lit (.int .i64 xk), .lit (.string xn), .lit (.string xt), .lit (.int .i64 xu)]]] [] = some (.ret (.lit (.int .i64 j)), H') := by
  obtain ⟨v, K, r, H', h1, h2, h3⟩ := cc_idxF m rows xk xn xt xu (con14_r m) (idxF_loop m rows xk xn xt xu hok hlen) (q := fun v => ∃ j : Int, v = .lit (.int .i64 j) ∧ decide (j ≥ 0) = someN rows xn) (by
    refine ⟨⟨rfl, rfl, rfl, by omega, by omega, fun j hj => by omega⟩, fun c h => ⟨-1, rfl, ?_⟩, fun c h => ⟨c, rfl, ?_⟩⟩
    · rw [h]; rfl
    · rw [h.2]; simpa using h.1)
  obtain ⟨j, rfl, hj⟩ := h3
  exact ⟨j, hj, H', h1⟩
open Classical in
noncomputable def idxV (m : Int) (rows : List (List V)) (xk : Int) (xn xt : ByteArray) (xu : Int) : Int :=
  if h : ∃ j : Int, (decide (j ≥ 0) = someN rows xn) ∧ ∃ H', (Lw m).callX 105 [.arr rows, .fn 74 [.row [.lit (.int .i64 xk), .lit (.string xn), .lit (.string xt), .lit (.int .i64 xu)]]] [] = some (.ret (.lit (.int .i64 j)), H') then h.choose else 0
noncomputable def idxFS (m : Int) : PSpec
  | [.arr rows, .fn f [.row [.lit (.int .i64 xk), .lit (.string xn), .lit (.string xt), .lit (.int .i64 xu)]]] => some (rowsOk nodeSh rows && (decide (rows.length ≤ 1000000) && f == 74), .lit (.int .i64 (idxV m rows xk xn xt xu)))
  | _ => none
theorem idxV_ok (m : Int) (rows : List (List V)) (xk : Int) (xn xt : ByteArray) (xu : Int) (hok : rowsOk nodeSh rows = true) (hlen : rows.length ≤ 1000000) : decide (idxV m rows xk xn xt xu ≥ 0) = someN rows xn ∧
    ∃ H', (Lw m).callX 105 [.arr rows, .fn 74 [.row [.lit (.int .i64 xk), .lit (.string xn), .lit (.string xt), .lit (.int .i64 xu)]]] [] = some (.ret (.lit (.int .i64 (idxV m rows xk xn xt xu))), H') := by
  have h := idxF_does m rows xk xn xt xu hok hlen
  unfold idxV
  rw [dif_pos h]
  exact h.choose_spec
noncomputable def con15 (m : Int) : Con := addP 105 (idxFS m) (con14 m)
theorem con15_r (m : Int) : ConR (env m) (Lw m) (con15 m) := addP_r (con14_r m) (by kernel_rfl) fun args v hs => by
  unfold idxFS at hs
  split at hs
  · rename_i rows f xk xn xt xu
    simp only [Option.some.injEq, Prod.mk.injEq, Bool.and_eq_true, decide_eq_true_eq, beq_iff_eq] at hs
    obtain ⟨⟨h1, h2, rfl⟩, rfl⟩ := hs
    exact ⟨rfl, rfl, (idxV_ok m rows xk xn xt xu h1 h2).2⟩
  · cases hs
/-- ContainsFunc: asks for frozen arguments first. -/
noncomputable def contF (m : Int) : QSpec
  | [.arr rows, .fn f [.row [.lit (.int .i64 xk), .lit (.string xn), .lit (.string xt), .lit (.int .i64 xu)]]] => some (rowsOk nodeSh rows && (decide (rows.length ≤ 1000000) && f == 74), [(true, .lit (.bool (someN rows xn)), [])])
  | _ => none
end Go.Proofs.YtpmdlaojndejfaaGreatDoor.E

/- Printed by sv.py: what the program's code asks and does, piece by piece. -/
namespace Go.Proofs.YtpmdlaojndejfaaGreatDoor.E
open Go
set_option linter.unusedVariables false
set_option linter.unusedSimpArgs false
set_option maxRecDepth 1000000
def r_FcontF (m : Int) (rows : List (List V)) (xk : Int) (xn : ByteArray) (xt : ByteArray) (xu : Int) (q : V → Prop) : Prop :=
    (if (rowsOk nodeSh rows && (decide (List.length rows ≤ 1000000) && true)) = true then (if decide (idxV m rows xk xn xt xu ≥ 0) = true then (q (V.lit (Value.bool true))) else (q (V.lit (Value.bool false)))) else False)
theorem w_FcontF (m : Int) (rows : List (List V)) (xk : Int) (xn : ByteArray) (xt : ByteArray) (xu : Int) (q : V → Prop) :
    codeF (env m) (con15 m) (fun _ => none) 0 (bodyOf (env m).P 73) [] ⟨[.arr rows, .fn 74 [.row [.lit (.int .i64 xk), .lit (.string xn), .lit (.string xt), .lit (.int .i64 xu)]]] ++ List.replicate (9 - 2) un, [], []⟩ (finR (env m) (resOf (env m).P 73) (fun v _ => q v)) =
    r_FcontF m rows xk xn xt xu q := by kernel_rfl
theorem cc_contF (m : Int) (rows : List (List V)) (xk : Int) (xn : ByteArray) (xt : ByteArray) (xu : Int) (hc : ConR (env m) (Lw m) (con15 m)) {q : V → Prop} (hr : r_FcontF m rows xk xn xt xu q) :
    ∃ v_ K_ r_ H_, (Lw m).callX 73 [.arr rows, .fn 74 [.row [.lit (.int .i64 xk), .lit (.string xn), .lit (.string xt), .lit (.int .i64 xu)]]] [] = some (.ret (mapV r_ v_), H_) ∧ Rn r_ K_ H_ ∧ q v_ := by
  refine F_own (fg := true) hc (f := 73) (q := fun v _ => q v) lok_none (u := 0) (by kernel_rfl) rfl ?_
  rw [show ntmpsOf (env m).P 73 = 9 from by kernel_rfl]
  exact Eq.mpr (w_FcontF m rows xk xn xt xu q) hr
theorem ff_contF (m : Int) (rows : List (List V)) (xk : Int) (xn : ByteArray) (xt : ByteArray) (xu : Int) (hc : ConR (env m) (Lw m) (con15 m)) {w_ : V} (hw : closedV w_ = true) (hr : r_FcontF m rows xk xn xt xu (fun v_ => v_ = w_)) :
    ∃ H_, (Lw m).callX 73 [.arr rows, .fn 74 [.row [.lit (.int .i64 xk), .lit (.string xn), .lit (.string xt), .lit (.int .i64 xu)]]] [] = some (.ret w_, H_) := by
  obtain ⟨v_, K_, r_, H_, h1, h2, rfl⟩ := cc_contF m rows xk xn xt xu hc hr
  rw [closed_eq hw] at h1
  exact ⟨H_, h1⟩
end Go.Proofs.YtpmdlaojndejfaaGreatDoor.E

/- ContainsFunc: its contract. -/
set_option linter.unusedVariables false
set_option linter.unusedSimpArgs false
set_option maxRecDepth 100000
namespace Go.Proofs.YtpmdlaojndejfaaGreatDoor.E
open Go
theorem contF_does (m : Int) (rows : List (List V)) (xk : Int) (xn xt : ByteArray) (xu : Int) (hok : rowsOk nodeSh rows = true) (hlen : rows.length ≤ 1000000) :
    ∃ H', (Lw m).callX 73 [.arr rows, .fn 74 [.row [.lit (.int .i64 xk), .lit (.string xn), .lit (.string xt), .lit (.int .i64 xu)]]] [] = some (.ret (.lit (.bool (someN rows xn))), H') :=
  ff_contF m rows xk xn xt xu (con15_r m) rfl (by
    unfold r_FcontF
    rw [if_pos (by simp [hok, hlen]), (idxV_ok m rows xk xn xt xu hok hlen).1]
    cases someN rows xn <;> simp)
noncomputable def con16 (m : Int) : Con := addQ 73 (contF m) con13
theorem con16_r (m : Int) : ConR (env m) (Lw m) (con16 m) := addQ_r (con13_r m) (by kernel_rfl) fun args alts hs => by
  unfold contF at hs
  split at hs
  · simp only [Option.some.injEq, Prod.mk.injEq, Bool.and_eq_true, decide_eq_true_eq, beq_iff_eq] at hs
    obtain ⟨⟨h1, h2, rfl⟩, rfl⟩ := hs
    refine ⟨rfl, fun a ha => ?_⟩
    simp only [firstA, if_true, Option.some.injEq] at ha
    subst ha
    exact ⟨by simp, Ans.lit rfl (contF_does m _ _ _ _ _ h1 h2)⟩
  · cases hs
/-- May node i stand below its parent, behind the node before? -/
def placedB (rows : List (List V)) (i before : Nat) : Bool :=
  (decide (kR rows (uR rows i).toNat = 1) || (decide (kR rows (uR rows i).toNat = 0) && !decide (kR rows i = 2))) &&
  (decide (before = 0) || (if kR rows i = 2 then decide (kR rows before = 2) && !someN ((rows.drop ((uR rows i).toNat + 1)).take (i - ((uR rows i).toNat + 1))) (nR rows i)
    else !decide (kR rows i = 3) || !decide (kR rows before = 3)))
end Go.Proofs.YtpmdlaojndejfaaGreatDoor.E

/- Printed by sv.py: what the program's code asks and does, piece by piece. -/
namespace Go.Proofs.YtpmdlaojndejfaaGreatDoor.E
open Go
set_option linter.unusedVariables false
set_option linter.unusedSimpArgs false
set_option maxRecDepth 1000000
def r_Fplaced (rows : List (List V)) (i : Int) (b : Int) (q : V → Prop) : Prop :=
    (if rowsOk nodeSh rows = true then (if 0 ≤ i then (if Int.toNat i < List.length rows then (if rowsOk nodeSh rows = true then (if 0 ≤ i then (if Int.toNat i < List.length rows then (if rowsOk nodeSh rows = true then (if 0 ≤ uR rows (Int.toNat i) then (if Int.toNat (uR rows (Int.toNat i)) < List.length rows then (if rowsOk nodeSh rows = true then (if 0 ≤ i then (if Int.toNat i < List.length rows then (if rowsOk nodeSh rows = true then (if 0 ≤ i then (if Int.toNat i < List.length rows then (if rowsOk nodeSh rows = true then (if 0 ≤ uR rows (Int.toNat i) then (if Int.toNat (uR rows (Int.toNat i)) < List.length rows then (if (kR rows (Int.toNat i) == 2) = true then (if (kR rows (Int.toNat (uR rows (Int.toNat i))) != 1) = true then (if (kR rows (Int.toNat (uR rows (Int.toNat i))) != 0) = true then (q (V.lit (Value.bool false))) else (q (V.lit (Value.bool false)))) else (if (b == 0) = true then (q (V.lit (Value.bool true))) else (if rowsOk nodeSh rows = true then (if 0 ≤ b then (if Int.toNat b < List.length rows then (if (kR rows (Int.toNat b) == 2) = true then (if rowsOk nodeSh rows = true then (if 0 ≤ IntKind.wrap IntKind.i64 (uR rows (Int.toNat i) + 1) then (if IntKind.wrap IntKind.i64 (uR rows (Int.toNat i) + 1) ≤ i then (if Int.toNat i ≤ List.length rows then (if (rowsOk nodeSh (List.take (Int.toNat i - Int.toNat (IntKind.wrap IntKind.i64 (uR rows (Int.toNat i) + 1))) (List.drop (Int.toNat (IntKind.wrap IntKind.i64 (uR rows (Int.toNat i) + 1))) rows)) && (decide (List.length (List.take (Int.toNat i - Int.toNat (IntKind.wrap IntKind.i64 (uR rows (Int.toNat i) + 1))) (List.drop (Int.toNat (IntKind.wrap IntKind.i64 (uR rows (Int.toNat i) + 1))) rows)) ≤ 1000000) && true)) = true then (if someN (List.take (Int.toNat i - Int.toNat (IntKind.wrap IntKind.i64 (uR rows (Int.toNat i) + 1))) (List.drop (Int.toNat (IntKind.wrap IntKind.i64 (uR rows (Int.toNat i) + 1))) rows)) (nR rows (Int.toNat i)) = true then (q (V.lit (Value.bool false))) else (q (V.lit (Value.bool true)))) else False) else False) else False) else False) else False) else (q (V.lit (Value.bool false)))) else False) else False) else False))) else (if (kR rows (Int.toNat (uR rows (Int.toNat i))) != 1) = true then (if (kR rows (Int.toNat (uR rows (Int.toNat i))) != 0) = true then (q (V.lit (Value.bool false))) else (if (b == 0) = true then (q (V.lit (Value.bool true))) else (if (kR rows (Int.toNat i) != 3) = true then (q (V.lit (Value.bool true))) else (if rowsOk nodeSh rows = true then (if 0 ≤ b then (if Int.toNat b < List.length rows then (if (kR rows (Int.toNat b) != 3) = true then (q (V.lit (Value.bool true))) else (q (V.lit (Value.bool false)))) else False) else False) else False)))) else (if (b == 0) = true then (q (V.lit (Value.bool true))) else (if (kR rows (Int.toNat i) != 3) = true then (q (V.lit (Value.bool true))) else (if rowsOk nodeSh rows = true then (if 0 ≤ b then (if Int.toNat b < List.length rows then (if (kR rows (Int.toNat b) != 3) = true then (q (V.lit (Value.bool true))) else (q (V.lit (Value.bool false)))) else False) else False) else False))))) else False) else False) else False) else False) else False) else False) else False) else False) else False) else False) else False) else False) else False) else False) else False) else False) else False) else False)
theorem w_Fplaced (m : Int) (rows : List (List V)) (i : Int) (b : Int) (q : V → Prop) :
    codeF (env m) (con16 m) (fun _ => none) 0 (bodyOf (env m).P 46) [] ⟨[.agg [.arr rows], .lit (.int .i64 i), .lit (.int .i64 b)] ++ List.replicate (75 - 3) un, [], []⟩ (finR (env m) (resOf (env m).P 46) (fun v _ => q v)) =
    r_Fplaced rows i b q := by kernel_rfl
theorem cc_placed (m : Int) (rows : List (List V)) (i : Int) (b : Int) (hc : ConR (env m) (Lw m) (con16 m)) {q : V → Prop} (hr : r_Fplaced rows i b q) :
    ∃ v_ K_ r_ H_, (Lw m).callX 46 [.agg [.arr rows], .lit (.int .i64 i), .lit (.int .i64 b)] [] = some (.ret (mapV r_ v_), H_) ∧ Rn r_ K_ H_ ∧ q v_ := by
  refine F_own (fg := true) hc (f := 46) (q := fun v _ => q v) lok_none (u := 0) (by kernel_rfl) rfl ?_
  rw [show ntmpsOf (env m).P 46 = 75 from by kernel_rfl]
  exact Eq.mpr (w_Fplaced m rows i b q) hr
theorem ff_placed (m : Int) (rows : List (List V)) (i : Int) (b : Int) (hc : ConR (env m) (Lw m) (con16 m)) {w_ : V} (hw : closedV w_ = true) (hr : r_Fplaced rows i b (fun v_ => v_ = w_)) :
    ∃ H_, (Lw m).callX 46 [.agg [.arr rows], .lit (.int .i64 i), .lit (.int .i64 b)] [] = some (.ret w_, H_) := by
  obtain ⟨v_, K_, r_, H_, h1, h2, rfl⟩ := cc_placed m rows i b hc hr
  rw [closed_eq hw] at h1
  exact ⟨H_, h1⟩
end Go.Proofs.YtpmdlaojndejfaaGreatDoor.E

/- placed: its contract. -/
set_option linter.unusedVariables false
set_option linter.unusedSimpArgs false
set_option maxRecDepth 100000
namespace Go.Proofs.YtpmdlaojndejfaaGreatDoor.E
open Go
theorem rowsOk_sub {sh : List CK} {rows : List (List V)} (h : rowsOk sh rows = true) (a b : Nat) : rowsOk sh ((rows.drop a).take b) = true := by
  unfold rowsOk at h ⊢
  rw [List.all_eq_true] at h ⊢
  exact fun r hr => h r (List.mem_of_mem_drop (List.mem_of_mem_take hr))
theorem placed_does (m : Int) (rows : List (List V)) (i b : Int) (hok : rowsOk nodeSh rows = true) (hlen : rows.length ≤ 1000000) (h0 : 0 ≤ i) (hi : i < rows.length) (hu0 : 0 ≤ uR rows i.toNat) (hu : uR rows i.toNat < i) (hb0 : 0 ≤ b) (hb : b < i) :
    ∃ H', (Lw m).callX 46 [.agg [.arr rows], .lit (.int .i64 i), .lit (.int .i64 b)] [] = some (.ret (.lit (.bool (placedB rows i.toNat b.toNat))), H') :=
  ff_placed m rows i b (con16_r m) rfl (by
    unfold r_Fplaced placedB
    have w : IntKind.wrap .i64 (uR rows i.toNat + 1) = uR rows i.toNat + 1 := w64_id (by omega) (by omega)
    have g1 : i.toNat < rows.length := by omega
    have g2 : (uR rows i.toNat).toNat < rows.length := by omega
    have g3 : b.toNat < rows.length := by omega
    have g4 : i.toNat ≤ rows.length := by omega
    have g5 : 0 ≤ uR rows i.toNat + 1 := by omega
    have g6 : uR rows i.toNat + 1 ≤ i := by omega
    have g7 : (uR rows i.toNat + 1).toNat = (uR rows i.toNat).toNat + 1 := by omega
    have g8 : decide (List.length (List.take (i.toNat - ((uR rows i.toNat).toNat + 1)) (List.drop ((uR rows i.toNat).toNat + 1) rows)) ≤ 1000000) = true := by simp; omega
    simp only [hok, h0, g1, hu0, g2, g3, g4, hb0, w, g5, g6, g7, g8, rowsOk_sub hok, if_true, Bool.and_self]
    have eb : decide (b.toNat = 0) = (b == 0) := by rw [Bool.eq_iff_iff]; simp; omega
    rw [eb]
    generalize uR rows i.toNat = u at *
    by_cases hk2 : kR rows i.toNat = 2 <;> by_cases hk1 : kR rows u.toNat = 1 <;> by_cases hk0 : kR rows u.toNat = 0 <;> by_cases hb2 : kR rows b.toNat = 2 <;> cases someN (List.take (i.toNat - (u.toNat + 1)) (List.drop (u.toNat + 1) rows)) (nR rows i.toNat) <;> by_cases hb3 : kR rows b.toNat = 3 <;> by_cases hi3 : kR rows i.toNat = 3 <;> cases b == 0 <;> simp_all)
def placedS : PSpec
  | [.agg [.arr rows], .lit (.int .i64 i), .lit (.int .i64 b)] => some (rowsOk nodeSh rows && (decide (rows.length ≤ 1000000) && (decide (0 ≤ i) && (decide (i < toI rows.length) && (decide (0 ≤ uR rows i.toNat) && (decide (uR rows i.toNat < i) && (decide (0 ≤ b) && decide (b < i))))))), .lit (.bool (placedB rows i.toNat b.toNat)))
  | _ => none
noncomputable def con17 : Con := addP 46 placedS con13
theorem con17_r (m : Int) : ConR (env m) (Lw m) con17 := addP_r (con13_r m) (by kernel_rfl) fun args v hs => by
  unfold placedS at hs
  split at hs
  · simp only [Option.some.injEq, Prod.mk.injEq, Bool.and_eq_true, decide_eq_true_eq] at hs
    obtain ⟨⟨h1, h2, h3, h4, h5, h6, h7, h8⟩, rfl⟩ := hs
    exact ⟨rfl, rfl, placed_does m _ _ _ h1 h2 h3 h4 h5 h6 h7 h8⟩
  · cases hs
end Go.Proofs.YtpmdlaojndejfaaGreatDoor.E

/- Printed by sv.py: what the program's code asks and does, piece by piece. -/
namespace Go.Proofs.YtpmdlaojndejfaaGreatDoor.E
open Go
set_option linter.unusedVariables false
set_option linter.unusedSimpArgs false
set_option maxRecDepth 1000000
abbrev σ_check : Type := (List (List V)) × Nat × Nat × (List (List V)) × Int × Int × (List (List V)) × (List (List V))
def d_check : List V → Heap → Option σ_check := fun vs H => match vs, H with
  | [.ptr 0 0 0 0, .own 1 0 0 n1, .own 2 0 0 n2, .arr rows2, .lit (.int .i64 l), .lit (.int .i64 i)], .rows 1 0 [[.arr rows]] :: .rows 1 0 ls :: .rows 1 0 ds :: _ => some (rows, n1, n2, rows2, l, i, ls, ds)
  | _, _ => none
def e_check : σ_check → List V := fun a => match a with
  | (rows, n1, n2, rows2, l, i, ls, ds) => [.ptr 0 0 0 0, .own 1 0 0 n1, .own 2 0 0 n2, .arr rows2, .lit (.int .i64 l), .lit (.int .i64 i)]
def h_check : σ_check → Heap := fun a => match a with
  | (rows, n1, n2, rows2, l, i, ls, ds) => [.rows 1 0 [[.arr rows]], .rows 1 0 ls, .rows 1 0 ds]
def lw_check : σ_check → Prop := fun a => match a with
  | (rows, n1, n2, rows2, l, i, ls, ds) => litRows ls ∧ litRows ds
theorem k_check {P : σ_check → Prop} (hlow : ∀ a, P a → lw_check a) : DecOK true d_check e_check h_check P := by
  intro vs H a h hp
  unfold d_check at h
  split at h
  · simp only [Option.some.injEq] at h; subst h; exact ⟨rfl, .inr ⟨rfl, _, rfl, (fun b hb => by
      simp only [h_check, List.mem_cons, List.not_mem_nil, or_false] at hb
      rcases hb with rfl | rfl | rfl
      · exact lowBb_ok rfl
      · exact (hlow _ hp).1.low
      · exact (hlow _ hp).2.low), (fun v hv => by
      simp only [e_check, List.mem_cons, List.not_mem_nil, or_false] at hv
      rcases hv with rfl | rfl | rfl | rfl | rfl | rfl <;> exact lowVb_ok rfl)⟩⟩
  · cases h
abbrev σ_check_1 : Type := Unit
def d_check_1 : List V → Heap → Option σ_check_1 := fun vs H => match vs, H with
  | [], _ => some ()
  | _, _ => none
def e_check_1 : σ_check_1 → List V := fun a => match a with
  | () => []
def h_check_1 : σ_check_1 → Heap := fun a => match a with
  | () => []
theorem k_check_1 {P : σ_check_1 → Prop} : DecOK true d_check_1 e_check_1 h_check_1 P := by
  intro vs H a h hp
  unfold d_check_1 at h
  split at h
  · cases a; exact ⟨rfl, .inr ⟨rfl, _, rfl, (fun b hb => by simp [h_check_1] at hb), (fun v hv => by simp [e_check_1] at hv)⟩⟩
  · cases h
abbrev σ_check_2 : Type := Int
def d_check_2 : List V → Heap → Option σ_check_2 := fun vs H => match vs, H with
  | [.lit (.int .i64 e)], _ => some e
  | _, _ => none
def e_check_2 : σ_check_2 → List V := fun a => match a with
  | e => [.lit (.int .i64 e)]
def h_check_2 : σ_check_2 → Heap := fun a => match a with
  | e => []
theorem k_check_2 {P : σ_check_2 → Prop} : DecOK true d_check_2 e_check_2 h_check_2 P := by
  intro vs H a h hp
  unfold d_check_2 at h
  split at h
  · simp only [Option.some.injEq] at h; subst h; exact ⟨rfl, .inr ⟨rfl, _, rfl, (fun b hb => by simp [h_check_2] at hb), (fun v hv => by
      simp only [e_check_2, List.mem_cons, List.not_mem_nil, or_false] at hv
      subst hv; exact lowVb_ok rfl)⟩⟩
  · cases h
def L_check (P_check : σ_check → Prop) (Q_check_1 : σ_check → σ_check_1 → Prop) (Q_check_2 : σ_check → σ_check_2 → Prop) : LD σ_check := ⟨112, [1, 3, 4, 36, 37, 38], d_check, e_check, h_check, P_check, [⟨σ_check_1, .exit 0, [], d_check_1, e_check_1, h_check_1, Q_check_1⟩, ⟨σ_check_2, .ret, [2], d_check_2, e_check_2, h_check_2, Q_check_2⟩]⟩
def r_check (rows : List (List V)) (n1 : Nat) (n2 : Nat) (rows2 : List (List V)) (l : Int) (i : Int) (ls : List (List V)) (ds : List (List V)) (Q_check_1 : σ_check → σ_check_1 → Prop) (Q_check_2 : σ_check → σ_check_2 → Prop) (N : σ_check → σ_check → Prop) : Prop :=
    (if decide (i < l) = true then (if rowsOk nodeSh rows2 = true then (if 0 ≤ i then (if Int.toNat i < List.length rows2 then (if (decide (ByteArray.size (nR rows2 (Int.toNat i)) ≤ 1000000) && decide (ByteArray.size (tR rows2 (Int.toNat i)) ≤ 1000000)) = true then (if allowedB (kR rows2 (Int.toNat i)) (nR rows2 (Int.toNat i)) (tR rows2 (Int.toNat i)) = true then (if (i == 0) = true then (N ((rows, n1, n2, rows2, l, i, ls, ds)) ((rows, n1, n2, rows2, l, IntKind.wrap IntKind.i64 (i + 1), ls, ds))) else (if decide (uR rows2 (Int.toNat i) < 0) = true then (Q_check_2 ((rows, n1, n2, rows2, l, i, ls, ds)) (1)) else (if decide (uR rows2 (Int.toNat i) ≥ i) = true then (Q_check_2 ((rows, n1, n2, rows2, l, i, ls, ds)) (1)) else (if (rowsOk nodeSh rows && (decide (0 ≤ uR rows2 (Int.toNat i)) && (decide (IntKind.wrap IntKind.i64 (i - 1) < toI (List.length rows)) && upB rows (IntKind.wrap IntKind.i64 (i - 1))))) = true then (if aboveB rows (uR rows2 (Int.toNat i)) (IntKind.wrap IntKind.i64 (i - 1)) = true then (if (kR rows2 (Int.toNat i) == 0) = true then (Q_check_2 ((rows, n1, n2, rows2, l, i, ls, ds)) (1)) else (if 0 ≤ uR rows2 (Int.toNat i) then (if Int.toNat (uR rows2 (Int.toNat i)) < n2 then (if 0 + Int.toNat (uR rows2 (Int.toNat i)) < List.length ds then (if 0 < List.length (List.getD ds (0 + Int.toNat (uR rows2 (Int.toNat i))) []) then (if ckOk (ckOf (ofValue (Value.int IntKind.i64 0))) (List.getD (List.getD ds (0 + Int.toNat (uR rows2 (Int.toNat i))) []) 0 un) = true then (if 0 ≤ i then (if Int.toNat i < n2 then (if 0 + Int.toNat i < List.length ds then (if List.length (List.getD ds (0 + Int.toNat i) []) = 1 then (if 0 ≤ uR rows2 (Int.toNat i) then (if Int.toNat (uR rows2 (Int.toNat i)) < n1 then (if 0 + Int.toNat (uR rows2 (Int.toNat i)) < List.length ls then (if 0 < List.length (List.getD ls (0 + Int.toNat (uR rows2 (Int.toNat i))) []) then (if ckOk (ckOf (ofValue (Value.int IntKind.i64 0))) (List.getD (List.getD ls (0 + Int.toNat (uR rows2 (Int.toNat i))) []) 0 un) = true then (if (rowsOk nodeSh rows && (decide (List.length rows ≤ 1000000) && (decide (0 ≤ i) && (decide (i < toI (List.length rows)) && (decide (0 ≤ uR rows (Int.toNat i)) && (decide (uR rows (Int.toNat i) < i) && (decide (0 ≤ cellI (List.getD (List.getD ls (0 + Int.toNat (uR rows2 (Int.toNat i))) []) 0 un)) && decide (cellI (List.getD (List.getD ls (0 + Int.toNat (uR rows2 (Int.toNat i))) []) 0 un) < i)))))))) = true then (if placedB rows (Int.toNat i) (Int.toNat (cellI (List.getD (List.getD ls (0 + Int.toNat (uR rows2 (Int.toNat i))) []) 0 un))) = true then (if (kR rows2 (Int.toNat i) != 2) = true then (if 0 ≤ i then (if Int.toNat i < n2 then (if 0 + Int.toNat i < List.length (List.set ds (0 + Int.toNat i) [V.lit (Value.int IntKind.i64 (IntKind.wrap IntKind.i64 (cellI (List.getD (List.getD ds (0 + Int.toNat (uR rows2 (Int.toNat i))) []) 0 un) + 1)))]) then (if 0 < List.length (List.getD (List.set ds (0 + Int.toNat i) [V.lit (Value.int IntKind.i64 (IntKind.wrap IntKind.i64 (cellI (List.getD (List.getD ds (0 + Int.toNat (uR rows2 (Int.toNat i))) []) 0 un) + 1)))]) (0 + Int.toNat i) []) then (if ckOk (ckOf (ofValue (Value.int IntKind.i64 0))) (List.getD (List.getD (List.set ds (0 + Int.toNat i) [V.lit (Value.int IntKind.i64 (IntKind.wrap IntKind.i64 (cellI (List.getD (List.getD ds (0 + Int.toNat (uR rows2 (Int.toNat i))) []) 0 un) + 1)))]) (0 + Int.toNat i) []) 0 un) = true then (if decide (cellI (List.getD (List.getD (List.set ds (0 + Int.toNat i) [V.lit (Value.int IntKind.i64 (IntKind.wrap IntKind.i64 (cellI (List.getD (List.getD ds (0 + Int.toNat (uR rows2 (Int.toNat i))) []) 0 un) + 1)))]) (0 + Int.toNat i) []) 0 un) > 200) = true then (Q_check_2 ((rows, n1, n2, rows2, l, i, ls, ds)) (1)) else (if 0 ≤ uR rows2 (Int.toNat i) then (if Int.toNat (uR rows2 (Int.toNat i)) < n1 then (if 0 + Int.toNat (uR rows2 (Int.toNat i)) < List.length ls then (if List.length (List.getD ls (0 + Int.toNat (uR rows2 (Int.toNat i))) []) = 1 then (N ((rows, n1, n2, rows2, l, i, ls, ds)) ((rows, n1, n2, rows2, l, IntKind.wrap IntKind.i64 (i + 1), List.set ls (0 + Int.toNat (uR rows2 (Int.toNat i))) [V.lit (Value.int IntKind.i64 i)], List.set ds (0 + Int.toNat i) [V.lit (Value.int IntKind.i64 (IntKind.wrap IntKind.i64 (cellI (List.getD (List.getD ds (0 + Int.toNat (uR rows2 (Int.toNat i))) []) 0 un) + 1)))]))) else False) else False) else False) else False)) else False) else False) else False) else False) else False) else (if 0 ≤ uR rows2 (Int.toNat i) then (if Int.toNat (uR rows2 (Int.toNat i)) < n1 then (if 0 + Int.toNat (uR rows2 (Int.toNat i)) < List.length ls then (if List.length (List.getD ls (0 + Int.toNat (uR rows2 (Int.toNat i))) []) = 1 then (N ((rows, n1, n2, rows2, l, i, ls, ds)) ((rows, n1, n2, rows2, l, IntKind.wrap IntKind.i64 (i + 1), List.set ls (0 + Int.toNat (uR rows2 (Int.toNat i))) [V.lit (Value.int IntKind.i64 i)], List.set ds (0 + Int.toNat i) [V.lit (Value.int IntKind.i64 (IntKind.wrap IntKind.i64 (cellI (List.getD (List.getD ds (0 + Int.toNat (uR rows2 (Int.toNat i))) []) 0 un) + 1)))]))) else False) else False) else False) else False)) else (Q_check_2 ((rows, n1, n2, rows2, l, i, ls, ds)) (1))) else False) else False) else False) else False) else False) else False) else False) else False) else False) else False) else False) else False) else False) else False) else False)) else (Q_check_2 ((rows, n1, n2, rows2, l, i, ls, ds)) (1))) else False)))) else (Q_check_2 ((rows, n1, n2, rows2, l, i, ls, ds)) (1))) else False) else False) else False) else False) else (Q_check_1 ((rows, n1, n2, rows2, l, i, ls, ds)) (PUnit.unit)))
theorem w_check (m : Int) (rows : List (List V)) (n1 : Nat) (n2 : Nat) (rows2 : List (List V)) (l : Int) (i : Int) (ls : List (List V)) (ds : List (List V)) (P_check : σ_check → Prop) (Q_check_1 : σ_check → σ_check_1 → Prop) (Q_check_2 : σ_check → σ_check_2 → Prop) (N : σ_check → σ_check → Prop) :
    codeF (env m) (con17) (fun _ => none) 0 (atC [1, 1, 1, 1, 1, 0, 1, 0, 0] (bodyOf (env m).P 23)) [1, 1, 1, 1, 1, 0, 1, 0, 0] ((L_check P_check Q_check_1 Q_check_2).st (rows, n1, n2, rows2, l, i, ls, ds)) ((L_check P_check Q_check_1 Q_check_2).leaf N (rows, n1, n2, rows2, l, i, ls, ds)) =
    r_check rows n1 n2 rows2 l i ls ds Q_check_1 Q_check_2 N := by kernel_rfl
theorem l_check (m : Int) {ro : Option Nat} (hc : ConR (env m) (Lw m) (con17)) {P_check : σ_check → Prop} {Q_check_1 : σ_check → σ_check_1 → Prop} {Q_check_2 : σ_check → σ_check_2 → Prop} (μ : σ_check → Nat)
    (hlow_check : ∀ a, P_check a → lw_check a)
    (h0 : ∀ (rows : List (List V)) (n1 : Nat) (n2 : Nat) (rows2 : List (List V)) (l : Int) (i : Int) (ls : List (List V)) (ds : List (List V)), P_check (rows, n1, n2, rows2, l, i, ls, ds) → r_check rows n1 n2 rows2 l i ls ds Q_check_1 Q_check_2 (fun a a' => P_check a' ∧ μ a' < μ a ∧ (∀ c, Q_check_1 a' c → Q_check_1 a c) ∧ (∀ c, Q_check_2 a' c → Q_check_2 a c))) :
    SpOK (env m) (Lw m) ro (atC [1, 1, 1, 1, 1, 0, 1, 0] (bodyOf (env m).P 23)) (L_check P_check Q_check_1 Q_check_2).sp true := by
  rw [show atC [1, 1, 1, 1, 1, 0, 1, 0] (bodyOf (env m).P 23) = .loop (atC [1, 1, 1, 1, 1, 0, 1, 0, 0] (bodyOf (env m).P 23)) from by kernel_rfl]
  have hd : (L_check P_check Q_check_1 Q_check_2).dok true := ⟨k_check hlow_check, fun o ho => by
    simp only [L_check, List.mem_cons, List.mem_singleton, List.not_mem_nil, or_false] at ho
    rcases ho with rfl | rfl
    · intro a; exact k_check_1
    · intro a; exact k_check_2⟩
  refine LD.loop_ok hd hc L_up lok_none (u := 0) μ (p := [1, 1, 1, 1, 1, 0, 1, 0, 0]) rfl ?_
  rintro (⟨rows, n1, n2, rows2, l, i, ls, ds⟩) ha
  · exact Eq.mpr (w_check m rows n1 n2 rows2 l i ls ds P_check Q_check_1 Q_check_2 _) (h0 rows n1 n2 rows2 l i ls ds ha)
def r_FCheck (rows : List (List V)) (P_check : σ_check → Prop) (Q_check_1 : σ_check → σ_check_1 → Prop) (Q_check_2 : σ_check → σ_check_2 → Prop) (q : V → Prop) : Prop :=
    (if decide (toI (List.length rows) < 1) = true then (q (V.lit (Value.int IntKind.i64 1))) else (if decide (toI (List.length rows) > 65536) = true then (q (V.lit (Value.int IntKind.i64 1))) else (if rowsOk nodeSh rows = true then (if 0 < List.length rows then (if (uR rows 0 != -1) = true then (q (V.lit (Value.int IntKind.i64 1))) else (if toI (List.length rows) = toI (List.length rows) then (if toI (List.length rows) ≤ 1000000 then (if toI (List.length rows) = toI (List.length rows) then (if toI (List.length rows) ≤ 1000000 then (if 0 < Int.toNat (toI (List.length rows)) then (if 0 < List.length (List.replicate (Int.toNat (toI (List.length rows))) [V.lit (Value.int IntKind.i64 0)]) then (if List.length (List.getD (List.replicate (Int.toNat (toI (List.length rows))) [V.lit (Value.int IntKind.i64 0)]) 0 []) = 1 then ((P_check ((rows, Int.toNat (toI (List.length rows)), Int.toNat (toI (List.length rows)), rows, toI (List.length rows), 0, List.replicate (Int.toNat (toI (List.length rows))) [V.lit (Value.int IntKind.i64 0)], List.set (List.replicate (Int.toNat (toI (List.length rows))) [V.lit (Value.int IntKind.i64 0)]) 0 [V.lit (Value.int IntKind.i64 1)]))) ∧ ((∀ c1 : PUnit, ((Q_check_1 ((rows, Int.toNat (toI (List.length rows)), Int.toNat (toI (List.length rows)), rows, toI (List.length rows), 0, List.replicate (Int.toNat (toI (List.length rows))) [V.lit (Value.int IntKind.i64 0)], List.set (List.replicate (Int.toNat (toI (List.length rows))) [V.lit (Value.int IntKind.i64 0)]) 0 [V.lit (Value.int IntKind.i64 1)])) (c1)) → (q (V.lit (Value.int IntKind.i64 0))))) ∧ (∀ c2 : Int, ((Q_check_2 ((rows, Int.toNat (toI (List.length rows)), Int.toNat (toI (List.length rows)), rows, toI (List.length rows), 0, List.replicate (Int.toNat (toI (List.length rows))) [V.lit (Value.int IntKind.i64 0)], List.set (List.replicate (Int.toNat (toI (List.length rows))) [V.lit (Value.int IntKind.i64 0)]) 0 [V.lit (Value.int IntKind.i64 1)])) (c2)) → (q (V.lit (Value.int IntKind.i64 c2))))))) else False) else False) else False) else False) else False) else False) else False)) else False) else False)))
theorem w_FCheck (m : Int) (rows : List (List V)) (P_check : σ_check → Prop) (Q_check_1 : σ_check → σ_check_1 → Prop) (Q_check_2 : σ_check → σ_check_2 → Prop) (q : V → Prop) :
    codeF (env m) (con17) (lcAdd [1, 1, 1, 1, 1, 0, 1, 0] (L_check P_check Q_check_1 Q_check_2).sp (fun _ => none)) 0 (bodyOf (env m).P 23) [] ⟨[.agg [.arr rows]] ++ List.replicate (112 - 1) un, [], []⟩ (finR (env m) (resOf (env m).P 23) (fun v _ => q v)) =
    r_FCheck rows P_check Q_check_1 Q_check_2 q := by kernel_rfl
theorem cc_Check (m : Int) (rows : List (List V)) (hc : ConR (env m) (Lw m) (con17)) {P_check : σ_check → Prop} {Q_check_1 : σ_check → σ_check_1 → Prop} {Q_check_2 : σ_check → σ_check_2 → Prop} (hl_check : SpOK (env m) (Lw m) none (atC [1, 1, 1, 1, 1, 0, 1, 0] (bodyOf (env m).P 23)) (L_check P_check Q_check_1 Q_check_2).sp true) {q : V → Prop} (hr : r_FCheck rows P_check Q_check_1 Q_check_2 q) :
    ∃ v_ K_ r_ H_, (Lw m).callX 23 [.agg [.arr rows]] [] = some (.ret (mapV r_ v_), H_) ∧ Rn r_ K_ H_ ∧ q v_ := by
  refine F_own (fg := true) hc (f := 23) (q := fun v _ => q v) (lok_add hl_check lok_none) (u := 0) (by kernel_rfl) rfl ?_
  rw [show ntmpsOf (env m).P 23 = 112 from by kernel_rfl]
  exact Eq.mpr (w_FCheck m rows P_check Q_check_1 Q_check_2 q) hr
theorem ff_Check (m : Int) (rows : List (List V)) (hc : ConR (env m) (Lw m) (con17)) {P_check : σ_check → Prop} {Q_check_1 : σ_check → σ_check_1 → Prop} {Q_check_2 : σ_check → σ_check_2 → Prop} (hl_check : SpOK (env m) (Lw m) none (atC [1, 1, 1, 1, 1, 0, 1, 0] (bodyOf (env m).P 23)) (L_check P_check Q_check_1 Q_check_2).sp true) {w_ : V} (hw : closedV w_ = true) (hr : r_FCheck rows P_check Q_check_1 Q_check_2 (fun v_ => v_ = w_)) :
    ∃ H_, (Lw m).callX 23 [.agg [.arr rows]] [] = some (.ret w_, H_) := by
  obtain ⟨v_, K_, r_, H_, h1, h2, rfl⟩ := cc_Check m rows hc hl_check hr
  rw [closed_eq hw] at h1
  exact ⟨H_, h1⟩
end Go.Proofs.YtpmdlaojndejfaaGreatDoor.E
