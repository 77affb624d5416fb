/- Printed by sv.py: what the program's code asks and does, piece by piece. -/
import Derived.Test.YtpmdlaojndejfaaGreatDoorKc13
import Derived.ProofKit
namespace Go.Proofs.YtpmdlaojndejfaaGreatDoor.E
open Go
set_option linter.unusedVariables false
set_option linter.unusedSimpArgs false
set_option maxRecDepth 1000000
def r_Fin (rows : List (List V)) (i : Int) (q : V → Prop) : Prop :=
    (if decide (i ≥ 0) = true then (if decide (i < toI (List.length rows)) = true then (if (rowsOk nodeSh rows && smallB rows) = true then (if (chkI rows == 0) = true then (q (V.lit (Value.bool true))) else (q (V.lit (Value.bool false)))) else False) else (q (V.lit (Value.bool false)))) else (q (V.lit (Value.bool false))))
theorem w_Fin (m : Int) (rows : List (List V)) (i : Int) (q : V → Prop) :
    codeF (env m) (con18) (fun _ => none) 0 (bodyOf (env m).P 38) [] ⟨[.agg [.arr rows], .lit (.int .i64 i)] ++ List.replicate (19 - 2) un, [], []⟩ (finR (env m) (resOf (env m).P 38) (fun v _ => q v)) =
    r_Fin rows i q := by kernel_rfl
theorem cc_in (m : Int) (rows : List (List V)) (i : Int) (hc : ConR (env m) (Lw m) (con18)) {q : V → Prop} (hr : r_Fin rows i q) :
    ∃ v_ K_ r_ H_, (Lw m).callX 38 [.agg [.arr rows], .lit (.int .i64 i)] [] = some (.ret (mapV r_ v_), H_) ∧ Rn r_ K_ H_ ∧ q v_ := by
  refine F_own (fg := true) hc (f := 38) (q := fun v _ => q v) lok_none (u := 0) (by kernel_rfl) rfl ?_
  rw [show ntmpsOf (env m).P 38 = 19 from by kernel_rfl]
  exact Eq.mpr (w_Fin m rows i q) hr
theorem ff_in (m : Int) (rows : List (List V)) (i : Int) (hc : ConR (env m) (Lw m) (con18)) {w_ : V} (hw : closedV w_ = true) (hr : r_Fin rows i (fun v_ => v_ = w_)) :
    ∃ H_, (Lw m).callX 38 [.agg [.arr rows], .lit (.int .i64 i)] [] = some (.ret w_, H_) := by
  obtain ⟨v_, K_, r_, H_, h1, h2, rfl⟩ := cc_in m rows i hc hr
  rw [closed_eq hw] at h1
  exact ⟨H_, h1⟩
def r_FrIn (rows : List (List V)) (i : Int) (q : V → Prop) : Prop :=
    (if decide (i ≥ 0) = true then (if decide (i < toI (List.length rows)) = true then (if (rowsOk nodeSh rows && smallB rows) = true then (if validB rows = true then (q (V.lit (Value.bool true))) else (q (V.lit (Value.bool false)))) else False) else (q (V.lit (Value.bool false)))) else (q (V.lit (Value.bool false))))
theorem w_FrIn (m : Int) (rows : List (List V)) (i : Int) (q : V → Prop) :
    codeF (env m) (con18) (fun _ => none) 0 (bodyOf (env m).P 22) [] ⟨[.agg [.arr rows], .lit (.int .i64 i)] ++ List.replicate (18 - 2) un, [], []⟩ (finR (env m) (resOf (env m).P 22) (fun v _ => q v)) =
    r_FrIn rows i q := by kernel_rfl
theorem cc_rIn (m : Int) (rows : List (List V)) (i : Int) (hc : ConR (env m) (Lw m) (con18)) {q : V → Prop} (hr : r_FrIn rows i q) :
    ∃ v_ K_ r_ H_, (Lw m).callX 22 [.agg [.arr rows], .lit (.int .i64 i)] [] = some (.ret (mapV r_ v_), H_) ∧ Rn r_ K_ H_ ∧ q v_ := by
  refine F_own (fg := true) hc (f := 22) (q := fun v _ => q v) lok_none (u := 0) (by kernel_rfl) rfl ?_
  rw [show ntmpsOf (env m).P 22 = 18 from by kernel_rfl]
  exact Eq.mpr (w_FrIn m rows i q) hr
theorem ff_rIn (m : Int) (rows : List (List V)) (i : Int) (hc : ConR (env m) (Lw m) (con18)) {w_ : V} (hw : closedV w_ = true) (hr : r_FrIn rows i (fun v_ => v_ = w_)) :
    ∃ H_, (Lw m).callX 22 [.agg [.arr rows], .lit (.int .i64 i)] [] = some (.ret w_, H_) := by
  obtain ⟨v_, K_, r_, H_, h1, h2, rfl⟩ := cc_rIn m rows i hc hr
  rw [closed_eq hw] at h1
  exact ⟨H_, h1⟩
end Go.Proofs.YtpmdlaojndejfaaGreatDoor.E

/- Is a node in a valid tree. -/
set_option linter.unusedVariables false
set_option linter.unusedSimpArgs false
set_option maxRecDepth 100000
namespace Go.Proofs.YtpmdlaojndejfaaGreatDoor.E
open Go
/-- The tree is valid and has the node. -/
def inB (rows : List (List V)) (i : Int) : Bool := decide (0 ≤ i) && (decide (i < rows.length) && validB rows)
def inS : PSpec
  | [.agg [.arr rows], .lit (.int .i64 i)] => some (rowsOk nodeSh rows && smallB rows, .lit (.bool (inB rows i)))
  | _ => none
theorem in_does (m : Int) (rows : List (List V)) (i : Int) (hok : rowsOk nodeSh rows = true) (hs : smallB rows = true) : ∃ H', (Lw m).callX 38 [.agg [.arr rows], .lit (.int .i64 i)] [] = some (.ret (.lit (.bool (inB rows i))), H') :=
  ff_in m rows i (con18_r m) rfl (by
    unfold r_Fin inB chkI
    by_cases h0 : 0 ≤ i <;> by_cases h1 : i < rows.length <;> cases hv : validB rows <;> simp [h0, h1, hv, hok, hs, toI])
theorem rIn_does (m : Int) (rows : List (List V)) (i : Int) (hok : rowsOk nodeSh rows = true) (hs : smallB rows = true) : ∃ H', (Lw m).callX 22 [.agg [.arr rows], .lit (.int .i64 i)] [] = some (.ret (.lit (.bool (inB rows i))), H') :=
  ff_rIn m rows i (con18_r m) rfl (by
    unfold r_FrIn inB
    by_cases h0 : 0 ≤ i <;> by_cases h1 : i < rows.length <;> cases hv : validB rows <;> simp [h0, h1, hv, hok, hs, toI])
noncomputable def con19 : Con := addP 38 inS (addP 22 inS con18)
theorem con19_r (m : Int) : ConR (env m) (Lw m) con19 := by
  refine addP_r (addP_r (con18_r m) (by kernel_rfl) fun args v hs => ?_) (by kernel_rfl) fun args v hs => ?_
  · unfold inS at hs
    split at hs
    · simp only [Option.some.injEq, Prod.mk.injEq, Bool.and_eq_true] at hs
      obtain ⟨⟨h1, h2⟩, rfl⟩ := hs
      exact ⟨rfl, rfl, rIn_does m _ _ h1 h2⟩
    · cases hs
  · unfold inS at hs
    split at hs
    · simp only [Option.some.injEq, Prod.mk.injEq, Bool.and_eq_true] at hs
      obtain ⟨⟨h1, h2⟩, rfl⟩ := hs
      exact ⟨rfl, rfl, in_does m _ _ h1 h2⟩
    · cases hs
end Go.Proofs.YtpmdlaojndejfaaGreatDoor.E

/- Printed by sv.py: what the program's code asks and does, piece by piece. -/
namespace Go.Proofs.YtpmdlaojndejfaaGreatDoor.E
open Go
set_option linter.unusedVariables false
set_option linter.unusedSimpArgs false
set_option maxRecDepth 1000000
def r_FTest (rows : List (List V)) (i : Int) (ax : Int) (k : Int) (n : ByteArray) (q : V → Prop) : Prop :=
    (if (rowsOk nodeSh rows && smallB rows) = true then (if inB rows i = true then (if rowsOk nodeSh rows = true then (if 0 ≤ i then (if Int.toNat i < List.length rows then (if (ax == 4) = true then (if (k == 0) = true then (if (kR rows (Int.toNat i) == 2) = true then (q (V.lit (Value.bool true))) else (q (V.lit (Value.bool false)))) else (if (k == 1) = true then (if (kR rows (Int.toNat i) == 2) = true then (if (ByteArray.toList (nR rows (Int.toNat i)) == ByteArray.toList n) = true then (q (V.lit (Value.bool true))) else (q (V.lit (Value.bool false)))) else (q (V.lit (Value.bool false)))) else (if (k == 2) = true then (q (V.lit (Value.bool true))) else (if (k == 3) = true then (if (kR rows (Int.toNat i) == cellI (lookE [(V.lit (Value.int IntKind.i64 3), V.lit (Value.int IntKind.i64 3)), (V.lit (Value.int IntKind.i64 4), V.lit (Value.int IntKind.i64 4)), (V.lit (Value.int IntKind.i64 6), V.lit (Value.int IntKind.i64 0)), (V.lit (Value.int IntKind.i64 5), V.lit (Value.int IntKind.i64 5)), (V.lit (Value.int IntKind.i64 7), V.lit (Value.int IntKind.i64 1)), (V.lit (Value.int IntKind.i64 8), V.lit (Value.int IntKind.i64 2))] (Value.int IntKind.i64 k) (ofValue (Value.int IntKind.i64 0)))) = true then (q (V.lit (Value.bool true))) else (q (V.lit (Value.bool false)))) else (if (k == 4) = true then (if (kR rows (Int.toNat i) == cellI (lookE [(V.lit (Value.int IntKind.i64 3), V.lit (Value.int IntKind.i64 3)), (V.lit (Value.int IntKind.i64 4), V.lit (Value.int IntKind.i64 4)), (V.lit (Value.int IntKind.i64 6), V.lit (Value.int IntKind.i64 0)), (V.lit (Value.int IntKind.i64 5), V.lit (Value.int IntKind.i64 5)), (V.lit (Value.int IntKind.i64 7), V.lit (Value.int IntKind.i64 1)), (V.lit (Value.int IntKind.i64 8), V.lit (Value.int IntKind.i64 2))] (Value.int IntKind.i64 k) (ofValue (Value.int IntKind.i64 0)))) = true then (q (V.lit (Value.bool true))) else (q (V.lit (Value.bool false)))) else (if (k == 6) = true then (if (kR rows (Int.toNat i) == cellI (lookE [(V.lit (Value.int IntKind.i64 3), V.lit (Value.int IntKind.i64 3)), (V.lit (Value.int IntKind.i64 4), V.lit (Value.int IntKind.i64 4)), (V.lit (Value.int IntKind.i64 6), V.lit (Value.int IntKind.i64 0)), (V.lit (Value.int IntKind.i64 5), V.lit (Value.int IntKind.i64 5)), (V.lit (Value.int IntKind.i64 7), V.lit (Value.int IntKind.i64 1)), (V.lit (Value.int IntKind.i64 8), V.lit (Value.int IntKind.i64 2))] (Value.int IntKind.i64 k) (ofValue (Value.int IntKind.i64 0)))) = true then (q (V.lit (Value.bool true))) else (q (V.lit (Value.bool false)))) else (if (k == 5) = true then (if (kR rows (Int.toNat i) == cellI (lookE [(V.lit (Value.int IntKind.i64 3), V.lit (Value.int IntKind.i64 3)), (V.lit (Value.int IntKind.i64 4), V.lit (Value.int IntKind.i64 4)), (V.lit (Value.int IntKind.i64 6), V.lit (Value.int IntKind.i64 0)), (V.lit (Value.int IntKind.i64 5), V.lit (Value.int IntKind.i64 5)), (V.lit (Value.int IntKind.i64 7), V.lit (Value.int IntKind.i64 1)), (V.lit (Value.int IntKind.i64 8), V.lit (Value.int IntKind.i64 2))] (Value.int IntKind.i64 k) (ofValue (Value.int IntKind.i64 0)))) = true then (if (ByteArray.toList n == []) = true then (q (V.lit (Value.bool true))) else (if (ByteArray.toList n == ByteArray.toList (nR rows (Int.toNat i))) = true then (q (V.lit (Value.bool true))) else (q (V.lit (Value.bool false))))) else (q (V.lit (Value.bool false)))) else (if (k == 7) = true then (if (kR rows (Int.toNat i) == cellI (lookE [(V.lit (Value.int IntKind.i64 3), V.lit (Value.int IntKind.i64 3)), (V.lit (Value.int IntKind.i64 4), V.lit (Value.int IntKind.i64 4)), (V.lit (Value.int IntKind.i64 6), V.lit (Value.int IntKind.i64 0)), (V.lit (Value.int IntKind.i64 5), V.lit (Value.int IntKind.i64 5)), (V.lit (Value.int IntKind.i64 7), V.lit (Value.int IntKind.i64 1)), (V.lit (Value.int IntKind.i64 8), V.lit (Value.int IntKind.i64 2))] (Value.int IntKind.i64 k) (ofValue (Value.int IntKind.i64 0)))) = true then (if (ByteArray.toList n == []) = true then (q (V.lit (Value.bool true))) else (if (ByteArray.toList n == ByteArray.toList (nR rows (Int.toNat i))) = true then (q (V.lit (Value.bool true))) else (q (V.lit (Value.bool false))))) else (q (V.lit (Value.bool false)))) else (if (k == 8) = true then (if (kR rows (Int.toNat i) == cellI (lookE [(V.lit (Value.int IntKind.i64 3), V.lit (Value.int IntKind.i64 3)), (V.lit (Value.int IntKind.i64 4), V.lit (Value.int IntKind.i64 4)), (V.lit (Value.int IntKind.i64 6), V.lit (Value.int IntKind.i64 0)), (V.lit (Value.int IntKind.i64 5), V.lit (Value.int IntKind.i64 5)), (V.lit (Value.int IntKind.i64 7), V.lit (Value.int IntKind.i64 1)), (V.lit (Value.int IntKind.i64 8), V.lit (Value.int IntKind.i64 2))] (Value.int IntKind.i64 k) (ofValue (Value.int IntKind.i64 0)))) = true then (if (ByteArray.toList n == []) = true then (q (V.lit (Value.bool true))) else (if (ByteArray.toList n == ByteArray.toList (nR rows (Int.toNat i))) = true then (q (V.lit (Value.bool true))) else (q (V.lit (Value.bool false))))) else (q (V.lit (Value.bool false)))) else (q (V.lit (Value.bool false)))))))))))) else (if (k == 0) = true then (if (kR rows (Int.toNat i) == 1) = true then (q (V.lit (Value.bool true))) else (q (V.lit (Value.bool false)))) else (if (k == 1) = true then (if (kR rows (Int.toNat i) == 1) = true then (if (ByteArray.toList (nR rows (Int.toNat i)) == ByteArray.toList n) = true then (q (V.lit (Value.bool true))) else (q (V.lit (Value.bool false)))) else (q (V.lit (Value.bool false)))) else (if (k == 2) = true then (q (V.lit (Value.bool true))) else (if (k == 3) = true then (if (kR rows (Int.toNat i) == cellI (lookE [(V.lit (Value.int IntKind.i64 3), V.lit (Value.int IntKind.i64 3)), (V.lit (Value.int IntKind.i64 4), V.lit (Value.int IntKind.i64 4)), (V.lit (Value.int IntKind.i64 6), V.lit (Value.int IntKind.i64 0)), (V.lit (Value.int IntKind.i64 5), V.lit (Value.int IntKind.i64 5)), (V.lit (Value.int IntKind.i64 7), V.lit (Value.int IntKind.i64 1)), (V.lit (Value.int IntKind.i64 8), V.lit (Value.int IntKind.i64 2))] (Value.int IntKind.i64 k) (ofValue (Value.int IntKind.i64 0)))) = true then (q (V.lit (Value.bool true))) else (q (V.lit (Value.bool false)))) else (if (k == 4) = true then (if (kR rows (Int.toNat i) == cellI (lookE [(V.lit (Value.int IntKind.i64 3), V.lit (Value.int IntKind.i64 3)), (V.lit (Value.int IntKind.i64 4), V.lit (Value.int IntKind.i64 4)), (V.lit (Value.int IntKind.i64 6), V.lit (Value.int IntKind.i64 0)), (V.lit (Value.int IntKind.i64 5), V.lit (Value.int IntKind.i64 5)), (V.lit (Value.int IntKind.i64 7), V.lit (Value.int IntKind.i64 1)), (V.lit (Value.int IntKind.i64 8), V.lit (Value.int IntKind.i64 2))] (Value.int IntKind.i64 k) (ofValue (Value.int IntKind.i64 0)))) = true then (q (V.lit (Value.bool true))) else (q (V.lit (Value.bool false)))) else (if (k == 6) = true then (if (kR rows (Int.toNat i) == cellI (lookE [(V.lit (Value.int IntKind.i64 3), V.lit (Value.int IntKind.i64 3)), (V.lit (Value.int IntKind.i64 4), V.lit (Value.int IntKind.i64 4)), (V.lit (Value.int IntKind.i64 6), V.lit (Value.int IntKind.i64 0)), (V.lit (Value.int IntKind.i64 5), V.lit (Value.int IntKind.i64 5)), (V.lit (Value.int IntKind.i64 7), V.lit (Value.int IntKind.i64 1)), (V.lit (Value.int IntKind.i64 8), V.lit (Value.int IntKind.i64 2))] (Value.int IntKind.i64 k) (ofValue (Value.int IntKind.i64 0)))) = true then (q (V.lit (Value.bool true))) else (q (V.lit (Value.bool false)))) else (if (k == 5) = true then (if (kR rows (Int.toNat i) == cellI (lookE [(V.lit (Value.int IntKind.i64 3), V.lit (Value.int IntKind.i64 3)), (V.lit (Value.int IntKind.i64 4), V.lit (Value.int IntKind.i64 4)), (V.lit (Value.int IntKind.i64 6), V.lit (Value.int IntKind.i64 0)), (V.lit (Value.int IntKind.i64 5), V.lit (Value.int IntKind.i64 5)), (V.lit (Value.int IntKind.i64 7), V.lit (Value.int IntKind.i64 1)), (V.lit (Value.int IntKind.i64 8), V.lit (Value.int IntKind.i64 2))] (Value.int IntKind.i64 k) (ofValue (Value.int IntKind.i64 0)))) = true then (if (ByteArray.toList n == []) = true then (q (V.lit (Value.bool true))) else (if (ByteArray.toList n == ByteArray.toList (nR rows (Int.toNat i))) = true then (q (V.lit (Value.bool true))) else (q (V.lit (Value.bool false))))) else (q (V.lit (Value.bool false)))) else (if (k == 7) = true then (if (kR rows (Int.toNat i) == cellI (lookE [(V.lit (Value.int IntKind.i64 3), V.lit (Value.int IntKind.i64 3)), (V.lit (Value.int IntKind.i64 4), V.lit (Value.int IntKind.i64 4)), (V.lit (Value.int IntKind.i64 6), V.lit (Value.int IntKind.i64 0)), (V.lit (Value.int IntKind.i64 5), V.lit (Value.int IntKind.i64 5)), (V.lit (Value.int IntKind.i64 7), V.lit (Value.int IntKind.i64 1)), (V.lit (Value.int IntKind.i64 8), V.lit (Value.int IntKind.i64 2))] (Value.int IntKind.i64 k) (ofValue (Value.int IntKind.i64 0)))) = true then (if (ByteArray.toList n == []) = true then (q (V.lit (Value.bool true))) else (if (ByteArray.toList n == ByteArray.toList (nR rows (Int.toNat i))) = true then (q (V.lit (Value.bool true))) else (q (V.lit (Value.bool false))))) else (q (V.lit (Value.bool false)))) else (if (k == 8) = true then (if (kR rows (Int.toNat i) == cellI (lookE [(V.lit (Value.int IntKind.i64 3), V.lit (Value.int IntKind.i64 3)), (V.lit (Value.int IntKind.i64 4), V.lit (Value.int IntKind.i64 4)), (V.lit (Value.int IntKind.i64 6), V.lit (Value.int IntKind.i64 0)), (V.lit (Value.int IntKind.i64 5), V.lit (Value.int IntKind.i64 5)), (V.lit (Value.int IntKind.i64 7), V.lit (Value.int IntKind.i64 1)), (V.lit (Value.int IntKind.i64 8), V.lit (Value.int IntKind.i64 2))] (Value.int IntKind.i64 k) (ofValue (Value.int IntKind.i64 0)))) = true then (if (ByteArray.toList n == []) = true then (q (V.lit (Value.bool true))) else (if (ByteArray.toList n == ByteArray.toList (nR rows (Int.toNat i))) = true then (q (V.lit (Value.bool true))) else (q (V.lit (Value.bool false))))) else (q (V.lit (Value.bool false)))) else (q (V.lit (Value.bool false))))))))))))) else False) else False) else False) else (q (V.lit (Value.bool false)))) else False)
theorem w_FTest (m : Int) (rows : List (List V)) (i : Int) (ax : Int) (k : Int) (n : ByteArray) (q : V → Prop) :
    codeF (env m) (con19) (fun _ => none) 0 (bodyOf (env m).P 35) [] ⟨[.agg [.arr rows], .lit (.int .i64 i), .lit (.int .i64 ax), .agg [.lit (.int .i64 k), .lit (.string n)]] ++ List.replicate (82 - 4) un, [], []⟩ (finR (env m) (resOf (env m).P 35) (fun v _ => q v)) =
    r_FTest rows i ax k n q := by kernel_rfl
theorem cc_Test (m : Int) (rows : List (List V)) (i : Int) (ax : Int) (k : Int) (n : ByteArray) (hc : ConR (env m) (Lw m) (con19)) {q : V → Prop} (hr : r_FTest rows i ax k n q) :
    ∃ v_ K_ r_ H_, (Lw m).callX 35 [.agg [.arr rows], .lit (.int .i64 i), .lit (.int .i64 ax), .agg [.lit (.int .i64 k), .lit (.string n)]] [] = some (.ret (mapV r_ v_), H_) ∧ Rn r_ K_ H_ ∧ q v_ := by
  refine F_own (fg := true) hc (f := 35) (q := fun v _ => q v) lok_none (u := 0) (by kernel_rfl) rfl ?_
  rw [show ntmpsOf (env m).P 35 = 82 from by kernel_rfl]
  exact Eq.mpr (w_FTest m rows i ax k n q) hr
theorem ff_Test (m : Int) (rows : List (List V)) (i : Int) (ax : Int) (k : Int) (n : ByteArray) (hc : ConR (env m) (Lw m) (con19)) {w_ : V} (hw : closedV w_ = true) (hr : r_FTest rows i ax k n (fun v_ => v_ = w_)) :
    ∃ H_, (Lw m).callX 35 [.agg [.arr rows], .lit (.int .i64 i), .lit (.int .i64 ax), .agg [.lit (.int .i64 k), .lit (.string n)]] [] = some (.ret w_, H_) := by
  obtain ⟨v_, K_, r_, H_, h1, h2, rfl⟩ := cc_Test m rows i ax k n hc hr
  rw [closed_eq hw] at h1
  exact ⟨H_, h1⟩
def r_FrTest (rows : List (List V)) (i : Int) (ax : Int) (k : Int) (n : ByteArray) (q : V → Prop) : Prop :=
    (if (rowsOk nodeSh rows && smallB rows) = true then (if inB rows i = true then (if rowsOk nodeSh rows = true then (if 0 ≤ i then (if Int.toNat i < List.length rows then (if (kR rows (Int.toNat i) == 1) = true then (if (ax == 4) = true then (if (kR rows (Int.toNat i) == 2) = true then (if (k == 0) = true then (q (V.lit (Value.bool true))) else (if (k == 1) = true then (if (ByteArray.toList (nR rows (Int.toNat i)) == ByteArray.toList n) = true then (q (V.lit (Value.bool true))) else (q (V.lit (Value.bool false)))) else (if (k == 2) = true then (q (V.lit (Value.bool true))) else (if (k == 3) = true then (if (kR rows (Int.toNat i) == 3) = true then (q (V.lit (Value.bool true))) else (q (V.lit (Value.bool false)))) else (if (k == 4) = true then (if (kR rows (Int.toNat i) == 4) = true then (q (V.lit (Value.bool true))) else (q (V.lit (Value.bool false)))) else (if (k == 6) = true then (if (kR rows (Int.toNat i) == 0) = true then (q (V.lit (Value.bool true))) else (q (V.lit (Value.bool false)))) else (if (k == 5) = true then (if (kR rows (Int.toNat i) == 5) = true then (if (ByteArray.toList n == []) = true then (q (V.lit (Value.bool true))) else (if (ByteArray.toList n == ByteArray.toList (nR rows (Int.toNat i))) = true then (q (V.lit (Value.bool true))) else (q (V.lit (Value.bool false))))) else (q (V.lit (Value.bool false)))) else (if (k == 7) = true then (if (kR rows (Int.toNat i) == 1) = true then (if (ByteArray.toList n == []) = true then (q (V.lit (Value.bool true))) else (if (ByteArray.toList n == ByteArray.toList (nR rows (Int.toNat i))) = true then (q (V.lit (Value.bool true))) else (q (V.lit (Value.bool false))))) else (q (V.lit (Value.bool false)))) else (if (k == 8) = true then (if (kR rows (Int.toNat i) == 2) = true then (if (ByteArray.toList n == []) = true then (q (V.lit (Value.bool true))) else (if (ByteArray.toList n == ByteArray.toList (nR rows (Int.toNat i))) = true then (q (V.lit (Value.bool true))) else (q (V.lit (Value.bool false))))) else (q (V.lit (Value.bool false)))) else (q (V.lit (Value.bool false)))))))))))) else (if (k == 0) = true then (q (V.lit (Value.bool false))) else (if (k == 1) = true then (q (V.lit (Value.bool false))) else (if (k == 2) = true then (q (V.lit (Value.bool true))) else (if (k == 3) = true then (if (kR rows (Int.toNat i) == 3) = true then (q (V.lit (Value.bool true))) else (q (V.lit (Value.bool false)))) else (if (k == 4) = true then (if (kR rows (Int.toNat i) == 4) = true then (q (V.lit (Value.bool true))) else (q (V.lit (Value.bool false)))) else (if (k == 6) = true then (if (kR rows (Int.toNat i) == 0) = true then (q (V.lit (Value.bool true))) else (q (V.lit (Value.bool false)))) else (if (k == 5) = true then (if (kR rows (Int.toNat i) == 5) = true then (if (ByteArray.toList n == []) = true then (q (V.lit (Value.bool true))) else (if (ByteArray.toList n == ByteArray.toList (nR rows (Int.toNat i))) = true then (q (V.lit (Value.bool true))) else (q (V.lit (Value.bool false))))) else (q (V.lit (Value.bool false)))) else (if (k == 7) = true then (if (kR rows (Int.toNat i) == 1) = true then (if (ByteArray.toList n == []) = true then (q (V.lit (Value.bool true))) else (if (ByteArray.toList n == ByteArray.toList (nR rows (Int.toNat i))) = true then (q (V.lit (Value.bool true))) else (q (V.lit (Value.bool false))))) else (q (V.lit (Value.bool false)))) else (if (k == 8) = true then (if (kR rows (Int.toNat i) == 2) = true then (if (ByteArray.toList n == []) = true then (q (V.lit (Value.bool true))) else (if (ByteArray.toList n == ByteArray.toList (nR rows (Int.toNat i))) = true then (q (V.lit (Value.bool true))) else (q (V.lit (Value.bool false))))) else (q (V.lit (Value.bool false)))) else (q (V.lit (Value.bool false))))))))))))) else (if (k == 0) = true then (q (V.lit (Value.bool true))) else (if (k == 1) = true then (if (ByteArray.toList (nR rows (Int.toNat i)) == ByteArray.toList n) = true then (q (V.lit (Value.bool true))) else (q (V.lit (Value.bool false)))) else (if (k == 2) = true then (q (V.lit (Value.bool true))) else (if (k == 3) = true then (if (kR rows (Int.toNat i) == 3) = true then (q (V.lit (Value.bool true))) else (q (V.lit (Value.bool false)))) else (if (k == 4) = true then (if (kR rows (Int.toNat i) == 4) = true then (q (V.lit (Value.bool true))) else (q (V.lit (Value.bool false)))) else (if (k == 6) = true then (if (kR rows (Int.toNat i) == 0) = true then (q (V.lit (Value.bool true))) else (q (V.lit (Value.bool false)))) else (if (k == 5) = true then (if (kR rows (Int.toNat i) == 5) = true then (if (ByteArray.toList n == []) = true then (q (V.lit (Value.bool true))) else (if (ByteArray.toList n == ByteArray.toList (nR rows (Int.toNat i))) = true then (q (V.lit (Value.bool true))) else (q (V.lit (Value.bool false))))) else (q (V.lit (Value.bool false)))) else (if (k == 7) = true then (if (kR rows (Int.toNat i) == 1) = true then (if (ByteArray.toList n == []) = true then (q (V.lit (Value.bool true))) else (if (ByteArray.toList n == ByteArray.toList (nR rows (Int.toNat i))) = true then (q (V.lit (Value.bool true))) else (q (V.lit (Value.bool false))))) else (q (V.lit (Value.bool false)))) else (if (k == 8) = true then (if (kR rows (Int.toNat i) == 2) = true then (if (ByteArray.toList n == []) = true then (q (V.lit (Value.bool true))) else (if (ByteArray.toList n == ByteArray.toList (nR rows (Int.toNat i))) = true then (q (V.lit (Value.bool true))) else (q (V.lit (Value.bool false))))) else (q (V.lit (Value.bool false)))) else (q (V.lit (Value.bool false))))))))))))) else (if (ax == 4) = true then (if (kR rows (Int.toNat i) == 2) = true then (if (k == 0) = true then (q (V.lit (Value.bool true))) else (if (k == 1) = true then (if (ByteArray.toList (nR rows (Int.toNat i)) == ByteArray.toList n) = true then (q (V.lit (Value.bool true))) else (q (V.lit (Value.bool false)))) else (if (k == 2) = true then (q (V.lit (Value.bool true))) else (if (k == 3) = true then (if (kR rows (Int.toNat i) == 3) = true then (q (V.lit (Value.bool true))) else (q (V.lit (Value.bool false)))) else (if (k == 4) = true then (if (kR rows (Int.toNat i) == 4) = true then (q (V.lit (Value.bool true))) else (q (V.lit (Value.bool false)))) else (if (k == 6) = true then (if (kR rows (Int.toNat i) == 0) = true then (q (V.lit (Value.bool true))) else (q (V.lit (Value.bool false)))) else (if (k == 5) = true then (if (kR rows (Int.toNat i) == 5) = true then (if (ByteArray.toList n == []) = true then (q (V.lit (Value.bool true))) else (if (ByteArray.toList n == ByteArray.toList (nR rows (Int.toNat i))) = true then (q (V.lit (Value.bool true))) else (q (V.lit (Value.bool false))))) else (q (V.lit (Value.bool false)))) else (if (k == 7) = true then (if (kR rows (Int.toNat i) == 1) = true then (if (ByteArray.toList n == []) = true then (q (V.lit (Value.bool true))) else (if (ByteArray.toList n == ByteArray.toList (nR rows (Int.toNat i))) = true then (q (V.lit (Value.bool true))) else (q (V.lit (Value.bool false))))) else (q (V.lit (Value.bool false)))) else (if (k == 8) = true then (if (kR rows (Int.toNat i) == 2) = true then (if (ByteArray.toList n == []) = true then (q (V.lit (Value.bool true))) else (if (ByteArray.toList n == ByteArray.toList (nR rows (Int.toNat i))) = true then (q (V.lit (Value.bool true))) else (q (V.lit (Value.bool false))))) else (q (V.lit (Value.bool false)))) else (q (V.lit (Value.bool false)))))))))))) else (if (k == 0) = true then (q (V.lit (Value.bool false))) else (if (k == 1) = true then (q (V.lit (Value.bool false))) else (if (k == 2) = true then (q (V.lit (Value.bool true))) else (if (k == 3) = true then (if (kR rows (Int.toNat i) == 3) = true then (q (V.lit (Value.bool true))) else (q (V.lit (Value.bool false)))) else (if (k == 4) = true then (if (kR rows (Int.toNat i) == 4) = true then (q (V.lit (Value.bool true))) else (q (V.lit (Value.bool false)))) else (if (k == 6) = true then (if (kR rows (Int.toNat i) == 0) = true then (q (V.lit (Value.bool true))) else (q (V.lit (Value.bool false)))) else (if (k == 5) = true then (if (kR rows (Int.toNat i) == 5) = true then (if (ByteArray.toList n == []) = true then (q (V.lit (Value.bool true))) else (if (ByteArray.toList n == ByteArray.toList (nR rows (Int.toNat i))) = true then (q (V.lit (Value.bool true))) else (q (V.lit (Value.bool false))))) else (q (V.lit (Value.bool false)))) else (if (k == 7) = true then (if (kR rows (Int.toNat i) == 1) = true then (if (ByteArray.toList n == []) = true then (q (V.lit (Value.bool true))) else (if (ByteArray.toList n == ByteArray.toList (nR rows (Int.toNat i))) = true then (q (V.lit (Value.bool true))) else (q (V.lit (Value.bool false))))) else (q (V.lit (Value.bool false)))) else (if (k == 8) = true then (if (kR rows (Int.toNat i) == 2) = true then (if (ByteArray.toList n == []) = true then (q (V.lit (Value.bool true))) else (if (ByteArray.toList n == ByteArray.toList (nR rows (Int.toNat i))) = true then (q (V.lit (Value.bool true))) else (q (V.lit (Value.bool false))))) else (q (V.lit (Value.bool false)))) else (q (V.lit (Value.bool false))))))))))))) else (if (k == 0) = true then (q (V.lit (Value.bool false))) else (if (k == 1) = true then (q (V.lit (Value.bool false))) else (if (k == 2) = true then (q (V.lit (Value.bool true))) else (if (k == 3) = true then (if (kR rows (Int.toNat i) == 3) = true then (q (V.lit (Value.bool true))) else (q (V.lit (Value.bool false)))) else (if (k == 4) = true then (if (kR rows (Int.toNat i) == 4) = true then (q (V.lit (Value.bool true))) else (q (V.lit (Value.bool false)))) else (if (k == 6) = true then (if (kR rows (Int.toNat i) == 0) = true then (q (V.lit (Value.bool true))) else (q (V.lit (Value.bool false)))) else (if (k == 5) = true then (if (kR rows (Int.toNat i) == 5) = true then (if (ByteArray.toList n == []) = true then (q (V.lit (Value.bool true))) else (if (ByteArray.toList n == ByteArray.toList (nR rows (Int.toNat i))) = true then (q (V.lit (Value.bool true))) else (q (V.lit (Value.bool false))))) else (q (V.lit (Value.bool false)))) else (if (k == 7) = true then (if (kR rows (Int.toNat i) == 1) = true then (if (ByteArray.toList n == []) = true then (q (V.lit (Value.bool true))) else (if (ByteArray.toList n == ByteArray.toList (nR rows (Int.toNat i))) = true then (q (V.lit (Value.bool true))) else (q (V.lit (Value.bool false))))) else (q (V.lit (Value.bool false)))) else (if (k == 8) = true then (if (kR rows (Int.toNat i) == 2) = true then (if (ByteArray.toList n == []) = true then (q (V.lit (Value.bool true))) else (if (ByteArray.toList n == ByteArray.toList (nR rows (Int.toNat i))) = true then (q (V.lit (Value.bool true))) else (q (V.lit (Value.bool false))))) else (q (V.lit (Value.bool false)))) else (q (V.lit (Value.bool false)))))))))))))) else False) else False) else False) else (q (V.lit (Value.bool false)))) else False)
theorem w_FrTest (m : Int) (rows : List (List V)) (i : Int) (ax : Int) (k : Int) (n : ByteArray) (q : V → Prop) :
    codeF (env m) (con19) (fun _ => none) 0 (bodyOf (env m).P 36) [] ⟨[.agg [.arr rows], .lit (.int .i64 i), .lit (.int .i64 ax), .agg [.lit (.int .i64 k), .lit (.string n)]] ++ List.replicate (111 - 4) un, [], []⟩ (finR (env m) (resOf (env m).P 36) (fun v _ => q v)) =
    r_FrTest rows i ax k n q := by kernel_rfl
theorem cc_rTest (m : Int) (rows : List (List V)) (i : Int) (ax : Int) (k : Int) (n : ByteArray) (hc : ConR (env m) (Lw m) (con19)) {q : V → Prop} (hr : r_FrTest rows i ax k n q) :
    ∃ v_ K_ r_ H_, (Lw m).callX 36 [.agg [.arr rows], .lit (.int .i64 i), .lit (.int .i64 ax), .agg [.lit (.int .i64 k), .lit (.string n)]] [] = some (.ret (mapV r_ v_), H_) ∧ Rn r_ K_ H_ ∧ q v_ := by
  refine F_own (fg := true) hc (f := 36) (q := fun v _ => q v) lok_none (u := 0) (by kernel_rfl) rfl ?_
  rw [show ntmpsOf (env m).P 36 = 111 from by kernel_rfl]
  exact Eq.mpr (w_FrTest m rows i ax k n q) hr
theorem ff_rTest (m : Int) (rows : List (List V)) (i : Int) (ax : Int) (k : Int) (n : ByteArray) (hc : ConR (env m) (Lw m) (con19)) {w_ : V} (hw : closedV w_ = true) (hr : r_FrTest rows i ax k n (fun v_ => v_ = w_)) :
    ∃ H_, (Lw m).callX 36 [.agg [.arr rows], .lit (.int .i64 i), .lit (.int .i64 ax), .agg [.lit (.int .i64 k), .lit (.string n)]] [] = some (.ret w_, H_) := by
  obtain ⟨v_, K_, r_, H_, h1, h2, rfl⟩ := cc_rTest m rows i ax k n hc hr
  rw [closed_eq hw] at h1
  exact ⟨H_, h1⟩
end Go.Proofs.YtpmdlaojndejfaaGreatDoor.E

/- Test. -/
set_option linter.unusedVariables false
set_option linter.unusedSimpArgs false
set_option maxRecDepth 100000
namespace Go.Proofs.YtpmdlaojndejfaaGreatDoor.E
open Go
/-- A name is left open, or is the node's. -/
def nameOpen (n x : ByteArray) : Bool := n.toList == [] || n.toList == x.toList
def testK (K : Int) (x : ByteArray) (ax k : Int) (n : ByteArray) : Bool :=
  if k = 0 then K == (if ax = 4 then 2 else 1)
  else if k = 1 then K == (if ax = 4 then 2 else 1) && x.toList == n.toList
  else if k = 2 then true
  else if k = 3 then K == 3
  else if k = 4 then K == 4
  else if k = 6 then K == 0
  else if k = 5 then K == 5 && nameOpen n x
  else if k = 7 then K == 1 && nameOpen n x
  else if k = 8 then K == 2 && nameOpen n x
  else false
def testB (rows : List (List V)) (i ax k : Int) (n : ByteArray) : Bool := inB rows i && testK (kR rows i.toNat) (nR rows i.toNat) ax k n
theorem in_lt {rows : List (List V)} {i : Int} (h : inB rows i = true) : 0 ≤ i ∧ i.toNat < rows.length := by
  simp only [inB, Bool.and_eq_true, decide_eq_true_eq] at h
  omega
theorem bool_lit {c b : Bool} (h : c = b) : V.lit (Value.bool c) = V.lit (Value.bool b) := by rw [h]
theorem test_does (m : Int) (rows : List (List V)) (i ax k : Int) (n : ByteArray) (hok : rowsOk nodeSh rows = true) (hs : smallB rows = true) :
    ∃ H', (Lw m).callX 35 [.agg [.arr rows], .lit (.int .i64 i), .lit (.int .i64 ax), .agg [.lit (.int .i64 k), .lit (.string n)]] [] = some (.ret (.lit (.bool (testB rows i ax k n))), H') :=
  ff_Test m rows i ax k n (con19_r m) rfl (by
    unfold r_FTest testB
    rw [if_pos (by simp [hok, hs])]
    refine ite_of (fun hi => ?_) fun hi => by rw [Bool.not_eq_true] at hi; rw [hi]; rfl
    obtain ⟨h0, h1⟩ := in_lt hi
    simp only [hok, h0, h1, hi, if_true, Bool.true_and]
    generalize kR rows i.toNat = K
    generalize nR rows i.toNat = x
    unfold testK nameOpen
    by_cases ha : ax = 4 <;> simp only [ha, beq_self_eq_true, if_true, if_false, beq_iff_eq]
    all_goals
      by_cases k0 : k = 0
      · subst k0; by_cases hK : K = 2 <;> by_cases hK1 : K = 1 <;> simp [hK, hK1]
      by_cases k1 : k = 1
      · subst k1; by_cases hK : K = 2 <;> by_cases hK1 : K = 1 <;> cases hn : (x.toList == n.toList) <;> simp_all
      by_cases k2 : k = 2
      · subst k2; simp
      by_cases k3 : k = 3
      · subst k3; by_cases hK : K = 3 <;> simp [lookE, findE, keyEq, cellI, hK]
      by_cases k4 : k = 4
      · subst k4; by_cases hK : K = 4 <;> simp [lookE, findE, keyEq, cellI, hK]
      by_cases k6 : k = 6
      · subst k6; by_cases hK : K = 0 <;> simp [lookE, findE, keyEq, cellI, hK]
      by_cases k5 : k = 5
      · subst k5; simp [lookE, findE, keyEq, cellI]; by_cases hK : K = 5 <;> by_cases hn : n.toList = [] <;> by_cases hx : n.toList = x.toList <;> simp_all
      by_cases k7 : k = 7
      · subst k7; simp [lookE, findE, keyEq, cellI]; by_cases hK : K = 1 <;> by_cases hn : n.toList = [] <;> by_cases hx : n.toList = x.toList <;> simp_all
      by_cases k8 : k = 8
      · subst k8; simp [lookE, findE, keyEq, cellI]; by_cases hK : K = 2 <;> by_cases hn : n.toList = [] <;> by_cases hx : n.toList = x.toList <;> simp_all
      simp [k0, k1, k2, k3, k4, k5, k6, k7, k8])
theorem rTest_does (m : Int) (rows : List (List V)) (i ax k : Int) (n : ByteArray) (hok : rowsOk nodeSh rows = true) (hs : smallB rows = true) :
    ∃ H', (Lw m).callX 36 [.agg [.arr rows], .lit (.int .i64 i), .lit (.int .i64 ax), .agg [.lit (.int .i64 k), .lit (.string n)]] [] = some (.ret (.lit (.bool (testB rows i ax k n))), H') :=
  ff_rTest m rows i ax k n (con19_r m) rfl (by
    unfold r_FrTest testB
    rw [if_pos (by simp [hok, hs])]
    refine ite_of (fun hi => ?_) fun hi => by rw [Bool.not_eq_true] at hi; rw [hi]; rfl
    obtain ⟨h0, h1⟩ := in_lt hi
    simp only [hok, h0, h1, hi, if_true, Bool.true_and]
    generalize kR rows i.toNat = K
    generalize nR rows i.toNat = x
    unfold testK nameOpen
    by_cases ha : ax = 4 <;> simp only [ha, beq_self_eq_true, if_true, if_false, beq_iff_eq]
    all_goals
      by_cases k0 : k = 0
      · subst k0; by_cases hK : K = 2 <;> by_cases hK1 : K = 1 <;> simp_all
      by_cases k1 : k = 1
      · subst k1; by_cases hK : K = 2 <;> by_cases hK1 : K = 1 <;> cases hn : (x.toList == n.toList) <;> simp_all
      by_cases k2 : k = 2
      · subst k2; simp
      by_cases k3 : k = 3
      · subst k3; by_cases hK1 : K = 1 <;> by_cases hK2 : K = 2 <;> by_cases hK : K = 3 <;> simp_all
      by_cases k4 : k = 4
      · subst k4; by_cases hK1 : K = 1 <;> by_cases hK2 : K = 2 <;> by_cases hK : K = 4 <;> simp_all
      by_cases k6 : k = 6
      · subst k6; by_cases hK1 : K = 1 <;> by_cases hK2 : K = 2 <;> by_cases hK : K = 0 <;> simp_all
      by_cases k5 : k = 5
      · subst k5; by_cases hK1 : K = 1 <;> by_cases hK2 : K = 2 <;> by_cases hK : K = 5 <;> by_cases hn : n.toList = [] <;> by_cases hx : n.toList = x.toList <;> simp_all
      by_cases k7 : k = 7
      · subst k7; by_cases hK1 : K = 1 <;> by_cases hK2 : K = 2 <;> by_cases hn : n.toList = [] <;> by_cases hx : n.toList = x.toList <;> simp_all
      by_cases k8 : k = 8
      · subst k8; by_cases hK1 : K = 1 <;> by_cases hK2 : K = 2 <;> by_cases hn : n.toList = [] <;> by_cases hx : n.toList = x.toList <;> simp_all
      by_cases hK1 : K = 1 <;> by_cases hK2 : K = 2 <;> simp_all)
def testS : PSpec
  | [.agg [.arr rows], .lit (.int .i64 i), .lit (.int .i64 ax), .agg [.lit (.int .i64 k), .lit (.string n)]] => some (rowsOk nodeSh rows && smallB rows, .lit (.bool (testB rows i ax k n)))
  | _ => none
noncomputable def conTest : Con := addP 35 testS (addP 36 testS con19)
theorem conTest_r (m : Int) : ConR (env m) (Lw m) conTest := by
  refine addP_r (addP_r (con19_r m) (by kernel_rfl) fun args v hs => ?_) (by kernel_rfl) fun args v hs => ?_
  all_goals
    unfold testS at hs
    split at hs
    · simp only [Option.some.injEq, Prod.mk.injEq, Bool.and_eq_true] at hs
      obtain ⟨⟨h1, h2⟩, rfl⟩ := hs
      first
        | exact ⟨rfl, rfl, rTest_does m _ _ _ _ _ h1 h2⟩
        | exact ⟨rfl, rfl, test_does m _ _ _ _ _ h1 h2⟩
    · cases hs
end Go.Proofs.YtpmdlaojndejfaaGreatDoor.E

/- Printed by sv.py: what the program's code asks and does, piece by piece. -/
namespace Go.Proofs.YtpmdlaojndejfaaGreatDoor.E
open Go
set_option linter.unusedVariables false
set_option linter.unusedSimpArgs false
set_option maxRecDepth 1000000
def r_FlawTests (rows : List (List V)) (i : Int) (ax : Int) (k : Int) (n : ByteArray) (q : V → Prop) : Prop :=
    (if (rowsOk nodeSh rows && decide (List.length rows ≤ 1000000000000000)) = true then (if fewB rows = true then (if (rowsOk nodeSh rows && smallB rows) = true then (if testB rows i ax k n = true then (if (rowsOk nodeSh rows && smallB rows) = true then (if testB rows i ax k n = true then (q (V.lit (Value.bool true))) else (q (V.lit (Value.bool false)))) else False) else (if (rowsOk nodeSh rows && smallB rows) = true then (if testB rows i ax k n = true then (q (V.lit (Value.bool false))) else (q (V.lit (Value.bool true)))) else False)) else False) else (q (V.lit (Value.bool true)))) else False)
theorem w_FlawTests (m : Int) (rows : List (List V)) (i : Int) (ax : Int) (k : Int) (n : ByteArray) (q : V → Prop) :
    codeF (env m) (conTest) (fun _ => none) 0 (bodyOf (env m).P 10) [] ⟨[.agg [.arr rows], .lit (.int .i64 i), .lit (.int .i64 ax), .agg [.lit (.int .i64 k), .lit (.string n)]] ++ List.replicate (28 - 4) un, [], []⟩ (finR (env m) (resOf (env m).P 10) (fun v _ => q v)) =
    r_FlawTests rows i ax k n q := by kernel_rfl
theorem cc_lawTests (m : Int) (rows : List (List V)) (i : Int) (ax : Int) (k : Int) (n : ByteArray) (hc : ConR (env m) (Lw m) (conTest)) {q : V → Prop} (hr : r_FlawTests rows i ax k n q) :
    ∃ v_ K_ r_ H_, (Lw m).callX 10 [.agg [.arr rows], .lit (.int .i64 i), .lit (.int .i64 ax), .agg [.lit (.int .i64 k), .lit (.string n)]] [] = some (.ret (mapV r_ v_), H_) ∧ Rn r_ K_ H_ ∧ q v_ := by
  refine F_own (fg := true) hc (f := 10) (q := fun v _ => q v) lok_none (u := 0) (by kernel_rfl) rfl ?_
  rw [show ntmpsOf (env m).P 10 = 28 from by kernel_rfl]
  exact Eq.mpr (w_FlawTests m rows i ax k n q) hr
theorem ff_lawTests (m : Int) (rows : List (List V)) (i : Int) (ax : Int) (k : Int) (n : ByteArray) (hc : ConR (env m) (Lw m) (conTest)) {w_ : V} (hw : closedV w_ = true) (hr : r_FlawTests rows i ax k n (fun v_ => v_ = w_)) :
    ∃ H_, (Lw m).callX 10 [.agg [.arr rows], .lit (.int .i64 i), .lit (.int .i64 ax), .agg [.lit (.int .i64 k), .lit (.string n)]] [] = some (.ret w_, H_) := by
  obtain ⟨v_, K_, r_, H_, h1, h2, rfl⟩ := cc_lawTests m rows i ax k n hc hr
  rw [closed_eq hw] at h1
  exact ⟨H_, h1⟩
end Go.Proofs.YtpmdlaojndejfaaGreatDoor.E

/- TreeTests: true, whatever the tree, node, axis and test. -/
set_option linter.unusedVariables false
set_option linter.unusedSimpArgs false
set_option maxRecDepth 100000
namespace Go.Proofs.YtpmdlaojndejfaaGreatDoor.E
open Go
theorem int_arg {k : IntKind} {v : V} (h : okA (.one (.int k)) v) : ∃ n, v = .lit (.int k n) ∧ (Lit.int k n).wf = true := by
  have h' : okC (.int k) v := h
  simp only [okC] at h'
  exact h'
theorem lawTests_true (m : Int) (args : List V) (h : okAs [.agg [.sl nodeC], .one (.int .i64), .one (.int .i64), .agg [.int .i64, .str]] args) : ∃ H', (Lw m).callX 10 args [] = some (.ret (.lit (.bool true)), H') := by
  simp only [okAs] at h
  obtain ⟨v, _, rfl, h, v1, _, rfl, h1, v2, _, rfl, h2, v3, _, rfl, h3, rfl⟩ := h
  obtain ⟨rows, rfl, hok, hm⟩ := tree_arg h
  obtain ⟨i, rfl, _⟩ := int_arg h1
  obtain ⟨ax, rfl, _⟩ := int_arg h2
  obtain ⟨vs, rfl, h3⟩ := h3
  simp only [okL, okC] at h3
  obtain ⟨_, _, rfl, ⟨k, rfl, _⟩, _, _, rfl, ⟨n, rfl, _⟩, rfl⟩ := h3
  have hr : reachBytes = 140737488351232 := rfl
  refine ff_lawTests m rows i ax k n (conTest_r m) rfl ?_
  unfold r_FlawTests
  have hl := hm.1
  rw [if_pos (by simp [hok]; omega)]
  refine ite_of (fun hf => ?_) fun _ => rfl
  obtain ⟨_, hs⟩ := few_small hm hf
  rw [hok, hs]
  cases testB rows i ax k n <;> simp
end Go.Proofs.YtpmdlaojndejfaaGreatDoor.E
