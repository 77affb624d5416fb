/- Printed by sw.py: what the program's code asks and does, piece by piece. -/
import Derived.Test.YtpmdlaojndejfaaGreatDoorKc9
import Derived.ProofKit
import Derived.Test.YtpmdlaojndejfaaGreatDoorKc6
import Derived.Test.YtpmdlaojndejfaaGreatDoorKc7
namespace Go.Proofs.YtpmdlaojndejfaaGreatDoor.E
open Go
set_option linter.unusedVariables false
set_option maxRecDepth 1000000
def r_rabove0 (rows : List (List V)) (a i : Int) (q : X → V → V → V → Heap → Prop) : Prop :=
    q (X.normal) (V.lit (Value.int IntKind.i64 a)) (V.lit (Value.int IntKind.i64 i)) (V.ptr 0 0 0 0) ([Blk.rows 1 0 [[V.arr rows]]])
theorem w_rabove0 (m : Int) (rows : List (List V)) (a i : Int) (x3 x4 x5 x6 x7 x8 x9 x10 x11 x12 x13 x14 x15 x16 x17 x18 x19 x20 x21 x22 : V) (q : X → V → V → V → Heap → Prop) :
    codeW (env m) (con5) 0 (atC [0] (bodyOf (env m).P 44)) ⟨[.agg [.arr rows], .lit (.int .i64 a), .lit (.int .i64 i), x3, x4, x5, x6, x7, x8, x9, x10, x11, x12, x13, x14, x15, x16, x17, x18, x19, x20, x21, x22], [], []⟩ (fun x s => q x (s.tmps.getD 1 un) (s.tmps.getD 2 un) (s.tmps.getD 3 un) s.H) =
    r_rabove0 rows a i q := by kernel_rfl
theorem e_rabove0 (m : Int) (rows : List (List V)) (a i : Int) {ro : Option Nat} (hc : ConOK (env m) (Lw m) (con5)) {st : St} (h : Fr st 23 ([]) [(0, .agg [.arr rows]), (1, .lit (.int .i64 a)), (2, .lit (.int .i64 i))]) (q : X → V → V → V → Heap → Prop) (hr : r_rabove0 rows a i q) :
    ∃ x s' v1 v2 v3 H', codeE (env m) (Lw m) ro (atC [0] (bodyOf (env m).P 44)) st = some (x, s') ∧ Fr s' 23 H' [(1, v1), (2, v2), (3, v3)] ∧ q x v1 v2 v3 H' := by
  have e := h.eq
  simp only [List.range, List.range.loop, List.map_cons, List.map_nil, h.get 0 (v := .agg [.arr rows]) (by simp), h.get 1 (v := .lit (.int .i64 a)) (by simp), h.get 2 (v := .lit (.int .i64 i)) (by simp)] at e
  obtain ⟨x, s', h1, h2, h3, h4⟩ := codeW_ok hc L_up (ro := ro) (u := 0) _ st _ (by rw [e]; exact (Eq.mpr (w_rabove0 m rows a i _ _ _ _ _ _ _ _ _ _ _ _ _ _ _ _ _ _ _ _ _) hr))
  exact ⟨x, s', _, _, _, _, h1, ⟨h2.trans h.len, rfl, h3.trans h.ds, by simp⟩, h4⟩
def r_rabove1 (rows : List (List V)) (a i : Int) (q : X → V → V → V → Heap → Prop) : Prop :=
    (if decide (i ≥ 0) = true then (if (i != a) = true then (if rowsOk [CK.int IntKind.i64, CK.str, CK.str, CK.int IntKind.i64] rows = true then (if 0 ≤ i then (if Int.toNat i < List.length rows then q (X.normal) (V.lit (Value.int IntKind.i64 a)) (V.lit (Value.int IntKind.i64 (cellI (List.getD (List.getD rows (Int.toNat i) []) 3 un)))) (V.ptr 0 0 0 0) ([Blk.rows 1 0 [[V.arr rows]]]) else False) else False) else False) else q (X.exit 0) (V.lit (Value.int IntKind.i64 a)) (V.lit (Value.int IntKind.i64 i)) (V.ptr 0 0 0 0) ([Blk.rows 1 0 [[V.arr rows]]])) else q (X.exit 0) (V.lit (Value.int IntKind.i64 a)) (V.lit (Value.int IntKind.i64 i)) (V.ptr 0 0 0 0) ([Blk.rows 1 0 [[V.arr rows]]]))
theorem w_rabove1 (m : Int) (rows : List (List V)) (a i : Int) (x0 x4 x5 x6 x7 x8 x9 x10 x11 x12 x13 x14 x15 x16 x17 x18 x19 x20 x21 x22 : V) (q : X → V → V → V → Heap → Prop) :
    codeW (env m) (con5) 0 (atC [1, 0, 0, 0] (bodyOf (env m).P 44)) ⟨[x0, .lit (.int .i64 a), .lit (.int .i64 i), .ptr 0 0 0 0, x4, x5, x6, x7, x8, x9, x10, x11, x12, x13, x14, x15, x16, x17, x18, x19, x20, x21, x22], [.rows 1 0 [[.arr rows]]], []⟩ (fun x s => q x (s.tmps.getD 1 un) (s.tmps.getD 2 un) (s.tmps.getD 3 un) s.H) =
    r_rabove1 rows a i q := by kernel_rfl
theorem e_rabove1 (m : Int) (rows : List (List V)) (a i : Int) {ro : Option Nat} (hc : ConOK (env m) (Lw m) (con5)) {st : St} (h : Fr st 23 ([.rows 1 0 [[.arr rows]]]) [(1, .lit (.int .i64 a)), (2, .lit (.int .i64 i)), (3, .ptr 0 0 0 0)]) (q : X → V → V → V → Heap → Prop) (hr : r_rabove1 rows a i q) :
    ∃ x s' v1 v2 v3 H', codeE (env m) (Lw m) ro (atC [1, 0, 0, 0] (bodyOf (env m).P 44)) st = some (x, s') ∧ Fr s' 23 H' [(1, v1), (2, v2), (3, v3)] ∧ q x v1 v2 v3 H' := by
  have e := h.eq
  simp only [List.range, List.range.loop, List.map_cons, List.map_nil, h.get 1 (v := .lit (.int .i64 a)) (by simp), h.get 2 (v := .lit (.int .i64 i)) (by simp), h.get 3 (v := .ptr 0 0 0 0) (by simp)] at e
  obtain ⟨x, s', h1, h2, h3, h4⟩ := codeW_ok hc L_up (ro := ro) (u := 0) _ st _ (by rw [e]; exact (Eq.mpr (w_rabove1 m rows a i _ _ _ _ _ _ _ _ _ _ _ _ _ _ _ _ _ _ _ _ _) hr))
  exact ⟨x, s', _, _, _, _, h1, ⟨h2.trans h.len, rfl, h3.trans h.ds, by simp⟩, h4⟩
def r_rabove2 (a i : Int) (q : V → Prop) : Prop :=
    (if (i == a) = true then q (V.lit (Value.bool true)) else q (V.lit (Value.bool false)))
theorem w_rabove2 (m : Int) (rows : List (List V)) (a i : Int) (x0 x4 x5 x6 x7 x8 x9 x10 x11 x12 x13 x14 x15 x16 x17 x18 x19 x20 x21 x22 : V) (q : V → Prop) :
    codeW (env m) (con5) 0 (atC [1, 1] (bodyOf (env m).P 44)) ⟨[x0, .lit (.int .i64 a), .lit (.int .i64 i), .ptr 0 0 0 0, x4, x5, x6, x7, x8, x9, x10, x11, x12, x13, x14, x15, x16, x17, x18, x19, x20, x21, x22], [.rows 1 0 [[.arr rows]]], []⟩ (finW (env m) (resOf (env m).P 44) (fun v _ => q v)) =
    r_rabove2 a i q := by kernel_rfl
theorem e_rabove2 (m : Int) (rows : List (List V)) (a i : Int) {ro : Option Nat} (hc : ConOK (env m) (Lw m) (con5)) {st : St} (h : Fr st 23 ([.rows 1 0 [[.arr rows]]]) [(1, .lit (.int .i64 a)), (2, .lit (.int .i64 i)), (3, .ptr 0 0 0 0)]) (q : V → Prop) (hr : r_rabove2 a i q) :
    ∃ x s', codeE (env m) (Lw m) ro (atC [1, 1] (bodyOf (env m).P 44)) st = some (x, s') ∧ s'.ds = [] ∧ finW (env m) (resOf (env m).P 44) (fun v _ => q v) x s' := by
  have e := h.eq
  simp only [List.range, List.range.loop, List.map_cons, List.map_nil, h.get 1 (v := .lit (.int .i64 a)) (by simp), h.get 2 (v := .lit (.int .i64 i)) (by simp), h.get 3 (v := .ptr 0 0 0 0) (by simp)] at e
  obtain ⟨x, s', h1, h2, h3, h4⟩ := codeW_ok hc L_up (ro := ro) (u := 0) _ st _ (by rw [e]; exact (Eq.mpr (w_rabove2 m rows a i _ _ _ _ _ _ _ _ _ _ _ _ _ _ _ _ _ _ _ _ _) hr))
  exact ⟨x, s', h1, h3.trans h.ds, h4⟩
def r_depth0 (rows : List (List V)) (i : Int) (q : X → V → V → Heap → Prop) : Prop :=
    q (X.normal) (V.lit (Value.int IntKind.i64 i)) (V.ptr 0 0 0 0) ([Blk.rows 1 0 [[V.arr rows]]])
theorem w_depth0 (m : Int) (rows : List (List V)) (i : Int) (x2 x3 x4 x5 x6 x7 x8 x9 x10 x11 x12 x13 x14 x15 x16 : V) (q : X → V → V → Heap → Prop) :
    codeW (env m) (con5) 0 (atC [0] (bodyOf (env m).P 84)) ⟨[.agg [.arr rows], .lit (.int .i64 i), x2, x3, x4, x5, x6, x7, x8, x9, x10, x11, x12, x13, x14, x15, x16], [], []⟩ (fun x s => q x (s.tmps.getD 1 un) (s.tmps.getD 2 un) s.H) =
    r_depth0 rows i q := by kernel_rfl
theorem e_depth0 (m : Int) (rows : List (List V)) (i : Int) {ro : Option Nat} (hc : ConOK (env m) (Lw m) (con5)) {st : St} (h : Fr st 17 ([]) [(0, .agg [.arr rows]), (1, .lit (.int .i64 i))]) (q : X → V → V → Heap → Prop) (hr : r_depth0 rows i q) :
    ∃ x s' v1 v2 H', codeE (env m) (Lw m) ro (atC [0] (bodyOf (env m).P 84)) st = some (x, s') ∧ Fr s' 17 H' [(1, v1), (2, v2)] ∧ q x v1 v2 H' := by
  have e := h.eq
  simp only [List.range, List.range.loop, List.map_cons, List.map_nil, h.get 0 (v := .agg [.arr rows]) (by simp), h.get 1 (v := .lit (.int .i64 i)) (by simp)] at e
  obtain ⟨x, s', h1, h2, h3, h4⟩ := codeW_ok hc L_up (ro := ro) (u := 0) _ st _ (by rw [e]; exact (Eq.mpr (w_depth0 m rows i _ _ _ _ _ _ _ _ _ _ _ _ _ _ _ _) hr))
  exact ⟨x, s', _, _, _, h1, ⟨h2.trans h.len, rfl, h3.trans h.ds, by simp⟩, h4⟩
def r_depth1 (rows : List (List V)) (i : Int) (q : X → V → V → V → Heap → Prop) : Prop :=
    q (X.normal) (V.lit (Value.int IntKind.i64 i)) (V.ptr 0 0 0 0) (V.lit (Value.int IntKind.i64 0)) ([Blk.rows 1 0 [[V.arr rows]]])
theorem w_depth1 (m : Int) (rows : List (List V)) (i : Int) (x0 x3 x4 x5 x6 x7 x8 x9 x10 x11 x12 x13 x14 x15 x16 : V) (q : X → V → V → V → Heap → Prop) :
    codeW (env m) (con5) 0 (atC [1, 0] (bodyOf (env m).P 84)) ⟨[x0, .lit (.int .i64 i), .ptr 0 0 0 0, x3, x4, x5, x6, x7, x8, x9, x10, x11, x12, x13, x14, x15, x16], [.rows 1 0 [[.arr rows]]], []⟩ (fun x s => q x (s.tmps.getD 1 un) (s.tmps.getD 2 un) (s.tmps.getD 5 un) s.H) =
    r_depth1 rows i q := by kernel_rfl
theorem e_depth1 (m : Int) (rows : List (List V)) (i : Int) {ro : Option Nat} (hc : ConOK (env m) (Lw m) (con5)) {st : St} (h : Fr st 17 ([.rows 1 0 [[.arr rows]]]) [(1, .lit (.int .i64 i)), (2, .ptr 0 0 0 0)]) (q : X → V → V → V → Heap → Prop) (hr : r_depth1 rows i q) :
    ∃ x s' v1 v2 v5 H', codeE (env m) (Lw m) ro (atC [1, 0] (bodyOf (env m).P 84)) st = some (x, s') ∧ Fr s' 17 H' [(1, v1), (2, v2), (5, v5)] ∧ q x v1 v2 v5 H' := by
  have e := h.eq
  simp only [List.range, List.range.loop, List.map_cons, List.map_nil, h.get 1 (v := .lit (.int .i64 i)) (by simp), h.get 2 (v := .ptr 0 0 0 0) (by simp)] at e
  obtain ⟨x, s', h1, h2, h3, h4⟩ := codeW_ok hc L_up (ro := ro) (u := 0) _ st _ (by rw [e]; exact (Eq.mpr (w_depth1 m rows i _ _ _ _ _ _ _ _ _ _ _ _ _ _ _ _) hr))
  exact ⟨x, s', _, _, _, _, h1, ⟨h2.trans h.len, rfl, h3.trans h.ds, by simp⟩, h4⟩
def r_depth2 (rows : List (List V)) (i n : Int) (q : X → V → V → V → Heap → Prop) : Prop :=
    (if decide (i ≥ 0) = true then (if rowsOk [CK.int IntKind.i64, CK.str, CK.str, CK.int IntKind.i64] rows = true then (if 0 ≤ i then (if Int.toNat i < List.length rows then q (X.normal) (V.lit (Value.int IntKind.i64 (cellI (List.getD (List.getD rows (Int.toNat i) []) 3 un)))) (V.ptr 0 0 0 0) (V.lit (Value.int IntKind.i64 (IntKind.wrap IntKind.i64 (n + 1)))) ([Blk.rows 1 0 [[V.arr rows]]]) else False) else False) else False) else q (X.exit 0) (V.lit (Value.int IntKind.i64 i)) (V.ptr 0 0 0 0) (V.lit (Value.int IntKind.i64 n)) ([Blk.rows 1 0 [[V.arr rows]]]))
theorem w_depth2 (m : Int) (rows : List (List V)) (i n : Int) (x0 x3 x4 x6 x7 x8 x9 x10 x11 x12 x13 x14 x15 x16 : V) (q : X → V → V → V → Heap → Prop) :
    codeW (env m) (con5) 0 (atC [1, 1, 0, 0, 0] (bodyOf (env m).P 84)) ⟨[x0, .lit (.int .i64 i), .ptr 0 0 0 0, x3, x4, .lit (.int .i64 n), x6, x7, x8, x9, x10, x11, x12, x13, x14, x15, x16], [.rows 1 0 [[.arr rows]]], []⟩ (fun x s => q x (s.tmps.getD 1 un) (s.tmps.getD 2 un) (s.tmps.getD 5 un) s.H) =
    r_depth2 rows i n q := by kernel_rfl
theorem e_depth2 (m : Int) (rows : List (List V)) (i n : Int) {ro : Option Nat} (hc : ConOK (env m) (Lw m) (con5)) {st : St} (h : Fr st 17 ([.rows 1 0 [[.arr rows]]]) [(1, .lit (.int .i64 i)), (2, .ptr 0 0 0 0), (5, .lit (.int .i64 n))]) (q : X → V → V → V → Heap → Prop) (hr : r_depth2 rows i n q) :
    ∃ x s' v1 v2 v5 H', codeE (env m) (Lw m) ro (atC [1, 1, 0, 0, 0] (bodyOf (env m).P 84)) st = some (x, s') ∧ Fr s' 17 H' [(1, v1), (2, v2), (5, v5)] ∧ q x v1 v2 v5 H' := by
  have e := h.eq
  simp only [List.range, List.range.loop, List.map_cons, List.map_nil, h.get 1 (v := .lit (.int .i64 i)) (by simp), h.get 2 (v := .ptr 0 0 0 0) (by simp), h.get 5 (v := .lit (.int .i64 n)) (by simp)] at e
  obtain ⟨x, s', h1, h2, h3, h4⟩ := codeW_ok hc L_up (ro := ro) (u := 0) _ st _ (by rw [e]; exact (Eq.mpr (w_depth2 m rows i n _ _ _ _ _ _ _ _ _ _ _ _ _ _ _) hr))
  exact ⟨x, s', _, _, _, _, h1, ⟨h2.trans h.len, rfl, h3.trans h.ds, by simp⟩, h4⟩
def r_depth3 (n : Int) (q : V → Prop) : Prop :=
    q (V.lit (Value.int IntKind.i64 n))
theorem w_depth3 (m : Int) (rows : List (List V)) (n : Int) (x0 x1 x2 x3 x4 x6 x7 x8 x9 x10 x11 x12 x13 x14 x15 x16 : V) (q : V → Prop) :
    codeW (env m) (con5) 0 (atC [1, 1, 1] (bodyOf (env m).P 84)) ⟨[x0, x1, x2, x3, x4, .lit (.int .i64 n), x6, x7, x8, x9, x10, x11, x12, x13, x14, x15, x16], [.rows 1 0 [[.arr rows]]], []⟩ (finW (env m) (resOf (env m).P 84) (fun v _ => q v)) =
    r_depth3 n q := by kernel_rfl
theorem e_depth3 (m : Int) (rows : List (List V)) (n : Int) {ro : Option Nat} (hc : ConOK (env m) (Lw m) (con5)) {st : St} (h : Fr st 17 ([.rows 1 0 [[.arr rows]]]) [(5, .lit (.int .i64 n))]) (q : V → Prop) (hr : r_depth3 n q) :
    ∃ x s', codeE (env m) (Lw m) ro (atC [1, 1, 1] (bodyOf (env m).P 84)) st = some (x, s') ∧ s'.ds = [] ∧ finW (env m) (resOf (env m).P 84) (fun v _ => q v) x s' := by
  have e := h.eq
  simp only [List.range, List.range.loop, List.map_cons, List.map_nil, h.get 5 (v := .lit (.int .i64 n)) (by simp)] at e
  obtain ⟨x, s', h1, h2, h3, h4⟩ := codeW_ok hc L_up (ro := ro) (u := 0) _ st _ (by rw [e]; exact (Eq.mpr (w_depth3 m rows n _ _ _ _ _ _ _ _ _ _ _ _ _ _ _ _ _) hr))
  exact ⟨x, s', h1, h3.trans h.ds, h4⟩
def r_refhas0 (s x : ByteArray) (q : X → V → V → Heap → Prop) : Prop :=
    q (X.normal) (V.lit (Value.string s)) (V.lit (Value.string x)) ([])
theorem w_refhas0 (m : Int) (s x : ByteArray) (x2 x3 x4 x5 x6 x7 x8 x9 x10 x11 x12 x13 x14 x15 x16 x17 x18 x19 x20 x21 x22 x23 : V) (q : X → V → V → Heap → Prop) :
    codeW (env m) (con5) 0 (atC [0] (bodyOf (env m).P 82)) ⟨[.lit (.string s), .lit (.string x), x2, x3, x4, x5, x6, x7, x8, x9, x10, x11, x12, x13, x14, x15, x16, x17, x18, x19, x20, x21, x22, x23], [], []⟩ (fun x s => q x (s.tmps.getD 0 un) (s.tmps.getD 1 un) s.H) =
    r_refhas0 s x q := by kernel_rfl
theorem e_refhas0 (m : Int) (s x : ByteArray) {ro : Option Nat} (hc : ConOK (env m) (Lw m) (con5)) {st : St} (h : Fr st 24 ([]) [(0, .lit (.string s)), (1, .lit (.string x))]) (q : X → V → V → Heap → Prop) (hr : r_refhas0 s x q) :
    ∃ x s' v0 v1 H', codeE (env m) (Lw m) ro (atC [0] (bodyOf (env m).P 82)) st = some (x, s') ∧ Fr s' 24 H' [(0, v0), (1, v1)] ∧ q x v0 v1 H' := by
  have e := h.eq
  simp only [List.range, List.range.loop, List.map_cons, List.map_nil, h.get 0 (v := .lit (.string s)) (by simp), h.get 1 (v := .lit (.string x)) (by simp)] at e
  obtain ⟨x, s', h1, h2, h3, h4⟩ := codeW_ok hc L_up (ro := ro) (u := 0) _ st _ (by rw [e]; exact (Eq.mpr (w_refhas0 m s x _ _ _ _ _ _ _ _ _ _ _ _ _ _ _ _ _ _ _ _ _ _ _) hr))
  exact ⟨x, s', _, _, _, h1, ⟨h2.trans h.len, rfl, h3.trans h.ds, by simp⟩, h4⟩
def r_refhas1 (s x : ByteArray) (q : X → V → V → V → Heap → Prop) : Prop :=
    q (X.normal) (V.lit (Value.string s)) (V.lit (Value.string x)) (V.lit (Value.int IntKind.i64 0)) ([])
theorem w_refhas1 (m : Int) (s x : ByteArray) (x2 x3 x4 x5 x6 x7 x8 x9 x10 x11 x12 x13 x14 x15 x16 x17 x18 x19 x20 x21 x22 x23 : V) (q : X → V → V → V → Heap → Prop) :
    codeW (env m) (con5) 0 (atC [1, 0, 0] (bodyOf (env m).P 82)) ⟨[.lit (.string s), .lit (.string x), x2, x3, x4, x5, x6, x7, x8, x9, x10, x11, x12, x13, x14, x15, x16, x17, x18, x19, x20, x21, x22, x23], [], []⟩ (fun x s => q x (s.tmps.getD 0 un) (s.tmps.getD 1 un) (s.tmps.getD 5 un) s.H) =
    r_refhas1 s x q := by kernel_rfl
theorem e_refhas1 (m : Int) (s x : ByteArray) {ro : Option Nat} (hc : ConOK (env m) (Lw m) (con5)) {st : St} (h : Fr st 24 ([]) [(0, .lit (.string s)), (1, .lit (.string x))]) (q : X → V → V → V → Heap → Prop) (hr : r_refhas1 s x q) :
    ∃ x s' v0 v1 v5 H', codeE (env m) (Lw m) ro (atC [1, 0, 0] (bodyOf (env m).P 82)) st = some (x, s') ∧ Fr s' 24 H' [(0, v0), (1, v1), (5, v5)] ∧ q x v0 v1 v5 H' := by
  have e := h.eq
  simp only [List.range, List.range.loop, List.map_cons, List.map_nil, h.get 0 (v := .lit (.string s)) (by simp), h.get 1 (v := .lit (.string x)) (by simp)] at e
  obtain ⟨x, s', h1, h2, h3, h4⟩ := codeW_ok hc L_up (ro := ro) (u := 0) _ st _ (by rw [e]; exact (Eq.mpr (w_refhas1 m s x _ _ _ _ _ _ _ _ _ _ _ _ _ _ _ _ _ _ _ _ _ _ _) hr))
  exact ⟨x, s', _, _, _, _, h1, ⟨h2.trans h.len, rfl, h3.trans h.ds, by simp⟩, h4⟩
def r_refhas2 (s x : ByteArray) (i : Int) (x4 : V) (q : X → V → V → V → V → Heap → Prop) : Prop :=
    (if decide (IntKind.wrap IntKind.i64 (i + toI (ByteArray.size x)) ≤ toI (ByteArray.size s)) = true then (if 0 ≤ i then (if i ≤ IntKind.wrap IntKind.i64 (i + toI (ByteArray.size x)) then (if Int.toNat (IntKind.wrap IntKind.i64 (i + toI (ByteArray.size x))) ≤ ByteArray.size s then (if (ByteArray.toList (ByteArray.extract s (Int.toNat i) (Int.toNat (IntKind.wrap IntKind.i64 (i + toI (ByteArray.size x))))) == ByteArray.toList x) = true then q (X.ret) (V.lit (Value.string s)) (V.lit (Value.string x)) (V.lit (Value.bool true)) (V.lit (Value.int IntKind.i64 i)) ([]) else q (X.normal) (V.lit (Value.string s)) (V.lit (Value.string x)) (x4) (V.lit (Value.int IntKind.i64 (IntKind.wrap IntKind.i64 (i + 1)))) ([])) else False) else False) else False) else q (X.exit 0) (V.lit (Value.string s)) (V.lit (Value.string x)) (x4) (V.lit (Value.int IntKind.i64 i)) ([]))
theorem w_refhas2 (m : Int) (s x : ByteArray) (i : Int) (x2 x3 x4 x6 x7 x8 x9 x10 x11 x12 x13 x14 x15 x16 x17 x18 x19 x20 x21 x22 x23 : V) (q : X → V → V → V → V → Heap → Prop) :
    codeW (env m) (con5) 0 (atC [1, 0, 1, 0, 0] (bodyOf (env m).P 82)) ⟨[.lit (.string s), .lit (.string x), x2, x3, x4, .lit (.int .i64 i), x6, x7, x8, x9, x10, x11, x12, x13, x14, x15, x16, x17, x18, x19, x20, x21, x22, x23], [], []⟩ (fun x s => q x (s.tmps.getD 0 un) (s.tmps.getD 1 un) (s.tmps.getD 4 un) (s.tmps.getD 5 un) s.H) =
    r_refhas2 s x i x4 q := by kernel_rfl
theorem e_refhas2 (m : Int) (s x : ByteArray) (i : Int) {ro : Option Nat} (hc : ConOK (env m) (Lw m) (con5)) {st : St} (h : Fr st 24 ([]) [(0, .lit (.string s)), (1, .lit (.string x)), (5, .lit (.int .i64 i))]) (q : X → V → V → V → V → Heap → Prop) (hr : r_refhas2 s x i (st.tmps.getD 4 un) q) :
    ∃ x s' v0 v1 v4 v5 H', codeE (env m) (Lw m) ro (atC [1, 0, 1, 0, 0] (bodyOf (env m).P 82)) st = some (x, s') ∧ Fr s' 24 H' [(0, v0), (1, v1), (4, v4), (5, v5)] ∧ q x v0 v1 v4 v5 H' := by
  have e := h.eq
  simp only [List.range, List.range.loop, List.map_cons, List.map_nil, h.get 0 (v := .lit (.string s)) (by simp), h.get 1 (v := .lit (.string x)) (by simp), h.get 5 (v := .lit (.int .i64 i)) (by simp)] at e
  obtain ⟨x, s', h1, h2, h3, h4⟩ := codeW_ok hc L_up (ro := ro) (u := 0) _ st _ (by rw [e]; exact (Eq.mpr (w_refhas2 m s x i _ _ _ _ _ _ _ _ _ _ _ _ _ _ _ _ _ _ _ _ _ _) hr))
  exact ⟨x, s', _, _, _, _, _, h1, ⟨h2.trans h.len, rfl, h3.trans h.ds, by simp⟩, h4⟩
def r_refhas3 (q : V → Prop) : Prop :=
    q (V.lit (Value.bool false))
theorem w_refhas3 (m : Int)  (x0 x1 x2 x3 x4 x5 x6 x7 x8 x9 x10 x11 x12 x13 x14 x15 x16 x17 x18 x19 x20 x21 x22 x23 : V) (q : V → Prop) :
    codeW (env m) (con5) 0 (atC [1, 1] (bodyOf (env m).P 82)) ⟨[x0, x1, x2, x3, x4, x5, x6, x7, x8, x9, x10, x11, x12, x13, x14, x15, x16, x17, x18, x19, x20, x21, x22, x23], [], []⟩ (finW (env m) (resOf (env m).P 82) (fun v _ => q v)) =
    r_refhas3 q := by kernel_rfl
theorem e_refhas3 (m : Int)  {ro : Option Nat} (hc : ConOK (env m) (Lw m) (con5)) {st : St} (h : Fr st 24 ([]) []) (q : V → Prop) (hr : r_refhas3 q) :
    ∃ x s', codeE (env m) (Lw m) ro (atC [1, 1] (bodyOf (env m).P 82)) st = some (x, s') ∧ s'.ds = [] ∧ finW (env m) (resOf (env m).P 82) (fun v _ => q v) x s' := by
  have e := h.eq
  simp only [List.range, List.range.loop, List.map_cons, List.map_nil] at e
  obtain ⟨x, s', h1, h2, h3, h4⟩ := codeW_ok hc L_up (ro := ro) (u := 0) _ st _ (by rw [e]; exact (Eq.mpr (w_refhas3 m _ _ _ _ _ _ _ _ _ _ _ _ _ _ _ _ _ _ _ _ _ _ _ _ _) hr))
  exact ⟨x, s', h1, h3.trans h.ds, h4⟩
def r_few0 (rows : List (List V)) (q : X → V → Heap → Prop) : Prop :=
    q (X.normal) (V.ptr 0 0 0 0) ([Blk.rows 1 0 [[V.arr rows]]])
theorem w_few0 (m : Int) (rows : List (List V)) (x1 x2 x3 x4 x5 x6 x7 x8 x9 x10 x11 x12 x13 x14 x15 x16 x17 x18 x19 x20 x21 x22 x23 x24 x25 x26 x27 x28 x29 x30 x31 x32 x33 x34 x35 x36 : V) (q : X → V → Heap → Prop) :
    codeW (env m) (con5) 0 (atC [0] (bodyOf (env m).P 14)) ⟨[.agg [.arr rows], x1, x2, x3, x4, x5, x6, x7, x8, x9, x10, x11, x12, x13, x14, x15, x16, x17, x18, x19, x20, x21, x22, x23, x24, x25, x26, x27, x28, x29, x30, x31, x32, x33, x34, x35, x36], [], []⟩ (fun x s => q x (s.tmps.getD 1 un) s.H) =
    r_few0 rows q := by kernel_rfl
theorem e_few0 (m : Int) (rows : List (List V)) {ro : Option Nat} (hc : ConOK (env m) (Lw m) (con5)) {st : St} (h : Fr st 37 ([]) [(0, .agg [.arr rows])]) (q : X → V → Heap → Prop) (hr : r_few0 rows q) :
    ∃ x s' v1 H', codeE (env m) (Lw m) ro (atC [0] (bodyOf (env m).P 14)) st = some (x, s') ∧ Fr s' 37 H' [(1, v1)] ∧ q x v1 H' := by
  have e := h.eq
  simp only [List.range, List.range.loop, List.map_cons, List.map_nil, h.get 0 (v := .agg [.arr rows]) (by simp)] at e
  obtain ⟨x, s', h1, h2, h3, h4⟩ := codeW_ok hc L_up (ro := ro) (u := 0) _ st _ (by rw [e]; exact (Eq.mpr (w_few0 m rows _ _ _ _ _ _ _ _ _ _ _ _ _ _ _ _ _ _ _ _ _ _ _ _ _ _ _ _ _ _ _ _ _ _ _ _ _) hr))
  exact ⟨x, s', _, _, h1, ⟨h2.trans h.len, rfl, h3.trans h.ds, by simp⟩, h4⟩
def r_few1 (rows : List (List V)) (q : X → V → V → Heap → Prop) : Prop :=
    q (X.normal) (V.ptr 0 0 0 0) (V.lit (Value.int IntKind.i64 0)) ([Blk.rows 1 0 [[V.arr rows]]])
theorem w_few1 (m : Int) (rows : List (List V)) (x0 x2 x3 x4 x5 x6 x7 x8 x9 x10 x11 x12 x13 x14 x15 x16 x17 x18 x19 x20 x21 x22 x23 x24 x25 x26 x27 x28 x29 x30 x31 x32 x33 x34 x35 x36 : V) (q : X → V → V → Heap → Prop) :
    codeW (env m) (con5) 0 (atC [1, 0] (bodyOf (env m).P 14)) ⟨[x0, .ptr 0 0 0 0, x2, x3, x4, x5, x6, x7, x8, x9, x10, x11, x12, x13, x14, x15, x16, x17, x18, x19, x20, x21, x22, x23, x24, x25, x26, x27, x28, x29, x30, x31, x32, x33, x34, x35, x36], [.rows 1 0 [[.arr rows]]], []⟩ (fun x s => q x (s.tmps.getD 1 un) (s.tmps.getD 3 un) s.H) =
    r_few1 rows q := by kernel_rfl
theorem e_few1 (m : Int) (rows : List (List V)) {ro : Option Nat} (hc : ConOK (env m) (Lw m) (con5)) {st : St} (h : Fr st 37 ([.rows 1 0 [[.arr rows]]]) [(1, .ptr 0 0 0 0)]) (q : X → V → V → Heap → Prop) (hr : r_few1 rows q) :
    ∃ x s' v1 v3 H', codeE (env m) (Lw m) ro (atC [1, 0] (bodyOf (env m).P 14)) st = some (x, s') ∧ Fr s' 37 H' [(1, v1), (3, v3)] ∧ q x v1 v3 H' := by
  have e := h.eq
  simp only [List.range, List.range.loop, List.map_cons, List.map_nil, h.get 1 (v := .ptr 0 0 0 0) (by simp)] at e
  obtain ⟨x, s', h1, h2, h3, h4⟩ := codeW_ok hc L_up (ro := ro) (u := 0) _ st _ (by rw [e]; exact (Eq.mpr (w_few1 m rows _ _ _ _ _ _ _ _ _ _ _ _ _ _ _ _ _ _ _ _ _ _ _ _ _ _ _ _ _ _ _ _ _ _ _ _ _) hr))
  exact ⟨x, s', _, _, _, h1, ⟨h2.trans h.len, rfl, h3.trans h.ds, by simp⟩, h4⟩
def r_few2 (rows : List (List V)) (k : Int) (q : X → V → V → V → Heap → Prop) : Prop :=
    q (X.normal) (V.ptr 0 0 0 0) (V.lit (Value.int IntKind.i64 k)) (V.lit (Value.int IntKind.i64 0)) ([Blk.rows 1 0 [[V.arr rows]]])
theorem w_few2 (m : Int) (rows : List (List V)) (k : Int) (x0 x2 x4 x5 x6 x7 x8 x9 x10 x11 x12 x13 x14 x15 x16 x17 x18 x19 x20 x21 x22 x23 x24 x25 x26 x27 x28 x29 x30 x31 x32 x33 x34 x35 x36 : V) (q : X → V → V → V → Heap → Prop) :
    codeW (env m) (con5) 0 (atC [1, 1, 0, 0] (bodyOf (env m).P 14)) ⟨[x0, .ptr 0 0 0 0, x2, .lit (.int .i64 k), x4, x5, x6, x7, x8, x9, x10, x11, x12, x13, x14, x15, x16, x17, x18, x19, x20, x21, x22, x23, x24, x25, x26, x27, x28, x29, x30, x31, x32, x33, x34, x35, x36], [.rows 1 0 [[.arr rows]]], []⟩ (fun x s => q x (s.tmps.getD 1 un) (s.tmps.getD 3 un) (s.tmps.getD 4 un) s.H) =
    r_few2 rows k q := by kernel_rfl
theorem e_few2 (m : Int) (rows : List (List V)) (k : Int) {ro : Option Nat} (hc : ConOK (env m) (Lw m) (con5)) {st : St} (h : Fr st 37 ([.rows 1 0 [[.arr rows]]]) [(1, .ptr 0 0 0 0), (3, .lit (.int .i64 k))]) (q : X → V → V → V → Heap → Prop) (hr : r_few2 rows k q) :
    ∃ x s' v1 v3 v4 H', codeE (env m) (Lw m) ro (atC [1, 1, 0, 0] (bodyOf (env m).P 14)) st = some (x, s') ∧ Fr s' 37 H' [(1, v1), (3, v3), (4, v4)] ∧ q x v1 v3 v4 H' := by
  have e := h.eq
  simp only [List.range, List.range.loop, List.map_cons, List.map_nil, h.get 1 (v := .ptr 0 0 0 0) (by simp), h.get 3 (v := .lit (.int .i64 k)) (by simp)] at e
  obtain ⟨x, s', h1, h2, h3, h4⟩ := codeW_ok hc L_up (ro := ro) (u := 0) _ st _ (by rw [e]; exact (Eq.mpr (w_few2 m rows k _ _ _ _ _ _ _ _ _ _ _ _ _ _ _ _ _ _ _ _ _ _ _ _ _ _ _ _ _ _ _ _ _ _ _ _) hr))
  exact ⟨x, s', _, _, _, _, h1, ⟨h2.trans h.len, rfl, h3.trans h.ds, by simp⟩, h4⟩
def r_few3 (rows : List (List V)) (k i : Int) (q : X → V → V → V → Heap → Prop) : Prop :=
    (if decide (i < toI (List.length rows)) = true then (if rowsOk [CK.int IntKind.i64, CK.str, CK.str, CK.int IntKind.i64] rows = true then (if 0 ≤ i then (if Int.toNat i < List.length rows then (if rowsOk [CK.int IntKind.i64, CK.str, CK.str, CK.int IntKind.i64] rows = true then (if 0 ≤ i then (if Int.toNat i < List.length rows then q (X.normal) (V.ptr 0 0 0 0) (V.lit (Value.int IntKind.i64 (IntKind.wrap IntKind.i64 (IntKind.wrap IntKind.i64 (k + toI (ByteArray.size (cellS (List.getD (List.getD rows (Int.toNat i) []) 1 un)))) + toI (ByteArray.size (cellS (List.getD (List.getD rows (Int.toNat i) []) 2 un))))))) (V.lit (Value.int IntKind.i64 (IntKind.wrap IntKind.i64 (i + 1)))) ([Blk.rows 1 0 [[V.arr rows]]]) else False) else False) else False) else False) else False) else False) else q (X.exit 0) (V.ptr 0 0 0 0) (V.lit (Value.int IntKind.i64 k)) (V.lit (Value.int IntKind.i64 i)) ([Blk.rows 1 0 [[V.arr rows]]]))
theorem w_few3 (m : Int) (rows : List (List V)) (k i : Int) (x0 x2 x5 x6 x7 x8 x9 x10 x11 x12 x13 x14 x15 x16 x17 x18 x19 x20 x21 x22 x23 x24 x25 x26 x27 x28 x29 x30 x31 x32 x33 x34 x35 x36 : V) (q : X → V → V → V → Heap → Prop) :
    codeW (env m) (con5) 0 (atC [1, 1, 0, 1, 0, 0] (bodyOf (env m).P 14)) ⟨[x0, .ptr 0 0 0 0, x2, .lit (.int .i64 k), .lit (.int .i64 i), x5, x6, x7, x8, x9, x10, x11, x12, x13, x14, x15, x16, x17, x18, x19, x20, x21, x22, x23, x24, x25, x26, x27, x28, x29, x30, x31, x32, x33, x34, x35, x36], [.rows 1 0 [[.arr rows]]], []⟩ (fun x s => q x (s.tmps.getD 1 un) (s.tmps.getD 3 un) (s.tmps.getD 4 un) s.H) =
    r_few3 rows k i q := by kernel_rfl
theorem e_few3 (m : Int) (rows : List (List V)) (k i : Int) {ro : Option Nat} (hc : ConOK (env m) (Lw m) (con5)) {st : St} (h : Fr st 37 ([.rows 1 0 [[.arr rows]]]) [(1, .ptr 0 0 0 0), (3, .lit (.int .i64 k)), (4, .lit (.int .i64 i))]) (q : X → V → V → V → Heap → Prop) (hr : r_few3 rows k i q) :
    ∃ x s' v1 v3 v4 H', codeE (env m) (Lw m) ro (atC [1, 1, 0, 1, 0, 0] (bodyOf (env m).P 14)) st = some (x, s') ∧ Fr s' 37 H' [(1, v1), (3, v3), (4, v4)] ∧ q x v1 v3 v4 H' := by
  have e := h.eq
  simp only [List.range, List.range.loop, List.map_cons, List.map_nil, h.get 1 (v := .ptr 0 0 0 0) (by simp), h.get 3 (v := .lit (.int .i64 k)) (by simp), h.get 4 (v := .lit (.int .i64 i)) (by simp)] at e
  obtain ⟨x, s', h1, h2, h3, h4⟩ := codeW_ok hc L_up (ro := ro) (u := 0) _ st _ (by rw [e]; exact (Eq.mpr (w_few3 m rows k i _ _ _ _ _ _ _ _ _ _ _ _ _ _ _ _ _ _ _ _ _ _ _ _ _ _ _ _ _ _ _ _ _ _ _) hr))
  exact ⟨x, s', _, _, _, _, h1, ⟨h2.trans h.len, rfl, h3.trans h.ds, by simp⟩, h4⟩
def r_few4 (rows : List (List V)) (k : Int) (q : V → Prop) : Prop :=
    (if decide (toI (List.length rows) ≤ 60) = true then (if decide (k ≤ 1000) = true then q (V.lit (Value.bool true)) else q (V.lit (Value.bool false))) else q (V.lit (Value.bool false)))
theorem w_few4 (m : Int) (rows : List (List V)) (k : Int) (x0 x2 x4 x5 x6 x7 x8 x9 x10 x11 x12 x13 x14 x15 x16 x17 x18 x19 x20 x21 x22 x23 x24 x25 x26 x27 x28 x29 x30 x31 x32 x33 x34 x35 x36 : V) (q : V → Prop) :
    codeW (env m) (con5) 0 (atC [1, 1, 1] (bodyOf (env m).P 14)) ⟨[x0, .ptr 0 0 0 0, x2, .lit (.int .i64 k), x4, x5, x6, x7, x8, x9, x10, x11, x12, x13, x14, x15, x16, x17, x18, x19, x20, x21, x22, x23, x24, x25, x26, x27, x28, x29, x30, x31, x32, x33, x34, x35, x36], [.rows 1 0 [[.arr rows]]], []⟩ (finW (env m) (resOf (env m).P 14) (fun v _ => q v)) =
    r_few4 rows k q := by kernel_rfl
theorem e_few4 (m : Int) (rows : List (List V)) (k : Int) {ro : Option Nat} (hc : ConOK (env m) (Lw m) (con5)) {st : St} (h : Fr st 37 ([.rows 1 0 [[.arr rows]]]) [(1, .ptr 0 0 0 0), (3, .lit (.int .i64 k))]) (q : V → Prop) (hr : r_few4 rows k q) :
    ∃ x s', codeE (env m) (Lw m) ro (atC [1, 1, 1] (bodyOf (env m).P 14)) st = some (x, s') ∧ s'.ds = [] ∧ finW (env m) (resOf (env m).P 14) (fun v _ => q v) x s' := by
  have e := h.eq
  simp only [List.range, List.range.loop, List.map_cons, List.map_nil, h.get 1 (v := .ptr 0 0 0 0) (by simp), h.get 3 (v := .lit (.int .i64 k)) (by simp)] at e
  obtain ⟨x, s', h1, h2, h3, h4⟩ := codeW_ok hc L_up (ro := ro) (u := 0) _ st _ (by rw [e]; exact (Eq.mpr (w_few4 m rows k _ _ _ _ _ _ _ _ _ _ _ _ _ _ _ _ _ _ _ _ _ _ _ _ _ _ _ _ _ _ _ _ _ _ _ _) hr))
  exact ⟨x, s', h1, h3.trans h.ds, h4⟩
theorem b_chiselref12_Above (m : Int) : (bodyOf (env m).P 44) =
    (.seq (atC [0] (bodyOf (env m).P 44)) (.seq (.block 0 (.loop (atC [1, 0, 0, 0] (bodyOf (env m).P 44)))) (atC [1, 1] (bodyOf (env m).P 44)))) := by kernel_rfl
theorem b_chiselref12_depth (m : Int) : (bodyOf (env m).P 84) =
    (.seq (atC [0] (bodyOf (env m).P 84)) (.seq (atC [1, 0] (bodyOf (env m).P 84)) (.seq (.block 0 (.loop (atC [1, 1, 0, 0, 0] (bodyOf (env m).P 84)))) (atC [1, 1, 1] (bodyOf (env m).P 84))))) := by kernel_rfl
theorem b_chiselref12_has (m : Int) : (bodyOf (env m).P 82) =
    (.seq (atC [0] (bodyOf (env m).P 82)) (.seq (.seq (atC [1, 0, 0] (bodyOf (env m).P 82)) (.block 0 (.loop (atC [1, 0, 1, 0, 0] (bodyOf (env m).P 82))))) (atC [1, 1] (bodyOf (env m).P 82)))) := by kernel_rfl
theorem b_chisellaw12_Few (m : Int) : (bodyOf (env m).P 14) =
    (.seq (atC [0] (bodyOf (env m).P 14)) (.seq (atC [1, 0] (bodyOf (env m).P 14)) (.seq (.seq (atC [1, 1, 0, 0] (bodyOf (env m).P 14)) (.block 0 (.loop (atC [1, 1, 0, 1, 0, 0] (bodyOf (env m).P 14))))) (atC [1, 1, 1] (bodyOf (env m).P 14))))) := by kernel_rfl
end Go.Proofs.YtpmdlaojndejfaaGreatDoor.E

/- The reference's Above, depth, has; the law's Few. -/
set_option linter.unusedVariables false
set_option linter.unusedSimpArgs false
set_option maxRecDepth 100000
namespace Go.Proofs.YtpmdlaojndejfaaGreatDoor.E
open Go

/-! Above. -/
def raboveN (up : Int → Int) (a : Int) : Nat → Int → Int
  | 0, i => i
  | k + 1, i => if 0 ≤ i ∧ i ≠ a then raboveN up a k (up i) else i
theorem rabove_loop (m : Int) (rows : List (List V)) (a : Int) (hok : rowsOk nodeSh rows = true) : ∀ (k : Nat) (i : Int), i < rows.length → i < k → (∀ j : Int, 0 ≤ j → j ≤ i → upR rows j < j) → ∀ s, Fr s 23 [.rows 1 0 [[.arr rows]]] [(1, .lit (.int .i64 a)), (2, .lit (.int .i64 i)), (3, .ptr 0 0 0 0)] →
    ∃ s', codeE (env m) (Lw m) none (.loop (atC [1, 0, 0, 0] (bodyOf (env m).P 44))) s = some (.exit 0, s') ∧ Fr s' 23 [.rows 1 0 [[.arr rows]]] [(1, .lit (.int .i64 a)), (2, .lit (.int .i64 (raboveN (upR rows) a k i))), (3, .ptr 0 0 0 0)]
  | k, i, hlt, hk, hup, s, hs => by
    obtain ⟨x, s1, v1, v2, v3, H1, h1, h2, h3⟩ := e_rabove1 m rows a i (ro := none) (con5_ok m) hs
      (fun x v1 v2 v3 H => v1 = .lit (.int .i64 a) ∧ v3 = .ptr 0 0 0 0 ∧ H = [.rows 1 0 [[.arr rows]]] ∧ (((0 ≤ i ∧ i ≠ a) ∧ x = .normal ∧ v2 = .lit (.int .i64 (upR rows i))) ∨ (¬ (0 ≤ i ∧ i ≠ a) ∧ x = .exit 0 ∧ v2 = .lit (.int .i64 i)))) (by
        by_cases h : 0 ≤ i
        · have h2 : i.toNat < rows.length := by omega
          by_cases h3 : i = a
          · simp [r_rabove1, h, h3]
          · simp [r_rabove1, h, h3, hok, h2, upR]
        · simp [r_rabove1, h])
    obtain ⟨rfl, rfl, rfl, h3⟩ := h3
    rcases h3 with ⟨hi, rfl, rfl⟩ | ⟨hi, rfl, rfl⟩
    · cases k with
      | zero => exact absurd hk (by omega)
      | succ k =>
        have hu := hup i hi.1 (Int.le_refl _)
        obtain ⟨s', g1, g2⟩ := rabove_loop m rows a hok k (upR rows i) (by omega) (by omega) (fun j j0 j1 => hup j j0 (by omega)) s1 h2
        refine ⟨s', loop_more h1 g1, ?_⟩
        simp only [raboveN, if_pos hi]
        exact g2
    · refine ⟨s1, loop_out h1 (by simp), ?_⟩
      have : raboveN (upR rows) a k i = i := by cases k <;> simp only [raboveN, if_neg hi]
      rw [this]; exact h2
def raboveB (rows : List (List V)) (a i : Int) : Bool := raboveN (upR rows) a (i + 1).toNat i == a
theorem rabove_does (m : Int) (rows : List (List V)) (a i : Int) (hok : rowsOk nodeSh rows = true) (hlt : i < rows.length) (hup : ∀ j : Int, 0 ≤ j → j ≤ i → upR rows j < j) :
    ∃ H', (Lw m).callX 44 [.agg [.arr rows], .lit (.int .i64 a), .lit (.int .i64 i)] [] = some (.ret (.lit (.bool (raboveB rows a i))), H') := by
  obtain ⟨x, s1, v1, v2, v3, H1, h1, h2, h3⟩ := e_rabove0 m rows a i (ro := none) (con5_ok m) (Fr.entry (E := env m) (f := 44) (args := [.agg [.arr rows], .lit (.int .i64 a), .lit (.int .i64 i)]) (by kernel_rfl) (by simp) (by simp))
    (fun x v1 v2 v3 H => x = .normal ∧ v1 = .lit (.int .i64 a) ∧ v2 = .lit (.int .i64 i) ∧ v3 = .ptr 0 0 0 0 ∧ H = [.rows 1 0 [[.arr rows]]]) ⟨rfl, rfl, rfl, rfl, rfl⟩
  obtain ⟨rfl, rfl, rfl, rfl, rfl⟩ := h3
  obtain ⟨s2, g1, g2⟩ := rabove_loop m rows a hok (i + 1).toNat i hlt (by omega) hup s1 h2
  obtain ⟨x, s3, k1, k2, k3⟩ := e_rabove2 m rows a (raboveN (upR rows) a (i + 1).toNat i) (ro := none) (con5_ok m) g2 (fun v => v = .lit (.bool (raboveB rows a i))) (by
    unfold r_rabove2 raboveB; split <;> simp [*])
  exact L_ans (by kernel_rfl) rfl (by rw [b_chiselref12_Above]; exact seq_n h1 (seq_n (block_exit g1) k1)) k2 k3

/-! depth. -/
def depthN (up : Int → Int) : Nat → Int → Nat
  | 0, i => 0
  | k + 1, i => if 0 ≤ i then depthN up k (up i) + 1 else 0
theorem depthN_le (up : Int → Int) : ∀ k i, depthN up k i ≤ k
  | 0, i => Nat.le_refl 0
  | k + 1, i => by
    have := depthN_le up k (up i)
    simp only [depthN]; split <;> omega
theorem depth_loop (m : Int) (rows : List (List V)) (hok : rowsOk nodeSh rows = true) : ∀ (k : Nat) (i : Int) (n : Nat), i < rows.length → i < k → n + k ≤ 1099511627776 → (∀ j : Int, 0 ≤ j → j ≤ i → upR rows j < j) → ∀ s, Fr s 17 [.rows 1 0 [[.arr rows]]] [(1, .lit (.int .i64 i)), (2, .ptr 0 0 0 0), (5, .lit (.int .i64 n))] →
    ∃ s', codeE (env m) (Lw m) none (.loop (atC [1, 1, 0, 0, 0] (bodyOf (env m).P 84))) s = some (.exit 0, s') ∧ Fr s' 17 [.rows 1 0 [[.arr rows]]] [(5, .lit (.int .i64 (n + depthN (upR rows) k i : Nat)))]
  | k, i, n, hlt, hk, hn, hup, s, hs => by
    obtain ⟨x, s1, v1, v2, v5, H1, h1, h2, h3⟩ := e_depth2 m rows i n (ro := none) (con5_ok m) hs
      (fun x v1 v2 v5 H => v2 = .ptr 0 0 0 0 ∧ H = [.rows 1 0 [[.arr rows]]] ∧ ((0 ≤ i ∧ x = .normal ∧ v1 = .lit (.int .i64 (upR rows i)) ∧ v5 = .lit (.int .i64 (n + 1 : Nat))) ∨ (¬ 0 ≤ i ∧ x = .exit 0 ∧ v5 = .lit (.int .i64 n)))) (by
        by_cases h : 0 ≤ i
        · have h2 : i.toNat < rows.length := by omega
          have w : IntKind.wrap .i64 ((n : Int) + 1) = ((n + 1 : Nat) : Int) := by rw [w64_id (by omega) (by omega)]; omega
          simp [r_depth2, h, hok, h2, upR, w]
        · simp [r_depth2, h])
    obtain ⟨rfl, rfl, h3⟩ := h3
    rcases h3 with ⟨hi, rfl, rfl, rfl⟩ | ⟨hi, rfl, rfl⟩
    · cases k with
      | zero => exact absurd hk (by omega)
      | succ k =>
        have hu := hup i hi (Int.le_refl _)
        obtain ⟨s', g1, g2⟩ := depth_loop m rows hok k (upR rows i) (n + 1) (by omega) (by omega) (by omega) (fun j j0 j1 => hup j j0 (by omega)) s1 h2
        refine ⟨s', loop_more h1 g1, ?_⟩
        simp only [depthN, if_pos hi]
        rw [show n + (depthN (upR rows) k (upR rows i) + 1) = n + 1 + depthN (upR rows) k (upR rows i) by omega]
        exact g2
    · refine ⟨s1, loop_out h1 (by simp), ?_⟩
      have : depthN (upR rows) k i = 0 := by cases k <;> simp only [depthN, if_neg hi]
      rw [this]; exact h2.sub (by simp)
def depthI (rows : List (List V)) (i : Int) : Nat := depthN (upR rows) (i + 1).toNat i
theorem depth_does (m : Int) (rows : List (List V)) (i : Int) (hok : rowsOk nodeSh rows = true) (hsz : rows.length ≤ 1000000000) (hlt : i < rows.length) (hup : ∀ j : Int, 0 ≤ j → j ≤ i → upR rows j < j) :
    ∃ H', (Lw m).callX 84 [.agg [.arr rows], .lit (.int .i64 i)] [] = some (.ret (.lit (.int .i64 (depthI rows i))), H') := by
  obtain ⟨x, s1, v1, v2, H1, h1, h2, h3⟩ := e_depth0 m rows i (ro := none) (con5_ok m) (Fr.entry (E := env m) (f := 84) (args := [.agg [.arr rows], .lit (.int .i64 i)]) (by kernel_rfl) (by simp) (by simp))
    (fun x v1 v2 H => x = .normal ∧ v1 = .lit (.int .i64 i) ∧ v2 = .ptr 0 0 0 0 ∧ H = [.rows 1 0 [[.arr rows]]]) ⟨rfl, rfl, rfl, rfl⟩
  obtain ⟨rfl, rfl, rfl, rfl⟩ := h3
  obtain ⟨x, s2, v1, v2, v5, H1, a1, a2, a3⟩ := e_depth1 m rows i (ro := none) (con5_ok m) h2
    (fun x v1 v2 v5 H => x = .normal ∧ v1 = .lit (.int .i64 i) ∧ v2 = .ptr 0 0 0 0 ∧ v5 = .lit (.int .i64 (0 : Nat)) ∧ H = [.rows 1 0 [[.arr rows]]]) ⟨rfl, rfl, rfl, rfl, rfl⟩
  obtain ⟨rfl, rfl, rfl, rfl, rfl⟩ := a3
  obtain ⟨s3, g1, g2⟩ := depth_loop m rows hok (i + 1).toNat i 0 hlt (by omega) (by omega) hup s2 a2
  obtain ⟨x, s4, k1, k2, k3⟩ := e_depth3 m rows _ (ro := none) (con5_ok m) g2 (fun v => v = .lit (.int .i64 (depthI rows i))) (by
    simp [r_depth3, depthI])
  exact L_ans (by kernel_rfl) rfl (by rw [b_chiselref12_depth]; exact seq_n h1 (seq_n a1 (seq_n (block_exit g1) k1))) k2 k3

/-! Few. -/
def sizesR (rows : List (List V)) (i : Nat) : Nat := (cellS (List.getD (List.getD rows i []) 1 un)).size + (cellS (List.getD (List.getD rows i []) 2 un)).size
def fewN (rows : List (List V)) : Nat → Nat → Int → Int
  | 0, i, k => k
  | f + 1, i, k => if i < rows.length then fewN rows f (i + 1) (IntKind.wrap .i64 (IntKind.wrap .i64 (k + ((cellS (List.getD (List.getD rows i []) 1 un)).size : Int)) + ((cellS (List.getD (List.getD rows i []) 2 un)).size : Int))) else k
theorem few_loop (m : Int) (rows : List (List V)) (hok : rowsOk nodeSh rows = true) (hsz : rows.length ≤ 1000000000000000) : ∀ (f i : Nat) (k : Int), rows.length ≤ i + f → i ≤ rows.length → ∀ s, Fr s 37 [.rows 1 0 [[.arr rows]]] [(1, .ptr 0 0 0 0), (3, .lit (.int .i64 k)), (4, .lit (.int .i64 i))] →
    ∃ s', codeE (env m) (Lw m) none (.loop (atC [1, 1, 0, 1, 0, 0] (bodyOf (env m).P 14))) s = some (.exit 0, s') ∧ Fr s' 37 [.rows 1 0 [[.arr rows]]] [(1, .ptr 0 0 0 0), (3, .lit (.int .i64 (fewN rows f i k)))]
  | f, i, k, hf, hle, s, hs => by
    obtain ⟨x, s1, v1, v3, v4, H1, h1, h2, h3⟩ := e_few3 m rows k i (ro := none) (con5_ok m) hs
      (fun x v1 v3 v4 H => v1 = .ptr 0 0 0 0 ∧ H = [.rows 1 0 [[.arr rows]]] ∧ ((i < rows.length ∧ x = .normal ∧ v4 = .lit (.int .i64 (i + 1 : Nat)) ∧ v3 = .lit (.int .i64 (IntKind.wrap .i64 (IntKind.wrap .i64 (k + ((cellS (List.getD (List.getD rows i []) 1 un)).size : Int)) + ((cellS (List.getD (List.getD rows i []) 2 un)).size : Int))))) ∨ (¬ i < rows.length ∧ x = .exit 0 ∧ v3 = .lit (.int .i64 k)))) (by
        by_cases h : i < rows.length
        · have w : IntKind.wrap .i64 ((i : Int) + 1) = ((i + 1 : Nat) : Int) := by rw [w64_id (by omega) (by omega)]; omega
          simp [r_few3, h, hok, w, toI]
        · simp [r_few3, h, toI])
    obtain ⟨rfl, rfl, h3⟩ := h3
    rcases h3 with ⟨hi, rfl, rfl, rfl⟩ | ⟨hi, rfl, rfl⟩
    · cases f with
      | zero => exact absurd hi (by omega)
      | succ f =>
        obtain ⟨s', g1, g2⟩ := few_loop m rows hok hsz f (i + 1) _ (by omega) (by omega) s1 h2
        refine ⟨s', loop_more h1 g1, ?_⟩
        simp only [fewN, if_pos hi]
        exact g2
    · refine ⟨s1, loop_out h1 (by simp), ?_⟩
      have : fewN rows f i k = k := by cases f <;> simp only [fewN, if_neg hi]
      rw [this]; exact h2.sub (by simp)
def fewB (rows : List (List V)) : Bool := decide (rows.length ≤ 60) && decide (fewN rows rows.length 0 0 ≤ 1000)
theorem few_does (m : Int) (rows : List (List V)) (hok : rowsOk nodeSh rows = true) (hsz : rows.length ≤ 1000000000000000) :
    ∃ H', (Lw m).callX 14 [.agg [.arr rows]] [] = some (.ret (.lit (.bool (fewB rows))), H') := by
  obtain ⟨x, s1, v1, H1, h1, h2, h3⟩ := e_few0 m rows (ro := none) (con5_ok m) (Fr.entry (E := env m) (f := 14) (args := [.agg [.arr rows]]) (by kernel_rfl) (by simp) (by simp))
    (fun x v1 H => x = .normal ∧ v1 = .ptr 0 0 0 0 ∧ H = [.rows 1 0 [[.arr rows]]]) ⟨rfl, rfl, rfl⟩
  obtain ⟨rfl, rfl, rfl⟩ := h3
  obtain ⟨x, s2, v1, v3, H1, a1, a2, a3⟩ := e_few1 m rows (ro := none) (con5_ok m) h2
    (fun x v1 v3 H => x = .normal ∧ v1 = .ptr 0 0 0 0 ∧ v3 = .lit (.int .i64 0) ∧ H = [.rows 1 0 [[.arr rows]]]) ⟨rfl, rfl, rfl, rfl⟩
  obtain ⟨rfl, rfl, rfl, rfl⟩ := a3
  obtain ⟨x, s3, v1, v3, v4, H1, c1, c2, c3⟩ := e_few2 m rows 0 (ro := none) (con5_ok m) a2
    (fun x v1 v3 v4 H => x = .normal ∧ v1 = .ptr 0 0 0 0 ∧ v3 = .lit (.int .i64 0) ∧ v4 = .lit (.int .i64 (0 : Nat)) ∧ H = [.rows 1 0 [[.arr rows]]]) ⟨rfl, rfl, rfl, rfl, rfl⟩
  obtain ⟨rfl, rfl, rfl, rfl, rfl⟩ := c3
  obtain ⟨s4, g1, g2⟩ := few_loop m rows hok hsz rows.length 0 0 (by omega) (by omega) s3 c2
  obtain ⟨x, s5, k1, k2, k3⟩ := e_few4 m rows _ (ro := none) (con5_ok m) g2 (fun v => v = .lit (.bool (fewB rows))) (by
    simp only [r_few4, fewB, toI]
    by_cases h : rows.length ≤ 60
    · have h1 : decide ((rows.length : Int) ≤ 60) = true := by simp; omega
      rw [if_pos h1]
      split <;> simp_all
    · have h1 : ¬ decide ((rows.length : Int) ≤ 60) = true := by simp; omega
      rw [if_neg h1]; simp [h])
  exact L_ans (by kernel_rfl) rfl (by rw [b_chisellaw12_Few]; exact seq_n h1 (seq_n a1 (seq_n (seq_n c1 (block_exit g1)) k1))) k2 k3
end Go.Proofs.YtpmdlaojndejfaaGreatDoor.E

/- What is known of functions, by whatever numbers of blocks. -/
set_option linter.unusedVariables false
set_option linter.unusedSimpArgs false
namespace Go.Proofs.YtpmdlaojndejfaaGreatDoor.E
open Go
/-- Answers that look at no memory. -/
def Blind (con : Con) : Prop := ∀ f args nid K q, con f args nid K q → args.all noOwn = true ∧ ∃ v, litB v = true ∧ q v K ∧ ∀ nid' H', con f args nid' H' fun w H'' => w = v ∧ H'' = H'
def SpecOK (spec : PSpec) : Prop := ∀ args v, spec args = some (true, v) → args.all noOwn = true ∧ litB v = true
theorem litB_closed {v : V} (h : litB v = true) : closedV v = true := by
  cases v with
  | tup vs =>
    refine closedVs_all vs fun c hc => ?_
    have := List.all_eq_true.1 h c hc
    cases c <;> simp_all [V.isLit, closedV]
  | _ => simp_all [litB, closedV]
theorem conR_of {E : Env} {self : Self} {con : Con} (h : ConOK E self con) (hb : Blind con) : ConR E self con := by
  intro f args nid K q hq r H hR
  obtain ⟨ha, v, hv, h1, h2⟩ := hb _ _ _ _ _ hq
  obtain ⟨w, H', h3, rfl, rfl⟩ := h _ _ _ _ _ (h2 (r nid) H)
  refine ⟨w, K, H', ?_, hR, .rfl, h1⟩
  rw [args_closed ha, closed_eq (litB_closed hv)]; exact h3
theorem con0_blind : Blind con0 := fun f args nid K q h => h.elim
theorem addP_blind {f0 : FuncId} {spec : PSpec} {con : Con} (h : Blind con) (hs : SpecOK spec) : Blind (addP f0 spec con) := by
  intro f args nid K q hq
  unfold addP at hq
  split at hq
  · rename_i hf
    split at hq
    · rename_i p v hsp
      split at hq
      · rename_i hp
        subst hp
        obtain ⟨h1, h2⟩ := hs _ _ hsp
        exact ⟨h1, v, h2, hq, fun nid' H' => by unfold addP; rw [if_pos hf]; simp [hsp]⟩
      · exact hq.elim
    · exact hq.elim
  · rename_i hf
    obtain ⟨h1, v, h2, h3, h4⟩ := h _ _ _ _ _ hq
    exact ⟨h1, v, h2, h3, fun nid' H' => by unfold addP; rw [if_neg hf]; exact h4 nid' H'⟩
theorem addE_blind {f0 : FuncId} {p : List V → Heap → Option (V × Heap)} {con : Con} (h : Blind con) (hs : ∀ args K v K', p args K = some (v, K') → args.all noOwn = true ∧ litB v = true ∧ K' = K ∧ ∀ H, p args H = some (v, H)) : Blind (addE f0 p con) := by
  intro f args nid K q hq
  unfold addE at hq
  split at hq
  · rename_i hf
    split at hq
    · rename_i v K' hsp
      obtain ⟨h1, h2, rfl, h3⟩ := hs _ _ _ _ hsp
      exact ⟨h1, v, h2, hq, fun nid' H' => by unfold addE; rw [if_pos hf]; simp [h3 H']⟩
    · exact hq.elim
  · rename_i hf
    obtain ⟨h1, v, h2, h3, h4⟩ := h _ _ _ _ _ hq
    exact ⟨h1, v, h2, h3, fun nid' H' => by unfold addE; rw [if_neg hf]; exact h4 nid' H'⟩
theorem i32S_spec (f : Int → Bool) : SpecOK (i32S f) := fun args v h => by
  unfold i32S at h
  split at h
  · simp only [Option.some.injEq, Prod.mk.injEq, true_and] at h
    subst h; exact ⟨rfl, rfl⟩
  · cases h
theorem i64S_spec (f : Int → Bool) : SpecOK (i64S f) := fun args v h => by
  unfold i64S at h
  split at h
  · simp only [Option.some.injEq, Prod.mk.injEq, true_and] at h
    subst h; exact ⟨rfl, rfl⟩
  · cases h
theorem strS1_spec (p : ByteArray → Bool) (f : ByteArray → Value) : SpecOK (strS1 p f) := fun args v h => by
  unfold strS1 at h
  split at h
  · simp only [Option.some.injEq, Prod.mk.injEq] at h
    obtain ⟨_, rfl⟩ := h; exact ⟨rfl, rfl⟩
  · cases h
theorem strS2_spec (p : ByteArray → ByteArray → Bool) (f : ByteArray → ByteArray → Value) : SpecOK (strS2 p f) := fun args v h => by
  unfold strS2 at h
  split at h
  · simp only [Option.some.injEq, Prod.mk.injEq] at h
    obtain ⟨_, rfl⟩ := h; exact ⟨rfl, rfl⟩
  · cases h
theorem con1_blind : Blind con1 := addP_blind (addP_blind (addP_blind (addP_blind (addP_blind (addP_blind con0_blind (strS2_spec _ _)) (strS2_spec _ _)) (i64S_spec _)) (i64S_spec _)) (i32S_spec _)) (i32S_spec _)
theorem cutS_spec : SpecOK cutS := fun args v h => by
  unfold cutS at h
  split at h
  · simp only [Option.some.injEq, Prod.mk.injEq] at h
    obtain ⟨_, rfl⟩ := h
    refine ⟨rfl, ?_⟩
    rfl
  · cases h
theorem containsE_blind : ∀ args K v K', containsE args K = some (v, K') → args.all noOwn = true ∧ litB v = true ∧ K' = K ∧ ∀ H, containsE args H = some (v, H) := by
  intro args K v K' h
  unfold containsE at h
  split at h
  · split at h
    · rename_i hc
      simp only [Option.some.injEq, Prod.mk.injEq] at h
      obtain ⟨rfl, rfl⟩ := h
      exact ⟨rfl, rfl, rfl, fun H => by simp only [containsE, if_pos hc]⟩
    · cases h
  · cases h
theorem lowerE_blind : ∀ args K v K', lowerE args K = some (v, K') → args.all noOwn = true ∧ litB v = true ∧ K' = K ∧ ∀ H, lowerE args H = some (v, H) := by
  intro args K v K' h
  unfold lowerE at h
  split at h
  · split at h
    · rename_i hc
      simp only [Option.some.injEq, Prod.mk.injEq] at h
      obtain ⟨rfl, rfl⟩ := h
      exact ⟨rfl, rfl, rfl, fun H => by simp only [lowerE, if_pos hc]⟩
    · cases h
  · cases h
theorem indexByteE_blind : ∀ args K v K', indexByteE args K = some (v, K') → args.all noOwn = true ∧ litB v = true ∧ K' = K ∧ ∀ H, indexByteE args H = some (v, H) := by
  intro args K v K' h
  unfold indexByteE at h
  split at h
  · simp only [Option.some.injEq, Prod.mk.injEq] at h
    obtain ⟨rfl, rfl⟩ := h
    exact ⟨rfl, rfl, rfl, fun H => rfl⟩
  · cases h
theorem con2_blind : Blind con2 := addP_blind (addP_blind (addP_blind (addP_blind (addE_blind (addE_blind (addE_blind (addE_blind con1_blind lowerE_blind) containsE_blind) indexByteE_blind) indexByteE_blind) (strS1_spec _ _)) (strS1_spec _ _)) (strS2_spec _ _)) (strS2_spec _ _)
theorem con3_blind : Blind con3 := addP_blind (addP_blind con2_blind (strS2_spec _ _)) (strS1_spec _ _)
theorem con4_blind : Blind con4 := addP_blind con3_blind cutS_spec
theorem con5_blind : Blind con5 := addP_blind con4_blind cutS_spec
theorem con5_r (m : Int) : ConR (env m) (Lw m) con5 := conR_of (con5_ok m) con5_blind
end Go.Proofs.YtpmdlaojndejfaaGreatDoor.E

/- What is known of functions, gathered; what comes after the first texts. -/
set_option linter.unusedVariables false
set_option linter.unusedSimpArgs false
set_option maxRecDepth 100000
namespace Go.Proofs.YtpmdlaojndejfaaGreatDoor.E
open Go
/-- One more function with memory of its own that answers with a value that lies in none. -/
theorem addP_r {m : Int} {f0 : FuncId} {spec : PSpec} {con : Con} (h : ConR (env m) (Lw m) con) (hp : isPure (env m) f0 = true)
    (hs : ∀ args v, spec args = some (true, v) → args.all noOwn = true ∧ litB v = true ∧ ∃ H', (Lw m).callX f0 args [] = some (.ret v, H')) : ConR (env m) (Lw m) (addP f0 spec con) := by
  intro f args nid K q hq r H hR
  unfold addP at hq
  split at hq
  · rename_i hf
    subst hf
    split at hq
    · rename_i p v hsp
      split at hq
      · rename_i hpt
        subst hpt
        obtain ⟨h1, h2, H', h3⟩ := hs args v hsp
        simp only [isPure, Bool.and_eq_true, Bool.not_eq_true'] at hp
        refine ⟨v, K, H, ?_, hR, .rfl, hq⟩
        rw [args_closed h1, closed_eq (litB_closed h2)]
        exact callE_pure hp.1.1.1 hp.1.1.2 (by simpa using hp.1.2) hp.2 h1 h2 h3
      · exact hq.elim
    · exact hq.elim
  · exact h f args nid K q hq r H hR
/-- A contract of the library's that looks at no memory. -/
theorem addPE_r {m : Int} {f0 : FuncId} {spec : PSpec} {con : Con} {p : List V → Heap → Option (V × Heap)} (h : ConR (env m) (Lw m) con) (hp : (env m).prim f0 = some p) (hg : goodFn (env m).P f0 = true) (hb : bodyless (env m).P f0 = false)
    (hs : ∀ args v, spec args = some (true, v) → args.all noOwn = true ∧ litB v = true ∧ ∀ H, p args H = some (v, H)) : ConR (env m) (Lw m) (addP f0 spec con) := by
  intro f args nid K q hq r H hR
  unfold addP at hq
  split at hq
  · rename_i hf
    subst hf
    split at hq
    · rename_i b v hsp
      split at hq
      · rename_i hpt
        subst hpt
        obtain ⟨h1, h2, h3⟩ := hs args v hsp
        refine ⟨v, K, H, ?_, hR, .rfl, hq⟩
        rw [args_closed h1, closed_eq (litB_closed h2)]
        unfold callE
        simp only [hg, hp, hb, Bool.true_eq_false, Bool.false_eq_true, if_false]
        exact h3 H
      · exact hq.elim
    · exact hq.elim
  · exact h f args nid K q hq r H hR
theorem strS1_r {m : Int} {f0 : FuncId} {con : Con} (h : ConR (env m) (Lw m) con) (hp : isPure (env m) f0 = true) {p : ByteArray → Bool} {f : ByteArray → Value} (hd : ∀ s, p s = true → ∃ H', (Lw m).callX f0 [.lit (.string s)] [] = some (.ret (.lit (f s)), H')) : ConR (env m) (Lw m) (addP f0 (strS1 p f) con) :=
  addP_r h hp fun args v hs => by
    unfold strS1 at hs
    split at hs
    · simp only [Option.some.injEq, Prod.mk.injEq] at hs
      obtain ⟨h1, rfl⟩ := hs
      exact ⟨rfl, rfl, hd _ h1⟩
    · cases hs
theorem strS2_r {m : Int} {f0 : FuncId} {con : Con} (h : ConR (env m) (Lw m) con) (hp : isPure (env m) f0 = true) {p : ByteArray → ByteArray → Bool} {f : ByteArray → ByteArray → Value} (hd : ∀ s x, p s x = true → ∃ H', (Lw m).callX f0 [.lit (.string s), .lit (.string x)] [] = some (.ret (.lit (f s x)), H')) : ConR (env m) (Lw m) (addP f0 (strS2 p f) con) :=
  addP_r h hp fun args v hs => by
    unfold strS2 at hs
    split at hs
    · simp only [Option.some.injEq, Prod.mk.injEq] at hs
      obtain ⟨h1, rfl⟩ := hs
      exact ⟨rfl, rfl, hd _ _ h1⟩
    · cases hs
theorem i64S_r {m : Int} {f0 : FuncId} {con : Con} (h : ConR (env m) (Lw m) con) (hp : isPure (env m) f0 = true) {f : Int → Bool} (hd : ∀ c, ∃ H', (Lw m).callX f0 [.lit (.int .i64 c)] [] = some (.ret (.lit (.bool (f c))), H')) : ConR (env m) (Lw m) (addP f0 (i64S f) con) :=
  addP_r h hp fun args v hs => by
    unfold i64S at hs
    split at hs
    · simp only [Option.some.injEq, Prod.mk.injEq, true_and] at hs
      subst hs
      exact ⟨rfl, rfl, hd _⟩
    · cases hs
/-- The reference's reading of a code point. -/
def nextS : PSpec
  | [.lit (.string s), .lit (.int .i64 i)] => some (decide (s.size ≤ 1099511627776) && (decide (0 ≤ i) && decide (i < toI s.size)), nextV s i.toNat)
  | _ => none
noncomputable def con6 : Con := addP 139 nextS con5
theorem con6_r (m : Int) : ConR (env m) (Lw m) con6 := addP_r (con5_r m) (by kernel_rfl) fun args v hs => by
  unfold nextS at hs
  split at hs
  · rename_i s i
    simp only [Option.some.injEq, Prod.mk.injEq, Bool.and_eq_true, decide_eq_true_eq, toI] at hs
    obtain ⟨⟨h1, h2, h3⟩, rfl⟩ := hs
    have := rnext_does m s h1 i.toNat (by omega)
    rw [Int.toNat_of_nonneg h2] at this
    exact ⟨rfl, rfl, this⟩
  · cases hs
end Go.Proofs.YtpmdlaojndejfaaGreatDoor.E

/- Printed by sv.py: what the program's code asks and does, piece by piece. -/
namespace Go.Proofs.YtpmdlaojndejfaaGreatDoor.E
open Go
set_option linter.unusedVariables false
set_option linter.unusedSimpArgs false
set_option maxRecDepth 1000000
abbrev σ_points : Type := (ByteArray × Int) ⊕ (ByteArray × Int × Nat × Nat × Nat × (List (List V)) × (List (List V)))
def d_points : List V → Heap → Option σ_points := fun vs H => match vs, H with
  | [.lit (.string s), .lit (.slice none 0 0), .lit (.int .i64 i)], [] => some (.inl (s, i))
  | [.lit (.string s), .own 1 ver 0 n, .lit (.int .i64 i)], .rows 1 0 g :: .rows 1 ver' rs :: _ => some (.inr (s, i, n, ver, ver', g, rs))
  | _, _ => none
def e_points : σ_points → List V := fun a => match a with
  | (.inl (s, i)) => [.lit (.string s), .lit (.slice none 0 0), .lit (.int .i64 i)]
  | (.inr (s, i, n, ver, ver', g, rs)) => [.lit (.string s), .own 1 ver 0 n, .lit (.int .i64 i)]
def h_points : σ_points → Heap := fun a => match a with
  | (.inl (s, i)) => []
  | (.inr (s, i, n, ver, ver', g, rs)) => [.rows 1 0 g, .rows 1 ver' rs]
def lw_points : σ_points → Prop := fun a => match a with
  | (.inl (s, i)) => True
  | (.inr (s, i, n, ver, ver', g, rs)) => litRows g ∧ litRows rs
theorem k_points {P : σ_points → Prop} (hlow : ∀ a, P a → lw_points a) : DecOK true d_points e_points h_points P := by
  intro vs H a h hp
  unfold d_points at h
  split at h
  · simp only [Option.some.injEq] at h; subst h; exact ⟨rfl, .inl rfl⟩
  · simp only [Option.some.injEq] at h; subst h; exact ⟨rfl, .inr ⟨rfl, _, rfl, (fun b hb => by
      simp only [h_points, List.mem_cons, List.not_mem_nil, or_false] at hb
      rcases hb with rfl | rfl
      · exact (hlow _ hp).1.low
      · exact (hlow _ hp).2.low), (fun v hv => by
      simp only [e_points, List.mem_cons, List.not_mem_nil, or_false] at hv
      rcases hv with rfl | rfl | rfl <;> exact lowVb_ok rfl)⟩⟩
  · cases h
abbrev σ_points_1 : Type := Unit
def d_points_1 : List V → Heap → Option σ_points_1 := fun vs H => match vs, H with
  | [.lit (.slice none 0 0)], [] => some ()
  | _, _ => none
def e_points_1 : σ_points_1 → List V := fun a => match a with
  | () => [.lit (.slice none 0 0)]
def h_points_1 : σ_points_1 → Heap := fun a => match a with
  | () => []
theorem k_points_1 {fg : Bool} {P : σ_points_1 → Prop} : DecOK fg d_points_1 e_points_1 h_points_1 P := by
  intro vs H a h hp
  unfold d_points_1 at h
  split at h
  · cases a; exact ⟨rfl, .inl rfl⟩
  · cases h
abbrev σ_points_2 : Type := Nat × Nat × Nat × (List (List V)) × (List (List V))
def d_points_2 : List V → Heap → Option σ_points_2 := fun vs H => match vs, H with
  | [.own 1 ver 0 n], .rows 1 0 g :: .rows 1 ver' rs :: _ => some (n, ver, ver', g, rs)
  | _, _ => none
def e_points_2 : σ_points_2 → List V := fun a => match a with
  | (n, ver, ver', g, rs) => [.own 1 ver 0 n]
def h_points_2 : σ_points_2 → Heap := fun a => match a with
  | (n, ver, ver', g, rs) => [.rows 1 0 g, .rows 1 ver' rs]
def lw_points_2 : σ_points_2 → Prop := fun a => match a with
  | (n, ver, ver', g, rs) => litRows g ∧ litRows rs
theorem k_points_2 {P : σ_points_2 → Prop} (hlow : ∀ a, P a → lw_points_2 a) : DecOK true d_points_2 e_points_2 h_points_2 P := by
  intro vs H a h hp
  unfold d_points_2 at h
  split at h
  · simp only [Option.some.injEq] at h; subst h; exact ⟨rfl, .inr ⟨rfl, _, rfl, (fun b hb => by
      simp only [h_points_2, List.mem_cons, List.not_mem_nil, or_false] at hb
      rcases hb with rfl | rfl
      · exact (hlow _ hp).1.low
      · exact (hlow _ hp).2.low), (fun v hv => by
      simp only [e_points_2, List.mem_cons, List.not_mem_nil, or_false] at hv
      subst hv; exact lowVb_ok rfl)⟩⟩
  · cases h
abbrev σ_points_3 : Type := Int
def d_points_3 : List V → Heap → Option σ_points_3 := fun vs H => match vs, H with
  | [.lit (.slice none 0 0), .lit (.int .i64 e)], _ => some e
  | _, _ => none
def e_points_3 : σ_points_3 → List V := fun a => match a with
  | e => [.lit (.slice none 0 0), .lit (.int .i64 e)]
def h_points_3 : σ_points_3 → Heap := fun a => match a with
  | e => []
theorem k_points_3 {P : σ_points_3 → Prop} : DecOK true d_points_3 e_points_3 h_points_3 P := by
  intro vs H a h hp
  unfold d_points_3 at h
  split at h
  · simp only [Option.some.injEq] at h; subst h; exact ⟨rfl, .inr ⟨rfl, _, rfl, (fun b hb => by simp [h_points_3] at hb), (fun v hv => by
      simp only [e_points_3, List.mem_cons, List.not_mem_nil, or_false] at hv
      rcases hv with rfl | rfl <;> exact lowVb_ok rfl)⟩⟩
  · cases h
def L_points (P_points : σ_points → Prop) (Q_points_1 : σ_points → σ_points_1 → Prop) (Q_points_2 : σ_points → σ_points_2 → Prop) (Q_points_3 : σ_points → σ_points_3 → Prop) : LD σ_points := ⟨33, [0, 4, 5], d_points, e_points, h_points, P_points, [⟨σ_points_1, .exit 0, [4], d_points_1, e_points_1, h_points_1, Q_points_1⟩, ⟨σ_points_2, .exit 0, [4], d_points_2, e_points_2, h_points_2, Q_points_2⟩, ⟨σ_points_3, .ret, [2, 3], d_points_3, e_points_3, h_points_3, Q_points_3⟩]⟩
def r_points_0 (s : ByteArray) (i : Int) (Q_points_1 : σ_points → σ_points_1 → Prop) (Q_points_3 : σ_points → σ_points_3 → Prop) (N : σ_points → σ_points → Prop) : Prop :=
    (if decide (i < toI (ByteArray.size s)) = true then (if (decide (ByteArray.size s ≤ 1099511627776) && (decide (0 ≤ i) && decide (i < toI (ByteArray.size s)))) = true then (if (toI (Prod.snd (nextAt s (Int.toNat i))) == 0) = true then (Q_points_3 (Sum.inl (s, i)) (10)) else (if HPure.isChar (toI (Prod.fst (nextAt s (Int.toNat i)))) = true then (N (Sum.inl (s, i)) (Sum.inr (s, IntKind.wrap IntKind.i64 (i + toI (Prod.snd (nextAt s (Int.toNat i)))), 1, 8796093022208, 8796093022208, [[V.lit (Value.int IntKind.i64 (toI (Prod.fst (nextAt s (Int.toNat i)))))]], [[V.lit (Value.int IntKind.i64 (toI (Prod.fst (nextAt s (Int.toNat i)))))]]))) else (Q_points_3 (Sum.inl (s, i)) (10)))) else False) else (Q_points_1 (Sum.inl (s, i)) (PUnit.unit)))
theorem w_points_0 (m : Int) (s : ByteArray) (i : Int) (P_points : σ_points → Prop) (Q_points_1 : σ_points → σ_points_1 → Prop) (Q_points_2 : σ_points → σ_points_2 → Prop) (Q_points_3 : σ_points → σ_points_3 → Prop) (N : σ_points → σ_points → Prop) :
    codeF (env m) (con6) (fun _ => none) 0 (atC [1, 1, 1, 0, 0, 0] (bodyOf (env m).P 110)) [1, 1, 1, 0, 0, 0] ((L_points P_points Q_points_1 Q_points_2 Q_points_3).st ((.inl (s, i)) : σ_points)) ((L_points P_points Q_points_1 Q_points_2 Q_points_3).leaf N ((.inl (s, i)) : σ_points)) =
    r_points_0 s i Q_points_1 Q_points_3 N := by kernel_rfl
def r_points_1 (s : ByteArray) (i : Int) (n : Nat) (ver : Nat) (ver' : Nat) (g : List (List V)) (rs : List (List V)) (Q_points_2 : σ_points → σ_points_2 → Prop) (Q_points_3 : σ_points → σ_points_3 → Prop) (N : σ_points → σ_points → Prop) : Prop :=
    (if decide (i < toI (ByteArray.size s)) = true then (if (decide (ByteArray.size s ≤ 1099511627776) && (decide (0 ≤ i) && decide (i < toI (ByteArray.size s)))) = true then (if (toI (Prod.snd (nextAt s (Int.toNat i))) == 0) = true then (Q_points_3 (Sum.inr (s, i, n, ver, ver', g, rs)) (10)) else (if HPure.isChar (toI (Prod.fst (nextAt s (Int.toNat i)))) = true then (if ver' = ver then (if n = List.length rs then (if n ≤ 1000000 then (if ver / 1099511627776 = 8 ∧ (ver + 1) / 1099511627776 = 8 then (N (Sum.inr (s, i, n, ver, ver', g, rs)) (Sum.inr (s, IntKind.wrap IntKind.i64 (i + toI (Prod.snd (nextAt s (Int.toNat i)))), n + 1, ver + 1, ver + 1, g, rs ++ [[V.lit (Value.int IntKind.i64 (toI (Prod.fst (nextAt s (Int.toNat i)))))]]))) else False) else False) else False) else False) else (Q_points_3 (Sum.inr (s, i, n, ver, ver', g, rs)) (10)))) else False) else (Q_points_2 (Sum.inr (s, i, n, ver, ver', g, rs)) ((n, ver, ver', g, rs))))
theorem w_points_1 (m : Int) (s : ByteArray) (i : Int) (n : Nat) (ver : Nat) (ver' : Nat) (g : List (List V)) (rs : List (List V)) (P_points : σ_points → Prop) (Q_points_1 : σ_points → σ_points_1 → Prop) (Q_points_2 : σ_points → σ_points_2 → Prop) (Q_points_3 : σ_points → σ_points_3 → Prop) (N : σ_points → σ_points → Prop) :
    codeF (env m) (con6) (fun _ => none) 0 (atC [1, 1, 1, 0, 0, 0] (bodyOf (env m).P 110)) [1, 1, 1, 0, 0, 0] ((L_points P_points Q_points_1 Q_points_2 Q_points_3).st ((.inr (s, i, n, ver, ver', g, rs)) : σ_points)) ((L_points P_points Q_points_1 Q_points_2 Q_points_3).leaf N ((.inr (s, i, n, ver, ver', g, rs)) : σ_points)) =
    r_points_1 s i n ver ver' g rs Q_points_2 Q_points_3 N := by kernel_rfl
theorem l_points (m : Int) {ro : Option Nat} (hc : ConR (env m) (Lw m) (con6)) {P_points : σ_points → Prop} {Q_points_1 : σ_points → σ_points_1 → Prop} {Q_points_2 : σ_points → σ_points_2 → Prop} {Q_points_3 : σ_points → σ_points_3 → Prop} (μ : σ_points → Nat)
    (hlow_points : ∀ a, P_points a → lw_points a)
    (hlow_points_2 : ∀ b a, Q_points_2 b a → lw_points_2 a)
    (h0 : ∀ (s : ByteArray) (i : Int), P_points (.inl (s, i)) → r_points_0 s i Q_points_1 Q_points_3 (fun a a' => P_points a' ∧ μ a' < μ a ∧ (∀ c, Q_points_1 a' c → Q_points_1 a c) ∧ (∀ c, Q_points_2 a' c → Q_points_2 a c) ∧ (∀ c, Q_points_3 a' c → Q_points_3 a c)))
    (h1 : ∀ (s : ByteArray) (i : Int) (n : Nat) (ver : Nat) (ver' : Nat) (g : List (List V)) (rs : List (List V)), P_points (.inr (s, i, n, ver, ver', g, rs)) → r_points_1 s i n ver ver' g rs Q_points_2 Q_points_3 (fun a a' => P_points a' ∧ μ a' < μ a ∧ (∀ c, Q_points_1 a' c → Q_points_1 a c) ∧ (∀ c, Q_points_2 a' c → Q_points_2 a c) ∧ (∀ c, Q_points_3 a' c → Q_points_3 a c))) :
    SpOK (env m) (Lw m) ro (atC [1, 1, 1, 0, 0] (bodyOf (env m).P 110)) (L_points P_points Q_points_1 Q_points_2 Q_points_3).sp true := by
  rw [show atC [1, 1, 1, 0, 0] (bodyOf (env m).P 110) = .loop (atC [1, 1, 1, 0, 0, 0] (bodyOf (env m).P 110)) from by kernel_rfl]
  have hd : (L_points P_points Q_points_1 Q_points_2 Q_points_3).dok true := ⟨k_points hlow_points, fun o ho => by
    simp only [L_points, List.mem_cons, List.mem_singleton, List.not_mem_nil, or_false] at ho
    rcases ho with rfl | rfl | rfl
    · intro a; exact k_points_1
    · intro a; exact k_points_2 (hlow_points_2 a)
    · intro a; exact k_points_3⟩
  refine LD.loop_ok hd hc L_up lok_none (u := 0) μ (p := [1, 1, 1, 0, 0, 0]) rfl ?_
  rintro (⟨s, i⟩ | ⟨s, i, n, ver, ver', g, rs⟩) ha
  · exact Eq.mpr (w_points_0 m s i P_points Q_points_1 Q_points_2 Q_points_3 _) (h0 s i ha)
  · exact Eq.mpr (w_points_1 m s i n ver ver' g rs P_points Q_points_1 Q_points_2 Q_points_3 _) (h1 s i n ver ver' g rs ha)
def r_FPoints (s : ByteArray) (P_points : σ_points → Prop) (Q_points_1 : σ_points → σ_points_1 → Prop) (Q_points_2 : σ_points → σ_points_2 → Prop) (Q_points_3 : σ_points → σ_points_3 → Prop) (q : V → Heap → Prop) : Prop :=
    ((P_points (Sum.inl (s, 0))) ∧ ((∀ c1 : PUnit, ((Q_points_1 (Sum.inl (s, 0)) (c1)) → (q (V.tup [V.lit (Value.slice none 0 0), V.lit (Value.int IntKind.i64 0)]) ([])))) ∧ ((∀ c2 : Nat × Nat × Nat × List (List V) × List (List V), ((Q_points_2 (Sum.inl (s, 0)) (c2)) → (q (V.tup [V.own 1 c2.2.1 0 c2.1, V.lit (Value.int IntKind.i64 0)]) ([Blk.rows 1 0 c2.2.2.2.1, Blk.rows 1 c2.2.2.1 c2.2.2.2.2])))) ∧ (∀ c3 : Int, ((Q_points_3 (Sum.inl (s, 0)) (c3)) → (q (V.tup [V.lit (Value.slice none 0 0), V.lit (Value.int IntKind.i64 c3)]) ([])))))))
theorem w_FPoints (m : Int) (s : ByteArray) (P_points : σ_points → Prop) (Q_points_1 : σ_points → σ_points_1 → Prop) (Q_points_2 : σ_points → σ_points_2 → Prop) (Q_points_3 : σ_points → σ_points_3 → Prop) (q : V → Heap → Prop) :
    codeF (env m) (con6) (lcAdd [1, 1, 1, 0, 0] (L_points P_points Q_points_1 Q_points_2 Q_points_3).sp (fun _ => none)) 0 (bodyOf (env m).P 110) [] ⟨[.lit (.string s)] ++ List.replicate (33 - 1) un, [], []⟩ (finR (env m) (resOf (env m).P 110) q) =
    r_FPoints s P_points Q_points_1 Q_points_2 Q_points_3 q := by kernel_rfl
theorem cc_Points (m : Int) (s : ByteArray) (hc : ConR (env m) (Lw m) (con6)) {P_points : σ_points → Prop} {Q_points_1 : σ_points → σ_points_1 → Prop} {Q_points_2 : σ_points → σ_points_2 → Prop} {Q_points_3 : σ_points → σ_points_3 → Prop} (hl_points : SpOK (env m) (Lw m) none (atC [1, 1, 1, 0, 0] (bodyOf (env m).P 110)) (L_points P_points Q_points_1 Q_points_2 Q_points_3).sp true) {q : V → Heap → Prop} (hr : r_FPoints s P_points Q_points_1 Q_points_2 Q_points_3 q) :
    ∃ v_ K_ r_ H_, (Lw m).callX 110 [.lit (.string s)] [] = some (.ret (mapV r_ v_), H_) ∧ Rn r_ K_ H_ ∧ q v_ K_ := by
  refine F_own (fg := true) hc (f := 110) (q := q) (lok_add hl_points lok_none) (u := 0) (by kernel_rfl) rfl ?_
  rw [show ntmpsOf (env m).P 110 = 33 from by kernel_rfl]
  exact Eq.mpr (w_FPoints m s P_points Q_points_1 Q_points_2 Q_points_3 q) hr
theorem ff_Points (m : Int) (s : ByteArray) (hc : ConR (env m) (Lw m) (con6)) {P_points : σ_points → Prop} {Q_points_1 : σ_points → σ_points_1 → Prop} {Q_points_2 : σ_points → σ_points_2 → Prop} {Q_points_3 : σ_points → σ_points_3 → Prop} (hl_points : SpOK (env m) (Lw m) none (atC [1, 1, 1, 0, 0] (bodyOf (env m).P 110)) (L_points P_points Q_points_1 Q_points_2 Q_points_3).sp true) {w_ : V} (hw : closedV w_ = true) (hr : r_FPoints s P_points Q_points_1 Q_points_2 Q_points_3 (fun v_ _ => v_ = w_)) :
    ∃ H_, (Lw m).callX 110 [.lit (.string s)] [] = some (.ret w_, H_) := by
  obtain ⟨v_, K_, r_, H_, h1, h2, rfl⟩ := cc_Points m s hc hl_points hr
  rw [closed_eq hw] at h1
  exact ⟨H_, h1⟩
abbrev σ_has : Type := ByteArray × ByteArray × Int
def d_has : List V → Heap → Option σ_has := fun vs H => match vs, H with
  | [.lit (.string s), .lit (.string x), .lit (.int .i64 i)], [] => some (s, x, i)
  | _, _ => none
def e_has : σ_has → List V := fun a => match a with
  | (s, x, i) => [.lit (.string s), .lit (.string x), .lit (.int .i64 i)]
def h_has : σ_has → Heap := fun a => match a with
  | (s, x, i) => []
theorem k_has {fg : Bool} {P : σ_has → Prop} : DecOK fg d_has e_has h_has P := by
  intro vs H a h hp
  unfold d_has at h
  split at h
  · simp only [Option.some.injEq] at h; subst h; exact ⟨rfl, .inl rfl⟩
  · cases h
abbrev σ_has_1 : Type := Unit
def d_has_1 : List V → Heap → Option σ_has_1 := fun vs H => match vs, H with
  | [], [] => some ()
  | _, _ => none
def e_has_1 : σ_has_1 → List V := fun a => match a with
  | () => []
def h_has_1 : σ_has_1 → Heap := fun a => match a with
  | () => []
theorem k_has_1 {fg : Bool} {P : σ_has_1 → Prop} : DecOK fg d_has_1 e_has_1 h_has_1 P := by
  intro vs H a h hp
  unfold d_has_1 at h
  split at h
  · cases a; exact ⟨rfl, .inl rfl⟩
  · cases h
abbrev σ_has_2 : Type := Bool
def d_has_2 : List V → Heap → Option σ_has_2 := fun vs H => match vs, H with
  | [.lit (.bool b)], [] => some b
  | _, _ => none
def e_has_2 : σ_has_2 → List V := fun a => match a with
  | b => [.lit (.bool b)]
def h_has_2 : σ_has_2 → Heap := fun a => match a with
  | b => []
theorem k_has_2 {fg : Bool} {P : σ_has_2 → Prop} : DecOK fg d_has_2 e_has_2 h_has_2 P := by
  intro vs H a h hp
  unfold d_has_2 at h
  split at h
  · simp only [Option.some.injEq] at h; subst h; exact ⟨rfl, .inl rfl⟩
  · cases h
def L_has (P_has : σ_has → Prop) (Q_has_1 : σ_has → σ_has_1 → Prop) (Q_has_2 : σ_has → σ_has_2 → Prop) : LD σ_has := ⟨24, [0, 1, 5], d_has, e_has, h_has, P_has, [⟨σ_has_1, .exit 0, [], d_has_1, e_has_1, h_has_1, Q_has_1⟩, ⟨σ_has_2, .ret, [4], d_has_2, e_has_2, h_has_2, Q_has_2⟩]⟩
def r_has (s : ByteArray) (x : ByteArray) (i : Int) (Q_has_1 : σ_has → σ_has_1 → Prop) (Q_has_2 : σ_has → σ_has_2 → Prop) (N : σ_has → σ_has → Prop) : Prop :=
    (if decide (IntKind.wrap IntKind.i64 (i + toI (ByteArray.size x)) ≤ toI (ByteArray.size s)) = true then (if 0 ≤ i then (if i ≤ IntKind.wrap IntKind.i64 (i + toI (ByteArray.size x)) then (if Int.toNat (IntKind.wrap IntKind.i64 (i + toI (ByteArray.size x))) ≤ ByteArray.size s then (if (ByteArray.toList (ByteArray.extract s (Int.toNat i) (Int.toNat (IntKind.wrap IntKind.i64 (i + toI (ByteArray.size x))))) == ByteArray.toList x) = true then (Q_has_2 ((s, x, i)) (true)) else (N ((s, x, i)) ((s, x, IntKind.wrap IntKind.i64 (i + 1))))) else False) else False) else False) else (Q_has_1 ((s, x, i)) (PUnit.unit)))
theorem w_has (m : Int) (s : ByteArray) (x : ByteArray) (i : Int) (P_has : σ_has → Prop) (Q_has_1 : σ_has → σ_has_1 → Prop) (Q_has_2 : σ_has → σ_has_2 → Prop) (N : σ_has → σ_has → Prop) :
    codeF (env m) (con6) (fun _ => none) 0 (atC [1, 0, 1, 0, 0] (bodyOf (env m).P 82)) [1, 0, 1, 0, 0] ((L_has P_has Q_has_1 Q_has_2).st (s, x, i)) ((L_has P_has Q_has_1 Q_has_2).leaf N (s, x, i)) =
    r_has s x i Q_has_1 Q_has_2 N := by kernel_rfl
theorem l_has (m : Int) {ro : Option Nat} (hc : ConR (env m) (Lw m) (con6)) {P_has : σ_has → Prop} {Q_has_1 : σ_has → σ_has_1 → Prop} {Q_has_2 : σ_has → σ_has_2 → Prop} (μ : σ_has → Nat)
    (h0 : ∀ (s : ByteArray) (x : ByteArray) (i : Int), P_has (s, x, i) → r_has s x i Q_has_1 Q_has_2 (fun a a' => P_has a' ∧ μ a' < μ a ∧ (∀ c, Q_has_1 a' c → Q_has_1 a c) ∧ (∀ c, Q_has_2 a' c → Q_has_2 a c))) :
    SpOK (env m) (Lw m) ro (atC [1, 0, 1, 0] (bodyOf (env m).P 82)) (L_has P_has Q_has_1 Q_has_2).sp false := by
  rw [show atC [1, 0, 1, 0] (bodyOf (env m).P 82) = .loop (atC [1, 0, 1, 0, 0] (bodyOf (env m).P 82)) from by kernel_rfl]
  have hd : (L_has P_has Q_has_1 Q_has_2).dok false := ⟨k_has, fun o ho => by
    simp only [L_has, List.mem_cons, List.mem_singleton, List.not_mem_nil, or_false] at ho
    rcases ho with rfl | rfl
    · intro a; exact k_has_1
    · intro a; exact k_has_2⟩
  refine LD.loop_ok hd hc L_up lok_none (u := 0) μ (p := [1, 0, 1, 0, 0]) rfl ?_
  rintro (⟨s, x, i⟩) ha
  · exact Eq.mpr (w_has m s x i P_has Q_has_1 Q_has_2 _) (h0 s x i ha)
def r_Fhas (s : ByteArray) (x : ByteArray) (P_has : σ_has → Prop) (Q_has_1 : σ_has → σ_has_1 → Prop) (Q_has_2 : σ_has → σ_has_2 → Prop) (q : V → Prop) : Prop :=
    ((P_has ((s, x, 0))) ∧ ((∀ c1 : PUnit, ((Q_has_1 ((s, x, 0)) (c1)) → (q (V.lit (Value.bool false))))) ∧ (∀ c2 : Bool, ((Q_has_2 ((s, x, 0)) (c2)) → (q (V.lit (Value.bool c2)))))))
theorem w_Fhas (m : Int) (s : ByteArray) (x : ByteArray) (P_has : σ_has → Prop) (Q_has_1 : σ_has → σ_has_1 → Prop) (Q_has_2 : σ_has → σ_has_2 → Prop) (q : V → Prop) :
    codeF (env m) (con6) (lcAdd [1, 0, 1, 0] (L_has P_has Q_has_1 Q_has_2).sp (fun _ => none)) 0 (bodyOf (env m).P 82) [] ⟨[.lit (.string s), .lit (.string x)] ++ List.replicate (24 - 2) un, [], []⟩ (finR (env m) (resOf (env m).P 82) (fun v _ => q v)) =
    r_Fhas s x P_has Q_has_1 Q_has_2 q := by kernel_rfl
theorem cc_has (m : Int) (s : ByteArray) (x : ByteArray) (hc : ConR (env m) (Lw m) (con6)) {P_has : σ_has → Prop} {Q_has_1 : σ_has → σ_has_1 → Prop} {Q_has_2 : σ_has → σ_has_2 → Prop} (hl_has : SpOK (env m) (Lw m) none (atC [1, 0, 1, 0] (bodyOf (env m).P 82)) (L_has P_has Q_has_1 Q_has_2).sp false) {q : V → Prop} (hr : r_Fhas s x P_has Q_has_1 Q_has_2 q) :
    ∃ v_ K_ r_ H_, (Lw m).callX 82 [.lit (.string s), .lit (.string x)] [] = some (.ret (mapV r_ v_), H_) ∧ Rn r_ K_ H_ ∧ q v_ := by
  refine F_own (fg := true) hc (f := 82) (q := fun v _ => q v) (lok_add hl_has.up lok_none) (u := 0) (by kernel_rfl) rfl ?_
  rw [show ntmpsOf (env m).P 82 = 24 from by kernel_rfl]
  exact Eq.mpr (w_Fhas m s x P_has Q_has_1 Q_has_2 q) hr
theorem ff_has (m : Int) (s : ByteArray) (x : ByteArray) (hc : ConR (env m) (Lw m) (con6)) {P_has : σ_has → Prop} {Q_has_1 : σ_has → σ_has_1 → Prop} {Q_has_2 : σ_has → σ_has_2 → Prop} (hl_has : SpOK (env m) (Lw m) none (atC [1, 0, 1, 0] (bodyOf (env m).P 82)) (L_has P_has Q_has_1 Q_has_2).sp false) {w_ : V} (hw : closedV w_ = true) (hr : r_Fhas s x P_has Q_has_1 Q_has_2 (fun v_ => v_ = w_)) :
    ∃ H_, (Lw m).callX 82 [.lit (.string s), .lit (.string x)] [] = some (.ret w_, H_) := by
  obtain ⟨v_, K_, r_, H_, h1, h2, rfl⟩ := cc_has m s x hc hl_has hr
  rw [closed_eq hw] at h1
  exact ⟨H_, h1⟩
end Go.Proofs.YtpmdlaojndejfaaGreatDoor.E

/- Calls of functions that work on memory of their own, by whatever answers. -/
set_option linter.unusedVariables false
set_option linter.unusedSimpArgs false
set_option maxRecDepth 100000
namespace Go.Proofs.YtpmdlaojndejfaaGreatDoor.E
open Go

theorem litRows_flat {rs : List (List V)} : flatR rs = true ↔ litRows rs := by
  simp [flatR, litRows, List.all_eq_true]
theorem litRows.map {r : Nat → Nat} {rs : List (List V)} (h : litRows rs) : mapR r rs = rs := by
  unfold mapR
  conv => rhs; rw [← List.map_id rs]
  refine List.map_congr_left fun l hl => ?_
  show l.map (mapV r) = id l
  conv => rhs; rw [← List.map_id l]
  refine List.map_congr_left fun v hv => ?_
  have := h l hl v hv
  cases v <;> simp [V.isLit] at this
  rfl

/-! What a call hands back, by other numbers. -/
section
variable {r : Nat → Nat} {K H : Heap}
theorem mapV_noOwn {c : V} (h : noOwnC c = true) : mapV r c = c := closed_eq (noOwnC_closed h)
theorem flat_ren (hR : Rn r K H) {c : V} (h : flatOwn K c = true) : ∃ id ver off len rs, c = .own id ver off len ∧ rowsOf K c = some rs ∧ flatR rs = true ∧ rowsOf H (mapV r c) = some rs := by
  unfold flatOwn at h
  split at h
  · rename_i id ver off len
    split at h
    · rename_i rs e
      refine ⟨_, _, _, _, rs, rfl, e, h, ?_⟩
      rw [rowsOf_ren hR rfl e, (litRows_flat.1 h).map]
    · cases h
  · cases h
theorem trC_ren (hR : Rn r K H) {c : V} (h : (noOwnC c || flatOwn K c) = true) (G : Heap) : trC H (mapV r c) G = trC K c G ∧ (noOwnC (mapV r c) || flatOwn H (mapV r c)) = true := by
  simp only [Bool.or_eq_true] at h
  rcases h with h | h
  · rw [mapV_noOwn h]
    refine ⟨?_, by simp [h]⟩
    cases c <;> simp_all [noOwnC, trC]
  · obtain ⟨id, ver, off, len, rs, rfl, h1, h2, h3⟩ := flat_ren hR h
    refine ⟨?_, ?_⟩
    · simp only [mapV] at h3 ⊢
      simp only [trC, h1, h3, Option.bind_some]
      have : ∃ sz ver' rs', K[id]? = some (.rows sz ver' rs') := by
        simp only [rowsOf] at h1
        split at h1
        · rename_i e; exact ⟨_, _, _, e⟩
        · cases h1
      obtain ⟨sz, ver', rs', hk⟩ := this
      rw [hk, hR.rows hk]
    · simp only [mapV] at h3 ⊢
      simp [flatOwn, h3, h2]
theorem trCs_ren (hR : Rn r K H) : ∀ (cs : List V) (G : Heap), (∀ c ∈ cs, (noOwnC c || flatOwn K c) = true) → trCs H (cs.map (mapV r)) G = trCs K cs G
  | [], G, h => rfl
  | c :: cs, G, h => by
    simp only [List.map_cons, trCs, (trC_ren hR (h c (by simp)) G).1]
    congr 1; funext x
    rw [trCs_ren hR cs x.2 fun c hc => h c (by simp [hc])]
theorem trA_ren (hR : Rn r K H) {v : V} {G : Heap} (h : ∀ c ∈ v.cells, (noOwnC c || flatOwn K c) = true) : trA H (mapV r v) G = trA K v G := by
  cases v with
  | agg cs => simp only [mapV, mapVs_eq, trA, trCs_ren hR cs G h]
  | lit x => exact (trC_ren hR (h (.lit x) (List.mem_singleton.2 rfl)) G).1
  | arr x => exact (trC_ren hR (h (.arr x) (List.mem_singleton.2 rfl)) G).1
  | row x => exact (trC_ren hR (h (.row x) (List.mem_singleton.2 rfl)) G).1
  | fn f x => exact (trC_ren hR (h (.fn f x) (List.mem_singleton.2 rfl)) G).1
  | own a b c d => exact (trC_ren hR (h (.own a b c d) (List.mem_singleton.2 rfl)) G).1
  | tup x => have := h (.tup x) (List.mem_singleton.2 rfl); simp [noOwnC, flatOwn] at this
  | ptr a b c d => have := h (.ptr a b c d) (List.mem_singleton.2 rfl); simp [noOwnC, flatOwn] at this
  | yld x => have := h (.yld x) (List.mem_singleton.2 rfl); simp [noOwnC, flatOwn] at this
  | mp x => have := h (.mp x) (List.mem_singleton.2 rfl); simp [noOwnC, flatOwn] at this
  | it x => have := h (.it x) (List.mem_singleton.2 rfl); simp [noOwnC, flatOwn] at this
theorem tops_cells {v : V} (h : ∀ vs, v ≠ .tup vs) : tops v = v.cells := by
  cases v <;> first | rfl | exact absurd rfl (h _)
theorem trAs_ren (hR : Rn r K H) : ∀ (vs : List V) (G : Heap), (∀ v ∈ vs, ∀ c ∈ v.cells, (noOwnC c || flatOwn K c) = true) → trAs H (vs.map (mapV r)) G = trAs K vs G
  | [], G, h => rfl
  | v :: vs, G, h => by
    simp only [List.map_cons, trAs, trA_ren hR (h v (by simp))]
    congr 1; funext x
    rw [trAs_ren hR vs x.2 fun v hv => h v (by simp [hv])]
theorem tops_map (v : V) : tops (mapV r v) = (tops v).map (mapV r) := by
  cases v with
  | tup vs =>
    simp only [mapV, mapVs_eq, tops]
    rw [List.flatMap_map, List.map_flatMap]
    congr 1; funext x; exact mapV_cells x
  | _ => rw [tops_cells (by simp [mapV]), tops_cells (by simp)]; exact mapV_cells _
theorem tr_ren (hR : Rn r K H) {v : V} (h : ∀ c ∈ tops v, (noOwnC c || flatOwn K c) = true) : tr H (mapV r v) = tr K v := by
  cases v with
  | tup vs =>
    simp only [mapV, mapVs_eq, tr]
    rw [trAs_ren hR vs [] fun v hv c hc => h c (by simp only [tops, List.mem_flatMap]; exact ⟨v, hv, hc⟩)]
  | _ => rw [tops_cells (by simp)] at h; exact trA_ren hR h
theorem ownId_map (l : List V) : (l.map (mapV r)).filterMap ownId = (l.filterMap ownId).map r := by
  induction l with
  | nil => rfl
  | cons v l ih => cases v <;> first | exact ih | exact congrArg (r _ :: ·) ih
theorem nodup_map (hi : ∀ i j, r i = r j → i = j) : ∀ l : List Nat, nodup (l.map r) = nodup l
  | [] => rfl
  | a :: l => by simp only [List.map_cons, nodup, nodup_map hi l, contains_map hi]
/-- What a call hands back: laid apart. -/
def handV (K : Heap) (v : V) : Option (V × Heap) :=
  if ((tops v).all (fun c => noOwnC c || flatOwn K c) && nodup ((tops v).filterMap ownId)) = true then tr K v else none
theorem hand_ren {self : Self} {f : FuncId} {args : List V} (hR : Rn r K H) {v w : V} {G : Heap} (hc : self.call f args [] = some (mapV r v, H)) (h : handV K v = some (w, G)) : pcall self f args = some (w, G) := by
  unfold handV at h
  split at h
  case isFalse => cases h
  rename_i hh
  simp only [Bool.and_eq_true, List.all_eq_true] at hh
  obtain ⟨h1, h2⟩ := hh
  have a1 : (tops (mapV r v)).all (fun c => noOwnC c || flatOwn H c) = true := by
    rw [tops_map, List.all_eq_true]
    intro c hm
    obtain ⟨d, hd, rfl⟩ := List.mem_map.1 hm
    exact (trC_ren hR (h1 d hd) []).2
  have a2 : nodup ((tops (mapV r v)).filterMap ownId) = true := by rw [tops_map, ownId_map, nodup_map hR.inj, h2]
  unfold pcall
  simp only [hc, Option.bind_some, a1, a2, Bool.and_self, if_true, tr_ren hR h1, h]

/-! Arguments are handed over as they are seen by somebody who never writes. -/
mutual
theorem freeze_ren (hR : Rn r K H) : ∀ (k : Nat) (v w : V), freeze K k v = some w → freeze H k (mapV r v) = some w
  | 0, v, w, h => by simp [freeze] at h
  | k + 1, v, w, h => by
    cases v with
    | lit x => exact h
    | arr x => exact h
    | row x => exact h
    | agg cs =>
      simp only [freeze, Option.map_eq_some_iff] at h
      obtain ⟨ws, h1, rfl⟩ := h
      simp only [mapV, mapVs_eq, freeze, freezes_ren hR k cs ws h1, Option.map_some]
    | tup cs =>
      simp only [freeze, Option.map_eq_some_iff] at h
      obtain ⟨ws, h1, rfl⟩ := h
      simp only [mapV, mapVs_eq, freeze, freezes_ren hR k cs ws h1, Option.map_some]
    | fn f cs =>
      simp only [freeze, Option.map_eq_some_iff] at h
      obtain ⟨ws, h1, rfl⟩ := h
      simp only [mapV, mapVs_eq, freeze, freezes_ren hR k cs ws h1, Option.map_some]
    | own id ver off len =>
      simp only [freeze, Option.bind_eq_some_iff] at h
      obtain ⟨rs, h1, h2⟩ := h
      have h3 := rowsOf_ren hR rfl h1
      simp only [mapV] at h3 ⊢
      simp only [freeze, h3, Option.bind_some]
      split at h2
      · rename_i hf
        rw [(litRows_flat.1 hf).map, if_pos hf]; exact h2
      · rename_i hf
        have hf' : ¬ flatR (mapR r rs) = true := by
          intro hc
          apply hf
          rw [litRows_flat] at hc ⊢
          intro l hl v hv
          have := hc (l.map (mapV r)) (by simp only [mapR, List.mem_map]; exact ⟨l, hl, rfl⟩) (mapV r v) (List.mem_map.2 ⟨v, hv, rfl⟩)
          cases v <;> simp_all [mapV, V.isLit]
        rw [if_neg hf']
        simp only [Option.map_eq_some_iff] at h2
        obtain ⟨ws, h4, rfl⟩ := h2
        rw [freezess_ren hR k rs ws h4]; rfl
    | ptr id ver row off =>
      simp only [freeze] at h
      split at h
      · rename_i sz ver' rs hid
        split at h
        case isFalse => cases h
        rename_i hv
        simp only [Option.bind_eq_some_iff] at h
        obtain ⟨cs, h1, h2⟩ := h
        split at h2
        case isFalse => cases h2
        rename_i ho
        simp only [Option.map_eq_some_iff] at h2
        obtain ⟨ws, h3, rfl⟩ := h2
        have h4 := freezes_ren hR k _ ws h3
        simp only [mapV, freeze, hR.rows hid, if_pos hv, mapR_get, h1, Option.map_some, Option.bind_some, List.length_map, if_pos ho]
        rw [← List.map_drop, h4]; rfl
      · cases h
    | yld x => simp [freeze] at h
    | mp x => simp [freeze] at h
    | it x => simp [freeze] at h
theorem freezes_ren (hR : Rn r K H) : ∀ (k : Nat) (vs ws : List V), freezes K k vs = some ws → freezes H k (vs.map (mapV r)) = some ws
  | 0, vs, ws, h => by simp [freezes] at h
  | k + 1, [], ws, h => h
  | k + 1, v :: vs, ws, h => by
    simp only [freezes, Option.bind_eq_some_iff, Option.map_eq_some_iff] at h
    obtain ⟨x, h1, xs, h2, rfl⟩ := h
    simp only [List.map_cons, freezes, freeze_ren hR k v x h1, freezes_ren hR k vs xs h2, Option.bind_some, Option.map_some]
theorem freezess_ren (hR : Rn r K H) : ∀ (k : Nat) (vs ws : List (List V)), freezess K k vs = some ws → freezess H k (mapR r vs) = some ws
  | 0, vs, ws, h => by simp [freezess] at h
  | k + 1, [], ws, h => h
  | k + 1, v :: vs, ws, h => by
    simp only [freezess, Option.bind_eq_some_iff, Option.map_eq_some_iff] at h
    obtain ⟨x, h1, xs, h2, rfl⟩ := h
    have := freezess_ren hR k vs xs h2
    simp only [mapR, List.map_cons] at this ⊢
    simp only [freezess, freezes_ren hR k v x h1, this, Option.bind_some, Option.map_some]
end
theorem freezeAll_ren (hR : Rn r K H) : ∀ (vs ws : List V), freezeAll K vs = some ws → freezeAll H (vs.map (mapV r)) = some ws
  | [], ws, h => h
  | v :: vs, ws, h => by
    simp only [freezeAll, Option.bind_eq_some_iff, Option.map_eq_some_iff] at h
    obtain ⟨x, h1, xs, h2, rfl⟩ := h
    simp only [List.map_cons, freezeAll, freeze_ren hR _ v x h1, freezeAll_ren hR vs xs h2, Option.bind_some, Option.map_some]
end

/-- The rows that are seen are asked for. -/
def freezeC (K : Heap) (v : V) (q : V → Prop) : Prop :=
  match v with
  | .own id ver off len => match K[id]? with
    | some (.rows _ ver' rs) => if ver' = ver then if off + len ≤ rs.length then if flatR ((rs.drop off).take len) = true then q (.arr ((rs.drop off).take len)) else False else False else False
    | _ => False
  | .lit x => q (.lit x)
  | .arr x => q (.arr x)
  | .row x => q (.row x)
  | _ => False
def freezeCs (K : Heap) : List V → (List V → Prop) → Prop
  | [], q => q []
  | v :: vs, q => freezeC K v fun x => freezeCs K vs fun xs => q (x :: xs)
def freezeW (K : Heap) (v : V) (q : V → Prop) : Prop :=
  match v with
  | .agg cs => freezeCs K cs fun ws => q (.agg ws)
  | .fn f cs => match freeze K 1000 (.fn f cs) with
    | some w => q w
    | none => False
  | .ptr a b c d => match freeze K 1000 (.ptr a b c d) with
    | some w => q w
    | none => False
  | v => freezeC K v q
def freezeWs (K : Heap) : List V → (List V → Prop) → Prop
  | [], q => q []
  | v :: vs, q => freezeW K v fun x => freezeWs K vs fun xs => q (x :: xs)
theorem freezeC_ok {K : Heap} {v : V} {q : V → Prop} (k : Nat) (h : freezeC K v q) : ∃ w, freeze K (k + 1) v = some w ∧ q w := by
  unfold freezeC at h
  split at h
  · split at h
    · rename_i id ver off len _ sz ver' rs hid
      split at h
      case isFalse => exact h.elim
      rename_i hv
      split at h
      case isFalse => exact h.elim
      rename_i hl
      split at h
      case isFalse => exact h.elim
      rename_i hf
      have : rowsOf K (.own id ver off len) = some ((rs.drop off).take len) := by simp [rowsOf, hid, hv, hl]
      exact ⟨_, by simp only [freeze, this, Option.bind_some, if_pos hf], h⟩
    · exact h.elim
  · exact ⟨_, rfl, h⟩
  · exact ⟨_, rfl, h⟩
  · exact ⟨_, rfl, h⟩
  · exact h.elim
theorem freezeCs_ok {K : Heap} : ∀ {vs : List V} {q : List V → Prop} (k : Nat), vs.length ≤ k → freezeCs K vs q → ∃ ws, freezes K (k + 2) vs = some ws ∧ q ws
  | [], q, k, hk, h => ⟨[], rfl, h⟩
  | v :: vs, q, k, hk, h => by
    obtain ⟨w, h1, h2⟩ := freezeC_ok k h
    cases k with
    | zero => simp at hk
    | succ k =>
      obtain ⟨ws, h3, h4⟩ := freezeCs_ok (K := K) k (by simpa using hk) h2
      exact ⟨w :: ws, by simp only [freezes, h1, h3, Option.bind_some, Option.map_some], h4⟩
theorem freezeW_ok {K : Heap} {v : V} {q : V → Prop} (hl : v.cells.length ≤ 100) (h : freezeW K v q) : ∃ w, freeze K 1000 v = some w ∧ q w := by
  unfold freezeW at h
  split at h
  · rename_i cs
    obtain ⟨ws, h1, h2⟩ := freezeCs_ok 997 (by simp only [V.cells] at hl; omega) h
    exact ⟨_, by simp only [freeze, h1, Option.map_some], h2⟩
  · split at h
    · rename_i w e; exact ⟨w, e, h⟩
    · exact h.elim
  · split at h
    · rename_i w e; exact ⟨w, e, h⟩
    · exact h.elim
  · exact freezeC_ok 999 h
theorem freezeWs_ok {K : Heap} : ∀ {vs : List V} {q : List V → Prop}, vs.all (fun v => decide (v.cells.length ≤ 100)) = true → freezeWs K vs q → ∃ ws, freezeAll K vs = some ws ∧ q ws
  | [], q, hl, h => ⟨[], rfl, h⟩
  | v :: vs, q, hl, h => by
    simp only [List.all_cons, Bool.and_eq_true, decide_eq_true_eq] at hl
    obtain ⟨w, h1, h2⟩ := freezeW_ok hl.1 h
    obtain ⟨ws, h3, h4⟩ := freezeWs_ok (K := K) hl.2 h2
    exact ⟨w :: ws, by simp only [freezeAll, h1, h3, Option.bind_some, Option.map_some], h4⟩

/-- An answer: what is handed back, the blocks that are laid for it. -/
abbrev Alt := Bool × V × Heap
/-- A contract: where it speaks; the answers, the first whose sign is true. -/
abbrev QSpec := List V → Option (Bool × List Alt)
def altW (nid : Nat) (K : Heap) (q : V → Heap → Prop) : List Alt → Prop
  | [] => False
  | (b, v, G) :: l => if b = true then (if (decide (G.length ≤ 1) || decide (nid = K.length)) = true then (match placeAll K nid G with
    | some K' => q (shift nid v) K'
    | none => False) else False) else altW nid K q l
def addQ (f0 : FuncId) (spec : QSpec) (con : Con) : Con := fun f args nid K q =>
  if f = f0 then (if args.all noOwn = true then (match spec args with
      | some (p, alts) => if p = true then altW nid K q alts else False
      | none => False)
    else if args.all (fun v => decide (v.cells.length ≤ 100)) = true then freezeWs K args fun args' => match spec args' with
      | some (p, alts) => if p = true then (if alts.all (fun a => (tops a.2.1).all noShareC) = true then altW nid K q alts else False) else False
      | none => False
    else False)
  else con f args nid K q
/-- The first whose sign is true. -/
def firstA : List Alt → Option Alt
  | [] => none
  | a :: l => if a.1 = true then some a else firstA l
theorem altW_first {nid : Nat} {K : Heap} {q : V → Heap → Prop} : ∀ {l : List Alt}, altW nid K q l → ∃ a, firstA l = some a ∧ (a.2.2.length ≤ 1 ∨ nid = K.length) ∧ ∃ K', placeAll K nid a.2.2 = some K' ∧ q (shift nid a.2.1) K'
  | [], h => h.elim
  | (b, v, G) :: l, h => by
    unfold altW at h
    unfold firstA
    split at h
    · rename_i ha
      rw [if_pos ha]
      split at h
      case isFalse => exact h.elim
      rename_i hn
      split at h
      · rename_i K' hk; exact ⟨_, rfl, by simpa using hn, K', hk, h⟩
      · exact h.elim
    · rename_i ha
      rw [if_neg ha]; exact altW_first h
theorem firstA_mem : ∀ {l : List Alt} {a : Alt}, firstA l = some a → a ∈ l
  | [], a, h => by cases h
  | b :: l, a, h => by
    unfold firstA at h
    split at h
    · simp only [Option.some.injEq] at h; subst h; simp
    · exact List.mem_cons_of_mem _ (firstA_mem h)
/-- The cells name blocks below n alone. -/
def okW (w : V) (n : Nat) : Bool := (tops w).all fun c => match c with | .own id _ _ _ => decide (id < n) | c => closedV c
theorem shiftC_ren {r : Nat → Nat} {nid n : Nat} (hr : ∀ id, id < n → r (nid + id) = r nid + id) {c : V} (h : (match c with | .own id _ _ _ => decide (id < n) | c => closedV c) = true) : mapV r (shiftC nid c) = shiftC (r nid) c := by
  cases c with
  | own id ver off len => simp only [shiftC, mapV, hr id (by simpa using h)]
  | _ => exact closed_eq h
theorem shiftA_ren {r : Nat → Nat} {nid n : Nat} (hr : ∀ id, id < n → r (nid + id) = r nid + id) {v : V} (h : ∀ c ∈ v.cells, (match c with | .own id _ _ _ => decide (id < n) | c => closedV c) = true) : mapV r (shiftA nid v) = shiftA (r nid) v := by
  cases v with
  | agg cs =>
    simp only [shiftA, mapV, mapVs_eq, List.map_map]
    congr 1
    exact List.map_congr_left fun c hc => shiftC_ren hr (h c hc)
  | _ => exact shiftC_ren hr (h _ (List.mem_singleton.2 rfl))
theorem shift_ren {r : Nat → Nat} {nid n : Nat} (hr : ∀ id, id < n → r (nid + id) = r nid + id) {w : V} (h : okW w n = true) : mapV r (shift nid w) = shift (r nid) w := by
  unfold okW at h
  rw [List.all_eq_true] at h
  cases w with
  | tup vs =>
    simp only [shift, mapV, mapVs_eq, List.map_map]
    congr 1
    refine List.map_congr_left fun v hv => shiftA_ren hr fun c hc => h c ?_
    simp only [tops, List.mem_flatMap]; exact ⟨v, hv, hc⟩
  | _ => rw [tops_cells (by simp)] at h; exact shiftA_ren hr h
/-- Blocks of values that lie in no memory. -/
def litBlk : Blk → Prop
  | .rows _ _ rs => litRows rs
  | _ => False
theorem litBlk.map {r : Nat → Nat} {b : Blk} (h : litBlk b) : mapB r b = b := by
  cases b <;> simp only [litBlk] at h
  simp only [mapB, h.map]
theorem placeAll_ren {r : Nat → Nat} {K H K' : Heap} (hR : Rn r K H) {nid : Nat} {G : Heap} (hG : ∀ b ∈ G, litBlk b) (hn : G.length ≤ 1 ∨ nid = K.length) (h : placeAll K nid G = some K') :
    (∀ id, id < G.length → r (nid + id) = r nid + id) ∧ ∃ H', placeAll H (r nid) G = some H' ∧ Rn r K' H' ∧ Fm r H H' := by
  have one : ∀ {K H K' : Heap}, Rn r K H → ∀ {nid : Nat} {b : Blk}, litBlk b → place K nid b = some K' → ∃ H', place H (r nid) b = some H' ∧ Rn r K' H' ∧ Fm r H H' := fun hR nid b hb h => by
    obtain ⟨H', h1, h2⟩ := hR.lay h
    rw [hb.map] at h1
    exact ⟨H', h1, h2⟩
  by_cases hl : nid = K.length
  · subst hl
    have hr : ∀ id, r (K.length + id) = r K.length + id := fun id => by rw [hR.next, show r K.length = H.length by simpa using hR.next 0]
    refine ⟨fun id _ => hr id, ?_⟩
    have key : ∀ (G : Heap) (k : Nat) (K1 H1 : Heap), (∀ b ∈ G, litBlk b) → Rn r K1 H1 → placeAll K1 (K.length + k) G = some K' → ∃ H', placeAll H1 (r K.length + k) G = some H' ∧ Rn r K' H' ∧ Fm r H1 H' := by
      intro G
      induction G with
      | nil => intro k K1 H1 _ hR1 h; simp only [placeAll, Option.some.injEq] at h; subst h; exact ⟨_, rfl, hR1, .rfl⟩
      | cons b G ih =>
        intro k K1 H1 hG hR1 h
        simp only [placeAll, Option.bind_eq_some_iff] at h
        obtain ⟨K2, h1, h2⟩ := h
        obtain ⟨H2, g1, g2, g3⟩ := one hR1 (hG b (by simp)) h1
        obtain ⟨H', g4, g5, g6⟩ := ih (k + 1) K2 H2 (fun b hb => hG b (by simp [hb])) g2 h2
        rw [hr] at g1
        exact ⟨H', by simp only [placeAll, g1, Option.bind_some]; exact g4, g5, g3.trans g6⟩
    have := key G 0 K H hG hR h
    simpa using this
  · have hl1 : G.length ≤ 1 := by rcases hn with h | h; exact h; exact absurd h hl
    match G, hG, hl1, h with
    | [], _, _, h => simp only [placeAll, Option.some.injEq] at h; subst h; exact ⟨by simp, _, rfl, hR, .rfl⟩
    | [b], hG, _, h =>
      simp only [placeAll, Option.bind_eq_some_iff, Option.some.injEq] at h
      obtain ⟨K2, h1, rfl⟩ := h
      obtain ⟨H2, g1, g2, g3⟩ := one hR (hG b (by simp)) h1
      refine ⟨fun id hid => ?_, H2, by simp [placeAll, g1], g2, g3⟩
      have : id = 0 := by simpa using hid
      subst this; rfl
    | b :: c :: G, _, hl1, _ => simp at hl1

/-- The answer is so. -/
def Ans (self : Self) (f : FuncId) (args : List V) (a : Alt) : Prop :=
  ∃ v K r H', self.callX f args [] = some (.ret (mapV r v), H') ∧ Rn r K H' ∧ handV K v = some (a.2.1, a.2.2) ∧ (∀ b ∈ a.2.2, litBlk b) ∧ okW a.2.1 a.2.2.length = true
theorem addQ_r {m : Int} {f0 : FuncId} {spec : QSpec} {con : Con} (h : ConR (env m) (Lw m) con) (hp : isPure (env m) f0 = true)
    (hs : ∀ args alts, spec args = some (true, alts) → args.all noOwn = true ∧ ∀ a, firstA alts = some a → a.2.2.length ≤ 2 ∧ Ans (Lw m) f0 args a) : ConR (env m) (Lw m) (addQ f0 spec con) := by
  intro f args nid K q hq r H hR
  unfold addQ at hq
  split at hq
  case isFalse => exact h f args nid K q hq r H hR
  rename_i hf
  subst hf
  simp only [isPure, Bool.and_eq_true, Bool.not_eq_true'] at hp
  obtain ⟨⟨⟨hg, hb⟩, hpr⟩, hh⟩ := hp
  have hpr : (env m).prim f = none := by simpa using hpr
  have main : ∀ (args' : List V) (alts : List Alt), spec args' = some (true, alts) → (if (args.map (mapV r)).all noOwn = true then some (args.map (mapV r)) else freezeAll H (args.map (mapV r))) = some args' → (args.all noOwn = true ∨ alts.all (fun a => (tops a.2.1).all noShareC) = true) → altW nid K q alts →
      ∃ v K' H', callE (env m) (Lw m) f (args.map (mapV r)) (r nid) H = some (mapV r v, H') ∧ Rn r K' H' ∧ Fm r H H' ∧ q v K' := by
    intro args' alts hsp hfr hsh hal
    obtain ⟨ha, hs'⟩ := hs _ _ hsp
    obtain ⟨a, h1, hn, K', h2, h3⟩ := altW_first hal
    obtain ⟨hl, v, K0, r0, H0, g1, g2, g3, g4, g5⟩ := hs' a h1
    have hcall : (Lw m).call f args' [] = some (mapV r0 v, H0) := by unfold Self.call; rw [g1]; rfl
    have hpc := hand_ren g2 hcall g3
    obtain ⟨k0, H', k1, k2, k3⟩ := placeAll_ren hR g4 hn h2
    refine ⟨shift nid a.2.1, K', H', ?_, k2, k3, h3⟩
    unfold callE
    simp only [hg, hpr, hb, hh, Bool.true_eq_false, Bool.false_eq_true, if_false, hfr, Option.bind_some, hpc]
    have hc : ((args.map (mapV r)).all noOwn || (tops a.2.1).all noShareC) = true := by
      rcases hsh with hsh | hsh
      · have : args.map (mapV r) = args := args_closed hsh
        rw [this, hsh]; rfl
      · rw [List.all_eq_true.1 hsh a (firstA_mem h1)]; simp
    rw [hc, decide_eq_true hl]
    simp only [Bool.and_self, if_true, k1, Option.map_some]
    rw [shift_ren k0 g5]
  split at hq
  · rename_i ha
    split at hq
    · rename_i p alts hsp
      split at hq
      · rename_i hpt
        subst hpt
        refine main args alts hsp ?_ (.inl ha) hq
        rw [args_closed ha, if_pos ha]
      · exact hq.elim
    · exact hq.elim
  · rename_i ha
    split at hq
    case isFalse => exact hq.elim
    rename_i hlen
    obtain ⟨args', h1, h2⟩ := freezeWs_ok hlen hq
    split at h2
    · rename_i p alts hsp
      split at h2
      case isFalse => exact h2.elim
      rename_i hpt
      subst hpt
      split at h2
      case isFalse => exact h2.elim
      rename_i hsh
      refine main args' alts hsp ?_ (.inr hsh) h2
      have hno : ¬ (args.map (mapV r)).all noOwn = true := by
        intro hc
        apply ha
        have : ∀ v : V, noOwn (mapV r v) = true → noOwn v = true := by
          intro v hv
          unfold noOwn at hv ⊢
          rw [tops_map, List.all_eq_true] at hv
          rw [List.all_eq_true]
          intro c hc
          have := hv _ (List.mem_map.2 ⟨c, hc, rfl⟩)
          cases c with
          | fn g cs =>
            simp only [mapV, mapVs_eq, noOwnC, List.all_map, List.all_eq_true] at this ⊢
            intro x hx
            have := this x hx
            cases x <;> simp_all [mapV]
          | _ => simp_all [mapV, noOwnC]
        rw [List.all_eq_true] at hc ⊢
        intro v hv
        exact this v (hc _ (List.mem_map.2 ⟨v, hv, rfl⟩))
      rw [if_neg hno]
      exact freezeAll_ren hR _ _ h1
    · exact h2.elim
/-- An answer that lies in no memory. -/
theorem Ans.lit {self : Self} {f : FuncId} {args : List V} {v : V} {b : Bool} (hv : litB v = true) (h : ∃ H', self.callX f args [] = some (.ret v, H')) : Ans self f args (b, v, []) := by
  obtain ⟨H', h⟩ := h
  have hc := litB_closed hv
  have hall : ∀ c ∈ tops v, (noOwnC c || flatOwn [] c) = true ∧ ownId c = none ∧ closedV c = true ∧ V.isLit c = true := by
    intro c hm
    have : V.isLit c = true := by
      cases v with
      | lit x => simp only [tops, V.cells, List.mem_singleton] at hm; subst hm; rfl
      | tup vs =>
        simp only [tops, List.mem_flatMap] at hm
        obtain ⟨w, hw, hm⟩ := hm
        have := List.all_eq_true.1 hv w hw
        cases w <;> simp [V.isLit] at this
        simp only [V.cells, List.mem_singleton] at hm; subst hm; rfl
      | _ => simp [litB] at hv
    cases c <;> simp_all [V.isLit, noOwnC, ownId, closedV]
  refine ⟨v, H', id, H', ?_, ⟨fun i j h => h, fun j => rfl, fun i b hb => ?_⟩, ?_, by simp, ?_⟩
  · rw [mapV_id]; exact h
  · show H'[i]? = some (mapB id b); rw [hb]
    congr 1
    cases b with
    | rows sz ver rs =>
      simp only [mapB, mapR]
      congr 1
      conv => lhs; rw [← List.map_id rs]
      exact List.map_congr_left fun l _ => (map_id l).symm
    | map es c =>
      simp only [mapB]
      congr 1
      conv => lhs; rw [← List.map_id es]
      exact List.map_congr_left fun e _ => by simp [mapV_id]
    | loop a b t c d e => simp only [mapB, map_id]
    | _ => rfl
  · unfold handV
    have e1 : (tops v).all (fun c => noOwnC c || flatOwn H' c) = true := List.all_eq_true.2 fun c hc => by
      have := (hall c hc).2.2.2
      cases c <;> simp_all [V.isLit, noOwnC]
    have e2 : (tops v).filterMap ownId = [] := List.filterMap_eq_nil_iff.2 fun c hc => (hall c hc).2.1
    rw [e1, e2]
    simp only [nodup, Bool.and_self, if_true]
    cases v with
    | lit x => rfl
    | tup vs =>
      have := (lits_ok (H' := H') (nid := 0) vs hv).1
      simp [tr, this]
    | _ => simp [litB] at hv
  · unfold okW
    refine List.all_eq_true.2 fun c hc => ?_
    have := (hall c hc).2.2.2
    cases c <;> simp_all [V.isLit, closedV]
end Go.Proofs.YtpmdlaojndejfaaGreatDoor.E
