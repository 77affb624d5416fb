/- Texts of the claim: Qx0, Qx1, Qx2, Qx3, Qx4, Qx5, Qx6, Qx7, Qx8, Qx9. -/
import Derived.Lib.RuneCount
import Derived.Lib.RuneBytes
import Derived.Lib.DecodeN
import Derived.Lib.FieldsP
import Derived.Lib.Join
import Derived.Lib.Bytealg
import Derived.Lib.Repeat
import Derived.Lib.OthersKept
import Derived.Lib.Strings
import Derived.Test.YtldhiaiaildnlaaDoorUHShelf
import Derived.Laws.StructEq
import Derived.Test.YtldhiaiaildnlaaDoorUWRepsOne
import Derived.Test.YtldhiaiaildnlaaDoorUWInv
import Derived.Test.YtldhiaiaildnlaaDoorUWGuard
import Derived.Test.YtldhiaiaildnlaaDoorUWMore
set_option maxHeartbeats 8000000
set_option maxRecDepth 100000
namespace Go.Proofs.YtldhiaiaildnlaaDoor.Q
open Go.RowKit Go.Proofs.YtldhiaiaildnlaaDoorW.PrintWords Go.Proofs.YtldhiaiaildnlaaDoorW.PrintLast Go.Proofs.YtldhiaiaildnlaaDoorW.PrintMore
attribute [local go_sem] yA yy yR yQ yh yg yz yx
set_option linter.unusedVariables false
set_option linter.unusedSimpArgs false
def errW : Option Int → Value
 | none => .nilIface
 | some c => .iface 0 (.int .i64 c)
theorem zx : errW none = .nilIface := rfl
theorem zw (c : Int) : errW (some c) = .iface 0 (.int .i64 c) := rfl
theorem info3 : (Tryd.prog.info? 3).map (fun i => (i.zero, i.size, i.bytes)) = some (some (.int .i64 0), 1, 8) := by kernel_rfl
theorem info5 : (Tryd.prog.info? 5).map (fun i => (i.zero, i.size, i.bytes)) = some (some (.int .u8 0), 1, 1) := by kernel_rfl
theorem info81 : (Tryd.prog.info? 81).map (fun i => (i.zero, i.size, i.bytes)) = some (some (.int .u64 0), 1, 8) := by kernel_rfl
-- the values' own types
end Go.Proofs.YtldhiaiaildnlaaDoor.Q
namespace Go.Proofs.YtldhiaiaildnlaaDoor.Q
open Go Go.RowKit Go.Proofs.YtldhiaiaildnlaaDoorW.PrintWords Go.Proofs.YtldhiaiaildnlaaDoorW.PrintLast Go.Proofs.YtldhiaiaildnlaaDoorW.PrintMore
theorem qB {p : Prop} (h : p := by repeat (first | (with_reducible first | exact HB.out | apply yd | apply z6 | apply zT) | exact HB.out)) : p := h
theorem qC {p q : Prop} (x : q) (h : q → p := by intro x_; repeat (first | (with_reducible first | exact HB.out | apply yd | apply z6 | apply zT | refine zI ?_ x_) | exact HB.out)) : p := h x
theorem qD {p q r : Prop} (x : q) (y : r) (h : q → r → p := by intro x_ y_; repeat (first | (with_reducible first | exact HB.out | apply yd | apply z6 | apply zT | refine zI ?_ x_ | refine zI ?_ y_) | exact HB.out)) : p := h x y
theorem qK {p q : Prop} (x : q) (h : q → p := by intro x_; (with_reducible repeat (first | refine zc ?_ _ | refine ze ?_ | refine zd ?_ _)); exact x_) : p := h x
theorem qV {p q : Prop} (x : q) (h : q → p := by intro x_; (with_reducible repeat (first | apply Kd.zr | apply Kd.zq | apply Kd.zu)); exact x_) : p := h x
theorem qR {p q : Prop} (x : q) (h : q → p := by intro x_; (with_reducible repeat (first | apply Kd.zS | apply Kd.zR | apply Kd.zY)); exact x_) : p := h x
theorem qM {p : Prop} (h : p := by (try simp only [List.map_toArray, List.map_cons, List.map_nil]); first | done | rfl | (simp only [List.length_drop, List.length_take]; rfl)) : p := h
theorem qE {p : Prop} (h : p := by first | rfl | (simp [zx, zw] <;> rfl) | (simp [*, zx, zw] <;> rfl)) : p := h
theorem qA {p : Prop} (h : p := by first | (with_reducible assumption) | assumption) : p := h
theorem qI {p : Prop} (h : p := by first | rfl | (simp; done) | (simp [*]; done)) : p := h
theorem qN {w0 w w1 : World} {g : Nat} {o : Obj} (x : w0.heap[g]? = some o) (hb : Below w.heap.size w w1) (h : w0.heap[g]? = some o → w.heap[g]? = some o := by intro x_; (with_reducible repeat (first | refine zc ?_ _ | refine ze ?_ | refine zd ?_ _)); exact x_) : w1.heap[g]? = some o := yn (h x) hb
theorem qL {w0 w : World} {g : Nat} {o : Obj} (x : w0.heap[g]? = some o) (h : w0.heap[g]? = some o → w.heap[g]? = some o := by intro x_; (with_reducible repeat (first | refine zc ?_ _ | refine ze ?_ | refine zd ?_ _)); exact x_) : g < w.heap.size := zbb (h x)
theorem qF {w0 w : World} {g : Nat} {o : Obj} (x : w0.heap[g]? = some o) (k : Nat) (hk : w.heap.size ≤ k) (h : w0.heap[g]? = some o → w.heap[g]? = some o := by intro x_; (with_reducible repeat (first | refine zc ?_ _ | refine ze ?_ | refine zd ?_ _)); exact x_) : k ≠ g := Kd.freshB (h x) k hk
theorem qG {p q : Prop} (x : q) (h : q → p := by intro x_; repeat (first | exact x_ | (with_reducible refine Kd.za5 ?_ _) | (with_reducible refine Kd.za4 ?_ _) | (with_reducible refine Kd.zbJ ?_))) : p := h x
theorem qZ : (∀ (a : Act) (d : Tmp) (v : Value), Act.put a (some d) v = { a with tmps := a.tmps.setIfInBounds d v }) ∧ (∀ (a : Act) (v : Value), Act.put a none v = a) ∧ (∀ (l : List Value) (i : Nat) (x : Value), l.toArray.setIfInBounds i x = (l.set i x).toArray) ∧ (∀ (x y : Value) (l : List Value), (x :: l).set 0 y = y :: l) ∧ (∀ (x y : Value) (l : List Value) (n : Nat), (x :: l).set (n + 1) y = x :: l.set n y) ∧ (∀ n : Int, IntKind.i64.wrap n = Go.RowKit.wrap64 n) ∧ (∀ n : Int, IntKind.i32.wrap n = Go.RowKit.wrap32 n) :=
  ⟨fun _ _ _ => rfl, fun _ _ => rfl, fun _ _ _ => List.setIfInBounds_toArray .., fun _ _ _ => rfl, fun _ _ _ _ => rfl, xb, xF⟩
section
variable {α : Type} {d : Kd α} {e base : Nat} {ok : Nat → Prop} {w w0 W w1 : World} {g g2 : Nat} {o : Obj} {v : Value} {xs : List α}
theorem qU (x : za (Kd.V d e w0 base ok v xs)) (hb : Below W.heap.size W w1) (h : Kd.V d e w0 base ok v xs → Kd.V d e W base ok v xs := by intro x_; (with_reducible repeat (first | apply Kd.zr | apply Kd.zq | apply Kd.zu)); exact x_) : za (Kd.V d e w1 base ok v xs) := ⟨Kd.xg (h x.out) hb⟩
theorem qY (x : za (Kd.V d e w0 base ok v xs)) (hg : g = W.heap.size) (hb : Below W.heap.size W w1) (h : Kd.V d e w0 base ok v xs → Kd.V d e W base ok v xs := by intro x_; (with_reducible repeat (first | apply Kd.zr | apply Kd.zq | apply Kd.zu)); exact x_) : za (Kd.V d e w1 base (fun k => ok k ∧ k ≠ g) v xs) := ⟨Kd.xg (Kd.V_elderB (h x.out) g (Nat.le_of_eq hg.symm)) hb⟩
theorem qS (hb : Below W.heap.size W w1) (h : Below w.heap.size w W := by repeat (first | (with_reducible first | exact HB.out | apply yd | apply z6 | apply zT) | exact HB.out)) : za (Below w.heap.size w w1) := ⟨zQ h hb⟩
theorem qS1 {q : Prop} (x : za q) (hb : Below W.heap.size W w1) (h : q → Below w.heap.size w W := by intro x_; repeat (first | (with_reducible first | exact HB.out | apply yd | apply z6 | apply zT | refine zI ?_ x_) | exact HB.out)) : za (Below w.heap.size w w1) := ⟨zQ (h x.out) hb⟩
theorem qM1 (x : za (w0.heap[g]? = some o)) (hb : Below w.heap.size w w1) (h : w0.heap[g]? = some o → w.heap[g]? = some o := by intro x_; (with_reducible repeat (first | refine zc ?_ _ | refine ze ?_ | refine zd ?_ _)); exact x_) : za (w1.heap[g]? = some o) := ⟨yn (h x.out) hb⟩
theorem qJ (hg : g2 = w.heap.size) (x : za (w0.heap[g]? = some o)) (h : w0.heap[g]? = some o → w.heap[g]? = some o := by intro x_; (with_reducible repeat (first | refine zc ?_ _ | refine ze ?_ | refine zd ?_ _)); exact x_) : za (g ≠ g2) := ⟨by rw [hg]; exact Nat.ne_of_lt (zbb (h x.out))⟩
theorem qJ1 (hg : g2 = w.heap.size) (x : za (w0.heap[g]? = some o)) (h : w0.heap[g]? = some o → w.heap[g]? = some o := by intro x_; (with_reducible repeat (first | refine zc ?_ _ | refine ze ?_ | refine zd ?_ _)); exact x_) : za (g2 ≠ g) := ⟨by rw [hg]; exact Nat.ne_of_gt (zbb (h x.out))⟩
end
set_option linter.unusedVariables false
theorem qE1 {P : Program} {ops : Array Oper} {rest : List Oper} {o : Oper} {a : Act} {Q : Exit → Act → World → Prop} {W : World} {N : Tmp} {cs : Array Value} {t : TypeId} (_hd : o.dst = some N := by rfl) (hgd : o.guard = none := by rfl)
    (hrun : (execOp a.eval o).run P W = .ok (.value (.pointer (some ⟨W.heap.size, 0, none⟩))) (W.alloc (.cells cs t (0, 0))) := by first | (go_simp; done) | (go_simp; rfl))
    (h : ∀ g, g = W.heap.size → ∀ w1, w1.heap[g]? = some (.cells cs t (0, 0)) → Below W.heap.size W w1 → wpList P ops Q rest (a.put o.dst (.pointer (some ⟨g, 0, none⟩))) w1) : wpList P ops Q (o :: rest) a W := zeW hgd _hd hrun h
theorem qT {α : Type} {d : Kd α} {e base : Nat} {ok : Nat → Prop} {w W w1 : World} {v : Value} {xs : List α} (x : Kd.V d e w1 W.heap.size ok v xs) (h : Below w.heap.size w W := by repeat (first | (with_reducible first | exact HB.out | apply yd | apply z6 | apply zT) | exact HB.out)) : za (Kd.V d e w1 w.heap.size (fun _ => True) v xs) := ⟨Kd.zB (Kd.zk x (fun _ _ => trivial)) (zb h)⟩
theorem qW {w W : World} {g : Nat} (hg : g = W.heap.size) (h : Below w.heap.size w W := by repeat (first | (with_reducible first | exact HB.out | apply yd | apply z6 | apply zT) | exact HB.out)) : w.heap.size ≤ g := by rw [hg]; exact zb h
end Go.Proofs.YtldhiaiaildnlaaDoor.Q
namespace Go.Proofs.YtldhiaiaildnlaaDoor.Q
open Go.RowKit Go.Proofs.YtldhiaiaildnlaaDoorW.PrintWords Go.Proofs.YtldhiaiaildnlaaDoorW.PrintLast Go.Proofs.YtldhiaiaildnlaaDoorW.PrintMore
attribute [local go_sem] yA yy yR yQ yh yg yz yx
set_option linter.unusedVariables false
set_option linter.unusedSimpArgs false
def xe.f (a0 : ByteArray) (a1 : ByteArray) : Option (Bool) := if (a0.size : Int) > 300 then (some true) else (some (decide ((a1.size : Int) > 300)))
theorem xe.calls (a0 : ByteArray) (a1 : ByteArray) (r : Bool) (w : World) (h : xe.f a0 a1 = some r) :
  Calls Tryd.prog 12 #[.string a0, .string a1] w fun e w' => e = .returned (.bool r) ∧ Drawn0 w w' := by
 have H : (if (a0.size : Int) > 300 then (some true) else (some (decide ((a1.size : Int) > 300)))) = some r := h; clear h; by_cases c3 : (a0.size : Int) > 300
 ·rw [if_pos c3] at H; have c3b0 : decide (300 < (a0.size : Int)) = true := decide_eq_true c3; (have c3b1 : decide (300 < a0.size) = true := decide_eq_true (by omega)); clear c3; obtain rfl := Option.some.inj H; (go_enter Tryd.func12, Tryd.ntmps12); (go_wp2); (go_ret); (exact ⟨qI, by repeat (first | exact Drawn0.refl _ | apply Drawn0.step)⟩)
 ·rw [if_neg c3] at H; have c3b0 : decide (300 < (a0.size : Int)) = false := decide_eq_false c3; (have c3b1 : decide (300 < a0.size) = false := decide_eq_false (by omega)); clear c3; obtain rfl := Option.some.inj H; (go_enter Tryd.func12, Tryd.ntmps12); (go_wp2); (go_ret); (exact ⟨qI, by repeat (first | exact Drawn0.refl _ | apply Drawn0.step)⟩)
-- HAND: function 36, by this session's own text
def yk.f (a0 : ByteArray) : Option Nat := if a0.toList = ([104, 97, 108, 102] : List UInt8) then some 67 else if a0.toList = ([101, 118, 101, 110] : List UInt8) then some 68 else if a0.toList = ([102, 108, 111, 111, 114] : List UInt8) then some 69 else if a0.toList = ([99, 101, 105, 108, 105, 110, 103] : List UInt8) then some 70 else if a0.toList = ([99, 117, 116] : List UInt8) then some 71 else none
def waysV : Option Nat → Value
 | none => .nilFunc
 | some g => .func (.func g) #[] #[]
theorem yk.all (a0 : ByteArray) (w : World) : Calls Tryd.prog 36 #[.string a0] w fun e w' => e = .returned (waysV (yk.f a0)) ∧ w = w' := by
 unfold yk.f
 by_cases h1 : a0.toList = ([104, 97, 108, 102] : List UInt8)
 ·rw [if_pos h1]
  have g1 : (a0.toList == ([104, 97, 108, 102] : List UInt8)) = true := beq_iff_eq.mpr h1
  clear h1
  go_enter Tryd.func36, Tryd.ntmps36
  go_wp2
  go_ret
  exact ⟨rfl, rfl⟩
 rw [if_neg h1]
 have g1 : (a0.toList == ([104, 97, 108, 102] : List UInt8)) = false := beq_eq_false_iff_ne.mpr h1
 clear h1
 by_cases h2 : a0.toList = ([101, 118, 101, 110] : List UInt8)
 ·rw [if_pos h2]
  have g2 : (a0.toList == ([101, 118, 101, 110] : List UInt8)) = true := beq_iff_eq.mpr h2
  clear h2
  go_enter Tryd.func36, Tryd.ntmps36
  go_wp2
  go_ret
  exact ⟨rfl, rfl⟩
 rw [if_neg h2]
 have g2 : (a0.toList == ([101, 118, 101, 110] : List UInt8)) = false := beq_eq_false_iff_ne.mpr h2
 clear h2
 by_cases h3 : a0.toList = ([102, 108, 111, 111, 114] : List UInt8)
 ·rw [if_pos h3]
  have g3 : (a0.toList == ([102, 108, 111, 111, 114] : List UInt8)) = true := beq_iff_eq.mpr h3
  clear h3
  go_enter Tryd.func36, Tryd.ntmps36
  go_wp2
  go_ret
  exact ⟨rfl, rfl⟩
 rw [if_neg h3]
 have g3 : (a0.toList == ([102, 108, 111, 111, 114] : List UInt8)) = false := beq_eq_false_iff_ne.mpr h3
 clear h3
 by_cases h4 : a0.toList = ([99, 101, 105, 108, 105, 110, 103] : List UInt8)
 ·rw [if_pos h4]
  have g4 : (a0.toList == ([99, 101, 105, 108, 105, 110, 103] : List UInt8)) = true := beq_iff_eq.mpr h4
  clear h4
  go_enter Tryd.func36, Tryd.ntmps36
  go_wp2
  go_ret
  exact ⟨rfl, rfl⟩
 rw [if_neg h4]
 have g4 : (a0.toList == ([99, 101, 105, 108, 105, 110, 103] : List UInt8)) = false := beq_eq_false_iff_ne.mpr h4
 clear h4
 by_cases h5 : a0.toList = ([99, 117, 116] : List UInt8)
 ·rw [if_pos h5]
  have g5 : (a0.toList == ([99, 117, 116] : List UInt8)) = true := beq_iff_eq.mpr h5
  clear h5
  go_enter Tryd.func36, Tryd.ntmps36
  go_wp2
  go_ret
  exact ⟨rfl, rfl⟩
 rw [if_neg h5]
 have g5 : (a0.toList == ([99, 117, 116] : List UInt8)) = false := beq_eq_false_iff_ne.mpr h5
 clear h5
 go_enter Tryd.func36, Tryd.ntmps36
 go_wp2
 go_ret
 exact ⟨rfl, rfl⟩
theorem yk.same (a0 : ByteArray) (r : Nat) (w : World) (h : yk.f a0 = some r) : Calls Tryd.prog 36 #[.string a0] w fun e w' => e = .returned (.func (.func r) #[] #[]) ∧ w = w' := by
 have := yk.all a0 w
 rw [h] at this; exact this
theorem yk.calls (a0 : ByteArray) (r : Nat) (w : World) (h : yk.f a0 = some r) :
  Calls Tryd.prog 36 #[.string a0] w fun e w' => e = .returned (.func (.func r) #[] #[]) ∧ Below w.heap.size w w' := by
 refine (yk.same a0 r w h).mono ?_
 rintro e w' ⟨he, rfl⟩
 exact ⟨he, Below.refl _ _⟩
def zV.l0 : Nat → List Int → Option (List Int)
 | 0, _ => none
 | k + 1, x0 => if (x0.length : Int) > 0 then (if 0 ≤ (wrap64 ((x0.length : Int) - 1)) then (if (wrap64 ((x0.length : Int) - 1)) < (x0.length : Int) then (if (rd x0 (wrap64 ((x0.length : Int) - 1))) = 0 then (if (wrap64 ((x0.length : Int) - 1)) ≤ (x0.length : Int) then (zV.l0 k (x0.take ((wrap64 ((x0.length : Int) - 1)) : Int).toNat)) else (none)) else (some x0)) else (none)) else (none)) else (some x0)
def zV.f (k : Nat) (l0 : List Int) : Option (List Int) := zV.l0 k l0
theorem zV.calls (k : Nat) (P0_ : Nat → Prop) (A0 : Option Addr) (c0 : Nat) (l0 : List Int) (r : List Int) (w : World) (hs0 : Kd.V (Kd.int .u64) 81 w w.heap.size (fun k_ => P0_ k_) (.slice A0 l0.length c0) l0) (h : zV.f k l0 = some r) :
  Calls Tryd.prog 75 #[.slice A0 l0.length c0] w fun e w' => ∃ v0_ : Value, e = .returned (v0_) ∧ Kd.V (Kd.int .u64) 81 w' w.heap.size (fun k_ => (P0_ k_ ∨ w.heap.size ≤ k_)) v0_ r ∧ Below w.heap.size w w' := by
 (have HO0 := za.mk (show Kd.V (Kd.int .u64) 81 w w.heap.size (fun k_ => (P0_ k_ ∨ w.heap.size ≤ k_)) (.slice A0 l0.length c0) l0 from Kd.zk hs0 (fun k_ hk => .inl hk))); have HB := za.mk (Below.refl w.heap.size w); have H : (zV.l0 k l0) = some r := h; clear h; have H' := za.mk H; clear H; (go_enter Tryd.func75, Tryd.ntmps75); (go_wp2); (go_loopg [0] k (fun kq v0 w' => ∃ (x0_1 : List Int), za (zV.l0 kq x0_1 = some r) ∧ za (kq ≤ k) ∧ za (Kd.V (Kd.int .u64) 81 w' w.heap.size (fun k_ => (P0_ k_ ∨ w.heap.size ≤ k_)) v0 x0_1) ∧ za (Below w.heap.size w w')))
 case atStart => exact ⟨(l0), H', ⟨Nat.le_refl _⟩, ⟨by (with_reducible repeat (first | apply Kd.zr | apply Kd.zq | apply Kd.zu)); exact HO0.out⟩, ⟨qB⟩⟩
 case round =>
  clear H'; obtain ⟨x0_1, HA, HK1, HO_0, HB⟩ := hrel
  cases gk with
  | zero => exact absurd HA.out (by simp [zV.l0])
  | succ k1 =>
   have H := HA.out; clear HA; simp only [zV.l0] at H; by_cases c2 : (x0_1.length : Int) > 0
   ·rw [if_pos c2] at H; have c2b0 : decide (0 < (x0_1.length : Int)) = true := decide_eq_true c2; (have c2b1 : decide (0 < x0_1.length) = true := decide_eq_true (by omega)); clear c2; obtain ⟨ji3, hji3⟩ : ∃ j_ : Int, (wrap64 ((x0_1.length : Int) - 1)) = j_ := ⟨_, rfl⟩; (replace H : (if 0 ≤ (ji3) then (if (ji3) < (x0_1.length : Int) then (if (rd x0_1 (ji3)) = 0 then (if (ji3) ≤ (x0_1.length : Int) then (zV.l0 k1 (x0_1.take ((ji3) : Int).toNat)) else (none)) else (some x0_1)) else (none)) else (none)) = some r := by first | (rw [hji3] at H; exact H) | (simp only [hji3] at H ⊢; exact H)); have hji3w : (IntKind.i64.wrap ((x0_1.length : Int) - 1)) = ji3 := (xb _).trans hji3; by_cases c4 : 0 ≤ (ji3)
    ·rw [if_pos c4] at H; have c4b0 : decide (0 ≤ (ji3)) = true := decide_eq_true c4; clear c4; by_cases c5 : (ji3) < (x0_1.length : Int)
     ·rw [if_pos c5] at H; have c5b0 : decide ((ji3) < (x0_1.length : Int)) = true := decide_eq_true c5; clear c5; by_cases c6 : (rd x0_1 (ji3)) = 0
      ·rw [if_pos c6] at H; have c6b0 : ((rd x0_1 (ji3)) == 0) = true := beq_iff_eq.mpr c6; have c6b1 : ((rd x0_1 (ji3)) != 0) = false := bne_eq_false_iff_eq.mpr c6; clear c6; (have c7b0 := eq_true (of_decide_eq_true qA : 0 ≤ (ji3))); by_cases c8 : (ji3) ≤ (x0_1.length : Int)
       ·rw [if_pos c8] at H; have c8b0 := eq_true c8; have c8b1 : decide ((ji3) ≤ (x0_1.length : Int)) = true := decide_eq_true c8; clear c8; obtain ⟨y102, hy102⟩ : ∃ y_ : List Int, y_ = (x0_1.take ((ji3) : Int).toNat) := ⟨_, rfl⟩; (replace H : (zV.l0 k1 y102) = some r := by first | (rw [hy102]; with_reducible exact H) | (have H2_ := (Option.bind_some _ _).symm.trans H; rw [hy102]; with_reducible exact H2_) | (have H2_ := (Option.bind_some _ _).symm.trans H; with_reducible exact H2_) | with_reducible exact H | (rw [hy102]; exact H) | exact H); have Ny102 := za.mk hy102; clear hy102; have H' := za.mk H; clear H; obtain ⟨Ao9, co9, eo9⟩ := Kd.zA HO_0.out; subst eo9; (have p101 : 0 ≤ ((ji3) : Int) := of_decide_eq_true qA); (have q101 : (ji3) < (x0_1.length : Int) := of_decide_eq_true qA); (obtain ⟨ad101, e101, hx101_0⟩ := Kd.yp (Kd.zm HO_0.out).2.2 (ji3) p101 q101); cases e101; replace p101 := eq_true p101; replace q101 := eq_true q101; (have q10 : ((ji3) : Int) ≤ ((x0_1.length : Int) : Int) := of_decide_eq_true qA); obtain ⟨i010, hi010, _, hsz10, _⟩ := info_parts info81; have hroom10 : x0_1.length ≤ co9 := (Kd.zm HO_0.out).2.1; have hC10 : Kd.F (Kd.int .u64) _ _ (some ad101) x0_1.length x0_1 := (Kd.V_at (base := w.heap.size) HO_0.out).2.2; (have hcut10 := zdS (P := Tryd.prog) 41 81 .i64 Tryd.underlying41 hi010 (some ad101) x0_1.length co9 (ji3) (of_decide_eq_true qA) q10 hroom10); (have hr10 := Kd.F_take (m := ((ji3) : Int).toNat) hC10 (by omega)); (have hy10 : y102.length = ((ji3) : Int).toNat := (by rw [Ny102.out, List.length_take]; omega)); rw [← Ny102.out] at hr10; rw [← hy10] at hcut10; (have HO106 := za.mk (show Kd.V (Kd.int .u64) 81 _ w.heap.size _ (.slice (some ad101) y102.length co9) y102 from Kd.V_mk (by omega) hr10)); (have HC106 := za.mk (show y102.length ≤ co9 from by omega)); clear hr10 hC10 hroom10 hi010 hsz10; have KY10 := za.mk hy10; clear hy10; replace q10 := eq_true q10; (go_wp2); (go_roundg k1)
        case measure => have := HK1.out; omega
        case rel => exact ⟨(y102), H', ⟨by have := HK1.out; omega⟩, ⟨by (with_reducible repeat (first | apply Kd.zr | apply Kd.zq | apply Kd.zu)); exact HO106.out⟩, ⟨qB⟩⟩
       ·rw [if_neg c8] at H; (exact absurd H (by simp))
      ·rw [if_neg c6] at H; have c6b0 : ((rd x0_1 (ji3)) == 0) = false := beq_eq_false_iff_ne.mpr c6; have c6b1 : ((rd x0_1 (ji3)) != 0) = true := bne_iff_ne.mpr c6; obtain rfl := Option.some.inj H; obtain ⟨Ao11, co11, eo11⟩ := Kd.zA HO_0.out; subst eo11; (have p101 : 0 ≤ ((ji3) : Int) := of_decide_eq_true qA); (have q101 : (ji3) < (x0_1.length : Int) := of_decide_eq_true qA); (obtain ⟨ad101, e101, hx101_0⟩ := Kd.yp (Kd.zm HO_0.out).2.2 (ji3) p101 q101); cases e101; replace p101 := eq_true p101; replace q101 := eq_true q101; (go_wp2); (go_ret); (exact ⟨_, by first | rfl | (simp [zx, zw] <;> rfl) | (simp only [← hji3]; first | rfl | (simp [zx, zw] <;> rfl)) | (simp [*, zx, zw] <;> rfl), by (with_reducible repeat (first | apply Kd.zr | apply Kd.zq | apply Kd.zu)); exact HO_0.out, qB⟩)
     ·rw [if_neg c5] at H; (exact absurd H (by simp))
    ·rw [if_neg c4] at H; (exact absurd H (by simp))
   ·rw [if_neg c2] at H; have c2b0 : decide (0 < (x0_1.length : Int)) = false := decide_eq_false c2; (have c2b1 : decide (0 < x0_1.length) = false := decide_eq_false (by omega)); clear c2; obtain rfl := Option.some.inj H; obtain ⟨Ao12, co12, eo12⟩ := Kd.zA HO_0.out; subst eo12; (go_wp2); (go_ret); (exact ⟨_, by first | rfl | (simp [zx, zw] <;> rfl) | (simp [*, zx, zw] <;> rfl), by (with_reducible repeat (first | apply Kd.zr | apply Kd.zq | apply Kd.zu)); exact HO_0.out, qB⟩)
-- HAND: function 72, by this session's own text
def QAt (bq g : Nat) (w : World) : Prop := w.heap[bq]? = some (.cells #[.func (.func g) #[] #[]] 62 (0, 0))
theorem QAt.below {bq g : Nat} {w w' : World} (h : QAt bq g w) (hb : Below w.heap.size w w') : QAt bq g w' := (hb.block bq (Array.getElem?_eq_some_iff.1 h).1).trans h
theorem QAt.cell {bq g : Nat} {w : World} (h : QAt bq g w) : w.cell? ⟨bq, 0, none⟩ = some (.func (.func g) #[] #[]) := (zf h 0).trans rfl
def bytesof.f (a0 : ByteArray) : Option (List Int) := if a0.size ≤ 9223372036854775807 then some (bytesOf a0) else none
theorem bytes_V (W : World) (s : ByteArray) (hs : s.size ≤ 9223372036854775807) : Kd.V (Kd.int .u8) 5 (Lib.bytesWorld W 5 s) W.heap.size (fun k_ => W.heap.size ≤ k_) (.slice (some ⟨W.heap.size, 0, none⟩) s.size (grownCap W s.size 0 5)) (bytesOf s) := by
 have hl := zaX s
 have hc : s.size ≤ grownCap W s.size 0 5 := grownCap_ge W s.size 0 _
 refine ⟨some ⟨W.heap.size, 0, none⟩, grownCap W s.size 0 5, by rw [hl], by rw [hl]; exact hc, fun W' hW' => ?_⟩
 have e := (hW' W.heap.size (Nat.le_refl _) (by rw [Lib.bytesWorld_size]; omega)).trans (Lib.bytesWorld_at_new W 5 s)
 refine Kd.zd6 (d := (0 : Int)) (h1 := fun _ => rfl) ?_
 rw [hl]
 refine ⟨hl, hs, fun _ => ⟨_, rfl, fun j hj => ?_⟩⟩
 have := (zdo W 5 s hs).2.2 (by omega)
 obtain ⟨ad, e1, e2⟩ := this
 cases e1
 have h3 := e2 j hj
 rw [xf] at h3 ⊢
 rw [← h3]
 simp only [World.cell?, e, Lib.bytesWorld_at_new]
section
variable {P : Program} {o : Oper} {rest : List Oper} {ops : Array Oper} {a : Act} {Q : Exit → Act → World → Prop}
theorem zdX {W : World} (hgd : o.guard = none) (s : ByteArray) (r : List Int) (hf : bytesof.f s = some r)
  (hrun : (execOp a.eval o).run P W = .ok (.value (.slice (some ⟨W.heap.size, 0, none⟩) s.size (grownCap W s.size 0 5))) (Lib.bytesWorld W 5 s))
  (h : ∀ v1 w1, Kd.V (Kd.int .u8) 5 w1 W.heap.size (fun k_ => W.heap.size ≤ k_) v1 r → Below W.heap.size W w1 → wpList P ops Q rest (a.put o.dst v1) w1) : wpList P ops Q (o :: rest) a W := by
 unfold bytesof.f at hf
 split at hf
 ·rename_i hs
  obtain rfl := Option.some.inj hf
  exact Kd.zbB hgd hrun (h _ _ (bytes_V W s hs) (zdp (Below.refl _ _) (Nat.le_refl _) _ _))
 ·cases hf
end
mutual
def zE.l0 : Nat → ByteArray → List Int → Option (List Int)
 | 0, _, _ => none
 | k + 1, x0, x3 => if (x0.size : Int) > 0 then (if 0 ≤ (mx 0 (wrap64 ((x0.size : Int) - 9))) then (if (mx 0 (wrap64 ((x0.size : Int) - 9))) ≤ (x0.size : Int) then ((bytesof.f (x0.extract ((mx 0 (wrap64 ((x0.size : Int) - 9))) : Int).toNat x0.size)).bind fun t110 => (zE.l1 k x0 x3 (mx 0 (wrap64 ((x0.size : Int) - 9))) 0 t110 (t110.length : Int) 0)) else (none)) else (none)) else ((zV.f k x3).bind fun t107 => (some t107))
def zE.l1 : Nat → ByteArray → List Int → Int → Int → List Int → Int → Int → Option (List Int)
 | 0, _, _, _, _, _, _, _ => none
 | k + 1, x0, x3, x4, x5, x18, x19, x20 => if x20 < x19 then (if 0 ≤ x20 then (if x20 < (x18.length : Int) then (zE.l1 k x0 x3 x4 (IntKind.u64.wrap ((IntKind.u64.wrap (10 * x5)) + (((rd x18 x20) - 48) % 256))) x18 x19 (wrap64 (x20 + 1))) else (none)) else (none)) else (if x3.length < 17592186044416 then (if 0 ≤ x4 then (if x4 ≤ (x0.size : Int) then (zE.l0 k (x0.extract 0 (x4 : Int).toNat) (x3 ++ [x5])) else (none)) else (none)) else (none))
end
def zE.f (k : Nat) (a0 : ByteArray) : Option (List Int) := zE.l0 k a0 ([] : List Int)
def zE.T10 : Bool × List (List Nat × List Nat) := (true, [([], []), ([], []), ([1], [1]), ([0, 2], [0, 2]), ([], []), ([], []), ([4, 5], [4, 5]), ([3, 3, 0, 1, 2, 3], [0, 3]), ([6, 7, 0, 1, 2, 3, 4, 5, 6, 7], [4, 6])])
def zE.B10 : List Nat := [0, 0, 2, 7, 0, 0, 48, 15, 255]
theorem zE.tab10 : rtab .any (opsOf Tryd.f72 10) = zE.T10 := by kernel_rfl
theorem zE.bits10 : waitsOk zE.T10.2 zE.B10 = true := by kernel_rfl
theorem zE.calls (k : Nat) (a0 : ByteArray) (r : List Int) (w : World) (h : zE.f k a0 = some r) :
  Calls Tryd.prog 72 #[.string a0] w fun e w' => ∃ v0_ : Value, e = .returned (v0_) ∧ Kd.V (Kd.int .u64) 81 w' w.heap.size (fun k_ => (w.heap.size ≤ k_)) v0_ r ∧ Below w.heap.size w w' := by
 have HB := za.mk (Below.refl w.heap.size w); have H : (zE.l0 k a0 ([] : List Int)) = some r := h; clear h; have H' := za.mk H; clear H; (go_enter Tryd.func72, Tryd.ntmps72); (go_wp2); (go_loopg [0, 3] k (fun kq v0 v3 w' => ∃ (x0_1 : ByteArray) (x3_1 : List Int), v0 = .string x0_1 ∧ za (zE.l0 kq x0_1 x3_1 = some r) ∧ za (kq ≤ k) ∧ za (Kd.R (Kd.int .u64) 81 w' w.heap.size (fun k_ => (w.heap.size ≤ k_)) v3 x3_1) ∧ za (Below w.heap.size w w')))
 case atStart => exact ⟨(a0), (([] : List Int)), qI, H', ⟨Nat.le_refl _⟩, ⟨by first | exact Kd.zaA _ _ _ _ _ | exact Kd.zdv _ _ _ _ _ | exact Kd.zaf _ _ _ _ _ | exact Kd.zdu _ _ _ _ _ | exact Kd.zaA _ _ _ _ _⟩, ⟨qB⟩⟩
 case round =>
  clear H'; obtain ⟨x0_1, x3_1, rfl, HA, HK1, HO_3, HB⟩ := hrel
  cases gk with
  | zero => exact absurd HA.out (by simp [zE.l0])
  | succ k1 =>
   have H := HA.out; clear HA; simp only [zE.l0] at H; by_cases c2 : (x0_1.size : Int) > 0
   ·rw [if_pos c2] at H; have c2b0 : decide (0 < (x0_1.size : Int)) = true := decide_eq_true c2; (have c2b1 : decide (0 < x0_1.size) = true := decide_eq_true (by omega)); clear c2; obtain ⟨ji3, hji3⟩ : ∃ j_ : Int, (mx 0 (wrap64 ((x0_1.size : Int) - 9))) = j_ := ⟨_, rfl⟩; (replace H : (if 0 ≤ (ji3) then (if (ji3) ≤ (x0_1.size : Int) then ((bytesof.f (x0_1.extract ((ji3) : Int).toNat x0_1.size)).bind fun t110 => (zE.l1 k1 x0_1 x3_1 ji3 0 t110 (t110.length : Int) 0)) else (none)) else (none)) = some r := by first | (rw [hji3] at H; exact H) | (simp only [hji3] at H ⊢; exact H)); have hji3_ : (if 0 < (wrap64 ((x0_1.size : Int) - 9)) then (wrap64 ((x0_1.size : Int) - 9)) else 0) = ji3 := hji3; by_cases c4 : 0 ≤ (ji3)
    ·rw [if_pos c4] at H; have c4b0 := eq_true c4; have c4b1 : decide (0 ≤ (ji3)) = true := decide_eq_true c4; clear c4; by_cases c5 : (ji3) ≤ (x0_1.size : Int)
     ·rw [if_pos c5] at H; have c5b0 := eq_true c5; have c5b1 : decide ((ji3) ≤ (x0_1.size : Int)) = true := decide_eq_true c5; clear c5; replace H := Option.bind_eq_some_iff.mp H; obtain ⟨t110, A60, H⟩ := H; replace H : (zE.l1 k1 x0_1 x3_1 ji3 0 t110 (t110.length : Int) 0) = some r := H; have A6 := za.mk A60; clear A60; have H' := za.mk H; clear H; (go_wp2_with (first | ((with_reducible refine zv (N := 18) rfl ?_); refine zdX rfl (x0_1.extract ((ji3) : Int).toNat x0_1.size) t110 A6.out ?hr ?_; (case hr => (have kb_ := fun W => zdb (P := Tryd.prog) 9 91 5 Tryd.underlying9 Tryd.underlying91 Tryd.underlying5 (x0_1.extract ((ji3) : Int).toNat x0_1.size) W); first | (go_simp; done) | (go_simp; rfl)); intro v111 w7 ho0 hb; have HO112 := za.mk (Kd.zB (Kd.zk (ok' := fun k_ => (w.heap.size ≤ k_) ∧ some k_ ≠ (u3 : Value).ownBlock) ho0 (fun k_ hk_ => ⟨(Nat.le_trans (zb qB) hk_), (Kd.fresh' (Kd.R_lt (qR HO_3.out)) k_ hk_)⟩)) (zb qB)); replace HO_3 := za.mk (Kd.yj (qR HO_3.out) hb); replace HB := qS hb; (try clear hb); (try clear hb2); (try clear hk); (try clear hi); (try clear ho0); obtain ⟨Ao8, co8, eo8⟩ := Kd.zA HO112.out; subst eo8))); (go_loopg [5, 20] k1 (fun kq v5 v20 w' => ∃ (x5_2 : Int) (x20_2 : Int), v5 = .int .u64 x5_2 ∧ v20 = .int .i64 x20_2 ∧ za (zE.l1 kq x0_1 x3_1 ji3 x5_2 t110 (t110.length : Int) x20_2 = some r) ∧ za (kq ≤ k1) ∧ za (Kd.R (Kd.int .u64) 81 w' w.heap.size (fun k_ => (w.heap.size ≤ k_)) u3 x3_1) ∧ za (Kd.V (Kd.int .u8) 5 w' w.heap.size (fun k_ => (w.heap.size ≤ k_) ∧ some k_ ≠ (u3 : Value).ownBlock) (.slice Ao8 t110.length co8) t110) ∧ za (Below w.heap.size w w')))
      case atStart => exact ⟨(0), (0), qI, qI, H', ⟨Nat.le_refl _⟩, ⟨by (with_reducible repeat (first | apply Kd.zS | apply Kd.zR | apply Kd.zY)); exact HO_3.out⟩, ⟨by (with_reducible repeat (first | apply Kd.zr | apply Kd.zq | apply Kd.zu)); exact HO112.out⟩, ⟨qB⟩⟩
      case round =>
       clear H'; ((try clear c2); (try clear c2b0); (try clear c2b1); (try clear p2); (try clear c4); (try clear c4b0); (try clear c4b1); (try clear c5); (try clear c5b0); (try clear c5b1); (try clear p6); (try clear c7)); obtain ⟨x5_2, x20_2, rfl, rfl, HA, HK2, HO_3, HO_18, HB⟩ := hrel
       cases gk with
       | zero => exact absurd HA.out (by simp [zE.l1])
       | succ k2 =>
        have H := HA.out; clear HA; simp only [zE.l1] at H; by_cases c9 : x20_2 < (t110.length : Int)
        ·rw [if_pos c9] at H; have c9b0 : decide (x20_2 < (t110.length : Int)) = true := decide_eq_true c9; clear c9; by_cases c10 : 0 ≤ x20_2
         ·rw [if_pos c10] at H; have c10b0 : decide (0 ≤ x20_2) = true := decide_eq_true c10; clear c10; by_cases c11 : x20_2 < (t110.length : Int)
          ·rw [if_pos c11] at H; have c11b0 : decide (x20_2 < (t110.length : Int)) = true := decide_eq_true c11; clear c11; have H' := za.mk H; clear H; (have p113 : 0 ≤ (x20_2 : Int) := of_decide_eq_true qA); (have q113 : x20_2 < (t110.length : Int) := of_decide_eq_true qA); (obtain ⟨ad113, e113, hx113_0⟩ := Kd.yp (Kd.zm HO_18.out).2.2 x20_2 p113 q113); cases e113; replace p113 := eq_true p113; replace q113 := eq_true q113; (go_wp2); (go_roundg k2)
           case measure => have := HK1.out; have := HK2.out; omega
           case rel => exact ⟨(IntKind.u64.wrap ((IntKind.u64.wrap (10 * x5_2)) + (((rd t110 x20_2) - 48) % 256))), (wrap64 (x20_2 + 1)), qI, qI, H', ⟨by have := HK1.out; have := HK2.out; omega⟩, ⟨by (with_reducible repeat (first | apply Kd.zS | apply Kd.zR | apply Kd.zY)); exact HO_3.out⟩, ⟨by (with_reducible repeat (first | apply Kd.zr | apply Kd.zq | apply Kd.zu)); exact HO_18.out⟩, ⟨qB⟩⟩
          ·rw [if_neg c11] at H; (exact absurd H (by simp))
         ·rw [if_neg c10] at H; (exact absurd H (by simp))
        ·rw [if_neg c9] at H; have c9b0 : decide (x20_2 < (t110.length : Int)) = false := decide_eq_false c9; clear c9; by_cases c12 : x3_1.length < 17592186044416
         ·rw [if_pos c12] at H; have LMc12 := za.mk c12; clear c12; obtain ⟨y114, hy114⟩ : ∃ y_ : List Int, y_ = (x3_1 ++ [x5_2]) := ⟨_, rfl⟩; (replace H : (if 0 ≤ ji3 then (if ji3 ≤ (x0_1.size : Int) then (zE.l0 k2 (x0_1.extract 0 (ji3 : Int).toNat) y114) else (none)) else (none)) = some r := by first | (rw [hy114]; with_reducible exact H) | (have H2_ := (Option.bind_some _ _).symm.trans H; rw [hy114]; with_reducible exact H2_) | (have H2_ := (Option.bind_some _ _).symm.trans H; with_reducible exact H2_) | with_reducible exact H | (rw [hy114]; exact H) | exact H); have Ny114 := za.mk hy114; clear hy114; by_cases c13 : 0 ≤ ji3
          ·rw [if_pos c13] at H; have c13b0 := eq_true c13; have c13b1 : decide (0 ≤ ji3) = true := decide_eq_true c13; clear c13; by_cases c14 : ji3 ≤ (x0_1.size : Int)
           ·rw [if_pos c14] at H; have c14b0 := eq_true c14; have c14b1 : decide (ji3 ≤ (x0_1.size : Int)) = true := decide_eq_true c14; clear c14; have H' := za.mk H; clear H; (try go_wp2); replace HO_3 := za.mk (Kd.zY HO_3.out); replace HO_18 := za.mk (Kd.zu HO_18.out); replace HB := za.mk (zT HB.out); (refine xI (n := 9) (S := fun w' => True) (ds := []) #[false, false, false, false, false, false, false, false, false] (by kernel_rfl) rfl rfl trivial (fun hHeld => ?_); refine xp zE.tab10 zE.bits10 (fun HT_ HW_ => ?_)); (generalize wr.drew = w15 at HO_3 HO_18 HB hHeld ⊢); (refine zM (i := 0) (N := some 31) (v := ?_) (a' := ?_) #[true, false, false, false, false, false, false, false, false] rfl rfl (zF HT_.out (by kernel_rfl)) (fun _ _ _ h => h) (Or.inl ⟨by rfl, ?_⟩) ?_ ?_); rotate_left
            ·intro w'; (go_simp); (with_reducible rfl)
            rotate_left
            ·simp only [qZ]; rfl
            (refine zM (i := 1) (N := some 32) (v := ?_) (a' := ?_) #[true, true, false, false, false, false, false, false, false] rfl rfl (zF HT_.out (by kernel_rfl)) (fun _ _ _ h => h) (Or.inl ⟨by rfl, ?_⟩) ?_ ?_); rotate_left
            ·intro w'; (go_simp); (with_reducible rfl)
            rotate_left
            ·simp only [qZ]; rfl
            (refine zM (i := 4) (N := some 35) (v := ?_) (a' := ?_) #[true, true, false, false, true, false, false, false, false] rfl rfl (zF HT_.out (by kernel_rfl)) (fun _ _ _ h => h) (Or.inl ⟨by rfl, ?_⟩) ?_ ?_); rotate_left
            ·intro w'; (go_simp); (with_reducible rfl)
            rotate_left
            ·simp only [qZ]; rfl
            (refine zM (i := 5) (N := some 36) (v := ?_) (a' := ?_) #[true, true, false, false, true, true, false, false, false] rfl rfl (zF HT_.out (by kernel_rfl)) (fun _ _ _ h => h) (Or.inl ⟨by rfl, ?_⟩) ?_ ?_); rotate_left
            ·intro w'; (go_simp); (with_reducible rfl)
            rotate_left
            ·simp only [qZ]; rfl
            (refine zM (i := 6) (N := some 37) (v := ?_) (a' := ?_) #[true, true, false, false, true, true, true, false, false] rfl rfl (zF HT_.out (by kernel_rfl)) (fun _ _ _ h => h) (Or.inl ⟨by rfl, ?_⟩) ?_ ?_); rotate_left
            ·intro w'; (go_simp); (with_reducible rfl)
            rotate_left
            ·simp only [qZ]; rfl
            (refine one_ (i := 2) (N := some 33) #[true, true, true, false, true, true, true, false, false] rfl rfl (yP HT_.out (by kernel_rfl)) (by decide) (fun K hK => ?_)); (refine value_ (w1 := ?_) (v := ?_) (by rfl) rfl ?_ ?_); rotate_left 2
            ·(go_simp); constructor
             ·rfl
             ·rfl
            (refine hK.out _ _ trivial (fun hHeld => ?_)); clear hK K; refine yZ (a' := ?_) ?_ ?_; rotate_left
            ·(show Act.put _ (some 33) _ = _); simp only [qZ]; rfl
            (refine one_ (i := 3) (N := some 34) #[true, true, true, true, true, true, true, false, false] rfl rfl (yP HT_.out (by kernel_rfl)) (by decide) (fun K hK => ?_)); (refine Kd.zcq (Kd.int .u64) (w0 := w) w.heap.size (by rfl) (.tmp 31) (.tmp 33) 41 81 (.int .u64 0) 8 rfl Tryd.underlying41 info81 rfl (by decide) (by omega) u3 x3_1 x5_2 [.int .u64 x5_2] (fun k_ => (w.heap.size ≤ k_)) (fun _ => False) rfl rfl ?aP (fun _ hk => hk.elim) ?aF ?aO ?aB ?aS ?aL ?_); (case aP => exact rfl); (case aB => exact qB); (case aF => exact (fun k_ hk => (Nat.le_trans (zb qB) hk))); (case aO => exact (qR HO_3.out)); (case aS => exact (zb qB)); (case aL => have := LMc12.out; omega); intro v115 w16 ho hb hg hat; rw [← Ny114.out] at ho; (have n0_ := za.mk (Kd.yG (ok := (fun k_ => (w.heap.size ≤ k_))) (qV HO_18.out) hg hat)); have n1_ := za.mk (hb); have n2_ := za.mk (ho); clear HO_18; clear HB; clear HO_3; have HO_18 := n0_; have HB := n1_; have HO116 := n2_; clear n0_ n1_ n2_; clear ho hb hg hat; (refine hK.out _ _ trivial (fun hHeld => ?_)); clear hK K; refine yZ (a' := ?_) ?_ ?_; rotate_left
            ·(show Act.put _ (some 34) _ = _); simp only [qZ]; rfl
            (refine zM (i := 7) (N := some 3) (v := ?_) (a' := ?_) #[true, true, true, true, true, true, true, true, false] rfl rfl (zF HT_.out (by kernel_rfl)) (fun _ _ _ h => h) (Or.inl ⟨by rfl, ?_⟩) ?_ ?_); rotate_left
            ·intro w'; (go_simp); (with_reducible rfl)
            rotate_left
            ·simp only [qZ]; rfl
            (refine zM (i := 8) (N := some 0) (v := ?_) (a' := ?_) #[true, true, true, true, true, true, true, true, true] rfl rfl (zF HT_.out (by kernel_rfl)) (fun _ _ _ h => h) (Or.inl ⟨by rfl, ?_⟩) ?_ ?_); rotate_left
            ·intro w'; (go_simp); (with_reducible rfl)
            rotate_left
            ·simp only [qZ]; rfl
            (refine xY (xG HT_.out (by kernel_rfl)) ?_); (try go_wp2); (go_roundg k2)
            case measure => have := HK1.out; have := HK2.out; omega
            case rel => exact ⟨(x0_1.extract 0 (ji3 : Int).toNat), (y114), (by first | rfl | (simp; done) | (simp only [← hji3] <;> (first | rfl | simp)) | (simp [*]; done)), H', ⟨by have := HK1.out; have := HK2.out; omega⟩, ⟨by (with_reducible repeat (first | apply Kd.zS | apply Kd.zR | apply Kd.zY)); exact HO116.out⟩, ⟨qB⟩⟩
           ·rw [if_neg c14] at H; (exact absurd H (by simp))
          ·rw [if_neg c13] at H; (exact absurd H (by simp))
         ·rw [if_neg c12] at H; (exact absurd H (by simp))
     ·rw [if_neg c5] at H; (exact absurd H (by simp))
    ·rw [if_neg c4] at H; (exact absurd H (by simp))
   ·rw [if_neg c2] at H; have c2b0 : decide (0 < (x0_1.size : Int)) = false := decide_eq_false c2; (have c2b1 : decide (0 < x0_1.size) = false := decide_eq_false (by omega)); clear c2; replace H := Option.bind_eq_some_iff.mp H; obtain ⟨t107, A170, H⟩ := H; replace H : (some t107) = some r := H; have A17 := za.mk A170; clear A170; obtain rfl := Option.some.inj H; obtain ⟨Ao18, co18, eo18⟩ := Kd.yD HO_3.out; subst eo18; (go_wp2_with (first | ((with_reducible refine zj (f := 75) rfl ?_); refine zD (some 39) rfl rfl Tryd.func75 (by kernel_rfl) rfl #[.slice Ao18 x3_1.length co18] rfl qM ?_; (with_reducible refine (zV.calls k1 (fun k_ => some k_ = (.slice Ao18 x3_1.length co18 : Value).ownBlock) _ _ x3_1 t107 _ ?side1 A17.out).mono ?_); (case side1 => exact Kd.R_V (Kd.xB rfl (HO_3.out))); rintro e w19 ⟨v108, rfl, ho0, hb⟩; refine ⟨_, rfl, ?_⟩; have HO109 := za.mk (Kd.zB (Kd.zk (ok' := fun k_ => (w.heap.size ≤ k_)) ho0 (fun k_ hk_ => Or.elim hk_ (fun hs_ => ((HO_3.out).1 k_ hs_.symm)) (fun hn_ => (Nat.le_trans (zb qB) hn_)))) (zb qB)); replace HO_3 := za.mk (Kd.yj (qR HO_3.out) hb); replace HB := qS hb; (try clear hb); (try clear hb2); (try clear hk); (try clear hi); (try clear ho0)))); (go_ret); (exact ⟨_, by first | rfl | (simp [zx, zw] <;> rfl) | (simp [*, zx, zw] <;> rfl), by (with_reducible repeat (first | apply Kd.zr | apply Kd.zq | apply Kd.zu)); exact HO109.out, qB⟩)
-- HAND: function 72, by this session's own text
def yM.f (k : Nat) (a0 : ByteArray) : Option (List Int) := zE.f k a0
theorem yM.calls (k : Nat) (a0 : ByteArray) (r : List Int) (w : World) (h : yM.f k a0 = some r) :
  Calls Tryd.prog 72 #[.string a0] w fun e w' => ∃ v0_ : Value, e = .returned (v0_) ∧ Kd.V (Kd.int .u64) 81 w' w.heap.size (fun k_ => (w.heap.size ≤ k_)) v0_ r ∧ Below w.heap.size w w' := zE.calls k a0 r w h
-- HAND: function 73, by this session's own text
def strings_Repeat.f (a0 : ByteArray) (a1 : Int) : Option (ByteArray) := if 0 ≤ a1 ∧ a0.size * a1.toNat ≤ 140737488355328 ∧ a1 ≤ 9223372036854775807 then some ⟨(Lib.repeatL a0.data.toList a1.toNat).toArray⟩ else none
theorem strings_Repeat.calls (a0 : ByteArray) (a1 : Int) (r : ByteArray) (w : World) (h : strings_Repeat.f a0 a1 = some r) :
  Calls Tryd.prog 73 #[.string a0, .int .i64 a1] w fun e w' => e = .returned (.string r) ∧ Below w.heap.size w w' := by
 unfold strings_Repeat.f at h
 split at h
 ·rename_i hs
  obtain ⟨h0, h1, h2⟩ := hs
  obtain rfl := Option.some.inj h
  obtain ⟨m, rfl⟩ := Int.eq_ofNat_of_zero_le h0
  rw [Int.toNat_natCast] at h1 ⊢
  exact Tryd.strings_Repeat a0 m w (by omega) h1
 ·cases h
def yw.f (k : Nat) (a0 : Int) : Option (List Int) := (strings_Repeat.f (⟨#[48]⟩ : ByteArray) a0).bind fun t117 => (if 1 + t117.size ≤ 9223372036854775807 then ((yM.f k ((⟨#[49]⟩ : ByteArray) ++ t117)).bind fun t118 => (some t118)) else (none))
theorem yw.calls (k : Nat) (a0 : Int) (r : List Int) (w : World) (h : yw.f k a0 = some r) :
  Calls Tryd.prog 37 #[.int .i64 a0] w fun e w' => ∃ v0_ : Value, e = .returned (v0_) ∧ Kd.V (Kd.int .u64) 81 w' w.heap.size (fun k_ => (w.heap.size ≤ k_)) v0_ r ∧ Below w.heap.size w w' := by
 have HB := za.mk (Below.refl w.heap.size w); (have H : ((strings_Repeat.f (⟨#[48]⟩ : ByteArray) a0).bind fun t117 => (if 1 + t117.size ≤ 9223372036854775807 then ((yM.f k ((⟨#[49]⟩ : ByteArray) ++ t117)).bind fun t118 => (some t118)) else (none))) = some r := h); clear h; replace H := Option.bind_eq_some_iff.mp H; obtain ⟨t117, A20, H⟩ := H; (replace H : (if 1 + t117.size ≤ 9223372036854775807 then ((yM.f k ((⟨#[49]⟩ : ByteArray) ++ t117)).bind fun t118 => (some t118)) else (none)) = some r := H); have A2 := za.mk A20; clear A20; by_cases c3 : 1 + t117.size ≤ 9223372036854775807
 ·rw [if_pos c3] at H; have c3b0 := eq_true c3; have c3b1 : decide (1 + t117.size ≤ 9223372036854775807) = true := decide_eq_true c3; (try have c3b2 : (9223372036854775807 < 1 + t117.size) = False := eq_false (Nat.not_lt.2 c3)); replace H := Option.bind_eq_some_iff.mp H; obtain ⟨t118, A40, H⟩ := H; replace H : (some t118) = some r := H; have A4 := za.mk A40; clear A40; obtain rfl := Option.some.inj H; (go_enter Tryd.func37, Tryd.ntmps37); (go_wp2_with (first | ((with_reducible refine zj (f := 73) rfl ?_); refine zD (some 4) rfl rfl Tryd.func73 (by kernel_rfl) rfl #[.string (⟨#[48]⟩ : ByteArray), .int .i64 a0] rfl qM ?_; (with_reducible refine (strings_Repeat.calls (⟨#[48]⟩ : ByteArray) a0 t117 _ A2.out).mono ?_); rintro e w5 ⟨rfl, hb⟩; refine ⟨_, rfl, ?_⟩; replace HB := qS hb; (try clear hb); (try clear hb2); (try clear hk); (try clear hi)) | ((with_reducible refine zj (f := 72) rfl ?_); refine zD (some 6) rfl rfl Tryd.func72 (by kernel_rfl) rfl #[.string ((⟨#[49]⟩ : ByteArray) ++ t117)] rfl qM ?_; (with_reducible refine (yM.calls k ((⟨#[49]⟩ : ByteArray) ++ t117) t118 _ A4.out).mono ?_); rintro e w6 ⟨v119, rfl, ho0, hb⟩; refine ⟨_, rfl, ?_⟩; have HO120 := za.mk (Kd.zB (Kd.zk (ok' := fun k_ => (w.heap.size ≤ k_)) ho0 (fun k_ hk_ => (Nat.le_trans (zb qB) hk_))) (zb qB)); replace HB := qS hb; (try clear hb); (try clear hb2); (try clear hk); (try clear hi); (try clear ho0)))); (go_ret); (exact ⟨_, by first | rfl | (simp [zx, zw] <;> rfl) | (simp [*, zx, zw] <;> rfl), by (with_reducible repeat (first | apply Kd.zr | apply Kd.zq | apply Kd.zu)); exact HO120.out, qB⟩)
 ·rw [if_neg c3] at H; (exact absurd H (by simp))
mutual
def zL.l0 : Nat → List Int → List Int → List Int → Int → Int → Option (List Int)
 | 0, _, _, _, _, _ => none
 | k + 1, x1, x5, x17, x18, x19 => if x19 < x18 then (if 0 ≤ x19 then (if x19 < (x17.length : Int) then (zL.l1 k x1 x5 x19 (rd x17 x19) 0 x17 x18 x19 x1 (x1.length : Int) 0) else (none)) else (none)) else ((zV.f k x5).bind fun t124 => (some t124))
def zL.l1 : Nat → List Int → List Int → Int → Int → Int → List Int → Int → Int → List Int → Int → Int → Option (List Int)
 | 0, _, _, _, _, _, _, _, _, _, _, _ => none
 | k + 1, x1, x5, x6, x7, x8, x17, x18, x19, x24, x25, x26 => if x26 < x25 then (if 0 ≤ x26 then (if x26 < (x24.length : Int) then (if 0 ≤ (wrap64 (x6 + x26)) then (if (wrap64 (x6 + x26)) < (x5.length : Int) then (zL.l1 k x1 (x5.set ((wrap64 (x6 + x26)) : Int).toNat (Int.tmod (IntKind.u64.wrap (x8 + (IntKind.u64.wrap ((rd x5 (wrap64 (x6 + x26))) + (IntKind.u64.wrap (x7 * (rd x24 x26))))))) 1000000000)) x6 x7 (IntKind.u64.wrap (Int.tdiv (IntKind.u64.wrap (x8 + (IntKind.u64.wrap ((rd x5 (wrap64 (x6 + x26))) + (IntKind.u64.wrap (x7 * (rd x24 x26))))))) 1000000000)) x17 x18 x19 x24 x25 (wrap64 (x26 + 1))) else (none)) else (none)) else (none)) else (none)) else (if 0 ≤ (wrap64 (x6 + (x1.length : Int))) then (if (wrap64 (x6 + (x1.length : Int))) < (x5.length : Int) then (zL.l0 k x1 (x5.set ((wrap64 (x6 + (x1.length : Int))) : Int).toNat (IntKind.u64.wrap ((rd x5 (wrap64 (x6 + (x1.length : Int)))) + x8))) x17 x18 (wrap64 (x19 + 1))) else (none)) else (none))
end
def zL.f (k : Nat) (l0 : List Int) (l1 : List Int) : Option (List Int) := if 0 ≤ (wrap64 ((l0.length : Int) + (l1.length : Int))) then (if (wrap64 ((l0.length : Int) + (l1.length : Int)) : Int).toNat ≤ 35184372088832 then (zL.l0 k l1 (List.replicate (wrap64 ((l0.length : Int) + (l1.length : Int)) : Int).toNat 0) l0 (l0.length : Int) 0) else (none)) else (none)
theorem zL.calls (k : Nat) (A0 : Option Addr) (c0 : Nat) (l0 : List Int) (A1 : Option Addr) (c1 : Nat) (l1 : List Int) (r : List Int) (w : World) (hr0 : Kd.C (Kd.int .u64) w A0 l0.length l0) (hc0 : l0.length ≤ c0) (hr1 : Kd.C (Kd.int .u64) w A1 l1.length l1) (hc1 : l1.length ≤ c1) (h : zL.f k l0 l1 = some r) :
  Calls Tryd.prog 39 #[.slice A0 l0.length c0, .slice A1 l1.length c1] w fun e w' => ∃ v0_ : Value, e = .returned (v0_) ∧ Kd.V (Kd.int .u64) 81 w' w.heap.size (fun k_ => (w.heap.size ≤ k_)) v0_ r ∧ Below w.heap.size w w' := by
 have HR0 := za.mk hr0; have HC0 := za.mk hc0; clear hr0 hc0; have HR1 := za.mk hr1; have HC1 := za.mk hc1; clear hr1 hc1; have HB := za.mk (Below.refl w.heap.size w); have H : (if 0 ≤ (wrap64 ((l0.length : Int) + (l1.length : Int))) then (if (wrap64 ((l0.length : Int) + (l1.length : Int)) : Int).toNat ≤ 35184372088832 then (zL.l0 k l1 (List.replicate (wrap64 ((l0.length : Int) + (l1.length : Int)) : Int).toNat 0) l0 (l0.length : Int) 0) else (none)) else (none)) = some r := h; clear h; obtain ⟨ji3, hji3⟩ : ∃ j_ : Int, (wrap64 ((l0.length : Int) + (l1.length : Int))) = j_ := ⟨_, rfl⟩; (replace H : (if 0 ≤ (ji3) then (if (ji3 : Int).toNat ≤ 35184372088832 then (zL.l0 k l1 (List.replicate (ji3 : Int).toNat 0) l0 (l0.length : Int) 0) else (none)) else (none)) = some r := by first | (rw [hji3] at H; exact H) | (simp only [hji3] at H ⊢; exact H)); have hji3w : (IntKind.i64.wrap ((l0.length : Int) + (l1.length : Int))) = ji3 := (xb _).trans hji3; by_cases c4 : 0 ≤ (ji3)
 ·rw [if_pos c4] at H; have c4b0 := eq_true c4; have c4b1 : decide (0 ≤ (ji3)) = true := decide_eq_true c4; clear c4; by_cases c5 : (ji3 : Int).toNat ≤ 35184372088832
  ·rw [if_pos c5] at H; have c5b0 := eq_true c5; have c5b1 : decide ((ji3 : Int).toNat ≤ 35184372088832) = true := decide_eq_true c5; clear c5; obtain ⟨y121, hy121⟩ : ∃ y_ : List Int, y_ = (List.replicate (ji3 : Int).toNat 0) := ⟨_, rfl⟩; (replace H : (zL.l0 k l1 y121 l0 (l0.length : Int) 0) = some r := by first | (rw [hy121]; with_reducible exact H) | (have H2_ := (Option.bind_some _ _).symm.trans H; rw [hy121]; with_reducible exact H2_) | (have H2_ := (Option.bind_some _ _).symm.trans H; with_reducible exact H2_) | with_reducible exact H | (rw [hy121]; exact H) | exact H); have Ny121 := za.mk hy121; clear hy121; have H' := za.mk H; clear H; (go_enter Tryd.func39, Tryd.ntmps39); (go_wp2_with (first | ((with_reducible refine zv (N := 16) rfl ?_); refine Kd.zaZ (Kd.int .u64) _ 81 rfl (N := 16) rfl 41 _ _ rfl ji3 rfl rfl Tryd.underlying41 (.int .u64 0) 8 info81 rfl (by decide) (by omega) 0 (ok := fun _ => True) (okp := fun _ => True) rfl (fun _ hk => hk) trivial (of_decide_eq_true qA) (Nat.le_trans (Nat.mul_le_mul_right _ (of_decide_eq_true qA : ji3.toNat ≤ 35184372088832)) (by omega)) (Below.refl _ _) (Nat.le_refl _) ?_; intro v122 w6 ho7 hb hg_ hnew_; clear hg_ hnew_; (first | rw [← Ny121.out] at ho7 | (simp only [Int.reduceToNat] at ho7; rw [← Ny121.out] at ho7)); have HO123 := za.mk (Kd.yK (Kd.xm (M := fun k_ => (w.heap.size ≤ k_)) ho7 (zb qB) (fun k_ h_ => h_)) (zb qB)); replace HB := qS hb; clear hb ho7))); (go_loopg [19] k (fun kq v19 w' => ∃ (x5_1 : List Int) (x19_1 : Int), v19 = .int .i64 x19_1 ∧ za (zL.l0 kq l1 x5_1 l0 (l0.length : Int) x19_1 = some r) ∧ za (kq ≤ k) ∧ za (Kd.R (Kd.int .u64) 81 w' w.heap.size (fun k_ => (w.heap.size ≤ k_)) v122 x5_1) ∧ za (Below w.heap.size w w')))
   case atStart => exact ⟨(y121), (0), qI, H', ⟨Nat.le_refl _⟩, ⟨by (with_reducible repeat (first | apply Kd.zS | apply Kd.zR | apply Kd.zY)); exact Kd.yE HO123.out (fun _ hk => hk.1)⟩, ⟨qB⟩⟩
   case round =>
    clear H'; ((try clear c1); (try clear p2); (try clear c3); (try clear c4); (try clear c4b0); (try clear c4b1); (try clear c5); (try clear c5b0); (try clear c5b1); (try clear p6)); obtain ⟨x5_1, x19_1, rfl, HA, HK1, HO_5, HB⟩ := hrel
    cases gk with
    | zero => exact absurd HA.out (by simp [zL.l0])
    | succ k1 =>
     have H := HA.out; clear HA; simp only [zL.l0] at H; by_cases c8 : x19_1 < (l0.length : Int)
     ·rw [if_pos c8] at H; have c8b0 : decide (x19_1 < (l0.length : Int)) = true := decide_eq_true c8; clear c8; by_cases c9 : 0 ≤ x19_1
      ·rw [if_pos c9] at H; have c9b0 : decide (0 ≤ x19_1) = true := decide_eq_true c9; clear c9; by_cases c10 : x19_1 < (l0.length : Int)
       ·rw [if_pos c10] at H; have c10b0 : decide (x19_1 < (l0.length : Int)) = true := decide_eq_true c10; clear c10; have H' := za.mk H; clear H; (have p127 : 0 ≤ (x19_1 : Int) := of_decide_eq_true qA); (have q127 : x19_1 < (l0.length : Int) := of_decide_eq_true qA); (obtain ⟨ad127, e127, hx127_0⟩ := Kd.yp HR0.out x19_1 p127 q127); cases e127; replace hx127_0 := (HB.out.cell (World.block_lt_of_cell? w _ hx127_0)).trans hx127_0; replace p127 := eq_true p127; replace q127 := eq_true q127; (go_wp2); (go_loopg [8, 26] k1 (fun kq v8 v26 w' => ∃ (x5_2 : List Int) (x8_2 : Int) (x26_2 : Int), v8 = .int .u64 x8_2 ∧ v26 = .int .i64 x26_2 ∧ za (zL.l1 kq l1 x5_2 x19_1 (rd l0 x19_1) x8_2 l0 (l0.length : Int) x19_1 l1 (l1.length : Int) x26_2 = some r) ∧ za (kq ≤ k1) ∧ za (Kd.R (Kd.int .u64) 81 w' w.heap.size (fun k_ => (w.heap.size ≤ k_)) v122 x5_2) ∧ za (Below w.heap.size w w')))
        case atStart => exact ⟨(x5_1), (0), (0), qI, qI, H', ⟨Nat.le_refl _⟩, ⟨by (with_reducible repeat (first | apply Kd.zS | apply Kd.zR | apply Kd.zY)); exact HO_5.out⟩, ⟨qB⟩⟩
        case round =>
         clear H'; ((try clear c1); (try clear p1); (try clear q1); (try clear hx1); (try clear p2); (try clear c3); (try clear c4); (try clear c4b0); (try clear c4b1); (try clear c5); (try clear c5b0); (try clear c5b1); (try clear p6); (try clear c8); (try clear c8b0); (try clear c9); (try clear c9b0); (try clear c10); (try clear c10b0); (try clear hx127_0); (try clear p127); (try clear p2); (try clear p6); (try clear q127)); obtain ⟨x5_2, x8_2, x26_2, rfl, rfl, HA, HK2, HO_5, HB⟩ := hrel
         cases gk with
         | zero => exact absurd HA.out (by simp [zL.l1])
         | succ k2 =>
          have H := HA.out; clear HA; simp only [zL.l1] at H; by_cases c11 : x26_2 < (l1.length : Int)
          ·rw [if_pos c11] at H; have c11b0 : decide (x26_2 < (l1.length : Int)) = true := decide_eq_true c11; clear c11; by_cases c12 : 0 ≤ x26_2
           ·rw [if_pos c12] at H; have c12b0 : decide (0 ≤ x26_2) = true := decide_eq_true c12; clear c12; by_cases c13 : x26_2 < (l1.length : Int)
            ·rw [if_pos c13] at H; have c13b0 : decide (x26_2 < (l1.length : Int)) = true := decide_eq_true c13; clear c13; obtain ⟨ji14, hji14⟩ : ∃ j_ : Int, (wrap64 (x19_1 + x26_2)) = j_ := ⟨_, rfl⟩; (replace H : (if 0 ≤ (ji14) then (if (ji14) < (x5_2.length : Int) then (zL.l1 k2 l1 (x5_2.set ((ji14) : Int).toNat (Int.tmod (IntKind.u64.wrap (x8_2 + (IntKind.u64.wrap ((rd x5_2 (ji14)) + (IntKind.u64.wrap ((rd l0 x19_1) * (rd l1 x26_2))))))) 1000000000)) x19_1 (rd l0 x19_1) (IntKind.u64.wrap (Int.tdiv (IntKind.u64.wrap (x8_2 + (IntKind.u64.wrap ((rd x5_2 (ji14)) + (IntKind.u64.wrap ((rd l0 x19_1) * (rd l1 x26_2))))))) 1000000000)) l0 (l0.length : Int) x19_1 l1 (l1.length : Int) (wrap64 (x26_2 + 1))) else (none)) else (none)) = some r := by first | (rw [hji14] at H; exact H) | (simp only [hji14] at H ⊢; exact H)); have hji14w : (IntKind.i64.wrap (x19_1 + x26_2)) = ji14 := (xb _).trans hji14; by_cases c15 : 0 ≤ (ji14)
             ·rw [if_pos c15] at H; have c15b0 : decide (0 ≤ (ji14)) = true := decide_eq_true c15; clear c15; by_cases c16 : (ji14) < (x5_2.length : Int)
              ·rw [if_pos c16] at H; have c16b0 : decide ((ji14) < (x5_2.length : Int)) = true := decide_eq_true c16; clear c16; obtain ⟨y130, hy130⟩ : ∃ y_ : List Int, y_ = (x5_2.set ((ji14) : Int).toNat (Int.tmod (IntKind.u64.wrap (x8_2 + (IntKind.u64.wrap ((rd x5_2 (ji14)) + (IntKind.u64.wrap ((rd l0 x19_1) * (rd l1 x26_2))))))) 1000000000)) := ⟨_, rfl⟩; (replace H : (zL.l1 k2 l1 y130 x19_1 (rd l0 x19_1) (IntKind.u64.wrap (Int.tdiv (IntKind.u64.wrap (x8_2 + (IntKind.u64.wrap ((rd x5_2 (ji14)) + (IntKind.u64.wrap ((rd l0 x19_1) * (rd l1 x26_2))))))) 1000000000)) l0 (l0.length : Int) x19_1 l1 (l1.length : Int) (wrap64 (x26_2 + 1))) = some r := by first | (rw [hy130]; with_reducible exact H) | (have H2_ := (Option.bind_some _ _).symm.trans H; rw [hy130]; with_reducible exact H2_) | (have H2_ := (Option.bind_some _ _).symm.trans H; with_reducible exact H2_) | with_reducible exact H | (rw [hy130]; exact H) | exact H); have Ny130 := za.mk hy130; clear hy130; have H' := za.mk H; clear H; (have p128 : 0 ≤ (x26_2 : Int) := of_decide_eq_true qA); (have q128 : x26_2 < (l1.length : Int) := of_decide_eq_true qA); (obtain ⟨ad128, e128, hx128_0⟩ := Kd.yp HR1.out x26_2 p128 q128); cases e128; replace hx128_0 := (HB.out.cell (World.block_lt_of_cell? w _ hx128_0)).trans hx128_0; replace p128 := eq_true p128; replace q128 := eq_true q128; obtain ⟨Ao18, co18, eo18⟩ := Kd.yD HO_5.out; subst eo18; (have p129 : 0 ≤ ((ji14) : Int) := of_decide_eq_true qA); (have q129 : (ji14) < (x5_2.length : Int) := of_decide_eq_true qA); (obtain ⟨ad129, e129, hx129_0⟩ := Kd.yp (Kd.z7 HO_5.out).2.2 (ji14) p129 q129); cases e129; replace p129 := eq_true p129; replace q129 := eq_true q129; (have p17 : 0 ≤ ((ji14) : Int) := of_decide_eq_true qA); (have q17 : ((ji14) : Int) < ((x5_2.length : Int) : Int) := of_decide_eq_true qA); (obtain ⟨go17, co17, eo17, gb17, gl17, cl17, HG17⟩ := Kd.zad HO_5.out (by omega)); (first | cases eo17 | (injection eo17 with ea_ en_ ec_; (first | subst ea_ | (injection ea_ with ea_; subst ea_)); subst ec_; clear en_)); have GB17 := za.mk gb17; have GG17 := za.mk HG17; clear gb17 gl17 HG17; (first | simp only [xf] at hx129_0 | skip); obtain ⟨hx17_0, hf17_0⟩ := Kd.xu 0 HO_5.out ((ji14) : Int) p17 q17; replace p17 := eq_true p17; replace q17 := eq_true q17; have HP19 := Kd.xX HO_5.out ((ji14) : Int) (Int.tmod (IntKind.u64.wrap (x8_2 + (IntKind.u64.wrap ((rd x5_2 (ji14)) + (IntKind.u64.wrap ((rd l0 x19_1) * (rd l1 x26_2))))))) 1000000000); (go_wp2_with (first | ((with_reducible refine y9 (t := 81) (p := 51) rfl ?_); refine yV (t := 81) (p := 51) (v := ?vo_w20) (w1 := (wr.setCell ⟨go17, ((ji14) : Int).toNat, none⟩ (.int .u64 (Int.tmod (IntKind.u64.wrap (x8_2 + (IntKind.u64.wrap ((rd x5_2 (ji14)) + (IntKind.u64.wrap ((rd l0 x19_1) * (rd l1 x26_2))))))) 1000000000)))) ?hg ?ho ?hn ?hr ?_; (case ho => rfl); (case hg => rfl); (case hn => rfl); (case hr => first | (go_simp; done) | (go_simp; rfl)); intro w20 hw; have hg : wr.grownBy w20 (some go17) := (by rw [hw]; exact HP19.2); have hp_ : Kd.R (Kd.int .u64) 81 w20 w.heap.size (fun k_ => (w.heap.size ≤ k_)) (.slice (some ⟨go17, 0, none⟩) x5_2.length co18) y130 := (by rw [hw, Ny130.out]; exact HP19.1); clear HP19; replace HO_5 := za.mk (hp_); replace HB := za.mk ((by rw [hw]; exact zI (HB.out) GB17.out : Below w.heap.size w w20)); clear hg hw hp_))); (go_roundg k2)
               case measure => have := HK1.out; have := HK2.out; omega
               case rel => exact ⟨(y130), (IntKind.u64.wrap (Int.tdiv (IntKind.u64.wrap (x8_2 + (IntKind.u64.wrap ((rd x5_2 (ji14)) + (IntKind.u64.wrap ((rd l0 x19_1) * (rd l1 x26_2))))))) 1000000000)), (wrap64 (x26_2 + 1)), (by first | rfl | (simp; done) | (simp only [← hji14] <;> (first | rfl | simp)) | (simp [*]; done)), qI, H', ⟨by have := HK1.out; have := HK2.out; omega⟩, ⟨by (with_reducible repeat (first | apply Kd.zS | apply Kd.zR | apply Kd.zY)); exact HO_5.out⟩, ⟨qB⟩⟩
              ·rw [if_neg c16] at H; (exact absurd H (by simp))
             ·rw [if_neg c15] at H; (exact absurd H (by simp))
            ·rw [if_neg c13] at H; (exact absurd H (by simp))
           ·rw [if_neg c12] at H; (exact absurd H (by simp))
          ·rw [if_neg c11] at H; have c11b0 : decide (x26_2 < (l1.length : Int)) = false := decide_eq_false c11; clear c11; obtain ⟨ji21, hji21⟩ : ∃ j_ : Int, (wrap64 (x19_1 + (l1.length : Int))) = j_ := ⟨_, rfl⟩; (replace H : (if 0 ≤ (ji21) then (if (ji21) < (x5_2.length : Int) then (zL.l0 k2 l1 (x5_2.set ((ji21) : Int).toNat (IntKind.u64.wrap ((rd x5_2 (ji21)) + x8_2))) l0 (l0.length : Int) (wrap64 (x19_1 + 1))) else (none)) else (none)) = some r := by first | (rw [hji21] at H; exact H) | (simp only [hji21] at H ⊢; exact H)); have hji21w : (IntKind.i64.wrap (x19_1 + (l1.length : Int))) = ji21 := (xb _).trans hji21; by_cases c22 : 0 ≤ (ji21)
           ·rw [if_pos c22] at H; have c22b0 : decide (0 ≤ (ji21)) = true := decide_eq_true c22; clear c22; by_cases c23 : (ji21) < (x5_2.length : Int)
            ·rw [if_pos c23] at H; have c23b0 : decide ((ji21) < (x5_2.length : Int)) = true := decide_eq_true c23; clear c23; obtain ⟨y132, hy132⟩ : ∃ y_ : List Int, y_ = (x5_2.set ((ji21) : Int).toNat (IntKind.u64.wrap ((rd x5_2 (ji21)) + x8_2))) := ⟨_, rfl⟩; (replace H : (zL.l0 k2 l1 y132 l0 (l0.length : Int) (wrap64 (x19_1 + 1))) = some r := by first | (rw [hy132]; with_reducible exact H) | (have H2_ := (Option.bind_some _ _).symm.trans H; rw [hy132]; with_reducible exact H2_) | (have H2_ := (Option.bind_some _ _).symm.trans H; with_reducible exact H2_) | with_reducible exact H | (rw [hy132]; exact H) | exact H); have Ny132 := za.mk hy132; clear hy132; have H' := za.mk H; clear H; obtain ⟨Ao25, co25, eo25⟩ := Kd.yD HO_5.out; subst eo25; (have p131 : 0 ≤ ((ji21) : Int) := of_decide_eq_true qA); (have q131 : (ji21) < (x5_2.length : Int) := of_decide_eq_true qA); (obtain ⟨ad131, e131, hx131_0⟩ := Kd.yp (Kd.z7 HO_5.out).2.2 (ji21) p131 q131); cases e131; replace p131 := eq_true p131; replace q131 := eq_true q131; (have p24 : 0 ≤ ((ji21) : Int) := of_decide_eq_true qA); (have q24 : ((ji21) : Int) < ((x5_2.length : Int) : Int) := of_decide_eq_true qA); (obtain ⟨go24, co24, eo24, gb24, gl24, cl24, HG24⟩ := Kd.zad HO_5.out (by omega)); (first | cases eo24 | (injection eo24 with ea_ en_ ec_; (first | subst ea_ | (injection ea_ with ea_; subst ea_)); subst ec_; clear en_)); have GB24 := za.mk gb24; have GG24 := za.mk HG24; clear gb24 gl24 HG24; (first | simp only [xf] at hx131_0 | skip); obtain ⟨hx24_0, hf24_0⟩ := Kd.xu 0 HO_5.out ((ji21) : Int) p24 q24; replace p24 := eq_true p24; replace q24 := eq_true q24; have HP26 := Kd.xX HO_5.out ((ji21) : Int) (IntKind.u64.wrap ((rd x5_2 (ji21)) + x8_2)); (go_wp2_with (first | ((with_reducible refine y9 (t := 81) (p := 62) rfl ?_); refine yV (t := 81) (p := 62) (v := ?vo_w27) (w1 := (wr.setCell ⟨go24, ((ji21) : Int).toNat, none⟩ (.int .u64 (IntKind.u64.wrap ((rd x5_2 (ji21)) + x8_2))))) ?hg ?ho ?hn ?hr ?_; (case ho => rfl); (case hg => rfl); (case hn => rfl); (case hr => first | (go_simp; done) | (go_simp; rfl)); intro w27 hw; have hg : wr.grownBy w27 (some go24) := (by rw [hw]; exact HP26.2); have hp_ : Kd.R (Kd.int .u64) 81 w27 w.heap.size (fun k_ => (w.heap.size ≤ k_)) (.slice (some ⟨go24, 0, none⟩) x5_2.length co25) y132 := (by rw [hw, Ny132.out]; exact HP26.1); clear HP26; replace HO_5 := za.mk (hp_); replace HB := za.mk ((by rw [hw]; exact zI (HB.out) GB24.out : Below w.heap.size w w27)); clear hg hw hp_))); (go_roundg k2)
             case measure => have := HK1.out; have := HK2.out; omega
             case rel => exact ⟨(y132), (wrap64 (x19_1 + 1)), qI, H', ⟨by have := HK1.out; have := HK2.out; omega⟩, ⟨by (with_reducible repeat (first | apply Kd.zS | apply Kd.zR | apply Kd.zY)); exact HO_5.out⟩, ⟨qB⟩⟩
            ·rw [if_neg c23] at H; (exact absurd H (by simp))
           ·rw [if_neg c22] at H; (exact absurd H (by simp))
       ·rw [if_neg c10] at H; (exact absurd H (by simp))
      ·rw [if_neg c9] at H; (exact absurd H (by simp))
     ·rw [if_neg c8] at H; have c8b0 : decide (x19_1 < (l0.length : Int)) = false := decide_eq_false c8; clear c8; replace H := Option.bind_eq_some_iff.mp H; obtain ⟨t124, A280, H⟩ := H; replace H : (some t124) = some r := H; have A28 := za.mk A280; clear A280; obtain rfl := Option.some.inj H; obtain ⟨Ao29, co29, eo29⟩ := Kd.yD HO_5.out; subst eo29; (go_wp2_with (first | ((with_reducible refine zj (f := 75) rfl ?_); refine zD (some 65) rfl rfl Tryd.func75 (by kernel_rfl) rfl #[.slice Ao29 x5_1.length co29] rfl qM ?_; (with_reducible refine (zV.calls k1 (fun k_ => some k_ = (.slice Ao29 x5_1.length co29 : Value).ownBlock) _ _ x5_1 t124 _ ?side1 A28.out).mono ?_); (case side1 => exact Kd.R_V (Kd.xB rfl (HO_5.out))); rintro e w30 ⟨v125, rfl, ho0, hb⟩; refine ⟨_, rfl, ?_⟩; have HO126 := za.mk (Kd.zB (Kd.zk (ok' := fun k_ => (w.heap.size ≤ k_)) ho0 (fun k_ hk_ => Or.elim hk_ (fun hs_ => ((HO_5.out).1 k_ hs_.symm)) (fun hn_ => (Nat.le_trans (zb qB) hn_)))) (zb qB)); replace HO_5 := za.mk (Kd.yj (qR HO_5.out) hb); replace HB := qS hb; (try clear hb); (try clear hb2); (try clear hk); (try clear hi); (try clear ho0)))); (go_ret); (exact ⟨_, by first | rfl | (simp [zx, zw] <;> rfl) | (simp only [← hji3]; first | rfl | (simp [zx, zw] <;> rfl)) | (simp [*, zx, zw] <;> rfl), by (with_reducible repeat (first | apply Kd.zr | apply Kd.zq | apply Kd.zu)); exact HO126.out, qB⟩)
  ·rw [if_neg c5] at H; (exact absurd H (by simp))
 ·rw [if_neg c4] at H; (exact absurd H (by simp))
def yH.l0 : Nat → List Int → List Int → Int → Option (Int)
 | 0, _, _, _ => none
 | k + 1, x0, x1, x5 => if x5 ≥ 0 then (if 0 ≤ x5 then (if x5 < (x0.length : Int) then (if x5 < (x1.length : Int) then (if (rd x0 x5) = (rd x1 x5) then (yH.l0 k x0 x1 (wrap64 (x5 - 1))) else (some (wrap64 ((wrap64 (rd x0 x5)) - (wrap64 (rd x1 x5)))))) else (none)) else (none)) else (none)) else (some 0)
def yH.f (k : Nat) (l0 : List Int) (l1 : List Int) : Option (Int) := if (l0.length : Int) = (l1.length : Int) then (yH.l0 k l0 l1 (wrap64 ((l0.length : Int) - 1))) else (some (wrap64 ((l0.length : Int) - (l1.length : Int))))
theorem yH.calls (k : Nat) (A0 : Option Addr) (c0 : Nat) (l0 : List Int) (A1 : Option Addr) (c1 : Nat) (l1 : List Int) (r : Int) (w : World) (hr0 : Kd.C (Kd.int .u64) w A0 l0.length l0) (hc0 : l0.length ≤ c0) (hr1 : Kd.C (Kd.int .u64) w A1 l1.length l1) (hc1 : l1.length ≤ c1) (h : yH.f k l0 l1 = some r) :
  Calls Tryd.prog 76 #[.slice A0 l0.length c0, .slice A1 l1.length c1] w fun e w' => e = .returned (.int .i64 r) ∧ Drawn0 w w' := by
 have HR0 := za.mk hr0; have HC0 := za.mk hc0; clear hr0 hc0; have HR1 := za.mk hr1; have HC1 := za.mk hc1; clear hr1 hc1; have H : (if (l0.length : Int) = (l1.length : Int) then (yH.l0 k l0 l1 (wrap64 ((l0.length : Int) - 1))) else (some (wrap64 ((l0.length : Int) - (l1.length : Int))))) = some r := h; clear h; by_cases c3 : (l0.length : Int) = (l1.length : Int)
 ·rw [if_pos c3] at H; have c3b0 : ((l0.length : Int) == (l1.length : Int)) = true := beq_iff_eq.mpr c3; have c3b1 : ((l0.length : Int) != (l1.length : Int)) = false := bne_eq_false_iff_eq.mpr c3; (have c3b2 : (l0.length == l1.length) = true := by first | simpa using c3 | (simp at c3 ⊢; omega)); clear c3; have H' := za.mk H; clear H; (go_enter Tryd.func76, Tryd.ntmps76); (go_wp2); (repeat (go_quiet (fail); try go_wp2)); (go_loopg [5] k (fun kq v5 w' => ∃ (x5_1 : Int), v5 = .int .i64 x5_1 ∧ za (yH.l0 kq l0 l1 x5_1 = some r) ∧ za (kq ≤ k) ∧ Drawn0 w w'))
  case atStart => exact ⟨(wrap64 ((l0.length : Int) - 1)), qI, H', ⟨Nat.le_refl _⟩, by repeat (first | exact Drawn0.refl _ | apply Drawn0.step)⟩
  case round =>
   clear H'; ((try clear c1); (try clear p2); (try clear c3); (try clear c3b0); (try clear c3b1); (try clear c3b2)); obtain ⟨x5_1, rfl, HA, HK1, ⟨m1, rfl⟩⟩ := hrel
   cases gk with
   | zero => exact absurd HA.out (by simp [yH.l0])
   | succ k1 =>
    have H := HA.out; clear HA; simp only [yH.l0] at H; by_cases c4 : x5_1 ≥ 0
    ·rw [if_pos c4] at H; have c4b0 : decide (0 ≤ x5_1) = true := decide_eq_true c4; clear c4; by_cases c5 : 0 ≤ x5_1
     ·rw [if_pos c5] at H; have c5b0 : decide (0 ≤ x5_1) = true := decide_eq_true c5; clear c5; by_cases c6 : x5_1 < (l0.length : Int)
      ·rw [if_pos c6] at H; have c6b0 : decide (x5_1 < (l0.length : Int)) = true := decide_eq_true c6; clear c6; by_cases c7 : x5_1 < (l1.length : Int)
       ·rw [if_pos c7] at H; have c7b0 : decide (x5_1 < (l1.length : Int)) = true := decide_eq_true c7; clear c7; by_cases c8 : (rd l0 x5_1) = (rd l1 x5_1)
        ·rw [if_pos c8] at H; have c8b0 : ((rd l0 x5_1) == (rd l1 x5_1)) = true := beq_iff_eq.mpr c8; have c8b1 : ((rd l0 x5_1) != (rd l1 x5_1)) = false := bne_eq_false_iff_eq.mpr c8; clear c8; have H' := za.mk H; clear H; (have p133 : 0 ≤ (x5_1 : Int) := of_decide_eq_true qA); (have q133 : x5_1 < (l0.length : Int) := of_decide_eq_true qA); (obtain ⟨ad133, e133, hx133_0⟩ := Kd.yp HR0.out x5_1 p133 q133); cases e133; replace p133 := eq_true p133; replace q133 := eq_true q133; (have p134 : 0 ≤ (x5_1 : Int) := of_decide_eq_true qA); (have q134 : x5_1 < (l1.length : Int) := of_decide_eq_true qA); (obtain ⟨ad134, e134, hx134_0⟩ := Kd.yp HR1.out x5_1 p134 q134); cases e134; replace p134 := eq_true p134; replace q134 := eq_true q134; (go_wp2); (repeat (go_quiet (fail); try go_wp2)); (go_roundg k1)
         case measure => have := HK1.out; omega
         case rel => exact ⟨(wrap64 (x5_1 - 1)), qI, H', ⟨by have := HK1.out; omega⟩, by repeat (first | exact Drawn0.refl _ | apply Drawn0.step)⟩
        ·rw [if_neg c8] at H; have c8b0 : ((rd l0 x5_1) == (rd l1 x5_1)) = false := beq_eq_false_iff_ne.mpr c8; have c8b1 : ((rd l0 x5_1) != (rd l1 x5_1)) = true := bne_iff_ne.mpr c8; obtain rfl := Option.some.inj H; (have p133 : 0 ≤ (x5_1 : Int) := of_decide_eq_true qA); (have q133 : x5_1 < (l0.length : Int) := of_decide_eq_true qA); (obtain ⟨ad133, e133, hx133_0⟩ := Kd.yp HR0.out x5_1 p133 q133); cases e133; replace p133 := eq_true p133; replace q133 := eq_true q133; (have p134 : 0 ≤ (x5_1 : Int) := of_decide_eq_true qA); (have q134 : x5_1 < (l1.length : Int) := of_decide_eq_true qA); (obtain ⟨ad134, e134, hx134_0⟩ := Kd.yp HR1.out x5_1 p134 q134); cases e134; replace p134 := eq_true p134; replace q134 := eq_true q134; (have p135 : 0 ≤ (x5_1 : Int) := of_decide_eq_true qA); (have q135 : x5_1 < (l0.length : Int) := of_decide_eq_true qA); (obtain ⟨ad135, e135, hx135_0⟩ := Kd.yp HR0.out x5_1 p135 q135); (obtain rfl : ad133 = ad135 := (by injection e135)); replace p135 := eq_true p135; replace q135 := eq_true q135; (have p136 : 0 ≤ (x5_1 : Int) := of_decide_eq_true qA); (have q136 : x5_1 < (l1.length : Int) := of_decide_eq_true qA); (obtain ⟨ad136, e136, hx136_0⟩ := Kd.yp HR1.out x5_1 p136 q136); (obtain rfl : ad134 = ad136 := (by injection e136)); replace p136 := eq_true p136; replace q136 := eq_true q136; (go_wp2); (repeat (go_quiet (fail); try go_wp2)); (go_ret); (exact ⟨qI, by repeat (first | exact Drawn0.refl _ | apply Drawn0.step)⟩)
       ·rw [if_neg c7] at H; (exact absurd H (by simp))
      ·rw [if_neg c6] at H; (exact absurd H (by simp))
     ·rw [if_neg c5] at H; (exact absurd H (by simp))
    ·rw [if_neg c4] at H; have c4b0 : decide (0 ≤ x5_1) = false := decide_eq_false c4; clear c4; obtain rfl := Option.some.inj H; (go_wp2); (repeat (go_quiet (fail); try go_wp2)); (go_ret); (exact ⟨qI, by repeat (first | exact Drawn0.refl _ | apply Drawn0.step)⟩)
 ·rw [if_neg c3] at H; have c3b0 : ((l0.length : Int) == (l1.length : Int)) = false := beq_eq_false_iff_ne.mpr c3; have c3b1 : ((l0.length : Int) != (l1.length : Int)) = true := bne_iff_ne.mpr c3; (have c3b2 : (l0.length == l1.length) = false := by first | simpa using c3 | (simp at c3 ⊢; omega)); obtain rfl := Option.some.inj H; (go_enter Tryd.func76, Tryd.ntmps76); (go_wp2); (repeat (go_quiet (fail); try go_wp2)); (go_ret); (exact ⟨qI, by repeat (first | exact Drawn0.refl _ | apply Drawn0.step)⟩)
-- HAND: function 96, by this session's own text
def xx.f (l0 : List Int) : Option (List Int) := if l0.length < 17592186044416 then some l0 else none
theorem xx.calls (A0 : Option Addr) (c0 : Nat) (l0 : List Int) (r : List Int) (w : World) (hr0 : Kd.C (Kd.int .u64) w A0 l0.length l0) (hc0 : l0.length ≤ c0) (h : xx.f l0 = some r) :
  Calls Tryd.prog 96 #[.slice A0 l0.length c0] w fun e w' => ∃ v0_ : Value, e = .returned (v0_) ∧ Kd.R (Kd.int .u64) 81 w' w.heap.size (fun _ => True) v0_ r ∧ Below w.heap.size w w' := by
 unfold xx.f at h
 split at h
 ·rename_i hl
  obtain rfl := Option.some.inj h
  clear h
  cases A0 with
  | none =>
   have e : l0 = [] := by
    cases l0 with
    | nil => rfl
    | cons x l =>
     obtain ⟨ad, e, _⟩ := hr0.2.2 (by simp)
     cases e
   subst e
   clear hr0 hl hc0
   have he : ∀ W : World, (binOp .eql 41 (.slice none 0 c0) (.slice none 0 0)).run Tryd.prog W = .ok (.bool true) W := fun _ => rfl
   go_enter Tryd.func96, Tryd.ntmps96
   go_wp2
   go_ret
   exact ⟨_, rfl, Kd.zaA _ _ _ _ _, Below.refl _ _⟩
  | some ad =>
   have HR0 := za.mk hr0
   have HC0 := za.mk hc0
   clear hr0 hc0
   have HB := za.mk (Below.refl w.heap.size w)
   obtain ⟨y1, hy1⟩ : ∃ y_ : List Int, y_ = (([] : List Int)) := ⟨_, rfl⟩
   have Ny1 := za.mk hy1
   have LM := za.mk (show y1.length + l0.length < 17592186044416 by rw [hy1]; simpa using hl)
   have NE := za.mk (show y1 ++ l0 = l0 by rw [hy1]; rfl)
   clear hy1 hl
   have he : ∀ W : World, (binOp .eql 41 (.slice (some ad) l0.length c0) (.slice none 0 0)).run Tryd.prog W = .ok (.bool false) W := fun _ => rfl
   go_enter Tryd.func96, Tryd.ntmps96
   go_wp2_with (first | ((with_reducible refine zv (N := 5) rfl ?_); refine Kd.zaa (Kd.int .u64) _ 81 ?hg (N := 5) ?hd (xs := ([] : List Int)) (inner := []) (ok := fun _ => True) (okp := fun _ => True) ?hr ?hp (fun _ hk => hk) trivial (Below.refl _ _) (Nat.le_refl _) (by simp) ?_; (case hd => rfl); (case hg => rfl); (case hr => first | (go_simp; done) | (go_simp; rfl)); (case hp => exact (Reps.none _ _)); intro v586 w6 ho7 hb hg_ hnew_; clear hg_ hnew_; rw [← Ny1.out] at ho7; have HO587 := za.mk (Kd.yK ho7 (zb HB.out)); replace HB := za.mk (zQ HB.out hb); clear hb ho7) | ((with_reducible refine yI (b := .append) (xs := #[.tmp 5, .tmp 6]) rfl ?_); at_builtin; refine Kd.xn (Kd.int .u64) (w0 := w) w.heap.size rfl (.tmp 5) (.tmp 6) 41 81 (.int .u64 0) 8 rfl Tryd.underlying41 info81 rfl (by decide) (by omega) v586 y1 l0 _ _ _ (fun _ => True) (fun _ => False) rfl rfl ?aO ?aR (fun _ _ h => h) (fun _ h => h.elim) ?aF ?aB ?aS ?aL ?_; (case aR => exact (Kd.yL HR0.out HB.out)); (case aB => exact HB.out); (case aF => exact (fun _ _ => trivial)); (case aO => exact HO587.out); (case aS => exact (zb HB.out)); (case aL => have := LM.out; omega); intro v589 w8 ho hb hg hat; rw [NE.out] at ho; have n0_ := za.mk (hb); have n1_ := za.mk (ho); clear HB; clear HO587; have HB := n0_; have HO590 := n1_; clear n0_ n1_; clear ho hb hg hat))
   go_ret
   exact ⟨_, rfl, HO590.out, HB.out⟩
 ·cases h
end Go.Proofs.YtldhiaiaildnlaaDoor.Q
