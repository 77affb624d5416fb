/- Texts of the claim: Qx0, Qx1, Qx2, Qx3, Qx4. -/
import Derived.Test.YtmpenkinheneoaaDoorProg
import Derived.Below
import Derived.Deep.Draws
import Derived.Deep.AppendLies
import Derived.Maps.AppendAt
import Derived.OwnWalk
import Derived.Laws.BytesArg
import Derived.Laws.MakeOwn
import Derived.Laws.OwnMore
import Derived.Deep.OwnRows
import Derived.Tactics
import Derived.Lib.ConvBytes
import Derived.Laws.Slices
import Derived.WalkKit
import Derived.KernelRfl
import Derived.RowKit3
import Derived.Deep.LoopGhost
import Derived.Deep.QuietTactic
import Derived.BigQuiet
import Derived.WideLaws
import Derived.Deep.DeepCutAuto
import Derived.Deep.CutBlock
import Derived.Deep.RegionHeld3
import Derived.Laws.Rows
import Derived.Lib.AppendStr
import Derived.ArgAppend
import Derived.Laws.IdiomCopy
import Derived.OrdersHeld
import Derived.Laws.BitsLemmas
import Derived.RowKit
import Derived.Test.YtmpenkinheneoaaDoorLHPure
import Derived.Test.YtmpenkinheneoaaDoorLHWords
import Derived.Test.YtmpenkinheneoaaDoorLHShelf
import Derived.Test.YtmpenkinheneoaaDoorLPlainB
import Derived.Test.YtmpenkinheneoaaDoorLHLex
import Derived.StillTailTactics
import Derived.BigRegion
import Derived.Test.YtmpenkinheneoaaDoorLWWords
import Derived.Test.YtmpenkinheneoaaDoorLWLast
import Derived.Test.YtmpenkinheneoaaDoorLWTab
import Derived.Laws.StructEq
import Derived.Test.YtmpenkinheneoaaDoorLWRepsOne
import Derived.Test.YtmpenkinheneoaaDoorLWMore
namespace Go.Proofs.YtmpenkinheneoaaDoor.Q
open Go.RowKit Go.Proofs.YtmpenkinheneoaaDoorW.PrintWords Go.Proofs.YtmpenkinheneoaaDoorW.PrintLast Go.Proofs.YtmpenkinheneoaaDoorW.PrintMore
attribute [local go_sem] max2_int min2_int max_two min_two max_three min_three max_four min_four   -- for this text's walks alone
set_option linter.unusedVariables false
set_option linter.unusedSimpArgs false
def errW : Option Int → Value
 | none => .nilIface
 | some c => .iface 0 (.int .i64 c)
theorem errW_none : errW none = .nilIface := rfl
theorem errW_some (c : Int) : errW (some c) = .iface 0 (.int .i64 c) := rfl
theorem info3 : (Tryd.prog.info? 3).map (fun i => (i.zero, i.size, i.bytes)) = some (some (.int .i64 0), 1, 8) := by kernel_rfl
theorem info34 : (Tryd.prog.info? 34).map (fun i => (i.zero, i.size, i.bytes)) = some (some (.agg #[(.int .i64 0), (.string ⟨#[]⟩), (.int .i64 0)]), 3, 32) := by kernel_rfl
theorem info41 : (Tryd.prog.info? 41).map (fun i => (i.zero, i.size, i.bytes)) = some (some (.agg #[(.int .i64 0), (.string ⟨#[]⟩), (.int .i64 0)]), 3, 32) := by kernel_rfl
-- the values' own types
structure S34 where
 f0 : Int
 f1 : ByteArray
 f2 : Int
def z34 : S34 := ⟨(0 : Int), (⟨#[]⟩ : ByteArray), (0 : Int)⟩
def k34 : Kd S34 := Kd.iso (Kd.pair (Kd.int .i64) (Kd.pair Kd.string (Kd.int .i64))) (fun x : S34 => (x.f0, x.f1, x.f2))
theorem k34_open {w : World} {x : S34} {cs : List Value} (h : k34.K w x cs) : cs = [.int .i64 x.f0, .string x.f1, .int .i64 x.f2] := by
 obtain ⟨_, _, rfl, rfl, ⟨_, _, rfl, rfl, rfl⟩⟩ := h; exact rfl
theorem k34_mkM (w : World) (base : Nat) (ok : Nat → Prop) (x : S34)  : k34.M w base ok x [.int .i64 x.f0, .string x.f1, .int .i64 x.f2] := ⟨[.int .i64 x.f0], [.string x.f1, .int .i64 x.f2], rfl, rfl, ⟨[.string x.f1], [.int .i64 x.f2], rfl, rfl, rfl⟩⟩
def rd_T34 (xs : List S34) (i : Int) : S34 := xs.getD i.toNat z34
theorem at_T34 {w : World} {A : Option Addr} {n : Nat} {xs : List S34} (h : Kd.C k34 w A n xs) (i : Int) (h0 : 0 ≤ i) (h1 : i < n) : ∃ ad , A = some ad ∧ w.cell? (ad.add (i.toNat * 3)) = some (.int .i64 (rd_T34 xs i).f0) ∧ w.cell? ⟨(ad.add (i.toNat * 3)).block, (ad.add (i.toNat * 3)).off + 1, none⟩ = some (.string (rd_T34 xs i).f1) ∧ w.cell? ⟨(ad.add (i.toNat * 3)).block, (ad.add (i.toNat * 3)).off + 2, none⟩ = some (.int .i64 (rd_T34 xs i).f2) := by
 obtain ⟨ad, c, e, _, hK, hc0⟩ := Kd.C_get h z34 i h0 h1; have hc : ∀ j u, c[j]? = some u → w.cell? (ad.add (i.toNat * 3 + j)) = some u := hc0; obtain rfl := k34_open hK; (exact ⟨ad, e, hc 0 _ rfl, by rw [← add_field _ _ 1 (by omega)]; exact hc 1 _ rfl, by rw [← add_field _ _ 2 (by omega)]; exact hc 2 _ rfl⟩)
structure S41 where
 f0 : Int
 f1 : ByteArray
 f2 : Int
def z41 : S41 := ⟨(0 : Int), (⟨#[]⟩ : ByteArray), (0 : Int)⟩
def k41 : Kd S41 := Kd.iso (Kd.pair (Kd.int .i64) (Kd.pair Kd.string (Kd.int .i64))) (fun x : S41 => (x.f0, x.f1, x.f2))
theorem k41_open {w : World} {x : S41} {cs : List Value} (h : k41.K w x cs) : cs = [.int .i64 x.f0, .string x.f1, .int .i64 x.f2] := by
 obtain ⟨_, _, rfl, rfl, ⟨_, _, rfl, rfl, rfl⟩⟩ := h; exact rfl
theorem k41_mkM (w : World) (base : Nat) (ok : Nat → Prop) (x : S41)  : k41.M w base ok x [.int .i64 x.f0, .string x.f1, .int .i64 x.f2] := ⟨[.int .i64 x.f0], [.string x.f1, .int .i64 x.f2], rfl, rfl, ⟨[.string x.f1], [.int .i64 x.f2], rfl, rfl, rfl⟩⟩
def rd_T41 (xs : List S41) (i : Int) : S41 := xs.getD i.toNat z41
theorem at_T41 {w : World} {A : Option Addr} {n : Nat} {xs : List S41} (h : Kd.C k41 w A n xs) (i : Int) (h0 : 0 ≤ i) (h1 : i < n) : ∃ ad , A = some ad ∧ w.cell? (ad.add (i.toNat * 3)) = some (.int .i64 (rd_T41 xs i).f0) ∧ w.cell? ⟨(ad.add (i.toNat * 3)).block, (ad.add (i.toNat * 3)).off + 1, none⟩ = some (.string (rd_T41 xs i).f1) ∧ w.cell? ⟨(ad.add (i.toNat * 3)).block, (ad.add (i.toNat * 3)).off + 2, none⟩ = some (.int .i64 (rd_T41 xs i).f2) := by
 obtain ⟨ad, c, e, _, hK, hc0⟩ := Kd.C_get h z41 i h0 h1; have hc : ∀ j u, c[j]? = some u → w.cell? (ad.add (i.toNat * 3 + j)) = some u := hc0; obtain rfl := k41_open hK; (exact ⟨ad, e, hc 0 _ rfl, by rw [← add_field _ _ 1 (by omega)]; exact hc 1 _ rfl, by rw [← add_field _ _ 2 (by omega)]; exact hc 2 _ rfl⟩)
end Go.Proofs.YtmpenkinheneoaaDoor.Q
namespace Go.Proofs.YtmpenkinheneoaaDoor.Q
open Go.RowKit Go.Proofs.YtmpenkinheneoaaDoorW.PrintWords Go.Proofs.YtmpenkinheneoaaDoorW.PrintLast Go.Proofs.YtmpenkinheneoaaDoorW.PrintMore
attribute [local go_sem] max2_int min2_int max_two min_two max_three min_three max_four min_four   -- for this text's walks alone
set_option linter.unusedVariables false
set_option linter.unusedSimpArgs false
def stringslite_HasPrefix.f (a0 : ByteArray) (a1 : ByteArray) : Option (Bool) := if (a0.size : Int) ≥ (a1.size : Int) then (if 0 ≤ (a1.size : Int) then (if (a1.size : Int) ≤ (a0.size : Int) then (some ((a0.extract 0 ((a1.size : Int) : Int).toNat).toList == a1.toList)) else (none)) else (none)) else (some false)
set_option maxHeartbeats 8000000 in
set_option maxRecDepth 100000 in
theorem stringslite_HasPrefix.calls (a0 : ByteArray) (a1 : ByteArray) (r : Bool) (w : World) (h : stringslite_HasPrefix.f a0 a1 = some r) :
  Calls Tryd.prog 52 #[.string a0, .string a1] w fun e w' => e = .returned (.bool r) ∧ Drawn0 w w' := by
 have H : (if (a0.size : Int) ≥ (a1.size : Int) then (if 0 ≤ (a1.size : Int) then (if (a1.size : Int) ≤ (a0.size : Int) then (some ((a0.extract 0 ((a1.size : Int) : Int).toNat).toList == a1.toList)) else (none)) else (none)) else (some false)) = some r := h; clear h; by_cases c3 : (a0.size : Int) ≥ (a1.size : Int)
 ·rw [if_pos c3] at H; have c3b0 : decide ((a1.size : Int) ≤ (a0.size : Int)) = true := decide_eq_true c3; have c3b1 : decide (a1.size ≤ a0.size) = true := decide_eq_true (Int.ofNat_le.mp c3); clear c3; by_cases c4 : 0 ≤ (a1.size : Int)
  ·rw [if_pos c4] at H; have c4b0 := eq_true c4; have c4b1 : decide (0 ≤ (a1.size : Int)) = true := decide_eq_true c4; clear c4; by_cases c5 : (a1.size : Int) ≤ (a0.size : Int)
   ·rw [if_pos c5] at H; have c5b0 := eq_true c5; have c5b1 : decide ((a1.size : Int) ≤ (a0.size : Int)) = true := decide_eq_true c5; clear c5; obtain rfl := Option.some.inj H; (go_enter Tryd.func52, Tryd.ntmps52); (go_wp2); (go_ret); (exact ⟨by first | rfl | (simp; done) | (simp [*]; done), by repeat (first | exact Drawn0.refl _ | apply Drawn0.step)⟩)
   ·rw [if_neg c5] at H; (exact absurd H (by simp))
  ·rw [if_neg c4] at H; (exact absurd H (by simp))
 ·rw [if_neg c3] at H; have c3b0 : decide ((a1.size : Int) ≤ (a0.size : Int)) = false := decide_eq_false c3; (have c3b1 : decide (a1.size ≤ a0.size) = false := decide_eq_false (fun h => c3 (Int.ofNat_le.mpr h))); clear c3; obtain rfl := Option.some.inj H; (go_enter Tryd.func52, Tryd.ntmps52); (go_wp2); (go_ret); (exact ⟨by first | rfl | (simp; done) | (simp [*]; done), by repeat (first | exact Drawn0.refl _ | apply Drawn0.step)⟩)
def strings_HasPrefix.f (a0 : ByteArray) (a1 : ByteArray) : Option (Bool) := (stringslite_HasPrefix.f a0 a1).bind fun t101 => (some t101)
set_option maxHeartbeats 8000000 in
set_option maxRecDepth 100000 in
theorem strings_HasPrefix.calls (a0 : ByteArray) (a1 : ByteArray) (r : Bool) (w : World) (h : strings_HasPrefix.f a0 a1 = some r) :
  Calls Tryd.prog 34 #[.string a0, .string a1] w fun e w' => e = .returned (.bool r) ∧ Drawn0 w w' := by
 (have H : ((stringslite_HasPrefix.f a0 a1).bind fun t101 => (some t101)) = some r := h); clear h; replace H := Option.bind_eq_some_iff.mp H; obtain ⟨t101, A30, H⟩ := H; replace H : (some t101) = some r := H; have A3 := Aside0.mk A30; clear A30; obtain rfl := Option.some.inj H; (go_enter Tryd.func34, Tryd.ntmps34); (go_wp2_with (first | ((with_reducible refine gate_callee (f := 52) rfl ?_); refine goesL_ (some 7) rfl rfl Tryd.func52 (by kernel_rfl) rfl #[.string a0, .string a1] rfl (by (try simp only [List.map_toArray, List.map_cons, List.map_nil]); first | done | rfl | (simp only [List.length_drop, List.length_take]; rfl)) ?_; (with_reducible refine (stringslite_HasPrefix.calls a0 a1 t101 _ A3.out).mono ?_); rintro e w' ⟨rfl, ⟨nd, rfl⟩⟩; refine ⟨_, rfl, ?_⟩))); (go_ret); (exact ⟨by first | rfl | (simp; done) | (simp [*]; done), by repeat (first | exact Drawn0.refl _ | apply Drawn0.step)⟩)
mutual
def chars_isChar.j0 : Nat → Int → Bool → Option (Bool)
 | 0, _, _ => none
 | k + 1, x0, x3 => if x3 = true then (some true) else (if x0 ≥ 32 then (chars_isChar.j1 k x0 (decide (x0 ≤ 55295))) else (chars_isChar.j1 k x0 false))
def chars_isChar.j1 : Nat → Int → Bool → Option (Bool)
 | 0, _, _ => none
 | k + 1, x0, x14 => if x14 = true then (some true) else (if x0 ≥ 57344 then (if x0 ≤ 65533 then (some true) else (if x0 ≥ 65536 then (some (decide (x0 ≤ 1114111))) else (some false))) else (if x0 ≥ 65536 then (some (decide (x0 ≤ 1114111))) else (some false)))
end
def chars_isChar.f (k : Nat) (a0 : Int) : Option (Bool) := if a0 = 9 then (chars_isChar.j0 k a0 true) else (if a0 = 10 then (chars_isChar.j0 k a0 true) else (chars_isChar.j0 k a0 (a0 == 13)))
theorem chars_isChar.mono_l : ∀ k, (∀ y0 y1, LeO (chars_isChar.j0 k y0 y1) (chars_isChar.j0 (k + 1) y0 y1)) ∧ (∀ y0 y1, LeO (chars_isChar.j1 k y0 y1) (chars_isChar.j1 (k + 1) y0 y1))
 | 0 => ⟨fun _ _ r h => by simp [chars_isChar.j0] at h, fun _ _ r h => by simp [chars_isChar.j1] at h⟩
 | k + 1 => by
  obtain ⟨ih0, ih1⟩ := chars_isChar.mono_l k
  refine ⟨?_, ?_⟩
  ·intro y0 y1
   unfold chars_isChar.j0
   repeat' first
   | (with_reducible exact ih0 _ _)
   | (with_reducible exact ih1 _ _)
   | (with_reducible exact LeO.refl _)
   | (with_reducible exact LeO.none _)
   | (with_reducible refine LeO.ite ?_ ?_)
   | (with_reducible refine LeO.bind ?_ (fun _ => ?_))
   | exact ih0 _ _
   | exact ih1 _ _
   | exact LeO.none _
   | refine LeO.ite ?_ ?_
   | refine LeO.bind ?_ (fun _ => ?_)
  ·intro y0 y1
   unfold chars_isChar.j1
   repeat' first
   | (with_reducible exact ih0 _ _)
   | (with_reducible exact ih1 _ _)
   | (with_reducible exact LeO.refl _)
   | (with_reducible exact LeO.none _)
   | (with_reducible refine LeO.ite ?_ ?_)
   | (with_reducible refine LeO.bind ?_ (fun _ => ?_))
   | exact ih0 _ _
   | exact ih1 _ _
   | exact LeO.none _
   | refine LeO.ite ?_ ?_
   | refine LeO.bind ?_ (fun _ => ?_)
theorem chars_isChar.mono : ∀ a0 k, LeO (chars_isChar.f k a0) (chars_isChar.f (k + 1) a0) := by
 intro a0 k; obtain ⟨ih0, ih1⟩ := chars_isChar.mono_l k; unfold chars_isChar.f
 repeat' first
   | (with_reducible exact ih0 _ _)
   | (with_reducible exact ih1 _ _)
   | (with_reducible exact LeO.refl _)
   | (with_reducible exact LeO.none _)
   | (with_reducible refine LeO.ite ?_ ?_)
   | (with_reducible refine LeO.bind ?_ (fun _ => ?_))
   | exact ih0 _ _
   | exact ih1 _ _
   | exact LeO.none _
   | refine LeO.ite ?_ ?_
   | refine LeO.bind ?_ (fun _ => ?_)
set_option maxHeartbeats 8000000 in
set_option maxRecDepth 100000 in
theorem chars_isChar.calls (k : Nat) (a0 : Int) (r : Bool) (w : World) (h : chars_isChar.f k a0 = some r) :
  Calls Tryd.prog 39 #[.int .i32 a0] w fun e w' => e = .returned (.bool r) ∧ Drawn0 w w' := by
 have H : (if a0 = 9 then (chars_isChar.j0 k a0 true) else (if a0 = 10 then (chars_isChar.j0 k a0 true) else (chars_isChar.j0 k a0 (a0 == 13)))) = some r := h; clear h; have HC2 := Aside0.mk H; clear H; (go_enter Tryd.func39, Tryd.ntmps39); (go_upto_region 1 with (fail)); (go_cut [3] (fun v3 wc => ∃ (kq : Nat) (x3_1 : Bool), v3 = .bool x3_1 ∧ Aside0 (chars_isChar.j0 kq a0 x3_1 = some r) ∧ Aside0 (kq ≤ k) ∧ Drawn0 w wc))
 case first =>
  have H := HC2.out; clear HC2; by_cases c3 : a0 = 9
  ·rw [if_pos c3] at H; have c3b0 : (a0 == 9) = true := beq_iff_eq.mpr c3; have c3b1 : (a0 != 9) = false := bne_eq_false_iff_eq.mpr c3; clear c3; (first | rw [c3b0] | (simp only [i64_w, i32_w]; rw [c3b0]) | skip); have H' := Aside0.mk H; clear H; (go_wp2); (go_meet)
   case rel => exact ⟨_, (true), (by first | rfl | (simp; done) | (simp [*]; done)), H', ⟨by first | omega | exact Nat.le_refl _⟩, by repeat (first | exact Drawn0.refl _ | apply Drawn0.step)⟩
  ·rw [if_neg c3] at H; have c3b0 : (a0 == 9) = false := beq_eq_false_iff_ne.mpr c3; have c3b1 : (a0 != 9) = true := bne_iff_ne.mpr c3; (first | rw [c3b0] | (simp only [i64_w, i32_w]; rw [c3b0]) | skip); by_cases c4 : a0 = 10
   ·rw [if_pos c4] at H; have c4b0 : (a0 == 10) = true := beq_iff_eq.mpr c4; have c4b1 : (a0 != 10) = false := bne_eq_false_iff_eq.mpr c4; clear c4; have H' := Aside0.mk H; clear H; (go_wp2); (go_meet)
    case rel => exact ⟨_, (true), (by first | rfl | (simp; done) | (simp [*]; done)), H', ⟨by first | omega | exact Nat.le_refl _⟩, by repeat (first | exact Drawn0.refl _ | apply Drawn0.step)⟩
   ·rw [if_neg c4] at H; have c4b0 : (a0 == 10) = false := beq_eq_false_iff_ne.mpr c4; have c4b1 : (a0 != 10) = true := bne_iff_ne.mpr c4; have H' := Aside0.mk H; clear H; (go_wp2); (go_meet)
    case rel => exact ⟨_, ((a0 == 13)), (by first | rfl | (simp; done) | (simp [*]; done)), H', ⟨by first | omega | exact Nat.le_refl _⟩, by repeat (first | exact Drawn0.refl _ | apply Drawn0.step)⟩
 case rest =>
  clear HC2; ((try clear p2); (try clear c3); (try clear c3b0); (try clear c3b1); (try clear c4); (try clear c4b0); (try clear c4b1)); obtain ⟨kq, x3_1, rfl, HA, HJ1, ⟨mc1, rfl⟩⟩ := hcut
  cases kq with
  | zero => exact absurd HA.out (by simp [chars_isChar.j0])
  | succ kj1 =>
   have H := HA.out; clear HA; simp only [chars_isChar.j0] at H; by_cases c5 : x3_1 = true
   ·subst c5; (have H1 : (some true) = some r := by rw [if_pos rfl] at H; exact H); clear H; have H := H1; clear H1; obtain rfl := Option.some.inj H; (go_wp2); (go_ret); (exact ⟨by first | rfl | (simp; done) | (simp [*]; done), by repeat (first | exact Drawn0.refl _ | apply Drawn0.step)⟩)
   ·replace c5 := Bool.eq_false_iff.mpr c5; subst c5; (have H1 : (if a0 ≥ 32 then (chars_isChar.j1 kj1 a0 (decide (a0 ≤ 55295))) else (chars_isChar.j1 kj1 a0 false)) = some r := by rw [if_neg (show ¬ (false = true) by decide)] at H; exact H); clear H; have H := H1; clear H1; have HC6 := Aside0.mk H; clear H; (go_upto_region 3 with (fail)); (go_cut [14] (fun v14 wc => ∃ (kq : Nat) (x14_5 : Bool), v14 = .bool x14_5 ∧ Aside0 (chars_isChar.j1 kq a0 x14_5 = some r) ∧ Aside0 (kq ≤ kj1) ∧ Drawn0 w wc))
    case first =>
     have H := HC6.out; clear HC6; by_cases c7 : a0 ≥ 32
     ·rw [if_pos c7] at H; have c7b0 : decide (32 ≤ a0) = true := decide_eq_true c7; clear c7; (first | rw [c7b0] | (simp only [i64_w, i32_w]; rw [c7b0]) | skip); have H' := Aside0.mk H; clear H; (go_wp2); (go_meet)
      case rel => exact ⟨_, (decide (a0 ≤ 55295)), (by first | rfl | (simp; done) | (simp [*]; done)), H', ⟨by have := HJ1.out; first | omega | exact Nat.le_refl _⟩, by repeat (first | exact Drawn0.refl _ | apply Drawn0.step)⟩
     ·rw [if_neg c7] at H; have c7b0 : decide (32 ≤ a0) = false := decide_eq_false c7; clear c7; (first | rw [c7b0] | (simp only [i64_w, i32_w]; rw [c7b0]) | skip); have H' := Aside0.mk H; clear H; (go_wp2); (go_meet)
      case rel => exact ⟨_, (false), (by first | rfl | (simp; done) | (simp [*]; done)), H', ⟨by have := HJ1.out; first | omega | exact Nat.le_refl _⟩, by repeat (first | exact Drawn0.refl _ | apply Drawn0.step)⟩
    case rest =>
     clear HC6; ((try clear c1); (try clear p2); (try clear c3); (try clear c3b0); (try clear c3b1); (try clear c4); (try clear c4b0); (try clear c4b1); (try clear c5); (try clear c7); (try clear c7b0); (try clear p2)); obtain ⟨kq, x14_5, rfl, HA, HJ5, ⟨mc5, rfl⟩⟩ := hcut
     cases kq with
     | zero => exact absurd HA.out (by simp [chars_isChar.j1])
     | succ kj5 =>
      have H := HA.out; clear HA; simp only [chars_isChar.j1] at H; by_cases c8 : x14_5 = true
      ·subst c8; (have H1 : (some true) = some r := by rw [if_pos rfl] at H; exact H); clear H; have H := H1; clear H1; obtain rfl := Option.some.inj H; (go_wp2); (go_ret); (exact ⟨by first | rfl | (simp; done) | (simp [*]; done), by repeat (first | exact Drawn0.refl _ | apply Drawn0.step)⟩)
      ·replace c8 := Bool.eq_false_iff.mpr c8; subst c8; (have H1 : (if a0 ≥ 57344 then (if a0 ≤ 65533 then (some true) else (if a0 ≥ 65536 then (some (decide (a0 ≤ 1114111))) else (some false))) else (if a0 ≥ 65536 then (some (decide (a0 ≤ 1114111))) else (some false))) = some r := by rw [if_neg (show ¬ (false = true) by decide)] at H; exact H); clear H; have H := H1; clear H1; by_cases c9 : a0 ≥ 57344
       ·rw [if_pos c9] at H; have c9b0 : decide (57344 ≤ a0) = true := decide_eq_true c9; clear c9; by_cases c10 : a0 ≤ 65533
        ·rw [if_pos c10] at H; have c10b0 : decide (a0 ≤ 65533) = true := decide_eq_true c10; clear c10; obtain rfl := Option.some.inj H; (go_wp2); (go_ret); (exact ⟨by first | rfl | (simp; done) | (simp [*]; done), by repeat (first | exact Drawn0.refl _ | apply Drawn0.step)⟩)
        ·rw [if_neg c10] at H; have c10b0 : decide (a0 ≤ 65533) = false := decide_eq_false c10; clear c10; by_cases c11 : a0 ≥ 65536
         ·rw [if_pos c11] at H; have c11b0 : decide (65536 ≤ a0) = true := decide_eq_true c11; clear c11; obtain rfl := Option.some.inj H; (go_wp2); (go_ret); (exact ⟨by first | rfl | (simp; done) | (simp [*]; done), by repeat (first | exact Drawn0.refl _ | apply Drawn0.step)⟩)
         ·rw [if_neg c11] at H; have c11b0 : decide (65536 ≤ a0) = false := decide_eq_false c11; clear c11; obtain rfl := Option.some.inj H; (go_wp2); (go_ret); (exact ⟨by first | rfl | (simp; done) | (simp [*]; done), by repeat (first | exact Drawn0.refl _ | apply Drawn0.step)⟩)
       ·rw [if_neg c9] at H; have c9b0 : decide (57344 ≤ a0) = false := decide_eq_false c9; clear c9; by_cases c12 : a0 ≥ 65536
        ·rw [if_pos c12] at H; have c12b0 : decide (65536 ≤ a0) = true := decide_eq_true c12; clear c12; obtain rfl := Option.some.inj H; (go_wp2); (go_ret); (exact ⟨by first | rfl | (simp; done) | (simp [*]; done), by repeat (first | exact Drawn0.refl _ | apply Drawn0.step)⟩)
        ·rw [if_neg c12] at H; have c12b0 : decide (65536 ≤ a0) = false := decide_eq_false c12; clear c12; obtain rfl := Option.some.inj H; (go_wp2); (go_ret); (exact ⟨by first | rfl | (simp; done) | (simp [*]; done), by repeat (first | exact Drawn0.refl _ | apply Drawn0.step)⟩)
end Go.Proofs.YtmpenkinheneoaaDoor.Q
namespace Go.Proofs.YtmpenkinheneoaaDoor.Q
open Go.RowKit Go.Proofs.YtmpenkinheneoaaDoorW.PrintWords Go.Proofs.YtmpenkinheneoaaDoorW.PrintLast Go.Proofs.YtmpenkinheneoaaDoorW.PrintMore
attribute [local go_sem] max2_int min2_int max_two min_two max_three min_three max_four min_four   -- for this text's walks alone
set_option linter.unusedVariables false
set_option linter.unusedSimpArgs false
-- HAND: function 20, by this session's own text
theorem chars_isChar_ok (c : Int) : chars_isChar.f 3 c = some (HPure.isChar c) := by
 unfold chars_isChar.f
 simp only [chars_isChar.j0, chars_isChar.j1, HPure.isChar]
 by_cases h9 : c = 9
 ·subst h9; rfl
 by_cases h10 : c = 10
 ·subst h10; rfl
 by_cases h13 : c = 13
 ·subst h13; rfl
 have e9 : (c == 9) = false := beq_eq_false_iff_ne.2 h9
 have e10 : (c == 10) = false := beq_eq_false_iff_ne.2 h10
 have e13 : (c == 13) = false := beq_eq_false_iff_ne.2 h13
 simp only [if_neg h9, if_neg h10, e9, e10, e13, Bool.false_or, Bool.false_eq_true, if_false, ge_iff_le]
 repeat' split
 all_goals simp_all
 all_goals omega
theorem hasPrefix_bad (s : ByteArray) (i : Nat) (hi : i ≤ s.size) : strings_HasPrefix.f (s.extract i s.size) ⟨#[239, 191, 189]⟩ = some (HPure.isBad s i) := by
 unfold strings_HasPrefix.f stringslite_HasPrefix.f HPure.isBad
 have hz : (s.extract i s.size).size = s.size - i := by rw [← Plain.size_data, Lib.extract_to_end]; simp
 have h3 : ((⟨#[239, 191, 189]⟩ : ByteArray).size : Int) = 3 := rfl
 rw [h3, hz]
 by_cases h : i + 3 ≤ s.size
 ·rw [if_pos (by omega), if_pos (by omega), if_pos (by omega), Option.bind_some, decide_eq_true h, Bool.true_and]
  have e1 : ((s.extract i s.size).extract 0 (3 : Int).toNat).toList = [s.get! i, s.get! (i + 1), s.get! (i + 2)] := by
   rw [Lib.toList_data, Lib.extract_data, Lib.extract_to_end]
   have gg : ∀ j, s.get! j = s.data.toList[j]?.getD 0 := by
    intro j
    rw [← Plain.mk_get, Plain.mk_data]
   have := Plain.take_of_get s.data.toList i 3 (by rw [Plain.size_data]; omega) (by omega)
   rw [this, gg i, gg (i + 1), gg (i + 2)]
   rfl
  have e2 : (⟨#[239, 191, 189]⟩ : ByteArray).toList = [239, 191, 189] := by rw [Lib.toList_data]
  rw [e1, e2]
  simp [Bool.and_assoc]
 ·rw [if_neg (by omega), decide_eq_false h]
  rfl
def chars_IsText.f (a0 : ByteArray) : Option (Bool) := if a0.size ≤ 140737488355328 then some (HPure.isText a0) else none
set_option maxHeartbeats 400000 in
set_option maxRecDepth 100000 in
theorem chars_IsText.walk (s : ByteArray) (w : World) (hs : s.size ≤ 140737488355328) :
  Calls Tryd.prog 20 #[.string s] w fun e w' => e = .returned (.bool (HPure.isText s)) ∧ Below w.heap.size w w' := by
 go_enter Tryd.func20, Tryd.ntmps20
 go_wp2
 go_loopw [] (fun wr => ∃ (pos fuel : Nat), wr.heap[w.heap.size]? = some (.stringIter s pos) ∧ Below w.heap.size w wr ∧ Aside0 (HPure.isTextFrom s fuel pos = HPure.isText s) ∧ s.size ≤ pos + fuel) (fun wr => s.size - wr.iterPos w.heap.size)
 case atStart =>
  exact ⟨0, s.size, World.iter_heap w s 0, (Below.refl _ w).alloc (Nat.le_refl _) _, ⟨rfl⟩, by omega⟩
 case round =>
  obtain ⟨pos, fuel, hit, hbw, hfr, hfu⟩ := hrel
  have hsz : w.heap.size < wr.heap.size := (Array.getElem?_eq_some_iff.1 hit).1
  by_cases hp : pos < s.size
  ·have hnx : ∀ ty, (Instr.next (.pointer (some ⟨w.heap.size, 0, none⟩)) true ty).run Tryd.prog wr = _ := fun ty => Lib.run_next_any_at wr w.heap.size s pos ty hit hp
   have hwd := Lib.decode_width_pos s pos hp
   have hit2 := Lib.iterAt_heap wr w.heap.size s pos (pos + (Utf8.decode s pos).2) hit
   have hbw2 := Lib.below_iterAt hbw (k := w.heap.size) (Nat.le_refl _) s (pos + (Utf8.decode s pos).2)
   obtain ⟨f, rfl⟩ : ∃ f, fuel = f + 1 := ⟨fuel - 1, by omega⟩
   have hfr' := hfr.out
   have HI := Aside0.mk hit
   clear hfr hit hbw
   simp only [HPure.isTextFrom, if_pos hp] at hfr'
   have hch := chars_isChar_ok ((Utf8.decode s pos).1 : Int)
   have hbd := hasPrefix_bad s pos (by omega)
   generalize HPure.isChar ((Utf8.decode s pos).1 : Int) = b1 at hch hfr'
   generalize HPure.isBad s pos = b2 at hbd hfr'
   generalize hc : (Utf8.decode s pos).1 = c at hch hfr' hnx
   generalize hd : (Utf8.decode s pos).2 = d at hfr' hnx hwd hit2 hbw2
   clear hc hd
   have HC := Aside0.mk hch
   have HD := Aside0.mk hbd
   clear hch hbd
   generalize hW : wr.iterAt w.heap.size s (pos + d) = W at hnx hit2 hbw2
   clear hW
   cases b1
   ·have hfin : false = HPure.isText s := by simpa using hfr'
    clear hfr'
    have HF := Aside0.mk hfin
    clear hfin
    go_wp2_with (first | (go_at_call 39; refine (chars_isChar.calls 3 _ _ _ HC.out).mono ?_; rintro e w' ⟨rfl, ⟨nd, rfl⟩⟩))
    go_ret
    exact ⟨by rw [← HF.out]; simp, pw_below_drewN hbw2 _⟩
   ·by_cases h65 : c = 65533
    ·have e65 : ((c : Int) == 65533) = true := by rw [beq_iff_eq]; omega
     have f65 : (c == 65533) = true := by rw [beq_iff_eq]; omega
     clear h65
     rw [f65] at hfr'
     clear f65
     cases b2
     ·have hfin : false = HPure.isText s := by simpa using hfr'
      clear hfr'
      have HF := Aside0.mk hfin
      clear hfin
      go_wp2_with (first | (go_at_call 39; refine (chars_isChar.calls 3 _ _ _ HC.out).mono ?_; rintro e w' ⟨rfl, ⟨nd, rfl⟩⟩) | (go_at_call 34; refine (strings_HasPrefix.calls _ _ _ _ HD.out).mono ?_; rintro e w' ⟨rfl, ⟨nd2, rfl⟩⟩))
      go_ret
      exact ⟨by rw [← HF.out]; simp, pw_below_drewN hbw2 _⟩
     ·have hfin : HPure.isTextFrom s f (pos + d) = HPure.isText s := by simpa using hfr'
      clear hfr'
      have HF := Aside0.mk hfin
      clear hfin
      go_wp2_with (first | (go_at_call 39; refine (chars_isChar.calls 3 _ _ _ HC.out).mono ?_; rintro e w' ⟨rfl, ⟨nd, rfl⟩⟩) | (go_at_call 34; refine (strings_HasPrefix.calls _ _ _ _ HD.out).mono ?_; rintro e w' ⟨rfl, ⟨nd2, rfl⟩⟩))
      go_roundw
      case rel => exact ⟨pos + d, f, hit2, pw_below_drewN hbw2 _, HF, by omega⟩
      case measure => rw [HW.iterPos_drewN, HW.iterPos_at hit2, HW.iterPos_at HI.out]; omega
    ·have e65 : ((c : Int) == 65533) = false := by rw [beq_eq_false_iff_ne]; omega
     have f65 : (c == 65533) = false := by rw [beq_eq_false_iff_ne]; omega
     clear h65
     rw [f65] at hfr'
     clear f65
     have hfin : HPure.isTextFrom s f (pos + d) = HPure.isText s := by simpa using hfr'
     clear hfr'
     have HF := Aside0.mk hfin
     clear hfin
     go_wp2_with (first | (go_at_call 39; refine (chars_isChar.calls 3 _ _ _ HC.out).mono ?_; rintro e w' ⟨rfl, ⟨nd, rfl⟩⟩) | (go_at_call 34; refine (strings_HasPrefix.calls _ _ _ _ HD.out).mono ?_; rintro e w' ⟨rfl, ⟨nd2, rfl⟩⟩))
     go_roundw
     case rel => exact ⟨pos + d, f, hit2, pw_below_drewN hbw2 _, HF, by omega⟩
     case measure => rw [HW.iterPos_drewN, HW.iterPos_at hit2, HW.iterPos_at HI.out]; omega
  ·have hnx : ∀ ty, (Instr.next (.pointer (some ⟨w.heap.size, 0, none⟩)) true ty).run Tryd.prog wr = _ := fun ty => Lib.run_next_end_at wr w.heap.size s pos ty hit hp
   have hfin : true = HPure.isText s := by rw [← hfr.out, HPure.isTextFrom_end s fuel pos hp]
   clear hfr
   have HF := Aside0.mk hfin
   clear hfin
   go_wp2
   go_ret
   exact ⟨by rw [← HF.out]; simp, hbw⟩
theorem chars_IsText.calls (a0 : ByteArray) (r : Bool) (w : World) (h : chars_IsText.f a0 = some r) :
  Calls Tryd.prog 20 #[.string a0] w fun e w' => e = .returned (.bool r) ∧ Below w.heap.size w w' := by
 unfold chars_IsText.f at h
 split at h
 ·rename_i hs
  obtain rfl := Option.some.inj h
  exact chars_IsText.walk a0 w hs
 ·cases h
end Go.Proofs.YtmpenkinheneoaaDoor.Q
namespace Go.Proofs.YtmpenkinheneoaaDoor.Q
open Go.RowKit Go.Proofs.YtmpenkinheneoaaDoorW.PrintWords Go.Proofs.YtmpenkinheneoaaDoorW.PrintLast Go.Proofs.YtmpenkinheneoaaDoorW.PrintMore
attribute [local go_sem] max2_int min2_int max_two min_two max_three min_three max_four min_four   -- for this text's walks alone
set_option linter.unusedVariables false
set_option linter.unusedSimpArgs false
-- NOT PRINTED: function 55 (bytealg_IndexByteString)
-- NOT PRINTED: function 40 (stringslite_IndexByte)
-- NOT PRINTED: function 22 (strings_IndexByte)
def IsS50 (w0 W : World) (g : Nat) (f0 : ByteArray) (f1 : Int) : Prop := W.heap[g]? = some (.cells #[.string f0, .int .i64 f1] 50 (0, 0)) ∧ w0.heap.size ≤ g
theorem IsS50.grown {w0 W : World} {g : Nat} {f0 : ByteArray} {f1 : Int} {W1 : World} {row : Option Nat} (h : IsS50 w0 W g f0 f1) (hw : W.grownBy W1 row) (hne : some g ≠ row) : IsS50 w0 W1 g f0 f1 := by
 obtain ⟨hb, hg⟩ := h; exact ⟨blk_grown hb hw hne, hg⟩
theorem IsS50.kept {w0 W : World} {g : Nat} {f0 : ByteArray} {f1 : Int} {W1 : World} {S : Nat → Prop} (h : IsS50 w0 W g f0 f1) (hk : Kept W W1 S) (hne : ¬ S g) : IsS50 w0 W1 g f0 f1 := by
 obtain ⟨hb, hg⟩ := h; exact ⟨blk_kept hb hk hne, hg⟩
theorem IsS50.below {w0 W : World} {g : Nat} {f0 : ByteArray} {f1 : Int} {W1 : World} (h : IsS50 w0 W g f0 f1) (hw : Below W.heap.size W W1) : IsS50 w0 W1 g f0 f1 := h.grown (grown_of_below hw none) (by simp)
theorem IsS50.alloc {w0 W : World} {g : Nat} {f0 : ByteArray} {f1 : Int} (h : IsS50 w0 W g f0 f1) (o : Obj) : IsS50 w0 (W.alloc o) g f0 f1 := h.below (below_alloc (Below.refl _ _) o)
theorem IsS50.drewN {w0 W : World} {g : Nat} {f0 : ByteArray} {f1 : Int} (h : IsS50 w0 W g f0 f1) (m : Nat) : IsS50 w0 (W.drewN m) g f0 f1 := h
theorem IsS50.drew {w0 W : World} {g : Nat} {f0 : ByteArray} {f1 : Int} (h : IsS50 w0 W g f0 f1) : IsS50 w0 W.drew g f0 f1 := h
theorem IsS50.apart {w0 W : World} {g : Nat} {f0 : ByteArray} {f1 : Int} {α : Type} {d : Kd α} {e : Nat} {base : Nat} {ok : Nat → Prop} {v : Value} {xs : List α} (h : IsS50 w0 W g f0 f1) (ho : d.R e W base ok v xs) (ht : ∀ q, q ∈ e :: d.E → q ≠ 50) : d.R e W base (fun k => ok k ∧ k ≠ g) v xs := by
 obtain ⟨hb, hg⟩ := h; exact Kd.R_types ho hb ht
theorem IsS50.lt {w0 W : World} {g : Nat} {f0 : ByteArray} {f1 : Int} (h : IsS50 w0 W g f0 f1) : g < W.heap.size := by
 obtain ⟨hb, hg⟩ := h; exact blk_lt hb
theorem IsS50.ge {w0 W : World} {g : Nat} {f0 : ByteArray} {f1 : Int} (h : IsS50 w0 W g f0 f1) : w0.heap.size ≤ g := by
 obtain ⟨hb, hg⟩ := h; exact hg
theorem cellS50_0 {W : World} {g : Nat} {f0 : ByteArray} {f1 : Int} (h : W.heap[g]? = some (.cells #[.string f0, .int .i64 f1] 50 (0, 0))) : W.cell? ⟨g, 0, none⟩ = some (.string f0) := (blk_cell h 0).trans rfl
theorem IsS50.set_0 {w0 W : World} {g : Nat} {f0 : ByteArray} {f1 : Int} (h : IsS50 w0 W g f0 f1) (x : ByteArray) : IsS50 w0 (W.setCell ⟨g, 0, none⟩ (.string x)) g x f1 := by
 obtain ⟨hb, hg⟩ := h; (exact ⟨by simpa using blk_set hb 0 (.string x), hg⟩)
theorem cellS50_1 {W : World} {g : Nat} {f0 : ByteArray} {f1 : Int} (h : W.heap[g]? = some (.cells #[.string f0, .int .i64 f1] 50 (0, 0))) : W.cell? ⟨g, 1, none⟩ = some (.int .i64 f1) := (blk_cell h 1).trans rfl
theorem IsS50.set_1 {w0 W : World} {g : Nat} {f0 : ByteArray} {f1 : Int} (h : IsS50 w0 W g f0 f1) (x : Int) : IsS50 w0 (W.setCell ⟨g, 1, none⟩ (.int .i64 x)) g f0 x := by
 obtain ⟨hb, hg⟩ := h; (exact ⟨by simpa using blk_set hb 1 (.int .i64 x), hg⟩)
def lex_reader_has.f (s0_0 : ByteArray) (s0_1 : Int) (a1 : ByteArray) : Option (Bool × ByteArray × Int) := if 0 ≤ s0_1 then (if s0_1 ≤ (s0_0.size : Int) then ((strings_HasPrefix.f (s0_0.extract (s0_1 : Int).toNat s0_0.size) a1).bind fun t102 => (some (t102, s0_0, s0_1))) else (none)) else (none)
set_option maxHeartbeats 8000000 in
set_option maxRecDepth 100000 in
theorem lex_reader_has.calls (g : Nat) (s0_0 : ByteArray) (s0_1 : Int) (a1 : ByteArray) (r1 : Bool) (r2 : ByteArray) (r3 : Int) (w0 w : World) (hI : IsS50 w0 w g s0_0 s0_1) (hB : Below w0.heap.size w0 w) (h : lex_reader_has.f s0_0 s0_1 a1 = some (r1, r2, r3)) :
  Calls Tryd.prog 23 #[.pointer (some ⟨g, 0, none⟩), .string a1] w fun e w' => e = .returned (.bool r1) ∧ IsS50 w0 w' g r2 r3 ∧ Below w0.heap.size w0 w' ∧ KeepBut w w' g none := by
 have HI0 := Aside0.mk hI; have HK := Aside0.mk (KeepBut.refl w g none); have HL := Aside0.mk hB.size; clear hI; have HW0 := Aside0.mk hB.size; have HB := Aside0.mk hB; clear hB; (have H : (if 0 ≤ s0_1 then (if s0_1 ≤ (s0_0.size : Int) then ((strings_HasPrefix.f (s0_0.extract (s0_1 : Int).toNat s0_0.size) a1).bind fun t102 => (some (t102, s0_0, s0_1))) else (none)) else (none)) = some (r1, r2, r3) := h); clear h; by_cases c3 : 0 ≤ s0_1
 ·rw [if_pos c3] at H; have c3b0 := eq_true c3; have c3b1 : decide (0 ≤ s0_1) = true := decide_eq_true c3; clear c3; by_cases c4 : s0_1 ≤ (s0_0.size : Int)
  ·rw [if_pos c4] at H; have c4b0 := eq_true c4; have c4b1 : decide (s0_1 ≤ (s0_0.size : Int)) = true := decide_eq_true c4; clear c4; replace H := Option.bind_eq_some_iff.mp H; obtain ⟨t102, A50, H⟩ := H; replace H : (some (t102, s0_0, s0_1)) = some (r1, r2, r3) := H; have A5 := Aside0.mk A50; clear A50; simp only [Option.some.injEq, Prod.mk.injEq] at H; obtain ⟨rfl, rfl, rfl⟩ := H; obtain ⟨HGz6, hgz6⟩ := HI0.out; have hcz6_0 := cellS50_0 HGz6; have hcz6_1 := cellS50_1 HGz6; have hfz6_0 := blk_frozen HGz6 0; have hfz6_1 := blk_frozen HGz6 1; clear HGz6 hgz6; (go_enter Tryd.func23, Tryd.ntmps23); (go_wp2_with (first | (go_at_call 34; (with_reducible refine (strings_HasPrefix.calls (s0_0.extract (s0_1 : Int).toNat s0_0.size) a1 t102 _ A5.out).mono ?_); rintro e w' ⟨rfl, ⟨nd, rfl⟩⟩; (try first | exact ⟨rfl, _, World.drewN_drewN _ _ _⟩ | exact ⟨rfl, _, Eq.trans (World.drewN_drewN _ _ _) (congrArg (World.drewN _) (Nat.add_assoc _ _ _))⟩)))); (repeat (go_quiet (first | (go_at_call 34; (with_reducible refine (strings_HasPrefix.calls (s0_0.extract (s0_1 : Int).toNat s0_0.size) a1 t102 _ A5.out).mono ?_); rintro e w' ⟨rfl, ⟨nd, rfl⟩⟩; (try first | exact ⟨rfl, _, World.drewN_drewN _ _ _⟩ | exact ⟨rfl, _, Eq.trans (World.drewN_drewN _ _ _) (congrArg (World.drewN _) (Nat.add_assoc _ _ _))⟩))); try go_wp2_with (first | (go_at_call 34; (with_reducible refine (strings_HasPrefix.calls (s0_0.extract (s0_1 : Int).toNat s0_0.size) a1 t102 _ A5.out).mono ?_); rintro e w' ⟨rfl, ⟨nd, rfl⟩⟩; (try first | exact ⟨rfl, _, World.drewN_drewN _ _ _⟩ | exact ⟨rfl, _, Eq.trans (World.drewN_drewN _ _ _) (congrArg (World.drewN _) (Nat.add_assoc _ _ _))⟩))))); (go_ret); (exact ⟨by first | rfl | (simp [errW_none, errW_some] <;> rfl) | (simp [*, errW_none, errW_some] <;> rfl), by repeat (first | (with_reducible first | exact HI0.out | apply IsS50.alloc | apply IsS50.drewN | apply IsS50.drew | apply IsS50.set_0 | apply IsS50.set_1) | exact HI0.out), by repeat (first | (with_reducible first | exact HB.out | apply below_alloc | apply pw_below_drewN | apply below_drew1 | refine below_set ?_ (IsS50.ge HI0.out)) | exact HB.out), by repeat (first | (with_reducible first | exact HK.out | apply KeepBut.set_ | apply keep_drewN | apply keep_drew | apply keep_alloc) | exact HK.out)⟩)
  ·rw [if_neg c4] at H; (exact absurd H (by simp))
 ·rw [if_neg c3] at H; (exact absurd H (by simp))
end Go.Proofs.YtmpenkinheneoaaDoor.Q
namespace Go.Proofs.YtmpenkinheneoaaDoor.Q
open Go.RowKit Go.Proofs.YtmpenkinheneoaaDoorW.PrintWords Go.Proofs.YtmpenkinheneoaaDoorW.PrintLast Go.Proofs.YtmpenkinheneoaaDoorW.PrintMore
attribute [local go_sem] max2_int min2_int max_two min_two max_three min_three max_four min_four   -- for this text's walks alone
set_option linter.unusedVariables false
set_option linter.unusedSimpArgs false
-- HAND: function 61, by this session's own text
def wrongW (a e : Int) : PanicEntry := { v := .iface 46 (.agg #[.int .i64 a, .int .i64 e]), recovered := false }
theorem has_same {s : ByteArray} {p : Int} {x : ByteArray} {b : Bool} {s' : ByteArray} {p' : Int} (h : lex_reader_has.f s p x = some (b, s', p')) : s' = s ∧ p' = p := by
 unfold lex_reader_has.f at h
 split at h
 ·split at h
  ·obtain ⟨t, _, h⟩ := Option.bind_eq_some_iff.mp h
   simp only [Option.some.injEq, Prod.mk.injEq] at h
   exact ⟨h.2.1.symm, h.2.2.symm⟩
  ·cases h
 ·cases h
set_option maxHeartbeats 800000 in
set_option maxRecDepth 100000 in
theorem lex_reader_end.calls_ok (g : Nat) (s : ByteArray) (p : Int) (x n c : Int) (x' n' : Int) (w0 w : World) (hI : IsS50 w0 w g s p) (hB : Below w0.heap.size w0 w)
  (hn0 : -1000000000000 ≤ n) (hn1 : n ≤ 1000000000000) (hx0 : -1000000000000 ≤ x) (hx1 : x ≤ 1000000000000000)
  (hx : x' = if c = n - 1 then x - 1 else x) (hn : n' = if c = n - 1 then n - 1 else n) (hl : n' ≤ 100) :
  Calls Tryd.prog 61 #[.pointer (some ⟨g, 0, none⟩), .int .i64 x, .int .i64 n, .int .i64 c] w fun e w' => e = .returned (.bool true) ∧ IsS50 w0 w' g s x' ∧ Below w0.heap.size w0 w' ∧ KeepBut w w' g none := by
 have HI0 := Aside0.mk hI
 have HK := Aside0.mk (KeepBut.refl w g none)
 clear hI
 have HB := Aside0.mk hB
 clear hB
 obtain ⟨HG, hg⟩ := HI0.out
 have hc0 := cellS50_0 HG
 have hc1 := cellS50_1 HG
 have hf0 := blk_frozen HG 0
 have hf1 := blk_frozen HG 1
 clear HG hg
 have e1 : wrap64 (n - 1) = n - 1 := by unfold wrap64; omega
 have e2 : wrap64 (x - 1) = x - 1 := by unfold wrap64; omega
 by_cases hc : c = n - 1
 ·rw [if_pos hc] at hx hn
  replace hx := hx.symm
  replace hn := hn.symm
  subst hx hn
  have b1 : (c == n - 1) = true := by simpa using hc
  have b2 : decide (n - 1 > 100) = false := by simp; omega
  have b3 : decide (100 < n - 1) = false := by simp; omega
  clear hc
  have HL := Aside0.mk hl
  clear hl
  go_enter Tryd.func61, Tryd.ntmps61
  go_wp2
  go_ret
  exact ⟨rfl, by repeat (first | (with_reducible first | exact HI0.out | apply IsS50.alloc | apply IsS50.drewN | apply IsS50.drew | apply IsS50.set_0 | apply IsS50.set_1) | exact HI0.out), by repeat (first | (with_reducible first | exact HB.out | apply below_alloc | apply pw_below_drewN | apply below_drew1 | refine below_set ?_ (IsS50.ge HI0.out)) | exact HB.out), by repeat (first | (with_reducible first | exact HK.out | apply KeepBut.set_ | apply keep_drewN | apply keep_drew | apply keep_alloc) | exact HK.out)⟩
 ·rw [if_neg hc] at hx hn
  replace hx := hx.symm
  replace hn := hn.symm
  subst hx hn
  have b1 : (c == n - 1) = false := by simpa using hc
  have b2 : decide (n > 100) = false := by simp; omega
  have b3 : decide (100 < n) = false := by simp; omega
  clear hc
  have HL := Aside0.mk hl
  clear hl
  go_enter Tryd.func61, Tryd.ntmps61
  go_wp2
  go_ret
  exact ⟨rfl, by repeat (first | (with_reducible first | exact HI0.out | apply IsS50.alloc | apply IsS50.drewN | apply IsS50.drew | apply IsS50.set_0 | apply IsS50.set_1) | exact HI0.out), by repeat (first | (with_reducible first | exact HB.out | apply below_alloc | apply pw_below_drewN | apply below_drew1 | refine below_set ?_ (IsS50.ge HI0.out)) | exact HB.out), by repeat (first | (with_reducible first | exact HK.out | apply KeepBut.set_ | apply keep_drewN | apply keep_drew | apply keep_alloc) | exact HK.out)⟩
set_option maxHeartbeats 800000 in
set_option maxRecDepth 100000 in
theorem lex_reader_end.calls_no (g : Nat) (s : ByteArray) (p : Int) (x n c : Int) (n' : Int) (w0 w : World) (hI : IsS50 w0 w g s p) (hB : Below w0.heap.size w0 w)
  (hn0 : -1000000000000 ≤ n) (hn1 : n ≤ 1000000000000) (hx0 : -1000000000000 ≤ x) (hx1 : x ≤ 1000000000000000)
  (hn : n' = if c = n - 1 then n - 1 else n) (hl : 100 < n') :
  Calls Tryd.prog 61 #[.pointer (some ⟨g, 0, none⟩), .int .i64 x, .int .i64 n, .int .i64 c] w fun e w' => e = .panicked [wrongW p 2] ∧ Below w0.heap.size w0 w' ∧ KeepBut w w' g none := by
 have HI0 := Aside0.mk hI
 have HK := Aside0.mk (KeepBut.refl w g none)
 clear hI
 have HB := Aside0.mk hB
 clear hB
 obtain ⟨HG, hg⟩ := HI0.out
 have hc0 := cellS50_0 HG
 have hc1 := cellS50_1 HG
 have hf0 := blk_frozen HG 0
 have hf1 := blk_frozen HG 1
 clear HG hg
 have e1 : wrap64 (n - 1) = n - 1 := by unfold wrap64; omega
 have e2 : wrap64 (x - 1) = x - 1 := by unfold wrap64; omega
 by_cases hc : c = n - 1
 ·rw [if_pos hc] at hn
  replace hn := hn.symm
  subst hn
  have b1 : (c == n - 1) = true := by simpa using hc
  have b2 : decide (n - 1 > 100) = true := by simp; omega
  have b3 : decide (100 < n - 1) = true := by simp; omega
  clear hc
  have HL := Aside0.mk hl
  clear hl
  go_enter Tryd.func61, Tryd.ntmps61
  go_wp2
  exact ⟨rfl, rfl, by repeat (first | (with_reducible first | exact HB.out | apply below_alloc | apply pw_below_drewN | apply below_drew1 | refine below_set ?_ (IsS50.ge HI0.out)) | exact HB.out), by repeat (first | (with_reducible first | exact HK.out | apply KeepBut.set_ | apply keep_drewN | apply keep_drew | apply keep_alloc) | exact HK.out)⟩
 ·rw [if_neg hc] at hn
  replace hn := hn.symm
  subst hn
  have b1 : (c == n - 1) = false := by simpa using hc
  have b2 : decide (n > 100) = true := by simp; omega
  have b3 : decide (100 < n) = true := by simp; omega
  clear hc
  have HL := Aside0.mk hl
  clear hl
  go_enter Tryd.func61, Tryd.ntmps61
  go_wp2
  exact ⟨rfl, rfl, by repeat (first | (with_reducible first | exact HB.out | apply below_alloc | apply pw_below_drewN | apply below_drew1 | refine below_set ?_ (IsS50.ge HI0.out)) | exact HB.out), by repeat (first | (with_reducible first | exact HK.out | apply KeepBut.set_ | apply keep_drewN | apply keep_drew | apply keep_alloc) | exact HK.out)⟩
end Go.Proofs.YtmpenkinheneoaaDoor.Q
