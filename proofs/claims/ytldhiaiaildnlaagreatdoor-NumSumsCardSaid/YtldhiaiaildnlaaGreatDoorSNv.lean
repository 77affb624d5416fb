/- Texts of the claim: Nv. -/
import Derived.Test.YtldhiaiaildnlaaGreatDoorSNu
import Derived.Test.YtldhiaiaildnlaaGreatDoorSNj
namespace Go.Proofs.YtldhiaiaildnlaaGreatDoor.Nm
set_option linter.unusedVariables false
open Go Go.RowKit Go.Proofs.YtldhiaiaildnlaaGreatDoor.Q Go.Proofs.YtldhiaiaildnlaaGreatDoorW.PrintWords Go.Proofs.YtldhiaiaildnlaaGreatDoorW.PrintLast Go.Proofs.YtldhiaiaildnlaaGreatDoorW.PrintMore
def Y {α : Type} (g : Nat → Option α) (P : α → Prop) : Prop := ∃ K r, P r ∧ ∀ k, K ≤ k → g k = some r
theorem Y.of {α : Type} {g : Nat → Option α} {P : α → Prop} (h : T g) (hp : ∀ k r, g k = some r → P r) : Y g P := by
 obtain ⟨K, r, hr⟩ := h
 exact ⟨K, r, hp K r (hr K (Nat.le_refl _)), hr⟩
theorem Y.t {α : Type} {g : Nat → Option α} {P : α → Prop} (h : Y g P) : T g := by
 obtain ⟨K, r, _, hr⟩ := h
 exact ⟨K, r, hr⟩
theorem Y.pure {α : Type} {x : α} {P : α → Prop} (h : P x) : Y (fun _ => some x) P := ⟨0, x, h, fun _ _ => rfl⟩
theorem Y.mono {α : Type} {g : Nat → Option α} {P Q : α → Prop} (h : Y g P) (hq : ∀ r, P r → Q r) : Y g Q := by
 obtain ⟨K, r, hp, hr⟩ := h
 exact ⟨K, r, hq r hp, hr⟩
theorem Y.bind {α β : Type} {g : Nat → Option α} {F : Nat → α → Option β} {P : α → Prop} {Q : β → Prop} (h : Y g P) (hF : ∀ r, P r → Y (fun k => F k r) Q) : Y (fun k => (g k).bind (F k)) Q := by
 obtain ⟨K, r, hp, hr⟩ := h
 obtain ⟨K2, s, hq, hs⟩ := hF r hp
 refine ⟨K + K2, s, hq, fun k hk => ?_⟩
 show (g k).bind (F k) = some s
 rw [hr k (by omega)]
 exact hs k (by omega)
theorem Y.eq {α β : Type} {g : Nat → Option α} {F : Nat → α → Option β} {v : α} {Q : β → Prop} (h : Y g (fun r => r = v)) (hF : Y (fun k => F k v) Q) : Y (fun k => (g k).bind (F k)) Q := h.bind fun r hr => by rw [hr]; exact hF
theorem Y.sb {α β : Type} {x : Option α} {F : Nat → α → Option β} {v : α} {Q : β → Prop} (h : x = some v) (hF : Y (fun k => F k v) Q) : Y (fun k => x.bind (F k)) Q := by rw [h]; exact hF
theorem Y.ite {α : Type} {c : Prop} [Decidable c] {g1 g2 : Nat → Option α} {Q : α → Prop} (h1 : c → Y g1 Q) (h2 : ¬ c → Y g2 Q) : Y (fun k => if c then g1 k else g2 k) Q := by
 by_cases hc : c
 ·obtain ⟨K, r, hp, h⟩ := h1 hc
  exact ⟨K, r, hp, fun k hk => by show (if c then g1 k else g2 k) = _; rw [if_pos hc]; exact h k hk⟩
 ·obtain ⟨K, r, hp, h⟩ := h2 hc
  exact ⟨K, r, hp, fun k hk => by show (if c then g1 k else g2 k) = _; rw [if_neg hc]; exact h k hk⟩
theorem Y.grd {α : Type} {c : Prop} [Decidable c] {g : Nat → Option α} {Q : α → Prop} (hc : c) (h : Y g Q) : Y (fun k => if c then g k else none) Q := by
 obtain ⟨K, r, hp, h⟩ := h
 exact ⟨K, r, hp, fun k hk => by show (if c then g k else none) = _; rw [if_pos hc]; exact h k hk⟩
theorem Y.succ {α : Type} {g : Nat → Option α} {Q : α → Prop} (h : Y (fun k => g (k + 1)) Q) : Y g Q := by
 obtain ⟨K, r, hp, h⟩ := h
 refine ⟨K + 1, r, hp, fun k hk => ?_⟩
 have : g (k - 1 + 1) = some r := h (k - 1) (by omega)
 rwa [show k - 1 + 1 = k from by omega] at this
theorem T.yb {α β : Type} {g : Nat → Option α} {F : Nat → α → Option β} {P : α → Prop} (h : Y g P) (hF : ∀ r, P r → T (fun k => F k r)) : T (fun k => (g k).bind (F k)) := by
 obtain ⟨K, r, hp, hr⟩ := h
 obtain ⟨K2, s, hs⟩ := hF r hp
 refine ⟨K + K2, s, fun k hk => ?_⟩
 show (g k).bind (F k) = some s
 rw [hr k (by omega)]
 exact hs k (by omega)
theorem T.eq {α β : Type} {g : Nat → Option α} {F : Nat → α → Option β} {v : α} (h : Y g (fun r => r = v)) (hF : T (fun k => F k v)) : T (fun k => (g k).bind (F k)) := T.yb h fun r hr => by rw [hr]; exact hF
theorem T.sb {α β : Type} {x : Option α} {F : Nat → α → Option β} {v : α} (h : x = some v) (hF : T (fun k => F k v)) : T (fun k => x.bind (F k)) := by rw [h]; exact hF
theorem zb8 {a b : Nat} (ha : (bg a).length ≤ 100000) (hb : (bg b).length ≤ 100000) : Y (fun k => z2.f k (bg a) (bg b)) (fun r => r = bg (a + b)) :=
 Y.of (plus_t ha hb) fun k r h => by have := zcR (bg_W a) (bg_W b) ha hb h; rwa [y9, y9] at this
theorem zef {a b : Nat} (ha : (bg a).length ≤ 100000) (hb : (bg b).length ≤ 100000) (h : b ≤ a) : Y (fun k => z7.f k (bg a) (bg b)) (fun r => r = bg (a - b)) :=
 Y.of (zeg ha) fun k r hr => by have := zbA (bg_W a) (bg_W b) ha hb (by rw [y9, y9]; exact h) hr; rwa [y9, y9] at this
theorem zbW {a b : Nat} (ha : (bg a).length ≤ 100000) (hb : (bg b).length ≤ 100000) : Y (fun k => zN.f k (bg a) (bg b)) (fun r => r = bg (a * b)) :=
 Y.of (zcK ha hb) fun k r h => by have := zas (bg_W a) (bg_W b) ha hb h; rwa [y9, y9] at this
theorem cmp_y {a b : Nat} (ha : (bg a).length ≤ 1000000) (hb : (bg b).length ≤ 1000000) : Y (fun k => yu.f k (bg a) (bg b)) (fun t => Sgn t a b) :=
 Y.of (cmp_t ha) fun k r h => zcH ha hb h
theorem zdJ {n u : Nat} (hu : 0 < u) (ln : (bg n).length ≤ 40000) (lu : (bg u).length ≤ 40000) : Y (fun k => z6.f k (bg n) (bg u)) (fun r => r = (bg (n / u), bg (n % u))) :=
 Y.of (over_t hu ln lu) fun k r h => zcU hu ln lu h
theorem bg1 : bg 1 = [1] := by decide
theorem zdS {s : Bool} {n u : Nat} (hu : 0 < u) (ln : (bg n).length ≤ 30000) (lu : (bg u).length ≤ 30000) : T (fun k => yl.f k s (bg n) (bg u)) := by
 unfold yl.f
 have l1 : (bg (n / u)).length ≤ 30000 := Nat.le_trans (zav (Nat.div_le_self _ _)) ln
 have l2 : (bg (n % u)).length ≤ 30000 := Nat.le_trans (zav (Nat.mod_le _ _)) ln
 have l3 : (bg (n % u + n % u)).length ≤ 30001 := Nat.le_trans (zbe (m := u) (by have := Nat.mod_lt n hu; omega)) (Nat.succ_le_succ lu)
 have J : ∀ o, T (fun k => yl.j0 k s (bg u) (bg (n / u)) (bg (n % u)) o) := by
  intro o
  refine T.succ ?_
  simp only [yl.j0]
  refine T.eq (zb8 (by omega) (by omega)) (T.yb (cmp_y (by omega) (by omega)) fun t _ => T.sb (ways_0 _ _ _ _) (T.ite (fun _ => ?_) (fun _ => T.pure _)))
  rw [← bg1]
  exact T.eq (zb8 (by omega) (by rw [bg1]; decide)) (T.pure _)
 refine T.eq (zdJ hu (by omega) (by omega)) ?_
 exact T.ite (fun h => T.grd h (J _)) (fun _ => J _)
theorem zdU {s : Bool} {n u : Nat} (hu : 0 < u) (ln : (bg n).length ≤ 30000) (lu : (bg u).length ≤ 30000) : T (fun k => ym.f k s (bg n) (bg u)) := by
 unfold ym.f
 have l1 : (bg (n / u)).length ≤ 30000 := Nat.le_trans (zav (Nat.div_le_self _ _)) ln
 have l2 : (bg (n % u)).length ≤ 30000 := Nat.le_trans (zav (Nat.mod_le _ _)) ln
 have l3 : (bg (n % u + n % u)).length ≤ 30001 := Nat.le_trans (zbe (m := u) (by have := Nat.mod_lt n hu; omega)) (Nat.succ_le_succ lu)
 have J : ∀ o, T (fun k => ym.j0 k s (bg u) (bg (n / u)) (bg (n % u)) o) := by
  intro o
  refine T.succ ?_
  simp only [ym.j0]
  refine T.eq (zb8 (by omega) (by omega)) (T.yb (cmp_y (by omega) (by omega)) fun t _ => T.sb (ways_1 _ _ _ _) (T.ite (fun _ => ?_) (fun _ => T.pure _)))
  rw [← bg1]
  exact T.eq (zb8 (by omega) (by rw [bg1]; decide)) (T.pure _)
 refine T.eq (zdJ hu (by omega) (by omega)) ?_
 exact T.ite (fun h => T.grd h (J _)) (fun _ => J _)
theorem zdl {s : Bool} {n u : Nat} (hu : 0 < u) (ln : (bg n).length ≤ 30000) (lu : (bg u).length ≤ 30000) : Y (fun k => yX.f k s (bg n) (bg u) (wayN 0)) (fun r => r = bg (rnd 0 s n u)) :=
 Y.of (by unfold yX.f; exact T.ite (fun _ => zdS hu ln lu) (fun h => absurd rfl h)) fun k r h => zcG (by decide) hu (by omega) (by omega) h
theorem zaZ {s : Bool} {n u : Nat} (hu : 0 < u) (ln : (bg n).length ≤ 30000) (lu : (bg u).length ≤ 30000) : Y (fun k => yX.f k s (bg n) (bg u) (wayN 1)) (fun r => r = bg (rnd 1 s n u)) :=
 Y.of (by unfold yX.f; exact T.ite (fun h => absurd h (by decide)) (fun _ => T.ite (fun _ => zdU hu ln lu) (fun h => absurd rfl h))) fun k r h => zcG (by decide) hu (by omega) (by omega) h
theorem fd_l1_t (s : ByteArray) (x : List Int) (m : Int) (h0 : 0 ≤ m) (h1 : m ≤ s.size) (hx : x.length < 100000) (H : ∀ w, T (fun k => zD.l0 k (s.extract 0 m.toNat) (x ++ [w]))) (l : List Int) (hl : l.length ≤ 1000000) :
  ∀ (n : Nat) (w : Int) (i : Nat), l.length = i + n → T (fun k => zD.l1 k s x m w l (l.length : Int) (i : Int)) := by
 intro n
 induction n with
 | zero =>
  intro w i hn
  refine T.succ ?_
  simp only [zD.l1]
  exact T.ite (fun h => by omega) (fun _ => T.grd (by omega) (T.grd h0 (T.grd h1 (H _))))
 | succ n ih =>
  intro w i hn
  refine T.succ ?_
  simp only [zD.l1]
  rw [w64 (x := (i : Int) + 1) (by omega) (by omega), show (i : Int) + 1 = ((i + 1 : Nat) : Int) from rfl]
  exact T.ite (fun _ => T.grd (by omega) (T.grd (by omega) (ih _ (i + 1) (by omega)))) (fun h => by omega)
theorem zeQ (s : ByteArray) : (bytesOf s).length = s.size := by rw [zdh, List.length_map, yQ]
theorem fd_l0_t : ∀ (n : Nat) (s : ByteArray) (x : List Int), s.size ≤ n → n ≤ 1000 → x.length + s.size ≤ 1000 → T (fun k => zD.l0 k s x) := by
 intro n
 induction n with
 | zero =>
  intro s x hs hn hx
  refine T.succ ?_
  simp only [zD.l0]
  exact T.ite (fun h => by omega) (fun _ => T.bind (zaC (by omega)) fun _ _ => T.pure _)
 | succ n ih =>
  intro s x hs hn hx
  refine T.succ ?_
  simp only [zD.l0]
  rw [w64 (x := (s.size : Int) - 9) (by omega) (by omega)]
  obtain ⟨m, hm⟩ : ∃ m, mx 0 ((s.size : Int) - 9) = m := ⟨_, rfl⟩
  have hm2 : 0 < s.size → 0 ≤ m ∧ m < s.size := by
   intro h
   rw [← hm]; unfold mx; split <;> omega
  rw [hm]
  refine T.ite (fun h => T.grd (by omega) (T.grd (by omega) ?_)) (fun _ => T.bind (zaC (by omega)) fun _ _ => T.pure _)
  have hb : (s.extract m.toNat s.size).size ≤ 1000 := by rw [ByteArray.size_extract]; omega
  have hb2 : (s.extract 0 m.toNat).size < s.size := by rw [ByteArray.size_extract]; omega
  refine T.sb (v := bytesOf (s.extract m.toNat s.size)) (by unfold bytesof.f; rw [if_pos (by omega)]) ?_
  have hl := zeQ (s.extract m.toNat s.size)
  refine fd_l1_t s x m (by omega) (by omega) (by omega) (fun w => ih _ _ (by omega) (by omega) (by rw [List.length_append, List.length_singleton]; omega)) _ (by omega) _ 0 0 (Nat.zero_add _).symm
theorem zbC {s : ByteArray} (hs : s.size ≤ 1000) : T (fun k => yH.f k s) := by
 unfold yH.f zD.f
 exact fd_l0_t _ s [] (Nat.le_refl _) hs (by simpa using hs)
theorem zc0 {s : ByteArray} (hd : (dl s).all dgt = true) (hs : s.size ≤ 1000) : Y (fun k => yH.f k s) (fun r => r = bg (dv ((dl s).map dd))) :=
 Y.of (zbC hs) fun k r h => zaN hd hs h
theorem pow10_t {n : Nat} (hn : n ≤ 500) : T (fun k => yq.f k (n : Int)) := by
 unfold yq.f
 have e : (⟨(Lib.repeatL (⟨#[48]⟩ : ByteArray).data.toList (n : Int).toNat).toArray⟩ : ByteArray).size = n := by
  rw [← yQ]
  show (Lib.repeatL [48] (n : Int).toNat).length = n
  rw [zcy, List.length_replicate, Int.toNat_natCast]
 refine T.sb (v := ⟨(Lib.repeatL (⟨#[48]⟩ : ByteArray).data.toList (n : Int).toNat).toArray⟩) (by unfold strings_Repeat.f; rw [if_pos ⟨by omega, by rw [Int.toNat_natCast]; show 1 * n ≤ _; omega, by omega⟩]) ?_
 refine T.grd (by rw [e]; omega) (T.bind (zbC ?_) fun _ _ => T.pure _)
 rw [ByteArray.size_append, e]
 show 1 + n ≤ 1000
 omega
theorem za6 {n : Nat} (hn : n ≤ 500) : Y (fun k => yq.f k (n : Int)) (fun r => r = bg (10 ^ n)) := Y.of (pow10_t hn) fun k r h => zaL hn h
theorem zeO {s : Bool} {n : Nat} (hn : (bg n).length ≤ 40000) : T (fun k => zS.f k s (bg n)) := by
 unfold zS.f
 exact T.eq (za6 (n := 50) (by decide)) (T.yb (cmp_y (by omega) (by have := bg50; omega)) fun t _ => T.ite (fun _ => T.pure _) (fun _ => T.ite (fun _ => T.pure _) (fun _ => T.pure _)))
theorem zbJ {s : Bool} {n : Nat} (hn : (bg n).length ≤ 40000) : Y (fun k => zS.f k s (bg n)) (fun r => r = chk (s, n)) := Y.of (zeO hn) fun k r h => za7 hn h
theorem zcY {s p : ByteArray} {c : UInt8} (hp : dl p = [c]) : ∃ t, yI.f s p = some t ∧ (t = true → 1 ≤ s.size) := by
 have hps : p.size = 1 := by rw [← yQ, hp]; rfl
 unfold yI.f
 rw [hps]
 by_cases h : (s.size : Int) ≥ ((1 : Nat) : Int)
 ·rw [if_pos h, if_pos (by omega), if_pos h]
  exact ⟨_, rfl, fun _ => by omega⟩
 ·rw [if_neg h]
  exact ⟨_, rfl, fun h => by cases h⟩
theorem zbl {s p : ByteArray} {c : UInt8} (hp : dl p = [c]) : ∃ t, yp.f s p = some t := by
 have hps : p.size = 1 := by rw [← yQ, hp]; rfl
 unfold yp.f y8.f
 obtain ⟨t, h1, h2⟩ := zcY (s := s) hp
 rw [h1, hps]
 cases t with
 | false => exact ⟨_, rfl⟩
 | true =>
  have := h2 rfl
  refine ⟨s.extract ((1 : Nat) : Int).toNat s.size, ?_⟩
  simp only [Option.bind_some]
  rw [if_pos trivial, if_pos (by omega), if_pos (by omega)]
  rfl
theorem zci (c : UInt8) (l : List UInt8) : (cutOff c l).length ≤ l.length := by
 cases l with
 | nil => exact Nat.le_refl _
 | cons b l => rw [cutOff]; split <;> simp
theorem cutS_t {s : ByteArray} (hs : s.size ≤ 1000000) : ∃ t, xQ.f s (⟨#[46]⟩ : ByteArray) = some t := by
 unfold xQ.f xA.f yA.f
 rw [if_pos (show (⟨#[46]⟩ : ByteArray).size = 1 from rfl), show ((⟨#[46]⟩ : ByteArray).size : Int) = 1 from rfl, show (⟨#[46]⟩ : ByteArray).get! 0 = 46 from rfl, show s.data.toList = dl s from rfl]
 have hl := yQ s
 rcases zaW (dl s) 46 with ⟨e1, e2, e3⟩ | ⟨e1, e2⟩
 ·rw [e1]; exact ⟨_, rfl⟩
 ·have hlt : ((dl s).takeWhile (· != 46)).length < (dl s).length := by
   have h4 := congrArg List.length (List.takeWhile_append_dropWhile (p := (· != 46)) (l := dl s))
   have h5 := List.length_pos_iff.mpr e2
   rw [List.length_append] at h4
   omega
  rw [e1]
  simp only [Option.bind_some]
  rw [if_pos (by omega), if_pos (by omega), if_pos (by omega), w64 (by omega) (by omega), if_pos (by omega), if_pos (by omega)]
  exact ⟨_, rfl⟩
theorem zdM : yg.f (⟨#[101, 118, 101, 110]⟩ : ByteArray) = some (wayN 1) := by
 unfold yg.f
 simp only [xq]
 rw [if_neg (by decide), if_pos (by decide)]
 rfl
theorem zb9 (w f : ByteArray) (c ng : Bool) (hc : c = false → (dl w).all dgt = true) (hw : w.size ≤ 200) (hf : f.size ≤ w.size) : T (fun k => zU.j1 k f w c ng) := by
 refine T.succ ?_
 simp only [zU.j1]
 refine T.ite (fun _ => T.pure _) (fun h => ?_)
 have hD := hc (by cases c <;> first | rfl | exact absurd rfl h)
 have hlt : dv ((dl w).map dd) < 10 ^ 200 := by
  have h1 := zaD (dd_D hD)
  rw [List.length_map, yQ] at h1
  exact Nat.lt_of_lt_of_le h1 (Nat.pow_le_pow_right (by decide) hw)
 have hll := len10 hlt (by decide)
 refine T.eq (zc0 hD (by omega)) ?_
 rw [w64 (x := (20 : Int) - f.size) (by omega) (by omega)]
 refine T.ite (fun h20 => ?_) (fun h20 => ?_)
 ·rw [show (20 : Int) - f.size = ((20 - f.size : Nat) : Int) from by omega]
  have hlp := len10 (n := 10 ^ (20 - f.size)) (m := 21) (Nat.pow_lt_pow_right (by decide) (by omega)) (by decide)
  have hm : dv ((dl w).map dd) * 10 ^ (20 - f.size) < 10 ^ 220 := by
   have h5 : (10 : Nat) ^ (20 - f.size) ≤ 10 ^ 20 := Nat.pow_le_pow_right (by decide) (by omega)
   have h6 : (10 : Nat) ^ 220 = 10 ^ 200 * 10 ^ 20 := by rw [← Nat.pow_add]
   rw [h6]
   exact Nat.lt_of_le_of_lt (Nat.mul_le_mul_left _ h5) (Nat.mul_lt_mul_of_pos_right hlt (Nat.pow_pos (by decide)))
  exact T.eq (za6 (by omega)) (T.eq (zbW (by omega) (by omega)) (T.eq (zbJ (by have := len10 hm (by decide); omega)) (T.pure _)))
 ·rw [w64 (x := -((20 : Int) - f.size)) (by omega) (by omega), show -((20 : Int) - f.size) = ((f.size - 20 : Nat) : Int) from by omega]
  have hlp := len10 (n := 10 ^ (f.size - 20)) (m := 201) (Nat.pow_lt_pow_right (by decide) (by omega)) (by decide)
  have hm : rnd 1 ng (dv ((dl w).map dd)) (10 ^ (f.size - 20)) < 10 ^ 201 := by
   have h6 := Nat.div_le_self (dv ((dl w).map dd)) (10 ^ (f.size - 20))
   have h7 := zaH 1 ng (dv ((dl w).map dd)) (10 ^ (f.size - 20)) (Nat.pow_pos (by decide))
   omega
  refine T.eq (za6 (by omega)) (T.sb zdM (T.eq (zaZ (Nat.pow_pos (by decide)) (by omega) (by omega)) (T.eq (zbJ (by have := len10 hm (by decide); omega)) (T.pure _))))
theorem zca (x : ByteArray) (ng : Bool) (hx : x.size ≤ 200) : T (fun k => zU.j0 k x ng) := by
 refine T.succ ?_
 simp only [zU.j0]
 obtain ⟨t, ht⟩ := cutS_t (s := x) (by omega)
 obtain ⟨e1, e2⟩ := zem (by omega) ht
 refine T.sb ht ?_
 have hw : dl (t.1 ++ t.2.1) = bef (dl x) ++ beh (dl x) := by rw [zbI, e1, e2]
 have hlen : (bef (dl x) ++ beh (dl x)).length ≤ 200 := by
  have h4 := congrArg List.length (List.takeWhile_append_dropWhile (p := (· != 46)) (l := dl x))
  have h5 := yQ x
  rw [List.length_append] at h4
  unfold bef beh
  rw [List.length_append, List.length_drop]
  omega
 have hws : (t.1 ++ t.2.1).size = (bef (dl x) ++ beh (dl x)).length := by rw [← yQ, hw]
 have hfs : t.2.1.size = (beh (dl x)).length := by rw [← yQ, e2]
 have hle : t.2.1.size ≤ (t.1 ++ t.2.1).size := by rw [hfs, hws, List.length_append]; omega
 have hap := ByteArray.size_append (a := t.1) (b := t.2.1)
 refine T.grd (by omega) (T.ite (fun _ => zb9 _ _ _ _ (fun h => by cases h) (by omega) hle) (fun _ => ?_))
 refine T.sb (v := Lib.idxFunc ndig true (t.1 ++ t.2.1)) (by unfold xl.f; rw [if_pos rfl]) ?_
 refine zb9 _ _ _ _ (fun h => ?_) (by omega) hle
 rw [← zbB, decide_eq_true_eq]
 rw [decide_eq_false_iff_not] at h
 omega
theorem parse_t {s : ByteArray} : T (fun k => zU.f k s) := by
 unfold zU.f
 refine T.ite (fun _ => T.pure _) (fun h => ?_)
 obtain ⟨t, ht⟩ := zbl (s := s) (p := (⟨#[45]⟩ : ByteArray)) (c := 45) rfl
 obtain ⟨u, hu⟩ := zbl (s := s) (p := (⟨#[43]⟩ : ByteArray)) (c := 43) rfl
 have h1 := zar (c := 45) rfl (by omega) ht
 have h2 := zar (c := 43) rfl (by omega) hu
 have h3 := congrArg List.length h1
 have h4 := congrArg List.length h2
 have h5 := zci 45 (dl s)
 have h6 := zci 43 (dl s)
 rw [yQ] at h3 h4 h5 h6
 refine T.sb ht (T.ite (fun _ => T.sb hu (zca _ _ (by omega))) (fun _ => zca _ _ (by omega)))
theorem zed {s : ByteArray} (hs : s.size ≤ 1000000000) : Y (fun k => zU.f k s) (fun r => r = rdnP (dl s)) := Y.of parse_t fun k r h => zcS hs h
end Go.Proofs.YtldhiaiaildnlaaGreatDoor.Nm
