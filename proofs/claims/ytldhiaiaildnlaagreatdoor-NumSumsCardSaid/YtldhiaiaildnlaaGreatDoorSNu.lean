/- Texts of the claim: Nu. -/
import Derived.Test.YtldhiaiaildnlaaGreatDoorSNg
namespace Go.Proofs.YtldhiaiaildnlaaGreatDoor.Nm
set_option linter.unusedVariables false
open Go Go.RowKit Go.Proofs.YtldhiaiaildnlaaGreatDoor.Q Go.Proofs.YtldhiaiaildnlaaGreatDoorW.PrintWords Go.Proofs.YtldhiaiaildnlaaGreatDoorW.PrintLast Go.Proofs.YtldhiaiaildnlaaGreatDoorW.PrintMore
def T {α : Type} (g : Nat → Option α) : Prop := ∃ K r, ∀ k, K ≤ k → g k = some r
theorem T.pure {α : Type} (x : α) : T (fun _ => some x) := ⟨0, x, fun _ _ => rfl⟩
theorem T.bind {α β : Type} {g : Nat → Option α} {F : Nat → α → Option β} (h : T g) (hF : ∀ r, (∃ k, g k = some r) → T (fun k => F k r)) : T (fun k => (g k).bind (F k)) := by
 obtain ⟨K, r, hr⟩ := h
 obtain ⟨K2, s, hs⟩ := hF r ⟨K, hr K (Nat.le_refl _)⟩
 refine ⟨K + K2, s, fun k hk => ?_⟩
 show (g k).bind (F k) = some s
 rw [hr k (by omega)]
 exact hs k (by omega)
theorem T.ite {α : Type} {c : Prop} [Decidable c] {g1 g2 : Nat → Option α} (h1 : c → T g1) (h2 : ¬ c → T g2) : T (fun k => if c then g1 k else g2 k) := by
 by_cases hc : c
 ·obtain ⟨K, r, h⟩ := h1 hc
  exact ⟨K, r, fun k hk => by show (if c then g1 k else g2 k) = _; rw [if_pos hc]; exact h k hk⟩
 ·obtain ⟨K, r, h⟩ := h2 hc
  exact ⟨K, r, fun k hk => by show (if c then g1 k else g2 k) = _; rw [if_neg hc]; exact h k hk⟩
theorem T.grd {α : Type} {c : Prop} [Decidable c] {g : Nat → Option α} (hc : c) (h : T g) : T (fun k => if c then g k else none) := by
 obtain ⟨K, r, h⟩ := h
 exact ⟨K, r, fun k hk => by show (if c then g k else none) = _; rw [if_pos hc]; exact h k hk⟩
theorem T.succ {α : Type} {g : Nat → Option α} (h : T (fun k => g (k + 1))) : T g := by
 obtain ⟨K, r, h⟩ := h
 refine ⟨K + 1, r, fun k hk => ?_⟩
 have : g (k - 1 + 1) = some r := h (k - 1) (by omega)
 rwa [show k - 1 + 1 = k from by omega] at this
theorem norm_t : ∀ (n : Nat) (l : List Int), l.length = n → n ≤ 1000000 → T (fun k => zT.f k l) := by
 intro n
 unfold zT.f
 induction n with
 | zero =>
  intro l hl hn
  refine T.succ ?_
  simp only [zT.l0]
  exact T.ite (fun h => by omega) (fun _ => T.pure _)
 | succ n ih =>
  intro l hl hn
  refine T.succ ?_
  simp only [zT.l0]
  rw [hl, w64 (by omega) (by omega)]
  refine T.ite (fun h => ?_) (fun _ => T.pure _)
  refine T.grd (by omega) (T.grd (by omega) (T.ite (fun _ => T.grd (by omega) (ih _ ?_ (by omega))) (fun _ => T.pure _)))
  rw [List.length_take]; omega
theorem zaC {l : List Int} (hl : l.length ≤ 1000000) : T (fun k => zT.f k l) := norm_t _ l rfl hl
theorem zeC : ∀ (n : Nat) (a b y : List Int) (c m : Int) (i : Nat), y.length = i + n → m = y.length → y.length ≤ 200000 → T (fun k => z2.l0 k a b y c m (i : Int)) := by
 intro n
 induction n with
 | zero =>
  intro a b y c m i hn hm ly
  refine T.succ ?_
  simp only [z2.l0]
  refine T.ite (fun h => by omega) (fun _ => ?_)
  exact T.bind (zaC (by omega)) (fun r _ => T.pure _)
 | succ n ih =>
  intro a b y c m i hn hm ly
  refine T.succ ?_
  simp only [z2.l0]
  rw [w64 (x := (i : Int) + 1) (by omega) (by omega), show (i : Int) + 1 = ((i + 1 : Nat) : Int) from rfl]
  refine T.ite (fun _ => ?_) (fun h => by omega)
  refine T.ite (fun _ => T.grd (by omega) (T.ite (fun _ => T.grd (by omega) ?_) (fun _ => T.grd (by omega) ?_))) (fun _ => T.ite (fun _ => T.grd (by omega) (T.grd (by omega) ?_)) (fun _ => T.grd (by omega) (T.grd (by omega) ?_)))
  all_goals exact ih a b _ _ m (i + 1) (by rw [List.length_set]; omega) (by rw [List.length_set]; omega) (by rw [List.length_set]; omega)
theorem plus_t {a b : List Int} (la : a.length ≤ 100000) (lb : b.length ≤ 100000) : T (fun k => z2.f k a b) := by
 unfold z2.f
 rw [zcV, w64 (by omega) (by omega)]
 refine T.grd (by omega) (T.grd (by omega) (T.bind (T.pure _) fun r hr => ?_))
 obtain ⟨_, hr⟩ := hr
 have := congrArg List.length (someE hr)
 rw [List.length_replicate] at this
 exact zeC r.length a b r 0 _ 0 (by omega) rfl (by omega)
theorem zdK : ∀ (n : Nat) (b y : List Int) (c m : Int) (i : Nat), y.length = i + n → m = y.length → y.length ≤ 200000 → T (fun k => z7.l0 k b y c m (i : Int)) := by
 intro n
 induction n with
 | zero =>
  intro b y c m i hn hm ly
  refine T.succ ?_
  simp only [z7.l0]
  refine T.ite (fun h => by omega) (fun _ => ?_)
  exact T.bind (zaC (by omega)) (fun r _ => T.pure _)
 | succ n ih =>
  intro b y c m i hn hm ly
  refine T.succ ?_
  simp only [z7.l0]
  rw [w64 (x := (i : Int) + 1) (by omega) (by omega), show (i : Int) + 1 = ((i + 1 : Nat) : Int) from rfl]
  have fin : ∀ (y2 : List Int) (c : Int), y2.length = y.length → T (fun k => z7.l0 k b y2 c m ((i + 1 : Nat) : Int)) := fun y2 c h => ih b y2 c m (i + 1) (by omega) (by omega) (by omega)
  refine T.ite (fun _ => ?_) (fun h => by omega)
  refine T.ite (fun _ => T.grd (by omega) (T.grd (by omega) (T.ite (fun _ => T.bind (T.pure _) fun r hr => ?_) (fun _ => fin _ _ (by rw [List.length_set]))))) (fun _ => T.grd (by omega) (T.grd (by omega) (T.ite (fun _ => T.bind (T.pure _) fun r hr => ?_) (fun _ => fin _ _ (by rw [List.length_set])))))
  all_goals
   obtain ⟨_, hr⟩ := hr
   have := congrArg List.length (someE hr)
   rw [List.length_set] at this
   exact fin _ _ (by rw [List.length_set]; omega)
theorem zeg {a b : List Int} (la : a.length ≤ 100000) : T (fun k => z7.f k a b) := by
 unfold z7.f xx.f
 refine T.bind (T.grd (by omega) (T.pure _)) fun r hr => ?_
 obtain ⟨_, hr⟩ := hr
 obtain ⟨_, hr⟩ := ifE hr
 have := congrArg List.length (someE hr)
 exact zdK r.length b r 0 _ 0 (by omega) rfl (by omega)
theorem zdw (b : List Int) (lb : b.length ≤ 100000) (a : List Int) (la : a.length ≤ 100000) (i : Nat) (hi : i < a.length) (H : ∀ y : List Int, y.length = a.length + b.length → T (fun k => zN.l0 k b y a (a.length : Int) ((i + 1 : Nat) : Int))) :
  ∀ (n : Nat) (y : List Int) (d c : Int) (j : Nat), y.length = a.length + b.length → b.length = j + n → T (fun k => zN.l1 k b y (i : Int) d c a (a.length : Int) (i : Int) b (b.length : Int) (j : Int)) := by
 intro n
 induction n with
 | zero =>
  intro y d c j ly hn
  refine T.succ ?_
  simp only [zN.l1]
  rw [w64 (x := (i : Int) + 1) (by omega) (by omega), show (i : Int) + 1 = ((i + 1 : Nat) : Int) from rfl, w64 (x := (i : Int) + b.length) (by omega) (by omega)]
  refine T.ite (fun h => by omega) (fun _ => T.grd (by omega) (T.grd (by omega) (H _ ?_)))
  rw [List.length_set]; exact ly
 | succ n ih =>
  intro y d c j ly hn
  refine T.succ ?_
  simp only [zN.l1]
  rw [w64 (x := (j : Int) + 1) (by omega) (by omega), show (j : Int) + 1 = ((j + 1 : Nat) : Int) from rfl, w64 (x := (i : Int) + j) (by omega) (by omega)]
  refine T.ite (fun _ => T.grd (by omega) (T.grd (by omega) (T.grd (by omega) (T.grd (by omega) (ih _ d _ (j + 1) ?_ (by omega)))))) (fun h => by omega)
  rw [List.length_set]; exact ly
theorem zdx (b : List Int) (lb : b.length ≤ 100000) (a : List Int) (la : a.length ≤ 100000) : ∀ (n : Nat) (y : List Int) (i : Nat), y.length = a.length + b.length → a.length = i + n → T (fun k => zN.l0 k b y a (a.length : Int) (i : Int)) := by
 intro n
 induction n with
 | zero =>
  intro y i ly hn
  refine T.succ ?_
  simp only [zN.l0]
  exact T.ite (fun h => by omega) (fun _ => T.bind (zaC (by omega)) fun _ _ => T.pure _)
 | succ n ih =>
  intro y i ly hn
  refine T.succ ?_
  simp only [zN.l0]
  refine T.ite (fun _ => T.grd (by omega) (T.grd (by omega) ?_)) (fun h => by omega)
  exact zdw b lb a la i (by omega) (fun y hy => ih y (i + 1) hy (by omega)) b.length y _ 0 0 ly (by omega)
theorem zcK {a b : List Int} (la : a.length ≤ 100000) (lb : b.length ≤ 100000) : T (fun k => zN.f k a b) := by
 unfold zN.f
 rw [w64 (by omega) (by omega)]
 refine T.grd (by omega) (T.grd (by omega) ?_)
 exact zdx b lb a la a.length _ 0 (by rw [List.length_replicate]; omega) (by omega)
theorem cmp_l0_t : ∀ (n : Nat) (a b : List Int) (i : Int), i + 1 = n → n ≤ a.length → a.length = b.length → a.length ≤ 1000000 → T (fun k => yu.l0 k a b i) := by
 intro n
 induction n with
 | zero =>
  intro a b i hn h1 h2 hl
  refine T.succ ?_
  simp only [yu.l0]
  exact T.ite (fun h => by omega) (fun _ => T.pure _)
 | succ n ih =>
  intro a b i hn h1 h2 hl
  refine T.succ ?_
  simp only [yu.l0]
  rw [w64 (x := i - 1) (by omega) (by omega)]
  exact T.ite (fun h => T.grd (by omega) (T.grd (by omega) (T.grd (by omega) (T.ite (fun _ => ih a b (i - 1) (by omega) (by omega) h2 hl) (fun _ => T.pure _))))) (fun h => by omega)
theorem cmp_t {a b : List Int} (la : a.length ≤ 1000000) : T (fun k => yu.f k a b) := by
 unfold yu.f
 refine T.ite (fun h => ?_) (fun _ => T.pure _)
 rw [w64 (by omega) (by omega)]
 exact cmp_l0_t a.length a b _ (by omega) (Nat.le_refl _) (by omega) la
theorem zeF (a : List Int) (u : Nat) (hu : 0 < u) (la : a.length ≤ 50000) (lu : (bg u).length ≤ 50000) (i : Nat) (hi : i < a.length)
  (H : ∀ (q : List Int) (m : Nat), q.length = a.length → m < u → T (fun k => z6.l0 k a (bg u) q (bg m) ((i : Int) - 1))) :
  ∀ (n : Nat) (q : List Int) (m lo hi : Nat), hi - lo ≤ n → q.length = a.length → m < 1000000000 * u → lo < hi → hi ≤ 1000000000 → u * lo ≤ m → m < u * hi → T (fun k => z6.l1 k a (bg u) q (bg m) (i : Int) (lo : Int) (hi : Int)) := by
 intro n
 induction n with
 | zero => intro q m lo hi h1 h2 h3 h4; omega
 | succ n ih =>
  intro q m lo hi hn lq hm hlh hh hlo hhi
  refine T.succ ?_
  simp only [z6.l1]
  have hlu := zbe hm
  rw [xS (x := (hi : Int) - lo) (n := hi - lo) (by omega) (by omega), xS (x := (lo : Int) + hi) (n := lo + hi) (by omega) (by omega), tdiv2, u64 (x := (((lo + hi) / 2 : Nat) : Int)) (by omega) (by omega), w64 (x := (i : Int) - 1) (by omega) (by omega)]
  refine T.ite (fun hc => ?_) (fun hc => ?_)
  ·obtain ⟨b1, b2⟩ := zc6 (x := (lo + hi) / 2) (by omega)
   refine T.bind (zcK (by omega) (by simp)) fun t ht => ?_
   obtain ⟨_, ht⟩ := ht
   have ht := zas (bg_W u) b2 (by omega) (by simp) ht
   rw [b1, y9] at ht
   rw [ht]
   have hlt : u * ((lo + hi) / 2) < 1000000000 * u := by
    rw [Nat.mul_comm 1000000000]
    exact Nat.mul_lt_mul_of_pos_left (by omega) hu
   have l2 := zbe hlt
   refine T.bind (cmp_t (by omega)) fun c hc => ?_
   obtain ⟨_, hc⟩ := hc
   have hs := zcH (by omega) (by omega) hc
   unfold Sgn at hs
   exact T.ite (fun _ => ih q m _ hi (by omega) lq hm (by omega) hh (by omega) hhi) (fun _ => ih q m lo _ (by omega) lq hm (by omega) (by omega) hlo (by omega))
  ·obtain rfl : hi = lo + 1 := by omega
   obtain ⟨b1, b2⟩ := zc6 (x := lo) (by omega)
   refine T.grd (by omega) (T.grd (by omega) (T.bind (zaC (by simp)) fun t ht => ?_))
   obtain ⟨_, ht⟩ := ht
   have ht := zaM b2 (by simp) ht
   rw [b1] at ht
   rw [ht]
   have ll : (bg lo).length ≤ 1 := zaz.mp (by omega)
   refine T.bind (zcK (by omega) (by omega)) fun c hc => ?_
   obtain ⟨_, hc⟩ := hc
   have hc2 := zas (bg_W u) (bg_W lo) (by omega) (by omega) hc
   rw [y9, y9] at hc2
   rw [hc2]
   have hl2 := zav hlo
   refine T.bind (zeg (by omega)) fun d hd => ?_
   obtain ⟨_, hd⟩ := hd
   have hd := zbA (bg_W m) (bg_W _) (by omega) (by omega) (by rw [y9, y9]; exact hlo) hd
   rw [y9, y9] at hd
   rw [hd]
   refine H _ _ (by rw [List.length_set]; exact lq) ?_
   rw [Nat.mul_succ] at hhi; omega
theorem zeG (a : List Int) (ha : W a) (u : Nat) (hu : 0 < u) (la : a.length ≤ 50000) (lu : (bg u).length ≤ 50000) :
  ∀ (n : Nat) (q : List Int) (m : Nat) (i : Int), i + 1 = n → n ≤ a.length → q.length = a.length → m < u → T (fun k => z6.l0 k a (bg u) q (bg m) i) := by
 intro n
 induction n with
 | zero =>
  intro q m i hn h1 lq hm
  refine T.succ ?_
  simp only [z6.l0]
  exact T.ite (fun h => by omega) (fun _ => T.bind (zaC (by omega)) fun _ _ => T.pure _)
 | succ n ih =>
  intro q m i hn h1 lq hm
  refine T.succ ?_
  simp only [z6.l0]
  obtain ⟨j, rfl⟩ : ∃ j : Nat, i = j := ⟨i.toNat, by omega⟩
  rw [xG]
  refine T.ite (fun h => T.grd (by omega) (T.grd (by omega) (T.bind (T.pure _) fun y hy => ?_))) (fun h => by omega)
  obtain ⟨_, hy⟩ := hy
  have hy := (someE hy).symm
  have hlu := zav (Nat.le_of_lt hm)
  rw [hy]
  refine T.grd (by simp; omega) (T.bind (zaC (by simp; omega)) fun t ht => ?_)
  obtain ⟨_, ht⟩ := ht
  have g := zaq ha j
  have ht := zaM (W.cons g.1 g.2 (bg_W m)) (by simp; omega) ht
  rw [bv, y9] at ht
  rw [ht]
  exact zeF a u hu la lu j (by omega) (fun q m lq hm => ih q m _ (by omega) (by omega) lq hm) 1000000000 q _ 0 1000000000 (Nat.le_refl _) lq (by omega) (by decide) (Nat.le_refl _) (by omega) (by omega)
theorem over_t {n u : Nat} (hu : 0 < u) (ln : (bg n).length ≤ 40000) (lu : (bg u).length ≤ 40000) : T (fun k => z6.f k (bg n) (bg u)) := by
 unfold z6.f
 rw [w64 (by omega) (by omega)]
 refine T.grd (by omega) (T.grd (by omega) ?_)
 exact zeG (bg n) (bg_W n) u hu (by omega) (by omega) (bg n).length _ 0 _ (by omega) (Nat.le_refl _) List.length_replicate hu
end Go.Proofs.YtldhiaiaildnlaaGreatDoor.Nm
