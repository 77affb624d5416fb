/- Texts of the claim: Nx. -/
import Derived.Test.YtldhiaiaildnlaaDoorONv
import Derived.Test.YtldhiaiaildnlaaDoorONo
namespace Go.Proofs.YtldhiaiaildnlaaDoor.Nm
set_option linter.unusedVariables false
open Go Go.RowKit Go.Proofs.YtldhiaiaildnlaaDoor.Q Go.Proofs.YtldhiaiaildnlaaDoorW.PrintWords Go.Proofs.YtldhiaiaildnlaaDoorW.PrintLast Go.Proofs.YtldhiaiaildnlaaDoorW.PrintMore
theorem T.pb {α β : Type} {x : α} {F : Nat → α → Option β} (hF : T (fun k => F k x)) : T (fun k => (some x).bind (F k)) := hF
theorem T.ex {α β : Type} {x : Option α} {F : Nat → α → Option β} (h : ∃ v, x = some v) (hF : ∀ v, x = some v → T (fun k => F k v)) : T (fun k => x.bind (F k)) := by
  obtain ⟨v, h⟩ := h
  exact T.sb h (hF v h)
theorem rtrim_l0_t : ∀ (n : Nat) (l : List Int), l.length ≤ n → T (fun k => chiselref04_trim.l0 k l) := by
  intro n
  induction n with
  | zero =>
    intro l h
    refine T.succ ?_
    simp only [chiselref04_trim.l0]
    exact T.ite (fun h => by omega) (fun _ => T.pure _)
  | succ n ih =>
    intro l h
    refine T.succ ?_
    simp only [chiselref04_trim.l0]
    exact T.ite (fun h => T.grd (by omega) (T.ite (fun _ => T.grd (by omega) (ih _ (by rw [List.length_drop]; omega))) (fun _ => T.pure _))) (fun _ => T.pure _)
theorem rtrim_z (l : List Int) : Y (fun k => chiselref04_trim.f k l) (fun r => r = tz l) := Y.of (rtrim_l0_t _ l (Nat.le_refl _)) fun k r h => rtrim_f k l r h
theorem rtrim_t (l : List Int) : T (fun k => chiselref04_trim.f k l) := (rtrim_z l).t
theorem rcmp_l0_t : ∀ (n : Nat) (a b : List Int) (i : Nat), a.length = i + n → a.length = b.length → a.length ≤ 1000000 → T (fun k => chiselref04_cmp.l0 k a b (i : Int)) := by
  intro n
  induction n with
  | zero =>
    intro a b i h1 h2 h3
    refine T.succ ?_
    simp only [chiselref04_cmp.l0]
    exact T.ite (fun h => by omega) (fun _ => T.pure _)
  | succ n ih =>
    intro a b i h1 h2 h3
    refine T.succ ?_
    simp only [chiselref04_cmp.l0]
    rw [w64 (x := (i : Int) + 1) (by omega) (by omega), show (i : Int) + 1 = ((i + 1 : Nat) : Int) from rfl]
    exact T.ite (fun h => T.grd (by omega) (T.grd (by omega) (T.ite (fun _ => ih a b (i + 1) (by omega) h2 h3) (fun _ => T.ite (fun _ => T.pure _) (fun _ => T.pure _))))) (fun h => by omega)
theorem rcmp_t {a b : List Int} (la : a.length ≤ 1000000) : T (fun k => chiselref04_cmp.f k a b) := by
  unfold chiselref04_cmp.f
  refine T.eq (rtrim_z a) (T.eq (rtrim_z b) ?_)
  have := tz_len a
  exact T.ite (fun h => rcmp_l0_t (tz a).length (tz a) (tz b) 0 (Nat.zero_add _).symm (by omega) (by omega)) (fun _ => T.ite (fun _ => T.pure _) (fun _ => T.pure _))
theorem at_t {l : List Int} {i : Nat} (hl : l.length ≤ 1000000) (hi : i ≤ 2000000) : ∃ r, chiselref04_at.f l (i : Int) = some r := by
  unfold chiselref04_at.f
  by_cases h : (i : Int) < l.length
  · rw [if_pos h, w64 (x := (l.length : Int) - 1) (by omega) (by omega), w64 (x := (l.length : Int) - 1 - i) (by omega) (by omega), if_pos (by omega), if_pos (by omega)]
    exact ⟨_, rfl⟩
  · rw [if_neg h]; exact ⟨_, rfl⟩
theorem radd_l0_t (a b : List Int) (la : a.length ≤ 100000) (lb : b.length ≤ 100000) : ∀ (n : Nat) (y : List Int) (c m : Int) (i : Nat), y.length = i + n → m = y.length → y.length ≤ 200001 → T (fun k => chiselref04_add.l0 k a b m y c (i : Int)) := by
  intro n
  induction n with
  | zero =>
    intro y c m i h1 h2 h3
    refine T.succ ?_
    simp only [chiselref04_add.l0]
    exact T.ite (fun h => by omega) (fun _ => T.bind (rtrim_t _) fun _ _ => T.pure _)
  | succ n ih =>
    intro y c m i h1 h2 h3
    refine T.succ ?_
    simp only [chiselref04_add.l0]
    rw [w64 (x := (i : Int) + 1) (by omega) (by omega), show (i : Int) + 1 = ((i + 1 : Nat) : Int) from rfl, w64 (x := m - 1) (by omega) (by omega), w64 (x := m - 1 - i) (by omega) (by omega)]
    exact T.ite (fun h => T.ex (at_t (by omega) (by omega)) fun _ _ => T.ex (at_t (by omega) (by omega)) fun _ _ => T.grd (by omega) (T.grd (by omega) (ih _ _ m (i + 1) (by rw [List.length_set]; omega) (by rw [List.length_set]; omega) (by rw [List.length_set]; omega)))) (fun h => by omega)
theorem radd_t {a b : List Int} (la : a.length ≤ 100000) (lb : b.length ≤ 100000) : T (fun k => chiselref04_add.f k a b) := by
  unfold chiselref04_add.f
  rw [mx_nat, w64 (by omega) (by omega)]
  refine T.grd (by omega) (T.grd (by omega) ?_)
  exact radd_l0_t a b la lb (max a.length b.length + 1) _ 0 _ 0 (by rw [List.length_replicate]; omega) (by rw [List.length_replicate]; omega) (by rw [List.length_replicate]; omega)
theorem rzeros_t {l : List Int} {n : Nat} (hl : l.length ≤ 1000000) (hn : n ≤ 1000000) : chiselref04_zeros.f l (n : Int) = some (l ++ List.replicate n 0) := by
  unfold chiselref04_zeros.f
  simp only [Option.bind_some, List.nil_append, List.length_nil]
  rw [if_pos (by omega), if_pos (by omega), if_pos (by rw [Int.toNat_natCast]; omega), Int.toNat_natCast]
theorem Up_t (s z : Bool) (d t : Int) (p : ByteArray) : ∃ v, chiselref04_Up.f s d t z p = some v := by
  unfold chiselref04_Up.f
  repeat' split
  all_goals exact ⟨_, rfl⟩
theorem rcut_j2_t {l : List Int} {o : Bool} (ll : l.length ≤ 50000) : T (fun k => chiselref04_cut.j2 k l o) := by
  refine T.succ ?_
  simp only [chiselref04_cut.j2]
  exact T.ite (fun _ => T.bind (radd_t (by omega) (by decide)) fun _ _ => T.pure _) (fun _ => T.pb (T.grd (by rw [List.length_nil]; omega) (T.bind (rtrim_t _) fun _ _ => T.pure _)))
theorem rcut_j1_t {s : Bool} {n : Int} {p : ByteArray} {l r : List Int} {c d : Int} (ll : l.length ≤ 50000) : T (fun k => chiselref04_cut.j1 k s n p l r c d) := by
  refine T.succ ?_
  simp only [chiselref04_cut.j1]
  exact T.ite (fun _ => T.bind (rtrim_t _) fun t _ => T.ex (Up_t _ _ _ _ _) fun _ _ => rcut_j2_t ll) (fun _ => rcut_j2_t ll)
theorem rcut_j0_t {s : Bool} {l : List Int} {n : Nat} {p : ByteArray} (ll : l.length ≤ 20000) (hn : n ≤ l.length) : T (fun k => chiselref04_cut.j0 k s l (n : Int) p) := by
  refine T.succ ?_
  simp only [chiselref04_cut.j0]
  rw [w64 (x := (l.length : Int) - n) (by omega) (by omega), w64 (x := (n : Int) - 1) (by omega) (by omega)]
  obtain ⟨m, hm⟩ : ∃ m, mx 0 ((n : Int) - 1) = m := ⟨_, rfl⟩
  have hm2 : 0 ≤ m ∧ m ≤ 20000 := by
    rw [← hm]; unfold mx; split <;> omega
  rw [hm]
  have e1 := List.length_take (i := ((l.length : Int) - n).toNat) (l := l)
  have e2 := List.length_drop (i := ((l.length : Int) - n).toNat) (l := l)
  refine T.grd (by omega) (T.grd (by omega) (T.pb (T.pb (T.pb (T.grd (by omega) (T.grd (by rw [List.length_singleton]; omega) (T.bind (rcmp_t (by omega)) fun t _ => ?_)))))))
  exact T.ite (fun h => T.grd (by rw [w64 (by omega) (by omega)]; omega) (T.grd (by rw [w64 (by omega) (by omega)]; omega) (rcut_j1_t (by omega)))) (fun _ => rcut_j1_t (by omega))
theorem rcut_t {s : Bool} {l : List Int} {n : Nat} {p : ByteArray} (ll : l.length ≤ 10000) (hn : n ≤ 10000) : T (fun k => chiselref04_cut.f k s l (n : Int) p) := by
  unfold chiselref04_cut.f
  refine T.ite (fun h => ?_) (fun h => rcut_j0_t (by omega) (by omega))
  rw [w64 (x := (n : Int) - l.length) (by omega) (by omega)]
  have e := List.length_replicate (n := ((n : Int) - l.length).toNat) (a := (0 : Int))
  refine T.grd (by omega) (T.grd (by omega) (T.pb (T.grd (by omega) (rcut_j0_t ?_ ?_))))
  · rw [List.length_append]; omega
  · rw [List.length_append]; omega
end Go.Proofs.YtldhiaiaildnlaaDoor.Nm
