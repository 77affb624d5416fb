/- Texts of the claim: PureLexJoins. -/
import Derived.Test.YtmpenkinheneoaaDoorAQx34
import Derived.Test.YtmpenkinheneoaaDoorALxT
namespace Go.Proofs.YtmpenkinheneoaaDoor.Pure
set_option linter.unusedVariables false
open Go Go.RowKit Go.Proofs.YtmpenkinheneoaaDoor.Plain Go.Proofs.YtmpenkinheneoaaDoor.Lx Go.Proofs.YtmpenkinheneoaaDoor.HPure Go.Proofs.YtmpenkinheneoaaDoor.Q Go.Proofs.YtmpenkinheneoaaDoorW.PrintWords Go.Proofs.YtmpenkinheneoaaDoorW.PrintLast
theorem joins_j1 (a : ByteArray) (ha : a.size ≤ 2000) (b : ByteArray) (hb : b.size ≤ 2000) (k : Nat) (hk : 10000 < k) (h0 : (ansP a).2.2 = 0) (z : Bool) (hz : z = (decide ((ansP b).2.2 = 5) || (ansP b).2.2 == 2)) :
    chisellaw14_LexJoins.j1 k a (ansP a).1 (ansP b).1 (ansP b).2.1 (ansP b).2.2 (ansP ((a ++ (⟨#[10]⟩ : ByteArray)) ++ b)).1 (ansP ((a ++ (⟨#[10]⟩ : ByteArray)) ++ b)).2.1 (ansP ((a ++ (⟨#[10]⟩ : ByteArray)) ++ b)).2.2 z = some true := by
  obtain ⟨k, rfl⟩ : ∃ m, k = m + 1 := ⟨k - 1, by omega⟩
  have h1 : (⟨#[10]⟩ : ByteArray) = mk [10] := rfl
  have hJz : ((a ++ (⟨#[10]⟩ : ByteArray)) ++ b).size = a.size + 1 + b.size := by
    have e : b = mk b.data.toList := (mk_data b).symm
    rw [e, app_size, mk_data, h1, app_size, size_data]; rfl
  rcases ans_ways a (by omega) with ⟨_, e⟩ | ⟨_, u, er, hl, e⟩ | ⟨ht, T, hl, e⟩
  · rw [e] at h0; cases h0
  · rw [e] at h0
    have := lx_errno _ _ u er (Nat.le_refl _) hl
    simp only at h0; omega
  · obtain ⟨j1, j2⟩ := text_join a b ht
    have hTl := (lx_parts T.length (points a) T (Nat.le_refl _) hl).2.2
    have hpa := points_le a
    have happ : ∀ w : List Int, lx (points a ++ 10 :: w) = pre (sh (10 :: w) T) (lx w) := fun w => by
      rw [lx_append (points a).length (points a) T (10 :: w) (Nat.le_refl _) hl (.inr ⟨_, _, rfl, rfl⟩), lx_blank _ rfl]
    simp only [chisellaw14_LexJoins.j1]
    rcases ans_ways b (by omega) with ⟨bt, be⟩ | ⟨bt, u, er, bl, be⟩ | ⟨bt, U, bl, be⟩
    · rw [bt] at j1
      rcases ans_ways _ (show ((a ++ (⟨#[10]⟩ : ByteArray)) ++ b).size ≤ 1000000 by omega) with ⟨_, je⟩ | ⟨jt, _⟩ | ⟨jt, _⟩
      · rw [be] at hz
        rw [be, je, hz, works_f k (by omega)]; rfl
      · rw [j1] at jt; cases jt
      · rw [j1] at jt; cases jt
    · rw [bt] at j1
      have hp := j2 bt
      obtain ⟨hb1, hb2⟩ := At.full bt
      obtain ⟨hu, _, _⟩ := lx_place hb1 bl
      have hx := happ (points b)
      rw [bl] at hx
      rcases ans_ways _ (show ((a ++ (⟨#[10]⟩ : ByteArray)) ++ b).size ≤ 1000000 by omega) with ⟨jt, _⟩ | ⟨jt, v, er', jl, je⟩ | ⟨jt, V, jl, je⟩
      · rw [j1] at jt; cases jt
      · rw [hp, hx] at jl
        simp only [pre, Except.error.injEq, Prod.mk.injEq] at jl
        obtain ⟨rfl, rfl⟩ := jl
        have her := lx_errno _ _ u er (Nat.le_refl _) bl
        have hz1 : z = true := by
          rw [hz, be]; simp only [Bool.or_eq_true, decide_eq_true_eq, beq_iff_eq]; exact her
        have g0 := hu.nonneg
        have g1 := hu.le
        have hP : P ((a ++ (⟨#[10]⟩ : ByteArray)) ++ b) u = (a.size : Int) + 1 + P b u := by unfold P; unfold q; rw [hJz]; omega
        rw [be, je, hz1, if_pos rfl]
        simp only
        rw [if_pos trivial, show wrap64 ((a.size : Int) + 1) = (a.size : Int) + 1 from w64 (by omega) (by omega), w64 (by omega) (by omega), hP, if_pos rfl, works_f k (by omega)]; rfl
      · rw [hp, hx] at jl; cases jl
    · rw [bt] at j1
      have hp := j2 bt
      have hx := happ (points b)
      rw [bl] at hx
      have hUl := (lx_parts U.length (points b) U (Nat.le_refl _) bl).2.2
      have hpb := points_le b
      rcases ans_ways _ (show ((a ++ (⟨#[10]⟩ : ByteArray)) ++ b).size ≤ 1000000 by omega) with ⟨jt, _⟩ | ⟨jt, v, er', jl, je⟩ | ⟨jt, V, jl, je⟩
      · rw [j1] at jt; cases jt
      · rw [hp, hx] at jl; cases jl
      · rw [hp, hx] at jl
        simp only [pre, Except.ok.injEq] at jl
        subst jl
        have hz1 : z = false := by rw [hz, be]; rfl
        have hsl : (sh (10 :: points b) T).length = T.length := by unfold sh; rw [List.length_map]
        rw [be, je, e, hz1, if_neg (by simp)]
        simp only
        rw [if_pos trivial, if_pos trivial, given_f _ _ (by simp; omega) (by simp; omega), Option.bind_some, Option.bind_some, if_pos (by simp; omega), Option.bind_some, if_pos (by simp; omega), List.nil_append, given_f _ _ (by simp; omega) (by simp; omega), Option.bind_some]
        have hkey : (((sh (10 :: points b) T ++ U).map fun t => tkP ((a ++ (⟨#[10]⟩ : ByteArray)) ++ b) t.1 t.2.1 t.2.2).map g34).map key = (((T.map fun t => tkP a t.1 t.2.1 t.2.2) ++ U.map fun t => tkP b t.1 t.2.1 t.2.2).map g34).map key := by
          unfold sh
          simp only [List.map_append, List.map_map]; rfl
        rw [same_f _ _ _ hkey (by simp; omega) (by simp; omega), Option.bind_some, if_pos rfl, works_f k (by omega)]; rfl
theorem LexJoins : chisellaw14_LexJoins.Pure := by
  intro a b ha hb
  refine ⟨20001, ?_⟩
  have hj : ∀ k, 20 ≤ k → chisellaw14_LexJoins.j0 (k + 1) a b true = some true := fun k hk => by
    simp only [chisellaw14_LexJoins.j0]
    rw [if_pos True.intro, works_f k hk]; rfl
  unfold chisellaw14_LexJoins.f
  by_cases hza : (a.size : Int) > 2000
  · rw [if_pos hza]; exact hj 20000 (by omega)
  · rw [if_neg hza]
    by_cases hzb : (b.size : Int) > 2000
    · rw [decide_eq_true hzb]; exact hj 20000 (by omega)
    · have h1 : (⟨#[10]⟩ : ByteArray) = mk [10] := rfl
      have hJ1 : (a ++ (⟨#[10]⟩ : ByteArray)).size = a.size + 1 := by rw [h1, app_size]; rfl
      have hJz : ((a ++ (⟨#[10]⟩ : ByteArray)) ++ b).size = a.size + 1 + b.size := by
        have e : b = mk b.data.toList := (mk_data b).symm
        rw [e, app_size, mk_data, h1, app_size, size_data]; rfl
      rw [decide_eq_false hzb]
      have hk : (20001 : Nat) = 20000 + 1 := rfl
      rw [hk]
      generalize hkk : (20000 : Nat) = k
      simp only [chisellaw14_LexJoins.j0]
      rw [if_neg (by simp), tokens_f a (by omega), Option.bind_some, tokens_f b (by omega), Option.bind_some, if_pos (by omega), if_pos (by omega), tokens_f _ (by omega), Option.bind_some]
      by_cases h0 : (ansP a).2.2 = 0
      · rw [if_pos h0]
        by_cases h5 : (ansP b).2.2 = 5
        · rw [if_pos h5]
          exact joins_j1 a (by omega) b (by omega) k (by omega) h0 true (by rw [decide_eq_true h5]; rfl)
        · rw [if_neg h5]
          exact joins_j1 a (by omega) b (by omega) k (by omega) h0 _ (by rw [decide_eq_false h5]; rfl)
      · rw [if_neg h0, works_f k (by omega)]; rfl
end Go.Proofs.YtmpenkinheneoaaDoor.Pure
