/- Texts of the claim: Nt. -/
import Derived.Test.YtldhiaiaildnlaaDoorRNs
namespace Go.Proofs.YtldhiaiaildnlaaDoor.Nm
set_option linter.unusedVariables false
open Go Go.RowKit Go.Proofs.YtldhiaiaildnlaaDoor.Q Go.Proofs.YtldhiaiaildnlaaDoorW.PrintWords Go.Proofs.YtldhiaiaildnlaaDoorW.PrintLast Go.Proofs.YtldhiaiaildnlaaDoorW.PrintMore
theorem rRound_end {k : Nat} {p : ByteArray} {x : Bool × Nat} {how e : Nat} {r : ByteArray × Int} (hp : wayS (dl p) = some how) (he : e ≤ 50) (hx : Fine x)
    (h : ((chiselref04_cut.f k x.1 (dg x.2) (e : Int) p).bind fun t => (chiselref04_zeros.f t (e : Int)).bind fun u => (chiselref04_result.f k x.1 u).bind fun q => some (q.1, q.2)) = some r) : Ans r (res (x.1, rnd how x.1 x.2 (10 ^ e) * 10 ^ e)) := by
  obtain ⟨t, h1, h⟩ := bindE h
  obtain ⟨u, h2, h⟩ := bindE h
  obtain ⟨q, h3, h⟩ := bindE h
  have lx := dlen hx.1 (by decide)
  have ht := rcut_f hp (dg_D _) (by omega) (by omega) h1
  rw [dv_dg] at ht
  rw [ht] at h2
  have hu := rzeros_f h2
  rw [hu] at h3
  have := result_f ((dg_D _).append (D.zeros _)) h3
  rw [dv_append, dv_zeros, List.length_replicate, dv_dg, Nat.add_zero] at this
  rw [← pairE h]; exact this
theorem rRound_f {k : Nat} {a p : ByteArray} {d : Int} {r : ByteArray × Int} (h : chiselref04_Round.f k a d p = some r) : Ans r (roundS (dl a) d (wayS (dl p))) := by
  unfold chiselref04_Round.f at h
  obtain ⟨t, h1, h⟩ := bindE h
  have ht := rcanonical_f h1
  unfold rcanP at ht
  unfold roundS
  cases hc : can (dl a) with
  | none =>
    rw [hc] at ht
    rw [ht, if_neg (by decide)] at h
    rw [← someE h]; exact ⟨rfl, rfl⟩
  | some x =>
    rw [hc] at ht
    rw [ht, if_pos rfl] at h
    simp only at h ⊢
    have hx := (can_is hc).2
    have J : ∀ k o, chiselref04_Round.j0 k d p o x.1 (dg x.2) = some r → (o = true → r = ((⟨#[]⟩ : ByteArray), 6)) ∧ (o = false → ∃ k, chiselref04_Round.j1 k d p (wayS (dl p) == none) x.1 (dg x.2) = some r) := by
      intro k o h
      cases k with
      | zero => cases h
      | succ k =>
        rw [chiselref04_Round.j0] at h
        cases o with
        | true => rw [if_pos rfl] at h; exact ⟨fun _ => (someE h).symm, fun e => (by cases e)⟩
        | false =>
          rw [if_neg (by decide), dl_toList] at h
          refine ⟨fun e => (by cases e), fun _ => ⟨k, ?_⟩⟩
          rw [← h]
          unfold wayS
          by_cases g1 : dl p = [104, 97, 108, 102]
          · rw [if_pos g1, if_pos g1]; rfl
          rw [if_neg g1, if_neg g1]
          by_cases g2 : dl p = [101, 118, 101, 110]
          · rw [if_pos g2, if_pos g2]; rfl
          rw [if_neg g2, if_neg g2]
          by_cases g3 : dl p = [102, 108, 111, 111, 114]
          · rw [if_pos g3, if_pos g3]; rfl
          rw [if_neg g3, if_neg g3]
          by_cases g4 : dl p = [99, 101, 105, 108, 105, 110, 103]
          · rw [if_pos g4, if_pos g4]; rfl
          rw [if_neg g4, if_neg g4]
          by_cases g5 : dl p = [99, 117, 116]
          · rw [if_pos g5, g5]; rfl
          · rw [if_neg g5, bne_iff_ne.mpr g5]; rfl
    by_cases h0 : d < -30
    · rw [if_pos h0] at h
      rw [if_pos (.inl h0), (J _ _ h).1 rfl]; exact ⟨rfl, rfl⟩
    · rw [if_neg h0] at h
      by_cases h2 : d > 20
      · rw [decide_eq_true h2] at h
        rw [if_pos (.inr h2), (J _ _ h).1 rfl]; exact ⟨rfl, rfl⟩
      · rw [decide_eq_false h2] at h
        rw [if_neg (by omega)]
        obtain ⟨k, h⟩ := (J _ _ h).2 rfl
        cases k with
        | zero => cases h
        | succ k =>
          rw [chiselref04_Round.j1] at h
          cases hw : wayS (dl p) with
          | none =>
            rw [hw, if_pos (by rfl)] at h
            rw [← someE h]; exact ⟨rfl, rfl⟩
          | some how =>
            rw [hw, if_neg (by simp), w64 (by omega) (by omega), show (20 : Int) - d = ((20 - d).toNat : Nat) from by omega] at h
            exact rRound_end hw (by omega) hx h
end Go.Proofs.YtldhiaiaildnlaaDoor.Nm
