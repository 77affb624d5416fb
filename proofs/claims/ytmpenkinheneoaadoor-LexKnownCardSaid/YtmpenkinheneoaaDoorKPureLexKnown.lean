/- Texts of the claim: PureLexKnown. -/
import Derived.Test.YtmpenkinheneoaaDoorKQx35
import Derived.Test.YtmpenkinheneoaaDoorKLxS
namespace Go.Proofs.YtmpenkinheneoaaDoor.Pure
set_option linter.unusedVariables false
open Go Go.RowKit Go.Proofs.YtmpenkinheneoaaDoor.Plain Go.Proofs.YtmpenkinheneoaaDoor.Lx Go.Proofs.YtmpenkinheneoaaDoor.HPure Go.Proofs.YtmpenkinheneoaaDoor.Q Go.Proofs.YtmpenkinheneoaaDoorW.PrintWords Go.Proofs.YtmpenkinheneoaaDoorW.PrintLast
theorem known_l2 : ∀ (rest pre : List S34) (k : Nat), rest.length + 30 < k → pre.length + rest.length ≤ 1000 →
    chisellaw14_LexKnown.l2 k (pre ++ rest) ((pre ++ rest).map (·.f1)) ((pre ++ rest).map (·.f0)) (pre.length : Int) = some true := by
  intro rest
  induction rest with
  | nil =>
    intro pre k hk h1
    obtain ⟨k, rfl⟩ : ∃ m, k = m + 1 := ⟨k - 1, by omega⟩
    simp only [chisellaw14_LexKnown.l2]
    rw [if_neg (by simp), works_f k (by simp at hk; omega)]; rfl
  | cons x rest ih =>
    intro pre k hk h1
    obtain ⟨k, rfl⟩ : ∃ m, k = m + 1 := ⟨k - 1, by omega⟩
    simp only [List.length_cons] at hk h1
    have e : rd_T34 (pre ++ x :: rest) (pre.length : Int) = x := get_mid z34 pre x rest
    have e1 : rdOf ByteArray.empty ((pre ++ x :: rest).map (·.f1)) (pre.length : Int) = x.f1 := by
      have := get_mid ByteArray.empty (pre.map (·.f1)) x.f1 (rest.map (·.f1))
      rw [List.length_map] at this
      rw [List.map_append, List.map_cons]; exact this
    have e0 : rd ((pre ++ x :: rest).map (·.f0)) (pre.length : Int) = x.f0 := by
      have := get_mid (0 : Int) (pre.map (·.f0)) x.f0 (rest.map (·.f0))
      rw [List.length_map] at this
      rw [List.map_append, List.map_cons]; exact this
    simp only [chisellaw14_LexKnown.l2]
    rw [e, e1, e0, if_pos (by simp; omega), if_pos (by omega), if_pos (by simp; omega), if_pos rfl, if_pos (by simp; omega), if_pos rfl, w64 (by omega) (by omega)]
    have := ih (pre ++ [x]) k (by omega) (by simp; omega)
    rw [List.append_assoc, List.singleton_append, List.length_append, List.length_singleton] at this
    exact_mod_cast this
theorem known_j2 (k : Nat) (hk : 100 ≤ k) : chisellaw14_LexKnown.j2 k [(⟨1, (⟨#[49]⟩ : ByteArray), 0⟩ : S34), (⟨3, (⟨#[46, 46]⟩ : ByteArray), 1⟩ : S34), (⟨1, (⟨#[50]⟩ : ByteArray), 3⟩ : S34), (⟨1, (⟨#[49]⟩ : ByteArray), 5⟩ : S34), (⟨3, (⟨#[46]⟩ : ByteArray), 6⟩ : S34), (⟨1, (⟨#[46, 53, 101, 45, 49]⟩ : ByteArray), 8⟩ : S34), (⟨0, (⟨#[97]⟩ : ByteArray), 14⟩ : S34), (⟨3, (⟨#[58]⟩ : ByteArray), 15⟩ : S34), (⟨1, (⟨#[49]⟩ : ByteArray), 16⟩ : S34), (⟨0, (⟨#[97]⟩ : ByteArray), 18⟩ : S34), (⟨3, (⟨#[58, 58]⟩ : ByteArray), 19⟩ : S34), (⟨0, (⟨#[98]⟩ : ByteArray), 21⟩ : S34), (⟨0, (⟨#[97, 58, 98]⟩ : ByteArray), 23⟩ : S34), (⟨3, (⟨#[58]⟩ : ByteArray), 26⟩ : S34), (⟨0, (⟨#[99]⟩ : ByteArray), 27⟩ : S34)] false = some true := by
  obtain ⟨k, rfl⟩ : ∃ m, k = m + 1 := ⟨k - 1, by omega⟩
  simp only [chisellaw14_LexKnown.j2]
  rw [if_neg (by simp), Option.bind_some, if_pos (by rfl)]
  exact known_l2 _ [] k (by simp; omega) (by simp)
theorem known_end (k : Nat) (hk : 200 ≤ k) (A : List ByteArray) (B : List Int) : chisellaw14_LexKnown.l1 k A B (A.length : Int) = some true := by
  obtain ⟨k, rfl⟩ : ∃ m, k = m + 1 := ⟨k - 1, by omega⟩
  simp only [chisellaw14_LexKnown.l1]
  rw [if_neg (by omega), tokens_f _ (by decide), Option.bind_some, tokens_f _ (by decide), Option.bind_some, tokens_f _ (by decide), Option.bind_some, tokens_f _ (by decide), Option.bind_some, tokens_f _ (by decide), Option.bind_some]
  have a1 : ansP (⟨#[39, 105, 116, 39, 39, 115, 39, 32, 124, 124, 32, 34, 120, 34]⟩ : ByteArray) = ([(⟨2, (⟨#[105, 116, 39, 115]⟩ : ByteArray), 0⟩ : S34), (⟨3, (⟨#[124, 124]⟩ : ByteArray), 8⟩ : S34), (⟨2, (⟨#[120]⟩ : ByteArray), 11⟩ : S34)], 0, 0) := by kernel_rfl
  have a2 : ansP (⟨#[99, 104, 105, 108, 100, 58, 58, 112, 58, 113, 45, 49, 32, 40, 58, 32, 97, 32, 40, 58, 32, 98, 32, 58, 41, 32, 39, 32, 58, 41]⟩ : ByteArray) = ([(⟨0, (⟨#[99, 104, 105, 108, 100]⟩ : ByteArray), 0⟩ : S34), (⟨3, (⟨#[58, 58]⟩ : ByteArray), 5⟩ : S34), (⟨0, (⟨#[112, 58, 113, 45, 49]⟩ : ByteArray), 7⟩ : S34)], 0, 0) := by kernel_rfl
  have a3 : ansP (⟨#[49, 46, 46, 50, 32, 49, 46, 32, 46, 53, 101, 45, 49, 32, 97, 58, 49, 32, 97, 58, 58, 98, 32, 97, 58, 98, 58, 99]⟩ : ByteArray) = ([(⟨1, (⟨#[49]⟩ : ByteArray), 0⟩ : S34), (⟨3, (⟨#[46, 46]⟩ : ByteArray), 1⟩ : S34), (⟨1, (⟨#[50]⟩ : ByteArray), 3⟩ : S34), (⟨1, (⟨#[49]⟩ : ByteArray), 5⟩ : S34), (⟨3, (⟨#[46]⟩ : ByteArray), 6⟩ : S34), (⟨1, (⟨#[46, 53, 101, 45, 49]⟩ : ByteArray), 8⟩ : S34), (⟨0, (⟨#[97]⟩ : ByteArray), 14⟩ : S34), (⟨3, (⟨#[58]⟩ : ByteArray), 15⟩ : S34), (⟨1, (⟨#[49]⟩ : ByteArray), 16⟩ : S34), (⟨0, (⟨#[97]⟩ : ByteArray), 18⟩ : S34), (⟨3, (⟨#[58, 58]⟩ : ByteArray), 19⟩ : S34), (⟨0, (⟨#[98]⟩ : ByteArray), 21⟩ : S34), (⟨0, (⟨#[97, 58, 98]⟩ : ByteArray), 23⟩ : S34), (⟨3, (⟨#[58]⟩ : ByteArray), 26⟩ : S34), (⟨0, (⟨#[99]⟩ : ByteArray), 27⟩ : S34)], 0, 0) := by kernel_rfl
  have a4 : ansP (⟨#[]⟩ : ByteArray) = ([], 0, 0) := by kernel_rfl
  have a5 : ansP (⟨#[97, 255]⟩ : ByteArray) = ([], 0, 10) := by kernel_rfl
  rw [a1, a2, a3, a4, a5]
  simp only
  rw [given_f _ k (by simp; omega) (by simp), Option.bind_some, given_f _ k (by simp; omega) (by simp), Option.bind_some]
  simp only [List.map_cons, List.map_nil, g34]
  rw [equal_f _ k (by simp; omega) (by simp), Option.bind_some, if_pos rfl, equal_f _ k (by simp; omega) (by simp), Option.bind_some, if_pos rfl, if_pos (by rfl), if_pos trivial, if_pos trivial]
  exact known_j2 k (by omega)
theorem known_l1 : ∀ (rest pre : List (ByteArray × Int)) (k : Nat), (∀ x ∈ rest, ansP x.1 = ([], x.2, 5) ∧ x.1.size ≤ 1000) → rest.length + 210 < k → pre.length + rest.length ≤ 1000 →
    chisellaw14_LexKnown.l1 k ((pre ++ rest).map (·.1)) ((pre ++ rest).map (·.2)) (pre.length : Int) = some true := by
  intro rest
  induction rest with
  | nil =>
    intro pre k h hk h1
    have := known_end k (by simp at hk; omega) (pre.map fun x => x.1) (pre.map fun x => x.2)
    rw [List.length_map] at this
    rw [List.append_nil]; exact this
  | cons x rest ih =>
    intro pre k h hk h1
    obtain ⟨k, rfl⟩ : ∃ m, k = m + 1 := ⟨k - 1, by omega⟩
    simp only [List.length_cons] at hk h1
    obtain ⟨hx, hz⟩ := h x List.mem_cons_self
    have e1 : rdOf ByteArray.empty ((pre ++ x :: rest).map (·.1)) (pre.length : Int) = x.1 := by
      have := get_mid ByteArray.empty (pre.map (·.1)) x.1 (rest.map (·.1))
      rw [List.length_map] at this
      rw [List.map_append, List.map_cons]; exact this
    have e0 : rd ((pre ++ x :: rest).map (·.2)) (pre.length : Int) = x.2 := by
      have := get_mid (0 : Int) (pre.map (·.2)) x.2 (rest.map (·.2))
      rw [List.length_map] at this
      rw [List.map_append, List.map_cons]; exact this
    simp only [chisellaw14_LexKnown.l1]
    rw [e1, if_pos (by simp; omega), if_pos (by omega), tokens_f x.1 (by omega), Option.bind_some, hx]
    simp only
    rw [e0, if_pos (by rfl), if_pos (by simp; omega), if_pos rfl, if_pos trivial, w64 (by omega) (by omega)]
    have := ih (pre ++ [x]) k (fun y hy => h y (List.mem_cons_of_mem _ hy)) (by omega) (by simp; omega)
    rw [List.append_assoc, List.singleton_append, List.length_append, List.length_singleton] at this
    exact_mod_cast this
theorem known_bad : ∀ x ∈ ([((⟨#[49, 116, 111]⟩ : ByteArray), 1), ((⟨#[49, 101]⟩ : ByteArray), 1), ((⟨#[39, 97]⟩ : ByteArray), 0), ((⟨#[97, 32, 40, 58, 32, 98]⟩ : ByteArray), 2), ((⟨#[97, 32, 38, 32, 98]⟩ : ByteArray), 2), ((⟨#[126]⟩ : ByteArray), 0), ((⟨#[195, 169, 38]⟩ : ByteArray), 2), ((⟨#[49, 46, 53, 195, 169]⟩ : ByteArray), 3), ((⟨#[34, 97, 34, 34]⟩ : ByteArray), 0), ((⟨#[37]⟩ : ByteArray), 0), ((⟨#[49, 101, 43, 120]⟩ : ByteArray), 1)] : List (ByteArray × Int)), ansP x.1 = ([], x.2, 5) ∧ x.1.size ≤ 1000 := by
  repeat refine List.forall_mem_cons.2 ⟨⟨by kernel_rfl, by decide⟩, ?_⟩
  exact fun x h => by cases h
theorem known_l0 : ∀ (rest pre : List ByteArray) (k : Nat), (∀ x ∈ rest, ansP x = ([(⟨3, x, 0⟩ : S34)], 0, 0) ∧ x.size ≤ 1000) → rest.length + 250 < k → pre.length + rest.length ≤ 1000 →
    chisellaw14_LexKnown.l0 k (pre ++ rest) (pre.length : Int) = some true := by
  intro rest
  induction rest with
  | nil =>
    intro pre k h hk h1
    obtain ⟨k, rfl⟩ : ∃ m, k = m + 1 := ⟨k - 1, by omega⟩
    simp only [chisellaw14_LexKnown.l0]
    rw [if_neg (by simp)]
    exact known_l1 _ [] k known_bad (by simp at hk ⊢; omega) (by simp)
  | cons x rest ih =>
    intro pre k h hk h1
    obtain ⟨k, rfl⟩ : ∃ m, k = m + 1 := ⟨k - 1, by omega⟩
    simp only [List.length_cons] at hk h1
    obtain ⟨hx, hz⟩ := h x List.mem_cons_self
    have e : rdOf ByteArray.empty (pre ++ x :: rest) (pre.length : Int) = x := get_mid ByteArray.empty pre x rest
    simp only [chisellaw14_LexKnown.l0]
    rw [e, if_pos (by simp; omega), if_pos (by omega), tokens_f x (by omega), Option.bind_some, hx]
    simp only
    rw [if_pos trivial, given_f _ k (by simp; omega) (by simp), Option.bind_some]
    simp only [List.map_cons, List.map_nil, g34]
    rw [equal_f _ k (by simp; omega) (by simp), Option.bind_some, if_pos rfl, w64 (by omega) (by omega)]
    have := ih (pre ++ [x]) k (fun y hy => h y (List.mem_cons_of_mem _ hy)) (by omega) (by simp; omega)
    rw [List.append_assoc, List.singleton_append, List.length_append, List.length_singleton] at this
    exact_mod_cast this
theorem LexKnown : chisellaw14_LexKnown.Pure := by
  refine ⟨1000, ?_⟩
  unfold chisellaw14_LexKnown.f
  refine known_l0 _ [] 1000 ?_ (by simp) (by simp)
  repeat refine List.forall_mem_cons.2 ⟨⟨by kernel_rfl, by decide⟩, ?_⟩
  exact fun x h => by cases h
end Go.Proofs.YtmpenkinheneoaaDoor.Pure
