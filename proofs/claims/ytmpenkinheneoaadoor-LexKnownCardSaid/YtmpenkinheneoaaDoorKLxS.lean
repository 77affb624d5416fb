/- Texts of the claim: LxS. -/
import Derived.Test.YtmpenkinheneoaaDoorKLxE
import Derived.Test.YtmpenkinheneoaaDoorKQx25
import Derived.Test.YtmpenkinheneoaaDoorKQx22
import Derived.Test.YtmpenkinheneoaaDoorKLxG
import Derived.Test.YtmpenkinheneoaaDoorKQx20
namespace Go.Proofs.YtmpenkinheneoaaDoor.Plain
set_option linter.unusedVariables false
open Go Go.RowKit Go.Proofs.YtmpenkinheneoaaDoor.HPure Go.Proofs.YtmpenkinheneoaaDoor.Q Go.Proofs.YtmpenkinheneoaaDoor.Lx Go.Proofs.YtmpenkinheneoaaDoorW.PrintWords Go.Proofs.YtmpenkinheneoaaDoorW.PrintLast Go.Proofs.YtmpenkinheneoaaDoorW.PrintMore
theorem get_mid {α : Type} (d : α) (a : List α) (x : α) (b : List α) : (a ++ x :: b).getD ((a.length : Int)).toNat d = x := by
  rw [Int.toNat_natCast, List.getD_eq_getElem?_getD, List.getElem?_append_right (Nat.le_refl _), Nat.sub_self]; rfl
def g34 (t : S34) : S41 := ⟨t.f0, t.f1, t.f2⟩
theorem given_l0 : ∀ (rest pre : List S34) (acc : List S41) (k : Nat), rest.length < k → pre.length + rest.length ≤ 2000000000 → acc.length + rest.length ≤ 2000000000 →
    chisellaw14_given.l0 k (pre ++ rest) acc (pre.length : Int) = some (acc ++ rest.map g34) := by
  intro rest
  induction rest with
  | nil =>
    intro pre acc k hk h1 h2
    obtain ⟨k, rfl⟩ : ∃ m, k = m + 1 := ⟨k - 1, by omega⟩
    simp only [chisellaw14_given.l0]
    rw [if_neg (by simp)]; simp
  | cons x rest ih =>
    intro pre acc k hk h1 h2
    obtain ⟨k, rfl⟩ : ∃ m, k = m + 1 := ⟨k - 1, by omega⟩
    simp only [List.length_cons] at hk h1 h2
    have e : rd_T34 (pre ++ x :: rest) (pre.length : Int) = x := get_mid z34 pre x rest
    simp only [chisellaw14_given.l0]
    rw [e, if_pos (by simp; omega), if_pos (by omega), if_pos (by omega), w64 (by omega) (by omega)]
    have := ih (pre ++ [x]) (acc ++ [g34 x]) k (by omega) (by simp; omega) (by simp; omega)
    rw [List.append_assoc, List.singleton_append, List.length_append, List.length_singleton, List.append_assoc, List.singleton_append] at this
    rw [List.map_cons]
    exact_mod_cast this
theorem given_f (T : List S34) (k : Nat) (hk : T.length < k) (h : T.length ≤ 2000000000) : chisellaw14_given.f k T = some (T.map g34) := by
  unfold chisellaw14_given.f
  have := given_l0 T [] [] k hk (by simpa using h) (by simpa using h)
  simpa using this
def key (t : S41) : Int × ByteArray := (t.f0, t.f1)
theorem same_l0 : ∀ (a b pa pb : List S41) (k : Nat), a.map key = b.map key → pa.length = pb.length → a.length < k → pa.length + a.length ≤ 2000000000 →
    chiselref14_Same.l0 k (pa ++ a) (pb ++ b) (pa.length : Int) = some true := by
  intro a
  induction a with
  | nil =>
    intro b pa pb k h hp hk h1
    obtain ⟨k, rfl⟩ : ∃ m, k = m + 1 := ⟨k - 1, by omega⟩
    simp only [chiselref14_Same.l0]
    rw [if_neg (by simp)]
  | cons x a ih =>
    intro b pa pb k h hp hk h1
    obtain ⟨k, rfl⟩ : ∃ m, k = m + 1 := ⟨k - 1, by omega⟩
    cases b with
    | nil => cases h
    | cons y b =>
      simp only [List.length_cons] at hk h1
      simp only [List.map_cons, List.cons.injEq, key, Prod.mk.injEq] at h
      obtain ⟨⟨hx, hy⟩, hr⟩ := h
      have e1 : rd_T41 (pa ++ x :: a) (pa.length : Int) = x := get_mid z41 pa x a
      have e2 : rd_T41 (pb ++ y :: b) (pa.length : Int) = y := by rw [hp]; exact get_mid z41 pb y b
      simp only [chiselref14_Same.l0]
      rw [e1, e2, if_pos (by simp; omega), if_pos (by omega), if_pos (by simp; omega), if_pos hx, if_pos (by rw [hy]), w64 (by omega) (by omega)]
      have := ih b (pa ++ [x]) (pb ++ [y]) k hr (by simp [hp]) (by omega) (by simp; omega)
      rw [List.append_assoc, List.singleton_append, List.length_append, List.length_singleton, List.append_assoc, List.singleton_append] at this
      exact_mod_cast this
theorem same_f (a b : List S41) (k : Nat) (h : a.map key = b.map key) (hk : a.length < k) (h1 : a.length ≤ 2000000000) : chiselref14_Same.f k a b = some true := by
  unfold chiselref14_Same.f
  have hl : a.length = b.length := by have := congrArg List.length h; simpa using this
  rw [if_pos (by omega)]
  exact same_l0 a b [] [] k h rfl hk (by simpa using h1)
theorem equal_l0 : ∀ (a pa : List S41) (k : Nat), a.length < k → pa.length + a.length ≤ 2000000000 →
    chisellaw14_equal.l0 k (pa ++ a) (pa ++ a) (pa.length : Int) = some true := by
  intro a
  induction a with
  | nil =>
    intro pa k hk h1
    obtain ⟨k, rfl⟩ : ∃ m, k = m + 1 := ⟨k - 1, by omega⟩
    simp only [chisellaw14_equal.l0]
    rw [if_neg (by simp)]
  | cons x a ih =>
    intro pa k hk h1
    obtain ⟨k, rfl⟩ : ∃ m, k = m + 1 := ⟨k - 1, by omega⟩
    simp only [List.length_cons] at hk h1
    simp only [chisellaw14_equal.l0]
    rw [if_pos (by simp; omega), if_pos (by omega), if_pos (by simp; omega), if_pos True.intro, w64 (by omega) (by omega)]
    have := ih (pa ++ [x]) k (by omega) (by simp; omega)
    rw [List.append_assoc, List.singleton_append, List.length_append, List.length_singleton] at this
    exact_mod_cast this
theorem equal_f (a : List S41) (k : Nat) (hk : a.length < k) (h1 : a.length ≤ 2000000000) : chisellaw14_equal.f k a a = some true := by
  unfold chisellaw14_equal.f
  rw [same_f a a k rfl hk h1, Option.bind_some, if_pos rfl]
  exact equal_l0 a [] k hk (by simpa using h1)
theorem works_one : ansP (⟨#[36, 97, 47, 98, 91, 49, 46, 53, 32, 60, 61, 32, 50, 101, 51, 93]⟩ : ByteArray) = ([(⟨3, (⟨#[36]⟩ : ByteArray), 0⟩ : S34), (⟨0, (⟨#[97]⟩ : ByteArray), 1⟩ : S34), (⟨3, (⟨#[47]⟩ : ByteArray), 2⟩ : S34), (⟨0, (⟨#[98]⟩ : ByteArray), 3⟩ : S34), (⟨3, (⟨#[91]⟩ : ByteArray), 4⟩ : S34), (⟨1, (⟨#[49, 46, 53]⟩ : ByteArray), 5⟩ : S34), (⟨3, (⟨#[60, 61]⟩ : ByteArray), 9⟩ : S34), (⟨1, (⟨#[50, 101, 51]⟩ : ByteArray), 12⟩ : S34), (⟨3, (⟨#[93]⟩ : ByteArray), 15⟩ : S34)], 0, 0) := by kernel_rfl
theorem works_two : ansP (⟨#[97, 32, 38, 32, 98]⟩ : ByteArray) = ([], 2, 5) := by kernel_rfl
theorem works_f (k : Nat) (hk : 20 ≤ k) : chisellaw14_works.f k = some true := by
  unfold chisellaw14_works.f
  rw [tokens_f _ (by decide), Option.bind_some, tokens_f _ (by decide), Option.bind_some, works_one, works_two]
  simp only
  rw [if_pos trivial, if_pos trivial, given_f _ k (by simp; omega) (by simp), Option.bind_some]
  have := equal_f ([(⟨3, (⟨#[36]⟩ : ByteArray), 0⟩ : S41), (⟨0, (⟨#[97]⟩ : ByteArray), 1⟩ : S41), (⟨3, (⟨#[47]⟩ : ByteArray), 2⟩ : S41), (⟨0, (⟨#[98]⟩ : ByteArray), 3⟩ : S41), (⟨3, (⟨#[91]⟩ : ByteArray), 4⟩ : S41), (⟨1, (⟨#[49, 46, 53]⟩ : ByteArray), 5⟩ : S41), (⟨3, (⟨#[60, 61]⟩ : ByteArray), 9⟩ : S41), (⟨1, (⟨#[50, 101, 51]⟩ : ByteArray), 12⟩ : S41), (⟨3, (⟨#[93]⟩ : ByteArray), 15⟩ : S41)] : List S41) k (by simp; omega) (by simp)
  simp only [List.map_cons, List.map_nil, g34]
  rw [this, Option.bind_some, if_pos rfl, if_pos trivial]; rfl
end Go.Proofs.YtmpenkinheneoaaDoor.Plain
