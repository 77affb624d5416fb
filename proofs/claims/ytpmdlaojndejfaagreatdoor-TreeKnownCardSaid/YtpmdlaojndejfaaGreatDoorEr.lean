/- A free place that is filled changes nothing: reading, operations. -/
import Derived.Test.YtpmdlaojndejfaaGreatDoorEc
set_option linter.unusedVariables false
set_option linter.unusedSimpArgs false
namespace Go.Proofs.YtpmdlaojndejfaaGreatDoor.E
open Go

section
variable {P : Program} {E : Env} {H H' : Heap} {p : Nat} {b : Blk}

theorem set_other {id : Nat} (h : id ≠ p) : (H.set p b)[id]? = H[id]? := List.getElem?_set_ne (Ne.symm h)
theorem set_swap {id : Nat} {c : Blk} (h : id ≠ p) : (H.set p b).set id c = (H.set id c).set p b := List.set_comm _ _ (Ne.symm h)
theorem set_free {id : Nat} {c : Blk} (hp : H[p]? = some .free) (h : id ≠ p) : (H.set id c)[p]? = some .free := by
  rw [List.getElem?_set_ne h]; exact hp
/-- What is read is not the free place. -/
theorem ne_free {id : Nat} {c : Blk} (hp : H[p]? = some .free) (h : H[id]? = some c) (hf : c ≠ .free) : id ≠ p := by
  rintro rfl; rw [hp] at h; cases h; exact hf rfl
theorem get_fill {id : Nat} {c : Blk} (hp : H[p]? = some .free) (h : H[id]? = some c) (hf : c ≠ .free) : (H.set p b)[id]? = some c := by
  rw [set_other (ne_free hp h hf)]; exact h

theorem loadT_fill (hp : H[p]? = some .free) {t : TypeId} {a x : V} (h : loadT E H t a = some x) : loadT E (H.set p b) t a = some x := by
  unfold loadT at h ⊢
  split at h
  · split at h
    · rename_i hid
      simp only [get_fill hp hid (by simp)]; exact h
    · cases h
  · exact h
  · exact h
  · cases h

theorem rowsOf_fill (hp : H[p]? = some .free) {a : V} {x : List (List V)} (h : rowsOf H a = some x) : rowsOf (H.set p b) a = some x := by
  unfold rowsOf at h ⊢
  split at h
  · exact h
  · exact h
  · split at h
    · rename_i hid
      simp only [get_fill hp hid (by simp)]; exact h
    · cases h
  · cases h
theorem rowsOfX_fill (hp : H[p]? = some .free) {a : V} {x : List (List V)} (h : rowsOfX H a = some x) : rowsOfX (H.set p b) a = some x := by
  unfold rowsOfX at h ⊢
  split at h
  · exact h
  · exact rowsOf_fill hp h

theorem storeT_fill (hp : H[p]? = some .free) {t : TypeId} {a v : V} (h : storeT E H t a v = some H') : storeT E (H.set p b) t a v = some (H'.set p b) ∧ H'[p]? = some .free := by
  unfold storeT at h ⊢
  split at h
  · split at h
    case h_2 => cases h
    rename_i hid
    have hne := ne_free hp hid (by simp)
    simp only [get_fill hp hid (by simp)]
    split at h
    case isFalse => cases h
    rename_i hc
    rw [if_pos hc]
    simp only [Option.bind_eq_some_iff] at h ⊢
    obtain ⟨cs, hcs, h⟩ := h
    split at h
    case isFalse => cases h
    rename_i hl
    simp only [Option.some.injEq] at h; subst h
    exact ⟨⟨cs, hcs, by rw [if_pos hl, set_swap hne]⟩, set_free hp hne⟩
  · cases h

theorem indexA_fill (hp : H[p]? = some .free) {t : TypeId} {x i y : V} (h : indexA P H t x i = some y) : indexA P (H.set p b) t x i = some y := by
  unfold indexA at h ⊢
  simp only [Option.bind_eq_some_iff] at h ⊢
  obtain ⟨n, hn, h⟩ := h
  refine ⟨n, hn, ?_⟩
  split at h
  · cases h
  rename_i h0
  rw [if_neg h0]
  split at h
  · rename_i hu
    try simp only [hu]
    split at h
    case isFalse => cases h
    rename_i hl
    rw [if_pos hl]
    split at h
    · rename_i hid
      simp only [get_fill hp hid (by simp)]; exact h
    · cases h
  · rename_i hu; (try simp only [hu]); exact h
  · rename_i hu; (try simp only [hu]); exact h
  · rename_i hu; (try simp only [hu]); exact h
  · cases h

theorem sliceData_fill (hp : H[p]? = some .free) {id ver off len : Nat} {x : V} (h : sliceData H id ver off len = some x) : sliceData (H.set p b) id ver off len = some x := by
  unfold sliceData at h ⊢
  split at h
  · cases h
  rename_i hl
  rw [if_neg hl]
  split at h
  · rename_i hid
    simp only [get_fill hp hid (by simp)]; exact h
  · cases h
theorem strData_fill (hp : H[p]? = some .free) {ts : Array TypeId} {id ver : Nat} {n : Int} {v : V} (h : strData P H ts id ver n = some (v, H')) : strData P (H.set p b) ts id ver n = some (v, H'.set p b) ∧ H'[p]? = some .free := by
  unfold strData at h ⊢
  split at h
  case h_2 => cases h
  rename_i hid hts
  simp only [get_fill hp hid (by simp), hts]
  split at h
  case h_2 => cases h
  rename_i hu
  split at h
  case isFalse => cases h
  rename_i hc
  simp only [hu, if_pos hc]
  simp only [Option.map_eq_some_iff, Prod.mk.injEq] at h ⊢
  obtain ⟨l, hl, rfl, rfl⟩ := h
  exact ⟨⟨l, hl, rfl, by rw [set_swap (ne_free hp hid (by simp))]⟩, set_free hp (ne_free hp hid (by simp))⟩

theorem sliceV_fill (hp : H[p]? = some .free) {t : TypeId} {x y : V} {lo hi : Option V} (h : sliceV P H t x lo hi = some y) : sliceV P (H.set p b) t x lo hi = some y := by
  unfold sliceV at h ⊢
  split at h
  · rename_i hu
    simp only [hu, Option.bind_eq_some_iff] at h ⊢
    obtain ⟨l, hl, k, hk, h⟩ := h
    refine ⟨l, hl, k, hk, ?_⟩
    split at h
    · rename_i hid
      simp only [get_fill hp hid (by simp)]; exact h
    · cases h
  · rename_i hu; (try simp only [hu]); exact h
  · cases h

theorem lookupV_fill (hp : H[p]? = some .free) {t : TypeId} {m k y : V} {ok : Bool} (h : lookupV P H t m k ok = some y) : lookupV P (H.set p b) t m k ok = some y := by
  unfold lookupV at h ⊢
  split at h
  · rename_i hu
    simp only [hu, Option.bind_eq_some_iff] at h ⊢
    obtain ⟨d, hd, kv, hkv, h⟩ := h
    refine ⟨d, hd, kv, hkv, ?_⟩
    split at h
    · rename_i hid
      simp only [get_fill hp hid (by simp)]
      simpa only [Option.bind_eq_some_iff] using h
    · cases h
  · cases h

theorem mapPut_fill (hp : H[p]? = some .free) {t : TypeId} {m k v : V} (h : mapPut P H t m k v = some H') : mapPut P (H.set p b) t m k v = some (H'.set p b) ∧ H'[p]? = some .free := by
  unfold mapPut at h ⊢
  split at h
  · rename_i hu
    simp only [hu, Option.bind_eq_some_iff] at h ⊢
    obtain ⟨d, hd, kv, hkv, h⟩ := h
    split at h
    · rename_i hid
      have hne := ne_free hp hid (by simp)
      simp only [Option.bind_eq_some_iff] at h
      obtain ⟨r, hr, h⟩ := h
      cases r with
      | none =>
        simp only [Option.some.injEq] at h; subst h
        refine ⟨⟨d, hd, kv, hkv, ?_⟩, set_free hp hne⟩
        simp only [get_fill hp hid (by simp), Option.bind_eq_some_iff]
        exact ⟨none, hr, by simp only [set_swap hne]⟩
      | some jv =>
        simp only [Option.some.injEq] at h; subst h
        refine ⟨⟨d, hd, kv, hkv, ?_⟩, set_free hp hne⟩
        simp only [get_fill hp hid (by simp), Option.bind_eq_some_iff]
        exact ⟨some jv, hr, by simp only [set_swap hne]⟩
    · cases h
  · cases h

theorem place_fill (hp : H[p]? = some .free) {nid : Nat} (hn : nid ≠ p) {c : Blk} (h : place H nid c = some H') : place (H.set p b) nid c = some (H'.set p b) ∧ H'[p]? = some .free := by
  have hlt : p < H.length := (List.getElem?_eq_some_iff.1 hp).1
  unfold place at h ⊢
  simp only [List.length_set]
  split at h
  · rename_i e
    rw [if_pos e]
    simp only [Option.some.injEq] at h; subst h
    refine ⟨by rw [List.set_append_left _ _ hlt], by rw [List.getElem?_append_left hlt]; exact hp⟩
  · rename_i e
    rw [if_neg e, set_other hn]
    split at h
    · simp only [Option.some.injEq] at h; subst h
      exact ⟨by rw [set_swap hn], set_free hp hn⟩
    · cases h
theorem placeAll_fill : ∀ {K : Heap} {H H' : Heap} {nid : Nat}, H[p]? = some .free → (∀ i, i < K.length → nid + i ≠ p) → placeAll H nid K = some H' → placeAll (H.set p b) nid K = some (H'.set p b) ∧ H'[p]? = some .free
  | [], H, H', nid, hp, hn, h => by simp only [placeAll, Option.some.injEq] at h ⊢; subst h; exact ⟨rfl, hp⟩
  | c :: K, H, H', nid, hp, hn, h => by
    simp only [placeAll, Option.bind_eq_some_iff] at h ⊢
    obtain ⟨H1, h1, h2⟩ := h
    obtain ⟨q1, q2⟩ := place_fill (b := b) hp (by have := hn 0 (by simp); simpa using this) h1
    obtain ⟨r1, r2⟩ := placeAll_fill q2 (fun i hi => by have := hn (i + 1) (by simp; omega); omega) h2
    exact ⟨⟨_, q1, r1⟩, r2⟩

theorem appendV_fill (hp : H[p]? = some .free) {nid : Nat} (hn : nid ≠ p) {ts : Array TypeId} {s x v : V} (h : appendV P nid H ts s x = some (v, H')) :
    appendV P nid (H.set p b) ts s x = some (v, H'.set p b) ∧ H'[p]? = some .free := by
  unfold appendV at h ⊢
  simp only [Option.bind_eq_some_iff] at h ⊢
  obtain ⟨e, he, z, hz, nr, hnr, h⟩ := h
  split at h
  case isFalse => cases h
  rename_i hc
  have fin : ∀ y, y = some (v, H'.set p b) → (∃ a, appendArgs P ts = some a ∧ ∃ a_1, zeroT P a = some a_1 ∧ ∃ a_2, rowsOfX (H.set p b) x = some a_2 ∧ True) := fun y _ => ⟨e, he, z, hz, nr, rowsOfX_fill hp hnr, trivial⟩
  split at h
  · split at h
    · rename_i h0
      simp only [Option.some.injEq, Prod.mk.injEq] at h
      obtain ⟨rfl, rfl⟩ := h
      exact ⟨⟨e, he, z, hz, nr, rowsOfX_fill hp hnr, by rw [if_pos hc]; simp only [h0, if_true]⟩, hp⟩
    · rename_i h0
      simp only [Option.map_eq_some_iff, Prod.mk.injEq] at h
      obtain ⟨H1, h1, rfl, rfl⟩ := h
      obtain ⟨q1, q2⟩ := place_fill (b := b) hp hn h1
      exact ⟨⟨e, he, z, hz, nr, rowsOfX_fill hp hnr, by rw [if_pos hc]; simp only [if_neg h0, q1, Option.map_some]⟩, q2⟩
  · split at h
    case h_2 => cases h
    rename_i hid
    have hne := ne_free hp hid (by simp)
    split at h
    case isFalse => cases h
    rename_i hd
    split at h
    · rename_i h0
      simp only [Option.some.injEq, Prod.mk.injEq] at h
      obtain ⟨rfl, rfl⟩ := h
      exact ⟨⟨e, he, z, hz, nr, rowsOfX_fill hp hnr, by rw [if_pos hc]; simp only [get_fill hp hid (by simp), if_pos hd, if_pos h0]⟩, hp⟩
    · rename_i h0
      split at h
      · rename_i hl
        simp only [Option.some.injEq, Prod.mk.injEq] at h
        obtain ⟨rfl, rfl⟩ := h
        exact ⟨⟨e, he, z, hz, nr, rowsOfX_fill hp hnr, by rw [if_pos hc]; simp only [get_fill hp hid (by simp), if_pos hd, if_neg h0, if_pos hl, set_swap hne]⟩, set_free hp hne⟩
      · rename_i hl
        split at h
        case isFalse => cases h
        rename_i hv
        simp only [Option.some.injEq, Prod.mk.injEq] at h
        obtain ⟨rfl, rfl⟩ := h
        exact ⟨⟨e, he, z, hz, nr, rowsOfX_fill hp hnr, by rw [if_pos hc]; simp only [get_fill hp hid (by simp), if_pos hd, if_neg h0, if_neg hl, if_pos hv, set_swap hne]⟩, set_free hp hne⟩
  · cases h
end
end Go.Proofs.YtpmdlaojndejfaaGreatDoor.E
