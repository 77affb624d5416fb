/- Texts of the claim: PureLexBlanks. -/
import Derived.Test.YtmpenkinheneoaaDoorBQx33
import Derived.Test.YtmpenkinheneoaaDoorBLxT
namespace Go.Proofs.YtmpenkinheneoaaDoor.Pure
set_option linter.unusedVariables false
open Go Go.RowKit Go.Proofs.YtmpenkinheneoaaDoor.Plain Go.Proofs.YtmpenkinheneoaaDoor.Lx Go.Proofs.YtmpenkinheneoaaDoor.HPure Go.Proofs.YtmpenkinheneoaaDoor.Q Go.Proofs.YtmpenkinheneoaaDoorW.PrintWords Go.Proofs.YtmpenkinheneoaaDoorW.PrintLast
theorem blanks_l0 (A M N : List S34) (x : ByteArray) (kk : Nat) (hx : x.size ≤ 1000) (hM : M.length = A.length) (hN : N.length = A.length) (hA : A.length ≤ 1000000)
    (hn : ∀ i, i < A.length → (N.getD i z34).f2 = (A.getD i z34).f2 + x.size)
    (hm1 : ∀ i, i < kk → i < A.length → (M.getD i z34).f2 = (A.getD i z34).f2)
    (hm2 : ∀ i, kk ≤ i → i < A.length → (M.getD i z34).f2 = (A.getD i z34).f2 + x.size)
    (hb : ∀ i, i < A.length → 0 ≤ (A.getD i z34).f2 ∧ (A.getD i z34).f2 ≤ 1000000) :
    ∀ (d i k : Nat), i + d = A.length → d + 30 < k → chisellaw14_LexBlanks.l0 k A x (kk : Int) M N (i : Int) = some true := by
  intro d
  induction d with
  | zero =>
    intro i k hi hk
    obtain ⟨k, rfl⟩ : ∃ m, k = m + 1 := ⟨k - 1, by omega⟩
    simp only [chisellaw14_LexBlanks.l0]
    rw [if_neg (by omega), works_f k (by omega)]; rfl
  | succ d ih =>
    intro i k hi hk
    obtain ⟨k, rfl⟩ : ∃ m, k = m + 1 := ⟨k - 1, by omega⟩
    have eA : rd_T34 A (i : Int) = A.getD i z34 := rfl
    have eM : rd_T34 M (i : Int) = M.getD i z34 := rfl
    have eN : rd_T34 N (i : Int) = N.getD i z34 := rfl
    have h1 := hn i (by omega)
    have h2 := hb i (by omega)
    have h3 := ih (i + 1) k (by omega) (by omega)
    have h4 : (((i + 1 : Nat)) : Int) = (i : Int) + 1 := by omega
    rw [h4] at h3
    simp only [chisellaw14_LexBlanks.l0]
    rw [eA, eM, eN, h1, if_pos (by omega), if_pos (by omega), if_pos (by omega), w64 (by omega) (by omega), if_pos rfl, w64 (by omega) (by omega)]
    by_cases hk2 : i < kk
    · have h5 := hm1 i hk2 (by omega)
      rw [h5, if_pos (by omega), if_pos (by omega), if_pos rfl, if_neg (by omega)]
      exact h3
    · have h5 := hm2 i (by omega) (by omega)
      rw [h5, if_neg (by omega), if_pos (by omega), if_pos (by omega), if_pos rfl]
      exact h3
theorem ans_ok (l : List Int) (hl : l.all isChar = true) (hz : (encode l).size ≤ 1000000) (T : List Tk) (h : lx l = .ok T) : ansP (encode l) = (T.map (fun t => tkP (encode l) t.1 t.2.1 t.2.2), 0, 0) := by
  obtain ⟨t1, t2⟩ := text_of_chars l hl
  rcases ans_ways (encode l) hz with ⟨y, _⟩ | ⟨_, u, er, y, _⟩ | ⟨_, U, y, e⟩
  · rw [t1] at y; cases y
  · rw [t2, h] at y; cases y
  · rw [t2, h] at y
    obtain rfl := Except.ok.inj y
    exact e
theorem at_map {T : List Tk} {f : Tk → S34} {i : Nat} {t : Tk} (h : T[i]? = some t) : (T.map f).getD i z34 = f t := by
  rw [List.getD_eq_getElem?_getD, List.getElem?_map, h]; rfl
def Gap (x : ByteArray) : Prop := ∃ X : List Int, x = encode X ∧ X.all isChar = true ∧ lx X = .ok [] ∧ (∃ c t, X = c :: t ∧ sepc c = true) ∧ x.size ≤ 20
theorem gaps : ∀ x ∈ ([(⟨#[32]⟩ : ByteArray), (⟨#[9, 13, 10]⟩ : ByteArray), (⟨#[40, 58, 58, 41]⟩ : ByteArray), (⟨#[40, 58, 32, 40, 58, 32, 39, 120, 32, 58, 41, 32, 34, 32, 58, 41]⟩ : ByteArray), (⟨#[32, 40, 58, 40, 58, 58, 41, 58, 41, 40, 58, 32, 58, 58, 41, 32]⟩ : ByteArray), (⟨#[40, 58, 195, 169, 58, 41]⟩ : ByteArray)] : List ByteArray), Gap x := by
  refine List.forall_mem_cons.2 ⟨⟨[32], by kernel_rfl, by decide, by kernel_rfl, ⟨_, _, rfl, rfl⟩, by decide⟩, ?_⟩
  refine List.forall_mem_cons.2 ⟨⟨[9, 13, 10], by kernel_rfl, by decide, by kernel_rfl, ⟨_, _, rfl, rfl⟩, by decide⟩, ?_⟩
  refine List.forall_mem_cons.2 ⟨⟨[40, 58, 58, 41], by kernel_rfl, by decide, by kernel_rfl, ⟨_, _, rfl, rfl⟩, by decide⟩, ?_⟩
  refine List.forall_mem_cons.2 ⟨⟨[40, 58, 32, 40, 58, 32, 39, 120, 32, 58, 41, 32, 34, 32, 58, 41], by kernel_rfl, by decide, by kernel_rfl, ⟨_, _, rfl, rfl⟩, by decide⟩, ?_⟩
  refine List.forall_mem_cons.2 ⟨⟨[32, 40, 58, 40, 58, 58, 41, 58, 41, 40, 58, 32, 58, 58, 41, 32], by kernel_rfl, by decide, by kernel_rfl, ⟨_, _, rfl, rfl⟩, by decide⟩, ?_⟩
  refine List.forall_mem_cons.2 ⟨⟨[40, 58, 233, 58, 41], by kernel_rfl, by decide, by kernel_rfl, ⟨_, _, rfl, rfl⟩, by decide⟩, ?_⟩
  exact fun x h => absurd h (by simp)
theorem blanks_j1 {s x : ByteArray} (hs : s.size ≤ 2000) (ht : isText s = true) (hx : Gap x) {T T' : List Tk} (hl : lx (points s) = .ok T) {p u : List Int} (hp : points s = p ++ u) {kk : Nat} (hkk : kk ≤ T.length) (hpT : lx p = .ok T') (htk : T.take kk = sh u T') (huT : lx u = .ok (T.drop kk)) (k : Nat) (hk : 10000 < k) :
    chisellaw14_LexBlanks.j1 k s (T.map fun t => tkP s t.1 t.2.1 t.2.2) x (kk : Int) (P s u) false = some true := by
  obtain ⟨k, rfl⟩ : ∃ m, k = m + 1 + 1 := ⟨k - 2, by omega⟩
  obtain ⟨X, rfl, hX, hXl, ⟨c, X', hXe, hc⟩, hXz⟩ := hx
  obtain ⟨hA, hP0⟩ := At.full ht
  obtain ⟨hch, henc⟩ := chars_of_text s ht
  have hlen := (lx_parts T.length (points s) T (Nat.le_refl _) hl).2.2
  have hple := points_le s
  have hT'len : T'.length = kk := by
    have := congrArg List.length htk
    unfold sh at this
    rw [List.length_take, List.length_map] at this; omega
  rw [hp] at hA hP0
  have hu := hA.tail
  have h0 := hu.nonneg
  have h1 := hu.le
  have e1 : s.extract 0 (P s u).toNat = encode p := by have := ext_at hA; rw [hP0] at this; exact this
  have e2 : s.extract (P s u).toNat s.size = encode u := by rw [encode_flat]; exact hu.1.ext_end
  have hpu : (p ++ u).all isChar = true := by rw [← hp]; exact hch
  obtain ⟨hpc, huc⟩ : p.all isChar = true ∧ u.all isChar = true := by rw [List.all_append, Bool.and_eq_true] at hpu; exact hpu
  have zX : (encode X).size = (flat X).length := by rw [encode_flat, mk_size]
  have zp : (encode p).size = (flat p).length := by rw [encode_flat, mk_size]
  have zu : (encode u).size = (flat u).length := by rw [encode_flat, mk_size]
  have zs : s.size = (flat p).length + (flat u).length := by
    have : (encode (points s)).size = (flat (p ++ u)).length := by rw [hp, encode_flat, mk_size]
    rw [henc, flat_append, List.length_append] at this; exact this
  have cat : ∀ a b : List Int, encode a ++ encode b = encode (a ++ b) := fun a b => by
    rw [encode_flat b, app_mk, encode_flat, encode_flat, flat_append]; rfl
  have s1 : encode p ++ encode X ++ encode u = encode (p ++ (X ++ u)) := by rw [cat, cat, List.append_assoc]
  have s2 : encode X ++ s ++ encode X = encode (X ++ ((p ++ u) ++ X)) := by
    have : encode X ++ s = encode (X ++ (p ++ u)) := by rw [← cat X (p ++ u), ← hp, henc]
    rw [this, cat, List.append_assoc]
  have z1 : (encode (p ++ (X ++ u))).size = s.size + (flat X).length := by rw [encode_flat, mk_size, flat_append, flat_append, List.length_append, List.length_append]; omega
  have z2 : (encode (X ++ ((p ++ u) ++ X))).size = s.size + 2 * (flat X).length := by
    rw [encode_flat, mk_size, flat_append, flat_append, flat_append, List.length_append, List.length_append, List.length_append]; omega
  have hsep : ∀ w, Sep (X ++ w) := fun w => .inr ⟨c, X' ++ w, by rw [hXe]; rfl, hc⟩
  have l1 : lx (p ++ (X ++ u)) = .ok (sh (X ++ u) T' ++ T.drop kk) := by
    rw [lx_append p.length p T' (X ++ u) (Nat.le_refl _) hpT (hsep u), gap_append X.length X u (Nat.le_refl _) hXl, huT]; rfl
  have l2 : lx (X ++ ((p ++ u) ++ X)) = .ok (sh X T) := by
    have hs0 : Sep X := by have := hsep []; rwa [List.append_nil] at this
    rw [gap_append X.length X _ (Nat.le_refl _) hXl, lx_append (p ++ u).length (p ++ u) T X (Nat.le_refl _) (by rw [← hp]; exact hl) hs0, hXl]
    show Except.ok (sh X T ++ []) = _
    rw [List.append_nil]
  have c1 : (p ++ (X ++ u)).all isChar = true := by rw [List.all_append, List.all_append, hpc, hX, huc]; rfl
  have c2 : (X ++ ((p ++ u) ++ X)).all isChar = true := by rw [List.all_append, List.all_append, hpu, hX]; rfl
  have a1 := ans_ok _ c1 (by omega) _ l1
  have a2 := ans_ok _ c2 (by omega) _ l2
  have hTsplit : T = sh u T' ++ T.drop kk := by rw [← htk, List.take_append_drop]
  have len1 : (sh (X ++ u) T' ++ T.drop kk).length = T.length := by unfold sh; rw [List.length_append, List.length_map, List.length_drop]; omega
  have len2 : (sh X T).length = T.length := by unfold sh; rw [List.length_map]
  have k1 : ((T.map fun t => tkP s t.1 t.2.1 t.2.2).map g34).map key = (((sh (X ++ u) T' ++ T.drop kk).map fun t => tkP (encode (p ++ (X ++ u))) t.1 t.2.1 t.2.2).map g34).map key := by
    conv => lhs; rw [hTsplit]
    unfold sh
    simp only [List.map_append, List.map_map]; rfl
  have k2 : ((T.map fun t => tkP s t.1 t.2.1 t.2.2).map g34).map key = (((sh X T).map fun t => tkP (encode (X ++ ((p ++ u) ++ X))) t.1 t.2.1 t.2.2).map g34).map key := by
    unfold sh
    simp only [List.map_map]; rfl
  simp only [chisellaw14_LexBlanks.j1]
  rw [if_neg (by simp), if_pos h0, if_pos h1, e1, e2, if_pos (by omega), if_pos (by rw [ByteArray.size_append]; omega), s1, tokens_f _ (by omega), Option.bind_some, if_pos (by omega), if_pos (by rw [ByteArray.size_append]; omega), s2, tokens_f _ (by omega), Option.bind_some, a1, a2]
  simp only
  rw [if_pos trivial, if_pos trivial, given_f _ _ (by rw [List.length_map]; omega) (by rw [List.length_map]; omega), Option.bind_some, given_f _ _ (by rw [List.length_map]; omega) (by rw [List.length_map]; omega), Option.bind_some, same_f _ _ _ k1 (by rw [List.length_map, List.length_map]; omega) (by rw [List.length_map, List.length_map]; omega), Option.bind_some, if_pos rfl, Option.bind_some, given_f _ _ (by rw [List.length_map]; omega) (by rw [List.length_map]; omega), Option.bind_some, same_f _ _ _ k2 (by rw [List.length_map, List.length_map]; omega) (by rw [List.length_map, List.length_map]; omega), Option.bind_some]
  simp only [chisellaw14_LexBlanks.j2]
  rw [if_neg (by simp)]
  have hTz : ∀ (i : Nat) (t : Tk), T[i]? = some t → ∃ v, points s = v ++ t.2.2 := fun i t hi => by
    obtain ⟨v, _, e, _⟩ := lx_cut (points s).length (points s) T i t (Nat.le_refl _) hl hi
    exact ⟨v, e⟩
  have get : ∀ i, i < (T.map fun t => tkP s t.1 t.2.1 t.2.2).length → ∃ t, T[i]? = some t := fun i hi => by
    rw [List.length_map] at hi
    exact ⟨T[i], List.getElem?_eq_getElem hi⟩
  refine blanks_l0 _ _ _ (encode X) kk (by omega) (by rw [List.length_map, List.length_map, len1]) (by rw [List.length_map, List.length_map, len2]) (by rw [List.length_map]; omega) ?_ ?_ ?_ ?_ T.length 0 k (by rw [List.length_map]; omega) (by omega)
  · intro i hi
    obtain ⟨t, ht⟩ := get i hi
    have ht2 : (sh X T)[i]? = some (t.1, t.2.1, t.2.2 ++ X) := by unfold sh; rw [List.getElem?_map, ht]; rfl
    rw [at_map ht, at_map ht2]
    show P _ (t.2.2 ++ X) = P s t.2.2 + _
    unfold P q
    rw [z2, zX, flat_append, List.length_append]; omega
  · intro i hik hi
    obtain ⟨t, ht⟩ := get i hi
    obtain ⟨t', ht'⟩ : ∃ t', T'[i]? = some t' := ⟨T'[i]'(by omega), List.getElem?_eq_getElem (by omega)⟩
    have e : t = (t'.1, t'.2.1, t'.2.2 ++ u) := by
      have h1 : (T.take kk)[i]? = some t := by rw [List.getElem?_take_of_lt hik]; exact ht
      rw [htk] at h1
      unfold sh at h1
      rw [List.getElem?_map, ht'] at h1
      exact (Option.some.inj h1).symm
    have ht2 : (sh (X ++ u) T' ++ T.drop kk)[i]? = some (t'.1, t'.2.1, t'.2.2 ++ (X ++ u)) := by
      rw [List.getElem?_append_left (by unfold sh; rw [List.length_map]; omega)]
      unfold sh; rw [List.getElem?_map, ht']; rfl
    rw [at_map ht, at_map ht2, e]
    show P _ (t'.2.2 ++ (X ++ u)) = P s (t'.2.2 ++ u)
    unfold P q
    rw [z1, flat_append, flat_append, flat_append, List.length_append, List.length_append, List.length_append]; omega
  · intro i hik hi
    obtain ⟨t, ht⟩ := get i hi
    have ht2 : (sh (X ++ u) T' ++ T.drop kk)[i]? = some t := by
      have hz : (sh (X ++ u) T').length = kk := by unfold sh; rw [List.length_map]; exact hT'len
      rw [List.getElem?_append_right (by omega), hz, List.getElem?_drop, show kk + (i - kk) = i from by omega]
      exact ht
    rw [at_map ht, at_map ht2]
    show P _ t.2.2 = P s t.2.2 + _
    unfold P q
    rw [z1, zX]; omega
  · intro i hi
    obtain ⟨t, ht⟩ := get i hi
    obtain ⟨v, hv⟩ := hTz i t ht
    have hAv : At s (v ++ t.2.2) := by rw [← hv, hp]; exact hA
    have g0 := hAv.tail.nonneg
    have g1 := hAv.tail.le
    rw [at_map ht]
    show 0 ≤ P s t.2.2 ∧ P s t.2.2 ≤ 1000000
    omega
theorem LexBlanks : chisellaw14_LexBlanks.Pure := by
  intro s a1 a2 hs h1 h2
  refine ⟨20002, ?_⟩
  obtain ⟨g1, g1'⟩ : 0 ≤ a1 ∧ a1 ≤ 65535 := by
    have e0 : (IntKind.u16).min = 0 := rfl
    have e1 : (IntKind.u16).max = 65535 := rfl
    simp only [Lit.wf, e0, e1, Bool.and_eq_true, decide_eq_true_eq] at h1; exact h1
  obtain ⟨g2, g2'⟩ : 0 ≤ a2 ∧ a2 ≤ 255 := by
    have e0 : (IntKind.u8).min = 0 := rfl
    have e1 : (IntKind.u8).max = 255 := rfl
    simp only [Lit.wf, e0, e1, Bool.and_eq_true, decide_eq_true_eq] at h2; exact h2
  obtain ⟨n1, rfl⟩ : ∃ n : Nat, a1 = (n : Int) := ⟨a1.toNat, by omega⟩
  obtain ⟨n2, rfl⟩ : ∃ n : Nat, a2 = (n : Int) := ⟨a2.toNat, by omega⟩
  unfold chisellaw14_LexBlanks.f
  by_cases hz : (s.size : Int) > 2000
  · rw [if_pos hz, works_f 20002 (by omega)]; rfl
  · rw [if_neg hz, tokens_f s (by omega), Option.bind_some]
    by_cases h0 : (ansP s).2.2 = 0
    · rw [if_pos h0, Option.bind_some, w64 (x := (n2 : Int)) (by omega) (by omega), w64 (x := (n1 : Int)) (by omega) (by omega)]
      have hal := ans_len s
      rw [w64 (by omega) (by omega)]
      have t2 : Int.tmod (n2 : Int) 6 = ((n2 % 6 : Nat) : Int) := rfl
      have t1 : Int.tmod (n1 : Int) (((ansP s).1.length : Int) + 1) = ((n1 % ((ansP s).1.length + 1) : Nat) : Int) := rfl
      have m2 : n2 % 6 < 6 := Nat.mod_lt _ (by omega)
      have m1 : n1 % ((ansP s).1.length + 1) < (ansP s).1.length + 1 := Nat.mod_lt _ (by omega)
      rw [t1, t2]
      generalize n2 % 6 = i2 at m2
      generalize n1 % ((ansP s).1.length + 1) = kk at m1
      rw [if_pos (by omega), if_pos (by show ((i2 : Nat) : Int) < ((6 : Nat) : Int); omega), if_neg (by omega)]
      have hgap : Gap (rdOf ByteArray.empty ([(⟨#[32]⟩ : ByteArray), (⟨#[9, 13, 10]⟩ : ByteArray), (⟨#[40, 58, 58, 41]⟩ : ByteArray), (⟨#[40, 58, 32, 40, 58, 32, 39, 120, 32, 58, 41, 32, 34, 32, 58, 41]⟩ : ByteArray), (⟨#[32, 40, 58, 40, 58, 58, 41, 58, 41, 40, 58, 32, 58, 58, 41, 32]⟩ : ByteArray), (⟨#[40, 58, 195, 169, 58, 41]⟩ : ByteArray)] : List ByteArray) ((i2 : Nat) : Int)) := by
        refine gaps _ ?_
        show List.getD _ i2 _ ∈ _
        rw [List.getD_eq_getElem?_getD, List.getElem?_eq_getElem (by simpa using m2)]
        exact List.getElem_mem _
      generalize rdOf ByteArray.empty ([(⟨#[32]⟩ : ByteArray), (⟨#[9, 13, 10]⟩ : ByteArray), (⟨#[40, 58, 58, 41]⟩ : ByteArray), (⟨#[40, 58, 32, 40, 58, 32, 39, 120, 32, 58, 41, 32, 34, 32, 58, 41]⟩ : ByteArray), (⟨#[32, 40, 58, 40, 58, 58, 41, 58, 41, 40, 58, 32, 58, 58, 41, 32]⟩ : ByteArray), (⟨#[40, 58, 195, 169, 58, 41]⟩ : ByteArray)] : List ByteArray) ((i2 : Nat) : Int) = x at hgap
      have hkz : (20002 : Nat) = 20001 + 1 := rfl
      rw [hkz]
      generalize hkk : (20001 : Nat) = k
      rcases ans_ways s (by omega) with ⟨_, e⟩ | ⟨_, u, er, hl, e⟩ | ⟨ht, T, hl, e⟩
      · rw [e] at h0; cases h0
      · rw [e] at h0
        have := lx_errno _ _ u er (Nat.le_refl _) hl
        simp only at h0; omega
      · obtain ⟨hA, hP0⟩ := At.full ht
        rw [e] at m1 ⊢
        simp only [List.length_map] at m1 ⊢
        have hj : ∀ u : List Int, At s u → chisellaw14_LexBlanks.j1 k s (T.map fun t => tkP s t.1 t.2.1 t.2.2) x (kk : Int) (P s u) false = some true → chisellaw14_LexBlanks.j0 (k + 1) s (T.map fun t => tkP s t.1 t.2.1 t.2.2) x (kk : Int) (P s u) = some true := fun u hu h => by
          have := hu.nonneg
          have := hu.le
          simp only [chisellaw14_LexBlanks.j0]
          rw [if_neg (by omega), decide_eq_false (by omega)]
          exact h
        by_cases hlt : kk < T.length
        · rw [if_pos (by omega), if_pos (by omega)]
          obtain ⟨t, hti⟩ : ∃ t, T[kk]? = some t := ⟨T[kk], List.getElem?_eq_getElem hlt⟩
          obtain ⟨p, T', e1, _, e2, e3, e4⟩ := lx_cut (points s).length (points s) T kk t (Nat.le_refl _) hl hti
          have hrd : (rd_T34 (T.map fun t => tkP s t.1 t.2.1 t.2.2) (kk : Int)).f2 = P s t.2.2 := by
            have := at_map (f := fun t => tkP s t.1 t.2.1 t.2.2) hti
            show (List.getD (T.map fun t => tkP s t.1 t.2.1 t.2.2) kk z34).f2 = _
            rw [this]; rfl
          rw [hrd]
          have hu : At s t.2.2 := by rw [e1] at hA; exact hA.tail
          exact hj _ hu (blanks_j1 (by omega) ht hgap hl e1 (by omega) e2 e3 e4 k (by omega))
        · have hkT : kk = T.length := by omega
          rw [if_neg (by omega), ← P_nil s]
          have hu : At s [] := by have : At s (points s ++ []) := by rw [List.append_nil]; exact hA
                                  exact this.tail
          have hsh : sh [] T = T := by
            unfold sh
            conv => rhs; rw [← List.map_id T]
            refine List.map_congr_left fun t _ => ?_
            obtain ⟨a, b, c⟩ := t
            simp
          exact hj _ hu (blanks_j1 (T' := T) (u := []) (by omega) ht hgap hl (List.append_nil _).symm (by omega) hl (by rw [hsh, hkT, List.take_length]) (by rw [hkT, List.drop_length]; rfl) k (by omega))
    · rw [if_neg h0, works_f 20002 (by omega)]; rfl
end Go.Proofs.YtmpenkinheneoaaDoor.Pure
