/- Texts of the claim: LxS. -/
import Derived.Test.YtmpenkinheneoaaDoorLLxR
import Derived.Test.YtmpenkinheneoaaDoorLQx26
import Derived.Test.YtmpenkinheneoaaDoorLQx20
namespace Go.Proofs.YtmpenkinheneoaaDoor.Plain
set_option linter.unusedVariables false
open Go Go.RowKit Go.Proofs.YtmpenkinheneoaaDoor.HPure Go.Proofs.YtmpenkinheneoaaDoor.Q Go.Proofs.YtmpenkinheneoaaDoor.Lx Go.Proofs.YtmpenkinheneoaaDoorW.PrintWords Go.Proofs.YtmpenkinheneoaaDoorW.PrintLast Go.Proofs.YtmpenkinheneoaaDoorW.PrintMore
theorem get_mid {α : Type} (d : α) (a : List α) (x : α) (b : List α) : (a ++ x :: b).getD ((a.length : Int)).toNat d = x := by
  rw [Int.toNat_natCast, List.getD_eq_getElem?_getD, List.getElem?_append_right (Nat.le_refl _), Nat.sub_self]; rfl
theorem rsign_at {s : ByteArray} (hs : s.size ≤ 1000000000) {u : List Int} (h : At s u) : ∀ (rest pre : List (List Int)) (k : Nat), (∀ x ∈ rest, (∀ c ∈ x, 0 ≤ c ∧ c < 128) ∧ x.length ≤ 1000 ∧ x ≠ []) → rest.length < k → pre.length + rest.length ≤ 1000 →
    chiselref14_sign.l0 k s (P s u) ((pre ++ rest).map asc) (pre.length : Int) = some (asc (find rest u)) := by
  intro rest
  induction rest with
  | nil =>
    intro pre k hx hk hp
    obtain ⟨k, rfl⟩ : ∃ m, k = m + 1 := ⟨k - 1, by omega⟩
    simp only [chiselref14_sign.l0]
    rw [if_neg (by simp)]; rfl
  | cons x rest ih =>
    intro pre k hx hk hp
    obtain ⟨k, rfl⟩ : ∃ m, k = m + 1 := ⟨k - 1, by omega⟩
    obtain ⟨h1, h2, h3⟩ := hx x List.mem_cons_self
    simp only [List.length_cons] at hk hp
    have e : rdOf ByteArray.empty ((pre ++ x :: rest).map asc) (pre.length : Int) = asc x := by
      unfold rdOf
      rw [List.map_append, List.map_cons]
      have := get_mid ByteArray.empty (pre.map asc) (asc x) (rest.map asc)
      rw [List.length_map] at this
      exact this
    simp only [chiselref14_sign.l0]
    rw [e, if_pos (by simp; omega), if_pos (by omega), begins_at h hs x h1 h2, Option.bind_some]
    by_cases hp' : x.isPrefixOf u = true
    · have e2 : find (x :: rest) u = x := by simp only [find]; rw [if_pos hp']
      rw [if_pos hp', e2]
    · have e2 : find (x :: rest) u = find rest u := by simp only [find]; rw [if_neg hp']
      rw [if_neg hp', e2, w64 (by omega) (by omega)]
      have := ih (pre ++ [x]) k (fun y hy => hx y (List.mem_cons_of_mem _ hy)) (by omega) (by simp; omega)
      rw [List.append_assoc, List.singleton_append, List.length_append, List.length_singleton] at this
      exact_mod_cast this
theorem rsigns : ([(⟨#[46, 46]⟩ : ByteArray), (⟨#[47, 47]⟩ : ByteArray), (⟨#[124, 124]⟩ : ByteArray), (⟨#[33, 61]⟩ : ByteArray), (⟨#[60, 61]⟩ : ByteArray), (⟨#[60, 60]⟩ : ByteArray), (⟨#[62, 61]⟩ : ByteArray), (⟨#[62, 62]⟩ : ByteArray), (⟨#[58, 61]⟩ : ByteArray), (⟨#[58, 58]⟩ : ByteArray), (⟨#[61, 62]⟩ : ByteArray), (⟨#[40]⟩ : ByteArray), (⟨#[41]⟩ : ByteArray), (⟨#[91]⟩ : ByteArray), (⟨#[93]⟩ : ByteArray), (⟨#[123]⟩ : ByteArray), (⟨#[125]⟩ : ByteArray), (⟨#[44]⟩ : ByteArray), (⟨#[46]⟩ : ByteArray), (⟨#[64]⟩ : ByteArray), (⟨#[47]⟩ : ByteArray), (⟨#[124]⟩ : ByteArray), (⟨#[43]⟩ : ByteArray), (⟨#[45]⟩ : ByteArray), (⟨#[42]⟩ : ByteArray), (⟨#[61]⟩ : ByteArray), (⟨#[60]⟩ : ByteArray), (⟨#[62]⟩ : ByteArray), (⟨#[58]⟩ : ByteArray), (⟨#[33]⟩ : ByteArray), (⟨#[63]⟩ : ByteArray), (⟨#[35]⟩ : ByteArray), (⟨#[36]⟩ : ByteArray)] : List ByteArray) = signs.map asc := by decide +kernel
theorem rsign_f {s : ByteArray} (hs : s.size ≤ 1000000000) {u : List Int} (h : At s u) (k : Nat) (hk : 40 ≤ k) : chiselref14_sign.f k s (P s u) = some (asc (sgn u)) := by
  unfold chiselref14_sign.f
  rw [rsigns]
  exact rsign_at hs h signs [] k signs_low (by simp only [signs, List.length_cons, List.length_nil]; omega) (by decide)
theorem flat_asc : ∀ x : List Int, (∀ c ∈ x, 0 ≤ c ∧ c < 128) → flat x = x.map fun c => c.toNat.toUInt8 := by
  intro x
  induction x with
  | nil => intro _; rfl
  | cons a x ih => intro hx; rw [flat_cons, enc_low (hx a List.mem_cons_self).1 (hx a List.mem_cons_self).2, ih (fun y hy => hx y (List.mem_cons_of_mem _ hy))]; rfl
theorem asc_enc (x : List Int) (h : ∀ c ∈ x, 0 ≤ c ∧ c < 128) : asc x = encode x := by rw [encode_flat, flat_asc x h]; rfl
def badTok (s : ByteArray) (u : List Int) (e : Int) : Int × ByteArray × Int × Int × Int := (0, (⟨#[]⟩ : ByteArray), 0, P s u, e)
def okTok (s : ByteArray) (k : Int) (x u v : List Int) : Int × ByteArray × Int × Int × Int := (k, encode x, P s u, P s v, 0)
def rtok (s : ByteArray) (c : Int) (r : List Int) : Int × ByteArray × Int × Int × Int :=
  if c = 34 ∨ c = 39 then (match quo c r with | none => badTok s (c :: r) 5 | some x => okTok s 2 x.1 (c :: r) x.2)
  else if (num (c :: r)).1 ≠ [] then okTok s 1 (num (c :: r)).1 (c :: r) (num (c :: r)).2
  else if (nam (c :: r)).1 ≠ [] then (if 100 < (nam (c :: r)).1.length then badTok s (c :: r) 2 else okTok s 0 (nam (c :: r)).1 (c :: r) (nam (c :: r)).2)
  else if sgn (c :: r) ≠ [] then okTok s 3 (sgn (c :: r)) (c :: r) ((c :: r).drop (sgn (c :: r)).length) else badTok s (c :: r) 5
theorem rtoken_at {s : ByteArray} (hs : s.size ≤ 1000000000) {c : Int} {r : List Int} (h : At s (c :: r)) (k : Nat) (hk : s.size + 700 < k) :
    chiselref14_token.f k s (P s (c :: r)) = some (rtok s c r) := by
  obtain ⟨k, rfl⟩ : ∃ m, k = m + 1 := ⟨k - 1, by omega⟩
  have hlu : (c :: r).length ≤ s.size := by have := (flat_len (c :: r)).1; have := h.1.len; omega
  have h0 := h.nonneg
  have h1 := h.le
  have e34 : (bt s (P s (c :: r)) = 34) = (c = 34) := propext (bt_is h 34 (by decide))
  have e39 : (bt s (P s (c :: r)) == 39) = (c == 39) := by rw [Bool.eq_iff_iff]; simp only [beq_iff_eq]; exact bt_is h 39 (by decide)
  have hj : chiselref14_token.f (k + 1) s (P s (c :: r)) = chiselref14_token.j0 (k + 1) s (P s (c :: r)) (c == 34 || c == 39) := by
    unfold chiselref14_token.f
    rw [if_pos h0, if_pos P_lt, e39]
    simp only [e34]
    by_cases hc : c = 34
    · subst hc; rfl
    · rw [if_neg hc]
      have : (c == 34) = false := by rw [beq_eq_false_iff_ne]; exact hc
      rw [this]; rfl
  rw [hj]
  simp only [chiselref14_token.j0]
  unfold rtok
  by_cases hq : c = 34 ∨ c = 39
  · rw [if_pos (by simpa using hq), if_pos hq, rquoted_at hs h (by omega) k (by omega), Option.bind_some]
    cases hqq : quo c r with
    | none => rfl
    | some x =>
      simp only
      have hx : ¬ P s x.2 < 0 := by
        obtain ⟨e, _⟩ := quo_splits c r.length r x.1 x.2 (Nat.le_refl _) hqq
        have := (h.cons.suf ⟨esc c x.1 ++ [c], by rw [e]; simp⟩ : At s x.2).nonneg
        omega
      rw [if_neg hx]; rfl
  · rw [if_neg (by simpa using hq), if_neg hq, rnumber_at hs h k (by omega), Option.bind_some]
    obtain ⟨n1, _⟩ := num_splits (c :: r)
    by_cases hn : (num (c :: r)).1 = []
    · have hle : ¬ P s (num (c :: r)).2 > P s (c :: r) := by
        rw [hn, List.nil_append] at n1; rw [← n1]; omega
      rw [if_neg hle, if_neg (fun h => h hn), rname_at hs h k (by omega), Option.bind_some]
      simp only
      obtain ⟨m1, _⟩ := nam_splits (c :: r)
      by_cases hm : (nam (c :: r)).1 = []
      · rw [if_neg (show ¬ (nam (c :: r)).1 ≠ [] from fun h => h hm), if_neg (by rw [hm]; simp), if_neg (by rw [hm]; simp), rsign_f hs h k (by omega), Option.bind_some]
        by_cases hg : sgn (c :: r) = []
        · rw [if_neg (show ¬ sgn (c :: r) ≠ [] from fun h => h hg), if_pos (by rw [Lib.toList_data, asc_data, hg]; rfl)]; rfl
        · obtain ⟨e, _⟩ := sgn_splits (c :: r) hg
          obtain ⟨w1, w2, w3⟩ := find_low (c :: r) hg
          have hd := h.suf ⟨_, e⟩
          have hp := P_app s (sgn (c :: r)) ((c :: r).drop (sgn (c :: r)).length)
          rw [← e, flat_asc _ w1, List.length_map] at hp
          have g1 := hd.le
          rw [if_pos (show sgn (c :: r) ≠ [] from hg), if_neg (by rw [Lib.toList_data, asc_data]; simpa using hg), asc_size, w64 (by omega) (by omega), ← hp, asc_enc _ w1]; rfl
      · rw [if_pos (show (nam (c :: r)).1 ≠ [] from hm)]
        have hd := h.suf ⟨_, m1⟩
        have he : s.extract (P s (c :: r)).toNat (P s (nam (c :: r)).2).toNat = encode (nam (c :: r)).1 := by
          have := ext_at (s := s) (a := (nam (c :: r)).1) (r := (nam (c :: r)).2) (by rw [← m1]; exact h)
          rw [← m1] at this; exact this
        have hle : P s (c :: r) ≤ P s (nam (c :: r)).2 := by
          have := P_le_app s (nam (c :: r)).1 (nam (c :: r)).2
          rw [← m1] at this; exact this
        have hpos := List.length_pos_iff.mpr hm
        by_cases hl : (nam (c :: r)).1.length ≤ 100
        · rw [if_neg (by omega), if_pos (by omega), if_pos h0, if_pos hle, if_pos hd.le, he, if_neg (by omega)]; rfl
        · rw [if_pos (by omega), if_pos (by omega)]; rfl
    · have hd := h.suf ⟨_, n1⟩
      have he : s.extract (P s (c :: r)).toNat (P s (num (c :: r)).2).toNat = encode (num (c :: r)).1 := by
        have := ext_at (s := s) (a := (num (c :: r)).1) (r := (num (c :: r)).2) (by rw [← n1]; exact h)
        rw [← n1] at this; exact this
      have hgt : P s (num (c :: r)).2 > P s (c :: r) := by
        have := P_more (s := s) (r := (num (c :: r)).2) hn
        rw [← n1] at this; exact this
      rw [if_pos hgt, if_pos hn, if_pos h0, if_pos (by omega), if_pos hd.le, he]; rfl
def tkR (s : ByteArray) (k : Int) (x : List Int) (u : List Int) : S41 := ⟨k, encode x, P s u⟩
def outR (s : ByteArray) (acc : List S41) : Except (List Int × Int) (List Tk) → List S41 × Int × Int
  | .error e => ([], P s e.1, e.2)
  | .ok T => (acc ++ T.map (fun t => tkR s t.1 t.2.1 t.2.2), 0, 0)
def rnext (k : Nat) (x0 : ByteArray) (x5 : List S41) (x6 : Int) (b : Int × ByteArray × Int × Int × Int) : Option (List S41 × Int × Int) := if b.2.2.2.2 = 0 then (if b.1 = 1 then ((chiselref14_char.f k x0 b.2.2.2.1).bind fun t208 => ((chiselref14_starts.f k t208).bind fun t209 => (if t209 = true then (some (([] : List (S41)), b.2.2.2.1, 5)) else (if x5.length < 4398046511104 then (chiselref14_Tokens.l0 k x0 (x5 ++ [(⟨b.1, b.2.1, b.2.2.1⟩ : S41)]) b.2.2.2.1) else (none))))) else (if x5.length < 4398046511104 then (chiselref14_Tokens.l0 k x0 (x5 ++ [(⟨b.1, b.2.1, b.2.2.1⟩ : S41)]) b.2.2.2.1) else (none))) else (some (([] : List (S41)), x6, b.2.2.2.2))
theorem rnext_bad (k : Nat) (s : ByteArray) (acc : List S41) (x6 : Int) (u : List Int) (e : Int) (h : e ≠ 0) : rnext k s acc x6 (badTok s u e) = some ([], x6, e) := by
  unfold rnext
  rw [if_neg (show ¬ (badTok s u e).2.2.2.2 = 0 from h)]; rfl
theorem rnext_ok (k : Nat) (s : ByteArray) (acc : List S41) (x6 kd : Int) (x u v : List Int) (h : kd ≠ 1) (ha : acc.length < 4398046511104) : rnext k s acc x6 (okTok s kd x u v) = chiselref14_Tokens.l0 k s (acc ++ [(⟨kd, encode x, P s u⟩ : S41)]) (P s v) := by
  unfold rnext
  rw [if_pos (show (okTok s kd x u v).2.2.2.2 = 0 from rfl), if_neg (show ¬ (okTok s kd x u v).1 = 1 from h), if_pos ha]; rfl
theorem rnext_num {s : ByteArray} (hs : s.size ≤ 1000000000) (k : Nat) (acc : List S41) (x6 : Int) (x u v : List Int) (hv : At s v) (hk : 400 ≤ k) (ha : acc.length < 4398046511104) : rnext k s acc x6 (okTok s 1 x u v) = if starts v = true then some ([], P s v, 5) else chiselref14_Tokens.l0 k s (acc ++ [(⟨1, encode x, P s u⟩ : S41)]) (P s v) := by
  unfold rnext
  rw [if_pos (show (okTok s 1 x u v).2.2.2.2 = 0 from rfl), if_pos (show (okTok s 1 x u v).1 = 1 from rfl), show (okTok s 1 x u v).2.2.2.1 = P s v from rfl, rchar_at hs hv k (by omega), Option.bind_some, rstarts_at _ hv.2 k hk, Option.bind_some]
  by_cases hst : starts v = true
  · rw [if_pos hst, if_pos hst]
  · rw [if_neg hst, if_neg hst, if_pos ha]; rfl
theorem rtokens_at {s : ByteArray} (hs : s.size ≤ 1000000000) : ∀ (n : Nat) (u : List Int) (f : Nat) (acc : List S41), u.length ≤ n → At s u → 2 * u.length + s.size + 1000 < f → acc.length + u.length ≤ 2000000000 →
    chiselref14_Tokens.l0 f s acc (P s u) = some (outR s acc (lx u)) := by
  intro n
  induction n with
  | zero =>
    intro u f acc hn h hf ha
    obtain ⟨f, rfl⟩ : ∃ m, f = m + 1 := ⟨f - 1, by omega⟩
    cases u with
    | cons c u => simp at hn
    | nil =>
      simp only [chiselref14_Tokens.l0]
      rw [if_neg (by rw [P_nil]; omega), lx_nil]
      simp [outR]
  | succ n ih =>
    intro u f acc hn h hf ha
    obtain ⟨f, rfl⟩ : ∃ m, f = m + 1 := ⟨f - 1, by omega⟩
    cases u with
    | nil =>
      simp only [chiselref14_Tokens.l0]
      rw [if_neg (by rw [P_nil]; omega), lx_nil]
      simp [outR]
    | cons c r =>
      obtain ⟨f, rfl⟩ : ∃ m, f = m + 1 := ⟨f - 1, by omega⟩
      have hlu : (c :: r).length ≤ s.size := by have := (flat_len (c :: r)).1; have := h.1.len; omega
      simp only [List.length_cons] at hn hf ha hlu
      have hc := (isChar_iff c).1 h.char
      have h0 := h.nonneg
      have h1 := h.le
      have e9 : (bt s (P s (c :: r)) = 9) = (c = 9) := propext (bt_is h 9 (by decide))
      have e10 : (bt s (P s (c :: r)) = 10) = (c = 10) := propext (bt_is h 10 (by decide))
      have e13 : (bt s (P s (c :: r)) = 13) = (c = 13) := propext (bt_is h 13 (by decide))
      have e32 : (bt s (P s (c :: r)) == 32) = (c == 32) := by rw [Bool.eq_iff_iff]; simp only [beq_iff_eq]; exact bt_is h 32 (by decide)
      have hj : chiselref14_Tokens.l0 (f + 1 + 1) s acc (P s (c :: r)) = chiselref14_Tokens.j1 (f + 1) s acc (P s (c :: r)) (Lx.blank c) := by
        conv => lhs; unfold chiselref14_Tokens.l0
        rw [if_pos P_lt, if_pos h0, e32]
        simp only [e9, e10, e13]
        by_cases c9 : c = 9
        · subst c9; rfl
        rw [if_neg c9]
        by_cases c10 : c = 10
        · subst c10; rfl
        rw [if_neg c10]
        by_cases c13 : c = 13
        · subst c13; rfl
        rw [if_neg c13]
        have : Lx.blank c = (c == 32) := by rw [Bool.eq_iff_iff]; simp only [Lx.blank, Bool.or_eq_true, beq_iff_eq]; omega
        rw [this]
      rw [hj]
      conv => lhs; unfold chiselref14_Tokens.j1
      by_cases hb : Lx.blank c = true
      · have hlow : c < 128 := by simp only [Lx.blank, Bool.or_eq_true, beq_iff_eq] at hb; omega
        rw [if_pos hb, w64 (by omega) (by omega), ← P_low h hlow, lx_blank r hb]
        exact ih r f acc (by omega) h.cons (by omega) (by omega)
      · have lo : (⟨#[40, 58]⟩ : ByteArray) = asc [40, 58] := by decide +kernel
        rw [if_neg hb, lo, begins_at h hs [40, 58] (by decide) (by decide), Option.bind_some, lx_cons, if_neg hb]
        by_cases ho : opens (c :: r) = true
        · rw [if_pos ho]
          obtain ⟨t, e⟩ := opens_is ho
          simp only [List.cons.injEq] at e
          obtain ⟨rfl, rfl⟩ := e
          rw [if_pos (by simp [List.isPrefixOf]), rcomment_at hs h f (by omega), Option.bind_some]
          simp only [List.drop_succ_cons, List.drop_zero]
          cases hcm : comm 1 t with
          | none => simp only; rw [if_pos (by omega)]; rfl
          | some u =>
            have hsh := comm_short hcm
            obtain ⟨q', _, e, _⟩ := comm_splits t.length 1 t u (Nat.le_refl _) hcm
            have hu : At s u := h.cons.cons.suf ⟨_, e⟩
            simp only
            rw [if_neg (by have := hu.nonneg; omega)]
            exact ih u f acc (by simp at hn; omega) hu (by simp at hf; omega) (by simp at ha; omega)
        · rw [if_neg ho]
          have hno : ¬ ([40, 58] : List Int).isPrefixOf (c :: r) = true := by
            intro hp
            apply ho
            obtain ⟨t, e⟩ := (pre_iff _ _).1 hp
            rw [e]; rfl
          rw [if_neg hno, rtoken_at hs h f (by omega), Option.bind_some]
          have go : ∀ (kd : Int) (x u : List Int), tok (c :: r) = .ok (kd, x, u) → chiselref14_Tokens.l0 f s (acc ++ [(⟨kd, encode x, P s (c :: r)⟩ : S41)]) (P s u) = some (outR s acc (pre [(kd, x, c :: r)] (lx u))) := by
            intro kd x u ht
            have hsh := tok_short ht
            obtain ⟨raw, e, _⟩ := tok_made ht
            simp only [List.length_cons] at hsh
            rw [ih u f (acc ++ [(⟨kd, encode x, P s (c :: r)⟩ : S41)]) (by omega) (h.suf ⟨_, e⟩) (by omega) (by simp; omega)]
            cases lx u with
            | error e => rfl
            | ok T => simp [outR, pre, tkR]
          have ha' : acc.length < 4398046511104 := by omega
          have ht := tok_cons c r
          show rnext f s acc (P s (c :: r)) (rtok s c r) = _
          unfold rtok
          by_cases hq : c = 34 ∨ c = 39
          · rw [if_pos hq] at ht ⊢
            cases hqq : quo c r with
            | none => rw [hqq] at ht; rw [ht]; exact rnext_bad _ _ _ _ _ _ (by decide)
            | some x =>
              rw [hqq] at ht
              rw [ht]
              simp only
              rw [rnext_ok _ _ _ _ _ _ _ _ (by decide) ha']
              exact go _ _ _ ht
          · rw [if_neg hq] at ht ⊢
            by_cases hn' : (num (c :: r)).1 ≠ []
            · rw [if_pos hn'] at ht ⊢
              obtain ⟨n1, _⟩ := num_splits (c :: r)
              have hd := h.suf ⟨_, n1⟩
              rw [rnext_num hs _ _ _ _ _ _ hd (by omega) ha']
              by_cases hst : starts (num (c :: r)).2 = true
              · rw [if_pos hst] at ht ⊢
                rw [ht]; rfl
              · rw [if_neg hst] at ht ⊢
                rw [ht]
                exact go _ _ _ ht
            · rw [if_neg hn'] at ht ⊢
              by_cases hm : (nam (c :: r)).1 ≠ []
              · rw [if_pos hm] at ht ⊢
                by_cases hl : 100 < (nam (c :: r)).1.length
                · rw [if_pos hl] at ht ⊢
                  rw [ht]; exact rnext_bad _ _ _ _ _ _ (by decide)
                · rw [if_neg hl] at ht ⊢
                  rw [ht, rnext_ok _ _ _ _ _ _ _ _ (by decide) ha']
                  exact go _ _ _ ht
              · rw [if_neg hm] at ht ⊢
                by_cases hg : sgn (c :: r) ≠ []
                · rw [if_pos hg] at ht ⊢
                  rw [ht, rnext_ok _ _ _ _ _ _ _ _ (by decide) ha']
                  exact go _ _ _ ht
                · rw [if_neg hg] at ht ⊢
                  rw [ht]; exact rnext_bad _ _ _ _ _ _ (by decide)
def g34 (t : S34) : S41 := ⟨t.f0, t.f1, t.f2⟩
theorem rtokens_f (s : ByteArray) (hs : s.size ≤ 1000000) (k : Nat) (hk : 3 * s.size + 1100 ≤ k) : chiselref14_Tokens.f k s = some ((ansP s).1.map g34, (ansP s).2.1, (ansP s).2.2) := by
  unfold chiselref14_Tokens.f ansP
  rw [isText_ref s k (by omega) (by omega), Option.bind_some]
  by_cases ht : isText s = true
  · rw [if_pos ht, if_pos ht, if_neg (by omega), if_pos (by omega)]
    obtain ⟨ha, hp⟩ := At.full ht
    have hlen := points_le s
    have := rtokens_at (s := s) (by omega) (points s).length (points s) k [] (Nat.le_refl _) ha (by omega) (by simp; omega)
    rw [hp] at this
    rw [this]
    cases lx (points s) with
    | error e => rfl
    | ok T => simp [outR, g34, tkR, tkP]
  · rw [if_neg ht, if_neg ht]; rfl
theorem given_l0 : ∀ (rest pre : List S34) (acc : List S41) (k : Nat), rest.length < k → pre.length + rest.length ≤ 2000000000 → acc.length + rest.length ≤ 2000000000 →
    chisellaw14_given.l0 k (pre ++ rest) acc (pre.length : Int) = some (acc ++ rest.map g34) := by
  intro rest
  induction rest with
  | nil =>
    intro pre acc k hk h1 h2
    obtain ⟨k, rfl⟩ : ∃ m, k = m + 1 := ⟨k - 1, by omega⟩
    simp only [chisellaw14_given.l0]
    rw [if_neg (by simp)]; simp
  | cons x rest ih =>
    intro pre acc k hk h1 h2
    obtain ⟨k, rfl⟩ : ∃ m, k = m + 1 := ⟨k - 1, by omega⟩
    simp only [List.length_cons] at hk h1 h2
    have e : rd_T34 (pre ++ x :: rest) (pre.length : Int) = x := get_mid z34 pre x rest
    simp only [chisellaw14_given.l0]
    rw [e, if_pos (by simp; omega), if_pos (by omega), if_pos (by omega), w64 (by omega) (by omega)]
    have := ih (pre ++ [x]) (acc ++ [g34 x]) k (by omega) (by simp; omega) (by simp; omega)
    rw [List.append_assoc, List.singleton_append, List.length_append, List.length_singleton, List.append_assoc, List.singleton_append] at this
    rw [List.map_cons]
    exact_mod_cast this
theorem given_f (T : List S34) (k : Nat) (hk : T.length < k) (h : T.length ≤ 2000000000) : chisellaw14_given.f k T = some (T.map g34) := by
  unfold chisellaw14_given.f
  have := given_l0 T [] [] k hk (by simpa using h) (by simpa using h)
  simpa using this
def key (t : S41) : Int × ByteArray := (t.f0, t.f1)
theorem same_l0 : ∀ (a b pa pb : List S41) (k : Nat), a.map key = b.map key → pa.length = pb.length → a.length < k → pa.length + a.length ≤ 2000000000 →
    chiselref14_Same.l0 k (pa ++ a) (pb ++ b) (pa.length : Int) = some true := by
  intro a
  induction a with
  | nil =>
    intro b pa pb k h hp hk h1
    obtain ⟨k, rfl⟩ : ∃ m, k = m + 1 := ⟨k - 1, by omega⟩
    simp only [chiselref14_Same.l0]
    rw [if_neg (by simp)]
  | cons x a ih =>
    intro b pa pb k h hp hk h1
    obtain ⟨k, rfl⟩ : ∃ m, k = m + 1 := ⟨k - 1, by omega⟩
    cases b with
    | nil => cases h
    | cons y b =>
      simp only [List.length_cons] at hk h1
      simp only [List.map_cons, List.cons.injEq, key, Prod.mk.injEq] at h
      obtain ⟨⟨hx, hy⟩, hr⟩ := h
      have e1 : rd_T41 (pa ++ x :: a) (pa.length : Int) = x := get_mid z41 pa x a
      have e2 : rd_T41 (pb ++ y :: b) (pa.length : Int) = y := by rw [hp]; exact get_mid z41 pb y b
      simp only [chiselref14_Same.l0]
      rw [e1, e2, if_pos (by simp; omega), if_pos (by omega), if_pos (by simp; omega), if_pos hx, if_pos (by rw [hy]), w64 (by omega) (by omega)]
      have := ih b (pa ++ [x]) (pb ++ [y]) k hr (by simp [hp]) (by omega) (by simp; omega)
      rw [List.append_assoc, List.singleton_append, List.length_append, List.length_singleton, List.append_assoc, List.singleton_append] at this
      exact_mod_cast this
theorem same_f (a b : List S41) (k : Nat) (h : a.map key = b.map key) (hk : a.length < k) (h1 : a.length ≤ 2000000000) : chiselref14_Same.f k a b = some true := by
  unfold chiselref14_Same.f
  have hl : a.length = b.length := by have := congrArg List.length h; simpa using this
  rw [if_pos (by omega)]
  exact same_l0 a b [] [] k h rfl hk (by simpa using h1)
theorem equal_l0 : ∀ (a pa : List S41) (k : Nat), a.length < k → pa.length + a.length ≤ 2000000000 →
    chisellaw14_equal.l0 k (pa ++ a) (pa ++ a) (pa.length : Int) = some true := by
  intro a
  induction a with
  | nil =>
    intro pa k hk h1
    obtain ⟨k, rfl⟩ : ∃ m, k = m + 1 := ⟨k - 1, by omega⟩
    simp only [chisellaw14_equal.l0]
    rw [if_neg (by simp)]
  | cons x a ih =>
    intro pa k hk h1
    obtain ⟨k, rfl⟩ : ∃ m, k = m + 1 := ⟨k - 1, by omega⟩
    simp only [List.length_cons] at hk h1
    simp only [chisellaw14_equal.l0]
    rw [if_pos (by simp; omega), if_pos (by omega), if_pos (by simp; omega), if_pos True.intro, w64 (by omega) (by omega)]
    have := ih (pa ++ [x]) k (by omega) (by simp; omega)
    rw [List.append_assoc, List.singleton_append, List.length_append, List.length_singleton] at this
    exact_mod_cast this
theorem equal_f (a : List S41) (k : Nat) (hk : a.length < k) (h1 : a.length ≤ 2000000000) : chisellaw14_equal.f k a a = some true := by
  unfold chisellaw14_equal.f
  rw [same_f a a k rfl hk h1, Option.bind_some, if_pos rfl]
  exact equal_l0 a [] k hk (by simpa using h1)
theorem works_one : ansP (⟨#[36, 97, 47, 98, 91, 49, 46, 53, 32, 60, 61, 32, 50, 101, 51, 93]⟩ : ByteArray) = ([(⟨3, (⟨#[36]⟩ : ByteArray), 0⟩ : S34), (⟨0, (⟨#[97]⟩ : ByteArray), 1⟩ : S34), (⟨3, (⟨#[47]⟩ : ByteArray), 2⟩ : S34), (⟨0, (⟨#[98]⟩ : ByteArray), 3⟩ : S34), (⟨3, (⟨#[91]⟩ : ByteArray), 4⟩ : S34), (⟨1, (⟨#[49, 46, 53]⟩ : ByteArray), 5⟩ : S34), (⟨3, (⟨#[60, 61]⟩ : ByteArray), 9⟩ : S34), (⟨1, (⟨#[50, 101, 51]⟩ : ByteArray), 12⟩ : S34), (⟨3, (⟨#[93]⟩ : ByteArray), 15⟩ : S34)], 0, 0) := by kernel_rfl
theorem works_two : ansP (⟨#[97, 32, 38, 32, 98]⟩ : ByteArray) = ([], 2, 5) := by kernel_rfl
theorem works_f (k : Nat) (hk : 20 ≤ k) : chisellaw14_works.f k = some true := by
  unfold chisellaw14_works.f
  rw [tokens_f _ (by decide), Option.bind_some, tokens_f _ (by decide), Option.bind_some, works_one, works_two]
  simp only
  rw [if_pos trivial, if_pos trivial, given_f _ k (by simp; omega) (by simp), Option.bind_some]
  have := equal_f ([(⟨3, (⟨#[36]⟩ : ByteArray), 0⟩ : S41), (⟨0, (⟨#[97]⟩ : ByteArray), 1⟩ : S41), (⟨3, (⟨#[47]⟩ : ByteArray), 2⟩ : S41), (⟨0, (⟨#[98]⟩ : ByteArray), 3⟩ : S41), (⟨3, (⟨#[91]⟩ : ByteArray), 4⟩ : S41), (⟨1, (⟨#[49, 46, 53]⟩ : ByteArray), 5⟩ : S41), (⟨3, (⟨#[60, 61]⟩ : ByteArray), 9⟩ : S41), (⟨1, (⟨#[50, 101, 51]⟩ : ByteArray), 12⟩ : S41), (⟨3, (⟨#[93]⟩ : ByteArray), 15⟩ : S41)] : List S41) k (by simp; omega) (by simp)
  simp only [List.map_cons, List.map_nil, g34]
  rw [this, Option.bind_some, if_pos rfl, if_pos trivial]; rfl
theorem ans_len (s : ByteArray) : (ansP s).1.length ≤ s.size := by
  unfold ansP
  by_cases ht : isText s = true
  · rw [if_pos ht]
    by_cases hl : s.size ≤ 1048576
    · rw [if_pos hl]
      cases he : lx (points s) with
      | error e => simp
      | ok T =>
        have := (lx_parts T.length (points s) T (Nat.le_refl _) he).2.2
        have := points_le s
        simp only [List.length_map]; omega
    · rw [if_neg hl]; simp
  · rw [if_neg ht]; simp
end Go.Proofs.YtmpenkinheneoaaDoor.Plain
