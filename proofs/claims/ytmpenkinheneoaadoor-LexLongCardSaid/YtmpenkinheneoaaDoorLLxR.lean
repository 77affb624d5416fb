/- Texts of the claim: LxR. -/
import Derived.Test.YtmpenkinheneoaaDoorLLxE
import Derived.Test.YtmpenkinheneoaaDoorLQx26
import Derived.Test.YtmpenkinheneoaaDoorLQx25
import Derived.Test.YtmpenkinheneoaaDoorLQx24
import Derived.Test.YtmpenkinheneoaaDoorLQx23
import Derived.Test.YtmpenkinheneoaaDoorLQx22
import Derived.Test.YtmpenkinheneoaaDoorLLxG
namespace Go.Proofs.YtmpenkinheneoaaDoor.Plain
set_option linter.unusedVariables false
open Go Go.RowKit Go.Proofs.YtmpenkinheneoaaDoor.HPure Go.Proofs.YtmpenkinheneoaaDoor.Q Go.Proofs.YtmpenkinheneoaaDoor.Lx Go.Proofs.YtmpenkinheneoaaDoorW.PrintWords Go.Proofs.YtmpenkinheneoaaDoorW.PrintLast Go.Proofs.YtmpenkinheneoaaDoorW.PrintMore
theorem begins_one {s : ByteArray} {u : List Int} (h : At s u) (hs : s.size ≤ 1000000000) (b : Int) (hb : 0 ≤ b ∧ b < 128) (x : UInt8) (hx : b.toNat.toUInt8 = x) : chiselref14_begins.f s (P s u) (⟨#[x]⟩ : ByteArray) = some ([b].isPrefixOf u) := by
  rw [lit1 b x hx, begins_at h hs [b] (fun c hc => by simp at hc; subst hc; exact hb) (by simp)]
theorem commB_nest : ∀ (n : Nat) (l : List UInt8) (e d : Nat), l.length ≤ n → 1 ≤ e → 1 ≤ d → commB (e + d) l = (commB e l).bind (commB d) := by
  intro n
  induction n with
  | zero =>
    intro l e d hn he hd
    cases l with
    | cons c l => simp at hn
    | nil => simp [commB]
  | succ n ih =>
    intro l e d hn he hd
    match l, hn with
    | [], _ => simp [commB]
    | [c], _ => simp [commB]
    | c :: f :: r, hn =>
      simp only [List.length_cons] at hn
      rw [commB_two, commB_two]
      by_cases h1 : c = 40 ∧ f = 58
      · rw [if_pos h1, if_pos h1, show e + d + 1 = (e + 1) + d by omega]
        exact ih r (e + 1) d (by omega) (by omega) hd
      · rw [if_neg h1, if_neg h1]
        by_cases h2 : c = 58 ∧ f = 41
        · rw [if_pos h2, if_pos h2, if_neg (by omega)]
          by_cases h3 : e ≤ 1
          · rw [if_pos h3, show e + d - 1 = d by omega]; rfl
          · rw [if_neg h3, show e + d - 1 = (e - 1) + d by omega]
            exact ih r (e - 1) d (by omega) (by omega) hd
        · rw [if_neg h2, if_neg h2]
          exact ih (f :: r) e d (by simp; omega) he hd
theorem commB_suf : ∀ (n : Nat) (l r : List UInt8) (d : Nat), l.length ≤ n → commB d l = some r → ∃ a, a ≠ [] ∧ l = a ++ r := by
  intro n
  induction n with
  | zero =>
    intro l r d hn h
    cases l with
    | cons c l => simp at hn
    | nil => simp [commB] at h
  | succ n ih =>
    intro l r d hn h
    match l, hn, h with
    | [], _, h => simp [commB] at h
    | [c], _, h => simp [commB] at h
    | c :: f :: t, hn, h =>
      simp only [List.length_cons] at hn
      rw [commB_two] at h
      by_cases h1 : c = 40 ∧ f = 58
      · rw [if_pos h1] at h
        obtain ⟨a, _, e⟩ := ih t r (d + 1) (by omega) h
        exact ⟨c :: f :: a, by simp, by rw [e]; rfl⟩
      · rw [if_neg h1] at h
        by_cases h2 : c = 58 ∧ f = 41
        · rw [if_pos h2] at h
          by_cases h3 : d ≤ 1
          · rw [if_pos h3] at h; cases h; exact ⟨[c, f], by simp, rfl⟩
          · rw [if_neg h3] at h
            obtain ⟨a, _, e⟩ := ih t r (d - 1) (by omega) h
            exact ⟨c :: f :: a, by simp, by rw [e]; rfl⟩
        · rw [if_neg h2] at h
          obtain ⟨a, ha, e⟩ := ih (f :: t) r d (by simp; omega) h
          exact ⟨c :: a, by simp, by rw [e]; rfl⟩
def orNo (s : ByteArray) : Option (List UInt8) → Int
  | none => -1
  | some r => q s r
theorem rcomment_b {s : ByteArray} (hs : s.size ≤ 1000000000) : ∀ (n : Nat) (l : List UInt8) (k : Nat), l.length ≤ n → Rs s l → l.length < k → chiselref14_comment.l0 k s (q s l) = some (orNo s (commB 1 l)) := by
  intro n
  induction n with
  | zero =>
    intro l k hn h hk
    obtain ⟨k, rfl⟩ : ∃ m, k = m + 1 := ⟨k - 1, by omega⟩
    cases l with
    | cons b l => simp at hn
    | nil =>
      simp only [chiselref14_comment.l0]
      rw [if_neg (by rw [q_nil]; omega)]; rfl
  | succ n ih =>
    intro l k hn h hk
    obtain ⟨k, rfl⟩ : ∃ m, k = m + 1 := ⟨k - 1, by omega⟩
    have h0 := h.nonneg
    have h1 := h.le
    have ho : ∀ x : ByteArray, x.size ≤ 1000 → chiselref14_begins.f s (q s l) x = some (x.data.toList.isPrefixOf l) := fun x hx => begins_b h hs x hx
    match l, hn, h, hk, h0, h1, ho with
    | [], _, _, _, _, _, _ =>
      simp only [chiselref14_comment.l0]
      rw [if_neg (by rw [q_nil]; omega)]; rfl
    | [c], _, h, hk, h0, h1, ho =>
      simp only [chiselref14_comment.l0]
      rw [if_pos q_lt, ho _ (by decide), Option.bind_some, if_neg (by simp [List.isPrefixOf]), ho _ (by decide), Option.bind_some, if_neg (by simp [List.isPrefixOf]), w64 (by omega) (by omega), ← q_cons]
      rw [ih [] k (by simp) h.cons (by simp at hk; simp; omega)]
      simp [commB]
    | c :: e :: r, hn, h, hk, h0, h1, ho =>
      simp only [List.length_cons] at hn hk
      have e2 : q s r = q s (c :: e :: r) + 2 := by rw [q_cons s e r, q_cons s c (e :: r)]; omega
      simp only [chiselref14_comment.l0]
      rw [if_pos q_lt, ho _ (by decide), Option.bind_some, commB_two]
      have p1 : (⟨#[40, 58]⟩ : ByteArray).data.toList.isPrefixOf (c :: e :: r) = (40 == c && 58 == e) := pre2 40 58 c e r
      have p2 : (⟨#[58, 41]⟩ : ByteArray).data.toList.isPrefixOf (c :: e :: r) = (58 == c && 41 == e) := pre2 58 41 c e r
      simp only [p2]
      by_cases b2 : c = 58 ∧ e = 41
      · obtain ⟨rfl, rfl⟩ := b2
        rw [if_pos (by decide), w64 (by omega) (by omega), ← e2, if_neg (by decide), if_pos (⟨rfl, rfl⟩ : (58 : UInt8) = 58 ∧ (41 : UInt8) = 41), if_pos (by decide)]; rfl
      · have hb2 : (58 == c && 41 == e) = false := by
          rw [Bool.and_eq_false_iff]
          by_cases hc : c = 58
          · refine .inr ?_; rw [beq_eq_false_iff_ne]; intro he; exact b2 ⟨hc, he.symm⟩
          · refine .inl ?_; rw [beq_eq_false_iff_ne]; intro he; exact hc he.symm
        rw [if_neg (by rw [hb2]; simp), ho _ (by decide), Option.bind_some]
        simp only [p1]
        by_cases b1 : c = 40 ∧ e = 58
        · rw [if_pos b1]
          obtain ⟨rfl, rfl⟩ := b1
          obtain ⟨k, rfl⟩ : ∃ m, k = m + 1 := ⟨k - 1, by omega⟩
          rw [if_pos (by decide)]
          have hf : chiselref14_comment.f (k + 1) s (q s (40 :: 58 :: r)) = some (orNo s (commB 1 r)) := by
            simp only [chiselref14_comment.f]
            rw [w64 (by omega) (by omega), ← e2]
            exact ih r k (by omega) h.cons.cons (by omega)
          rw [hf, Option.bind_some, show (1 : Nat) + 1 = 1 + 1 from rfl, commB_nest r.length r 1 1 (Nat.le_refl _) (Nat.le_refl _) (Nat.le_refl _)]
          cases hcm : commB 1 r with
          | none => rw [if_pos (by simp [orNo])]; rfl
          | some t =>
            obtain ⟨a, ha, et⟩ := commB_suf r.length r t 1 (Nat.le_refl _) hcm
            have ht : Rs s t := Rs.tail (a := a) (by rw [← et]; exact h.cons.cons)
            have hlt : t.length ≤ r.length := by rw [et, List.length_append]; omega
            have hnn := ht.nonneg
            have eo : orNo s (some t) = q s t := rfl
            rw [eo, if_neg (by omega)]
            exact ih t (k + 1) (by omega) ht (by omega)
        · have hb1 : (40 == c && 58 == e) = false := by
            rw [Bool.and_eq_false_iff]
            by_cases hc : c = 40
            · refine .inr ?_; rw [beq_eq_false_iff_ne]; intro he; exact b1 ⟨hc, he.symm⟩
            · refine .inl ?_; rw [beq_eq_false_iff_ne]; intro he; exact hc he.symm
          rw [if_neg (by rw [hb1]; simp), if_neg b1, if_neg b2, w64 (by omega) (by omega), ← q_cons]
          exact ih (e :: r) k (by simp; omega) h.cons (by simp; omega)
theorem rcomment_at {s : ByteArray} (hs : s.size ≤ 1000000000) {r : List Int} (h : At s (40 :: 58 :: r)) (k : Nat) (hk : s.size + 2 < k) :
    chiselref14_comment.f k s (P s (40 :: 58 :: r)) = some (match comm 1 r with | none => -1 | some u => P s u) := by
  obtain ⟨k, rfl⟩ : ∃ m, k = m + 1 := ⟨k - 1, by omega⟩
  have hlen := h.cons.cons.1.len
  have h0 := h.nonneg
  have hle := h.le
  have e1 := P_low h (by decide)
  have e2 := P_low h.cons (by decide)
  simp only [chiselref14_comment.f]
  rw [w64 (by omega) (by omega), show P s (40 :: 58 :: r) + 2 = P s r by omega]
  unfold P
  rw [rcomment_b hs (flat r).length (flat r) k (Nat.le_refl _) h.cons.cons.1 (by omega), comm_flat r.length r 1 (Nat.le_refl _) h.cons.cons.2]
  cases comm 1 r <;> rfl
theorem rquoted_b {s : ByteArray} (hs : s.size ≤ 1000000000) (m : UInt8) : ∀ (n : Nat) (l w : List UInt8) (t : ByteArray) (k : Nat), l.length ≤ n → Rs s (w ++ l) → l.length < k → t.size + w.length + l.length ≤ 2000000000 →
    chiselref14_quoted.l0 k s (m.toNat : Int) (q s (w ++ l)) t (q s l) = some (match quoB m l with | none => ((⟨#[]⟩ : ByteArray), -1) | some x => (mk (t.data.toList ++ (w ++ x.1)), q s x.2)) := by
  have hb : ∀ x y : UInt8, ((x.toNat : Int) = (y.toNat : Int)) ↔ x = y := fun x y => ⟨fun e => UInt8.toNat_inj.mp (by omega), fun e => by rw [e]⟩
  have app : ∀ (t : ByteArray) (l : List UInt8), t ++ mk l = mk (t.data.toList ++ l) := fun t l => by
    rw [← mk_data (t ++ mk l)]
    simp only [ByteArray.data_append, Array.toList_append, data_mk]
  intro n
  induction n with
  | zero =>
    intro l w t k hn h hk ha
    obtain ⟨k, rfl⟩ : ∃ m, k = m + 1 := ⟨k - 1, by omega⟩
    cases l with
    | cons b l => simp at hn
    | nil =>
      simp only [chiselref14_quoted.l0]
      rw [if_neg (by rw [q_nil]; omega)]; rfl
  | succ n ih =>
    intro l w t k hn h hk ha
    obtain ⟨k, rfl⟩ : ∃ m, k = m + 1 := ⟨k - 1, by omega⟩
    cases l with
    | nil =>
      simp only [chiselref14_quoted.l0]
      rw [if_neg (by rw [q_nil]; omega)]; rfl
    | cons c l =>
      simp only [List.length_cons] at hn hk ha
      have hl : Rs s (c :: l) := h.tail
      have h0 := hl.nonneg
      have h1 := hl.le
      have hw0 := h.nonneg
      have hwq := q_app s w (c :: l)
      have hext := h.ext
      simp only [chiselref14_quoted.l0]
      rw [if_pos q_lt, if_pos h0, hl.bt, w64 (by omega) (by omega), ← q_cons]
      by_cases hc : c = m
      · subst hc
        rw [if_pos rfl, if_pos hw0, if_pos (by omega), if_pos h1, hext, mk_size, if_pos (by omega)]
        cases l with
        | nil =>
          rw [if_pos (by rw [q_nil]), quoB_one, if_pos rfl, app]
          simp
        | cons d r =>
          have hr : Rs s (d :: r) := hl.cons
          have g0 := hr.nonneg
          have g1 := hr.le
          have glt : q s (d :: r) < (s.size : Int) := q_lt
          have gq := q_cons s c (d :: r)
          simp only [List.length_cons] at hn hk ha
          rw [if_neg (by omega), if_pos g0, if_pos glt, hr.bt, quoB_two, if_pos rfl]
          by_cases hd : d = c
          · subst hd
            have hx1 : s.extract (q s (d :: d :: r)).toNat (q s (d :: r)).toNat = mk [d] := Rs.ext (a := [d]) (l := d :: r) hl
            rw [if_pos rfl, if_pos (by omega), if_pos g1, hx1, app, mk_size, mk_size, if_pos (by simp; omega), if_pos rfl, w64 (by omega) (by omega), ← q_cons, app, data_mk]
            have := ih r [] (mk ((t.data.toList ++ w) ++ [d])) k (by omega) hr.cons (by omega) (by rw [mk_size]; simp; omega)
            simp only [List.nil_append] at this
            rw [this]
            cases quoB d r with
            | none => rfl
            | some x => simp [data_mk]
          · rw [if_neg (fun e => hd ((hb d c).1 e)), if_neg hd, app]
            simp
      · rw [if_neg (fun e => hc ((hb c m).1 e)), quoB_skip m c l hc]
        have := ih l (w ++ [c]) t k (by omega) (by rw [List.append_assoc]; exact h) (by omega) (by simp; omega)
        rw [List.append_assoc, List.singleton_append] at this
        rw [this]
        cases quoB m l with
        | none => rfl
        | some x => simp
theorem rquoted_at {s : ByteArray} (hs : s.size ≤ 1000000000) {c : Int} {r : List Int} (h : At s (c :: r)) (hl : 0 ≤ c ∧ c < 128) (k : Nat) (hk : s.size < k) :
    chiselref14_quoted.f k s (P s (c :: r)) = some (match quo c r with | none => ((⟨#[]⟩ : ByteArray), -1) | some x => (encode x.1, P s x.2)) := by
  unfold chiselref14_quoted.f
  have hlen := h.cons.1.len
  have e := low_byte hl.1 hl.2
  rw [if_pos h.nonneg, if_pos P_lt, bt_low h hl.2, w64 (by have := h.nonneg; omega) (by have := h.le; omega), ← P_low h hl.2]
  have := rquoted_b hs (c.toNat.toUInt8) (flat r).length (flat r) [] (⟨#[]⟩ : ByteArray) k (Nat.le_refl _) h.cons.1 (by omega) (by show 0 + 0 + _ ≤ _; omega)
  rw [e] at this
  unfold P at *
  simp only [List.nil_append] at this
  rw [this, quo_flat c hl.1 hl.2 r.length r (Nat.le_refl _) h.cons.2]
  cases quo c r with
  | none => rfl
  | some x => rfl
theorem rdigit_at {s : ByteArray} {u : List Int} (h : At s u) : chiselref14_digit.f s (P s u) = some (decide (u.takeWhile dig ≠ [])) := by
  unfold chiselref14_digit.f
  cases u with
  | nil => rw [if_neg (by rw [P_nil]; omega)]; rfl
  | cons c u =>
    rw [if_pos P_lt, if_pos h.nonneg, List.takeWhile_cons]
    by_cases hl : c < 128
    · rw [bt_low h hl]
      cases hd : dig c with
      | true => have := dig_low c hd; rw [if_pos (by omega), decide_eq_true (by omega)]; simp
      | false =>
        have : ¬ (48 ≤ c ∧ c ≤ 57) := fun hc => by rw [show dig c = true by simp [dig, hc.1, hc.2]] at hd; cases hd
        by_cases h48 : c ≥ 48
        · rw [if_pos h48, decide_eq_false (by omega)]; simp
        · rw [if_neg h48]; simp
    · have := bt_high h (by omega)
      have hd : dig c = false := by simp [dig]; omega
      rw [if_pos (by omega), decide_eq_false (by omega), hd]; simp
theorem rdigits_at {s : ByteArray} (hs : s.size ≤ 1000000000) : ∀ (u : List Int) (k : Nat), At s u → u.length < k → chiselref14_digits.f k s (P s u) = some (P s (u.dropWhile dig)) := by
  intro u
  unfold chiselref14_digits.f
  induction u with
  | nil =>
    intro k h hk
    obtain ⟨k, rfl⟩ : ∃ m, k = m + 1 := ⟨k - 1, by omega⟩
    simp only [chiselref14_digits.l0]
    rw [rdigit_at h, Option.bind_some, if_neg (by simp)]; rfl
  | cons c u ih =>
    intro k h hk
    obtain ⟨k, rfl⟩ : ∃ m, k = m + 1 := ⟨k - 1, by omega⟩
    simp only [List.length_cons] at hk
    have h0 := h.nonneg
    have h1 := h.le
    simp only [chiselref14_digits.l0]
    rw [rdigit_at h, Option.bind_some]
    cases hd : dig c with
    | true =>
      have hc := dig_low c hd
      have e : (c :: u).dropWhile dig = u.dropWhile dig := by rw [List.dropWhile_cons, if_pos hd]
      rw [e, if_pos (by simp [hd]), w64 (by omega) (by omega), ← P_low h (by omega)]
      exact ih k h.cons (by omega)
    | false =>
      have e : (c :: u).dropWhile dig = c :: u := by rw [List.dropWhile_cons, if_neg (by simp [hd])]
      rw [e, if_neg (by simp [hd])]
theorem rnumber_at {s : ByteArray} (hs : s.size ≤ 1000000000) {u : List Int} (h : At s u) (k : Nat) (hk : u.length + 10 < k) : chiselref14_number.f k s (P s u) = some (P s (num u).2) := by
  have hr := h.drop dig
  have e1 := drop_suf dig u
  have e2 := (frac_splits (u.dropWhile dig)).1
  have hf := hr.suf ⟨_, e2⟩
  have l1 := len_suf e1
  have l2 := len_suf e2
  have hn : P s (frac (u.dropWhile dig)).2 = P s u ↔ (u.takeWhile dig = [] ∧ (frac (u.dropWhile dig)).1 = []) := by
    constructor
    · intro e
      have e4 : u = (u.takeWhile dig ++ (frac (u.dropWhile dig)).1) ++ (frac (u.dropWhile dig)).2 := by rw [List.append_assoc, ← e2, ← e1]
      have := P_inj (s := s) (a := u.takeWhile dig ++ (frac (u.dropWhile dig)).1) (r := (frac (u.dropWhile dig)).2) (by rw [← e4]; exact e.symm)
      exact List.append_eq_nil_iff.mp this
    · rintro ⟨a, b⟩
      rw [b, List.nil_append] at e2
      rw [a, List.nil_append] at e1
      rw [← e2, ← e1]
  -- the exponent
  have j4 : ∀ (r : List Int) (m : Nat) (x5 : Int), At s r → r.length + 2 < m → chiselref14_number.j4 m s x5 (P s r) = some (if r.takeWhile dig ≠ [] then P s (r.dropWhile dig) else x5) := by
    intro r m x5 hr hm
    obtain ⟨m, rfl⟩ : ∃ z, m = z + 1 := ⟨m - 1, by omega⟩
    simp only [chiselref14_number.j4]
    rw [rdigit_at hr, Option.bind_some]
    by_cases hd : r.takeWhile dig ≠ []
    · rw [if_pos (by simpa using hd), if_pos hd, rdigits_at hs r m hr (by omega), Option.bind_some]
    · rw [if_neg (by simpa using hd), if_neg hd]
  have j2 : ∀ (c : Int) (r : List Int) (m : Nat) (x5 : Int), c < 128 → At s (c :: r) → r.length + 5 < m → chiselref14_number.j2 m s x5 (P s (c :: r)) true = some (if (psign r).2.takeWhile dig ≠ [] then P s ((psign r).2.dropWhile dig) else x5) := by
    intro c r m x5 hc hcr hm
    obtain ⟨m, rfl⟩ : ∃ z, m = z + 1 := ⟨m - 1, by omega⟩
    have h0 := hcr.nonneg
    have h1 := hcr.le
    have g0 := hcr.cons.nonneg
    have g1 := hcr.cons.le
    simp only [chiselref14_number.j2]
    rw [if_pos True.intro, w64 (by omega) (by omega), ← P_low hcr hc, begins_one hcr.cons hs 43 (by decide) 43 (by decide), Option.bind_some]
    obtain ⟨m, rfl⟩ : ∃ z, m = z + 1 := ⟨m - 1, by omega⟩
    by_cases c1 : [43].isPrefixOf r = true
    · rw [if_pos c1]
      obtain ⟨t, rfl⟩ := (pre_one _ _).1 c1
      have hp : psign (43 :: t) = ([43], t) := by rw [psign_cons, if_pos (.inl rfl)]
      simp only [List.length_cons] at hm
      simp only [chiselref14_number.j3]
      rw [if_pos True.intro, w64 (by omega) (by omega), ← P_low hcr.cons (by decide), j4 t m x5 hcr.cons.cons (by omega), hp]
    · rw [if_neg c1, begins_one hcr.cons hs 45 (by decide) 45 (by decide), Option.bind_some]
      simp only [chiselref14_number.j3]
      by_cases c2 : [45].isPrefixOf r = true
      · rw [if_pos c2]
        obtain ⟨t, rfl⟩ := (pre_one _ _).1 c2
        have hp : psign (45 :: t) = ([45], t) := by rw [psign_cons, if_pos (.inr rfl)]
        simp only [List.length_cons] at hm
        rw [w64 (by omega) (by omega), ← P_low hcr.cons (by decide), j4 t m x5 hcr.cons.cons (by omega), hp]
      · rw [if_neg c2, j4 r m x5 hcr.cons (by omega)]
        have hp : psign r = ([], r) := by
          cases r with
          | nil => rfl
          | cons a t =>
            rw [psign_cons, if_neg]
            rintro (rfl | rfl)
            · exact c1 ((pre_one _ _).2 ⟨t, rfl⟩)
            · exact c2 ((pre_one _ _).2 ⟨t, rfl⟩)
        rw [hp]
  have j1 : ∀ (m : Nat), u.length + 7 < m → chiselref14_number.j1 m s (P s u) (P s (frac (u.dropWhile dig)).2) = some (P s (num u).2) := by
    intro m hm
    obtain ⟨m, rfl⟩ : ∃ z, m = z + 1 := ⟨m - 1, by omega⟩
    simp only [chiselref14_number.j1]
    unfold num
    by_cases hc : u.takeWhile dig = [] ∧ (frac (u.dropWhile dig)).1 = []
    · rw [if_pos (hn.2 hc), if_pos hc]
    · rw [if_neg (fun e => hc (hn.1 e)), if_neg hc]
      generalize (frac (u.dropWhile dig)).2 = r at hf l2
      rw [begins_one hf hs 101 (by decide) 101 (by decide), Option.bind_some]
      have fin : ∀ (c : Int) (t : List Int), (c = 101 ∨ c = 69) → (if (psign t).2.takeWhile dig ≠ [] then P s ((psign t).2.dropWhile dig) else P s (c :: t)) = P s (expo (c :: t)).2 := by
        intro c t hc
        rw [expo_cons]
        by_cases hd : (psign t).2.takeWhile dig ≠ []
        · rw [if_pos hd, if_pos ⟨hc, hd⟩]
        · rw [if_neg hd, if_neg (fun h => hd h.2)]
      by_cases c1 : [101].isPrefixOf r = true
      · rw [if_pos c1]
        obtain ⟨t, rfl⟩ := (pre_one _ _).1 c1
        simp only [List.length_cons] at l2
        rw [j2 101 t m _ (by decide) hf (by omega), fin 101 t (.inl rfl)]
      · rw [if_neg c1, begins_one hf hs 69 (by decide) 69 (by decide), Option.bind_some]
        by_cases c2 : [69].isPrefixOf r = true
        · rw [c2]
          obtain ⟨t, rfl⟩ := (pre_one _ _).1 c2
          simp only [List.length_cons] at l2
          rw [j2 69 t m _ (by decide) hf (by omega), fin 69 t (.inr rfl)]
        · rw [Bool.eq_false_iff.2 c2]
          obtain ⟨m, rfl⟩ : ∃ z, m = z + 1 := ⟨m - 1, by omega⟩
          simp only [chiselref14_number.j2]
          rw [if_neg (by simp)]
          have : expo r = ([], r) := by
            cases r with
            | nil => rfl
            | cons a t =>
              rw [expo_cons, if_neg]
              rintro ⟨rfl | rfl, _⟩
              · exact c1 ((pre_one _ _).2 ⟨t, rfl⟩)
              · exact c2 ((pre_one _ _).2 ⟨t, rfl⟩)
          rw [this]
  unfold chiselref14_number.f
  rw [rdigits_at hs u k h (by omega), Option.bind_some, begins_one hr hs 46 (by decide) 46 (by decide), Option.bind_some]
  obtain ⟨k, rfl⟩ : ∃ m, k = m + 1 := ⟨k - 1, by omega⟩
  have j1' := j1 k (by omega)
  generalize u.dropWhile dig = r at hr l1 j1'
  by_cases c1 : [46].isPrefixOf r = true
  · rw [if_pos c1]
    obtain ⟨t, rfl⟩ := (pre_one _ _).1 c1
    have h0 := hr.nonneg
    have h1 := hr.le
    simp only [List.length_cons] at l1
    rw [w64 (by omega) (by omega), ← P_low hr (by decide), rdigit_at hr.cons, Option.bind_some]
    simp only [chiselref14_number.j0]
    rw [frac_cons] at j1'
    by_cases hd : t.takeWhile dig ≠ []
    · rw [if_pos ⟨rfl, hd⟩] at j1'
      rw [if_pos (by simpa using hd), w64 (by omega) (by omega), ← P_low hr (by decide), rdigits_at hs t k hr.cons (by omega), Option.bind_some]
      exact j1'
    · rw [if_neg (fun h => hd h.2)] at j1'
      rw [if_neg (by simpa using hd)]
      exact j1'
  · rw [if_neg c1]
    simp only [chiselref14_number.j0]
    rw [if_neg (by simp)]
    have : frac r = ([], r) := by
      cases r with
      | nil => rfl
      | cons a t => rw [frac_cons, if_neg (fun h => c1 ((pre_one _ _).2 ⟨t, by rw [h.1]⟩))]
    rw [this] at j1'
    exact j1'
def isCont (b : UInt8) : Prop := 128 ≤ b.toNat ∧ b.toNat < 192
theorem rchar_b {s : ByteArray} (hs : s.size ≤ 1000000000) : ∀ (bs a rest : List UInt8) (k : Nat), 1 ≤ a.length → Rs s (a ++ (bs ++ rest)) → (∀ b ∈ bs, isCont b) → (∀ b t, rest = b :: t → ¬ isCont b) → bs.length < k →
    chiselref14_char.l0 k s (q s (a ++ (bs ++ rest))) (a.length : Int) = some (mk (a ++ bs)) := by
  intro bs
  induction bs with
  | nil =>
    intro a rest k ha h hb hr hk
    obtain ⟨k, rfl⟩ : ∃ m, k = m + 1 := ⟨k - 1, by omega⟩
    rw [List.nil_append] at h ⊢
    have h0 := h.nonneg
    have h1 := h.le
    have hq := q_app s a rest
    have hrr := h.tail
    have g1 := hrr.le
    have hx := h.ext
    simp only [chiselref14_char.l0]
    rw [w64 (by have := h.len; rw [List.length_append] at this; omega) (by have := h.len; rw [List.length_append] at this; omega), ← hq, hx]
    rw [List.append_nil]
    cases rest with
    | nil => rw [if_neg (by rw [q_nil]; omega), if_pos h0, if_pos (by omega), if_pos g1]
    | cons b t =>
      have hb2 := hr b t rfl
      rw [if_pos q_lt, if_pos hrr.nonneg, hrr.bt]
      by_cases h128 : (b.toNat : Int) ≥ 128
      · rw [if_pos h128, if_neg (by unfold isCont at hb2; omega), if_pos h0, if_pos (by omega), if_pos g1]
      · rw [if_neg h128, if_pos h0, if_pos (by omega), if_pos g1]
  | cons b bs ih =>
    intro a rest k ha h hb hr hk
    obtain ⟨k, rfl⟩ : ∃ m, k = m + 1 := ⟨k - 1, by omega⟩
    have hbc := hb b List.mem_cons_self
    have hlen := h.len
    rw [List.length_append] at hlen
    have h0 := h.nonneg
    have h1 := h.le
    have hq := q_app s a ((b :: bs) ++ rest)
    have hrr := h.tail
    have hi := ih (a ++ [b]) rest k (by simp) (by simpa using h) (fun x hx => hb x (List.mem_cons_of_mem _ hx)) hr (by simp at hk; omega)
    simp only [chiselref14_char.l0]
    rw [w64 (by omega) (by omega), ← hq]
    rw [List.cons_append] at hrr hq h h0 h1 ⊢
    unfold isCont at hbc
    rw [if_pos q_lt, if_pos hrr.nonneg, hrr.bt, if_pos (by omega), if_pos (by omega), w64 (by omega) (by omega)]
    simp only [List.append_assoc, List.singleton_append, List.length_append, List.length_cons, List.length_nil] at hi
    have e : ((a.length : Int) + 1) = ((a.length + (0 + 1) : Nat) : Int) := by omega
    rw [e]
    exact hi
theorem first_free {r : List Int} (h : r.all isChar = true) : ∀ b t, flat r = b :: t → ¬ isCont b := by
  intro b t e
  cases r with
  | nil => cases e
  | cons c r =>
    rw [List.all_cons, Bool.and_eq_true] at h
    unfold isCont
    rcases enc_form c h.1 with ⟨h0, h1, e2⟩ | ⟨hh, b2, bs, e2, hb, _⟩
    · rw [flat_cons, e2] at e
      have := low_byte h0 h1
      simp only [List.singleton_append, List.cons.injEq] at e
      rw [← e.1]; omega
    · rw [flat_cons, e2] at e
      simp only [List.cons_append, List.cons.injEq] at e
      rw [← e.1]; omega
def charOf : List Int → ByteArray
  | [] => ⟨#[]⟩
  | c :: _ => mk (enc c)
theorem rchar_at {s : ByteArray} (hs : s.size ≤ 1000000000) {u : List Int} (h : At s u) (k : Nat) (hk : 10 ≤ k) : chiselref14_char.f k s (P s u) = some (charOf u) := by
  unfold chiselref14_char.f
  cases u with
  | nil => rw [if_pos (by rw [P_nil]; omega)]; rfl
  | cons c r =>
    rw [if_neg (by have := @P_lt s c r; omega)]
    have hp := enc_pos c
    have hrs := h.1
    unfold P
    rw [flat_cons] at hrs ⊢
    rcases enc_form c h.char with ⟨h0, h1, e⟩ | ⟨hh, b, bs, e, hb, hbs⟩
    · have := rchar_b hs [] (enc c) (flat r) k (by omega) (by simpa using hrs) (by simp) (first_free h.cons.2) (by simp; omega)
      simp only [List.nil_append, List.append_nil] at this
      rw [e] at this ⊢
      simp only [charOf]
      rw [e]; exact this
    · have := rchar_b hs bs [b] (flat r) k (by simp) (by rw [e] at hrs; simpa using hrs) hbs (first_free h.cons.2) (by rw [e] at hp; simp at hp; omega)
      simp only [charOf]
      rw [e]
      simpa using this
theorem rstarts_at (u : List Int) (h : u.all isChar = true) (k : Nat) (hk : 400 ≤ k) : chiselref14_starts.f k (charOf u) = some (starts u) := by
  unfold chiselref14_starts.f
  cases u with
  | nil =>
    have e : charOf [] = encode [] := by decide +kernel
    rw [e, isName_ref _ k (by rw [encode_flat, mk_size]; simp [flat_nil]) (by rw [encode_flat, mk_size]; simp [flat_nil]; omega), Option.bind_some, isName_enc [] rfl (by simp)]
    rfl
  | cons c r =>
    rw [List.all_cons, Bool.and_eq_true] at h
    have hp := enc_pos c
    have e : charOf (c :: r) = encode [c] := by simp only [charOf]; exact enc_one c
    have hz : (encode [c]).size = (enc c).length := by rw [← enc_one, mk_size]
    rw [e, isName_ref _ k (by omega) (by omega), Option.bind_some, isName_enc [c] (by simp [h.1]) (by simp), name_one]
    rfl
def goesOn : List Int → Bool
  | [] => false
  | c :: _ => Lx.cont c
theorem rcontinues_at (u : List Int) (h : u.all isChar = true) (k : Nat) (hk : 400 ≤ k) : chiselref14_continues.f k (charOf u) = some (goesOn u) := by
  unfold chiselref14_continues.f
  cases u with
  | nil => rw [if_pos (by simp only [charOf]; rw [Lib.toList_data])]; rfl
  | cons c r =>
    rw [List.all_cons, Bool.and_eq_true] at h
    have hp := enc_pos c
    have ne : ¬ (charOf (c :: r)).toList = ([] : List UInt8) := by
      simp only [charOf]; rw [toList_mk]; intro e; rw [e] at hp; simp at hp
    have hz : (charOf (c :: r)).size = (enc c).length := by simp only [charOf]; rw [mk_size]
    have e : (⟨#[97]⟩ : ByteArray) ++ charOf (c :: r) = encode [97, c] := by
      simp only [charOf]
      rw [encode_flat, flat_cons, flat_cons, flat_nil, List.append_nil, show enc 97 = [97] from by decide, ← mk_data ((⟨#[97]⟩ : ByteArray) ++ mk (enc c))]
      simp only [ByteArray.data_append, Array.toList_append, data_mk]
    have hz2 : (encode [97, c]).size = 1 + (enc c).length := by rw [encode_flat, mk_size, flat_cons, flat_cons, flat_nil, List.append_nil, List.length_append, show (enc 97).length = 1 from by decide]
    rw [if_neg ne, if_pos (by omega), e, isName_ref _ k (by omega) (by omega), Option.bind_some, isName_enc [97, c] (by simp [h.1]; decide) (by simp), name_two]
    rfl
theorem is_colon (c : Int) (h : isChar c = true) : (mk (enc c)).toList = ([58] : List UInt8) ↔ c = 58 := by
  rw [toList_mk]
  rcases enc_form c h with ⟨h0, h1, e⟩ | ⟨hh, b, bs, e, hb, _⟩
  · rw [e]
    simp only [List.cons.injEq, and_true]
    exact_mod_cast u8_is h0 h1 58 (by decide)
  · rw [e]
    constructor
    · intro h2; simp only [List.cons.injEq] at h2; rw [h2.1] at hb; exact absurd hb (by decide)
    · intro h2; omega
theorem rname_s3 {s : ByteArray} (hs : s.size ≤ 1000000000) : ∀ (v : List Int) (k : Nat) (n : Nat), At s v → v.length + 500 < k → n + v.length ≤ 2000000000 →
    chiselref14_name.l0 k s true (P s v) (n : Int) = some (P s (v.dropWhile Lx.cont), ((n + (v.takeWhile Lx.cont).length : Nat) : Int)) := by
  intro v
  induction v with
  | nil =>
    intro k n h hk hn
    obtain ⟨k, rfl⟩ : ∃ m, k = m + 1 := ⟨k - 1, by omega⟩
    simp only [chiselref14_name.l0]
    rw [rchar_at hs h k (by omega), Option.bind_some, rcontinues_at [] rfl k (by omega), Option.bind_some, if_neg (by simp [goesOn]), if_neg (by simp only [charOf]; rw [Lib.toList_data]; simp)]
    rfl
  | cons c v ih =>
    intro k n h hk hn
    obtain ⟨k, rfl⟩ : ∃ m, k = m + 1 := ⟨k - 1, by omega⟩
    simp only [List.length_cons] at hk hn
    have hp := enc_pos c
    have h0 := h.nonneg
    have h1 := h.cons.le
    have hpa := P_app s [c] v
    have hcz : ((charOf (c :: v)).size : Int) = (flat [c]).length := by simp only [charOf]; rw [mk_size, flat_cons, flat_nil, List.append_nil]
    simp only [chiselref14_name.l0]
    rw [rchar_at hs h k (by omega), Option.bind_some, rcontinues_at (c :: v) h.2 k (by omega), Option.bind_some]
    cases hc : Lx.cont c with
    | true =>
      have t1 : (c :: v).dropWhile Lx.cont = v.dropWhile Lx.cont := by rw [List.dropWhile_cons, if_pos hc]
      have t2 : (c :: v).takeWhile Lx.cont = c :: v.takeWhile Lx.cont := by rw [List.takeWhile_cons, if_pos hc]
      rw [if_pos (by simp [goesOn, hc]), hcz, w64 (by simp at hpa; omega) (by simp at hpa; omega), w64 (by omega) (by omega)]
      have e1 : P s (c :: v) + ((flat [c]).length : Int) = P s v := by rw [List.singleton_append] at hpa; omega
      rw [e1, t1, t2]
      have := ih k (n + 1) h.cons (by omega) (by omega)
      rw [show ((n : Int) + 1) = ((n + 1 : Nat) : Int) by omega, this]
      congr 3
      simp; omega
    | false =>
      have t1 : (c :: v).dropWhile Lx.cont = c :: v := by rw [List.dropWhile_cons, if_neg (by simp [hc])]
      have t2 : (c :: v).takeWhile Lx.cont = [] := by rw [List.takeWhile_cons, if_neg (by simp [hc])]
      rw [if_neg (by simp [goesOn, hc]), t1, t2]
      by_cases h58 : (charOf (c :: v)).toList = ([58] : List UInt8)
      · rw [if_pos h58, if_pos True.intro]; rfl
      · rw [if_neg h58]; rfl
theorem rname_s1 {s : ByteArray} (hs : s.size ≤ 1000000000) : ∀ (v : List Int) (k : Nat) (n : Nat), At s v → v.length + 600 < k → n + v.length ≤ 2000000000 →
    chiselref14_name.l0 k s false (P s v) (n : Int) = some (P s (colon (v.dropWhile Lx.cont)).2, ((n + ((v.takeWhile Lx.cont).length + (colon (v.dropWhile Lx.cont)).1.length) : Nat) : Int)) := by
  intro v
  induction v with
  | nil =>
    intro k n h hk hn
    obtain ⟨k, rfl⟩ : ∃ m, k = m + 1 := ⟨k - 1, by omega⟩
    simp only [chiselref14_name.l0]
    rw [rchar_at hs h k (by omega), Option.bind_some, rcontinues_at [] rfl k (by omega), Option.bind_some, if_neg (by simp [goesOn]), if_neg (by simp only [charOf]; rw [Lib.toList_data]; simp)]
    rfl
  | cons c v ih =>
    intro k n h hk hn
    obtain ⟨k, rfl⟩ : ∃ m, k = m + 1 := ⟨k - 1, by omega⟩
    simp only [List.length_cons] at hk hn
    have hp := enc_pos c
    have h0 := h.nonneg
    have h1 := h.cons.le
    have hpa := P_app s [c] v
    have hcz : ((charOf (c :: v)).size : Int) = (flat [c]).length := by simp only [charOf]; rw [mk_size, flat_cons, flat_nil, List.append_nil]
    simp only [chiselref14_name.l0]
    rw [rchar_at hs h k (by omega), Option.bind_some, rcontinues_at (c :: v) h.2 k (by omega), Option.bind_some]
    cases hc : Lx.cont c with
    | true =>
      have t1 : (c :: v).dropWhile Lx.cont = v.dropWhile Lx.cont := by rw [List.dropWhile_cons, if_pos hc]
      have t2 : (c :: v).takeWhile Lx.cont = c :: v.takeWhile Lx.cont := by rw [List.takeWhile_cons, if_pos hc]
      rw [if_pos (by simp [goesOn, hc]), hcz, w64 (by simp at hpa; omega) (by simp at hpa; omega), w64 (by omega) (by omega)]
      have e1 : P s (c :: v) + ((flat [c]).length : Int) = P s v := by rw [List.singleton_append] at hpa; omega
      rw [e1, t1, t2]
      have := ih k (n + 1) h.cons (by omega) (by omega)
      rw [show ((n : Int) + 1) = ((n + 1 : Nat) : Int) by omega, this]
      congr 3
      simp; omega
    | false =>
      have t1 : (c :: v).dropWhile Lx.cont = c :: v := by rw [List.dropWhile_cons, if_neg (by simp [hc])]
      have t2 : (c :: v).takeWhile Lx.cont = [] := by rw [List.takeWhile_cons, if_neg (by simp [hc])]
      rw [if_neg (by simp [goesOn, hc]), t1, t2]
      by_cases h58 : c = 58
      · have h58' : (charOf (c :: v)).toList = ([58] : List UInt8) := (is_colon c h.char).2 h58
        rw [if_pos h58', if_neg (by simp)]
        subst h58
        rw [w64 (by omega) (by have := h.le; omega), ← P_low h (by decide), rchar_at hs h.cons k (by omega), Option.bind_some, rstarts_at v h.cons.2 k (by omega), Option.bind_some]
        cases v with
        | nil => rw [if_neg (by simp [starts])]; rfl
        | cons d t =>
          cases hd : lett d with
          | true =>
            have hct : colon (58 :: d :: t) = (58 :: d :: t.takeWhile Lx.cont, t.dropWhile Lx.cont) := by rw [colon, if_pos ⟨rfl, hd⟩]
            have hcd : Lx.cont d = true := by unfold Lx.cont; rw [hd]; rfl
            have t3 : (d :: t).dropWhile Lx.cont = t.dropWhile Lx.cont := by rw [List.dropWhile_cons, if_pos hcd]
            have t4 : (d :: t).takeWhile Lx.cont = d :: t.takeWhile Lx.cont := by rw [List.takeWhile_cons, if_pos hcd]
            have := rname_s3 hs (d :: t) k (n + 1) h.cons (by omega) (by omega)
            rw [t3, t4] at this
            rw [if_pos (by simp [starts, hd]), w64 (by omega) (by omega), show ((n : Int) + 1) = ((n + 1 : Nat) : Int) by omega, this, hct]
            congr 3
            simp; omega
          | false =>
            have hct : colon (58 :: d :: t) = ([], 58 :: d :: t) := by rw [colon, if_neg (by simp [hd])]
            rw [if_neg (by simp [starts, hd]), hct]; rfl
      · have h58' : ¬ (charOf (c :: v)).toList = ([58] : List UInt8) := fun e => h58 ((is_colon c h.char).1 e)
        rw [if_neg h58']
        have hcl : colon (c :: v) = ([], c :: v) := by
          cases v with
          | nil => rfl
          | cons d t => rw [colon, if_neg (fun h => h58 h.1)]
        rw [hcl]; rfl
theorem rname_at {s : ByteArray} (hs : s.size ≤ 1000000000) {u : List Int} (h : At s u) (k : Nat) (hk : u.length + 600 < k) :
    chiselref14_name.f k s (P s u) = some (P s (nam u).2, ((nam u).1.length : Int)) := by
  have hlen := (flat_len u).1
  have hl2 := h.1.len
  unfold chiselref14_name.f
  rw [rchar_at hs h k (by omega), Option.bind_some, rstarts_at u h.2 k (by omega), Option.bind_some]
  cases u with
  | nil => rw [if_neg (by simp [starts])]; rfl
  | cons c r =>
    show (if lett c = true then chiselref14_name.l0 k s false (P s (c :: r)) 0 else some (P s (c :: r), 0)) = _
    cases hl : lett c with
    | false =>
      have hnam : nam (c :: r) = ([], c :: r) := by rw [nam_cons, if_neg (by simp [hl])]
      rw [if_neg (by simp), hnam]; rfl
    | true =>
      have hcd : Lx.cont c = true := by unfold Lx.cont; rw [hl]; rfl
      have t3 : (c :: r).dropWhile Lx.cont = r.dropWhile Lx.cont := by rw [List.dropWhile_cons, if_pos hcd]
      have t4 : (c :: r).takeWhile Lx.cont = c :: r.takeWhile Lx.cont := by rw [List.takeWhile_cons, if_pos hcd]
      have hnam : nam (c :: r) = (c :: (r.takeWhile Lx.cont ++ (colon (r.dropWhile Lx.cont)).1), (colon (r.dropWhile Lx.cont)).2) := by rw [nam_cons, if_pos hl]
      have := rname_s1 hs (c :: r) k 0 h hk (by omega)
      rw [t3, t4] at this
      rw [if_pos rfl, show (0 : Int) = ((0 : Nat) : Int) from rfl, this, hnam]
      congr 3
      simp; omega
end Go.Proofs.YtmpenkinheneoaaDoor.Plain
