/- Texts of the claim: LxG. -/
import Derived.Test.YtmpenkinheneoaaDoorKLxE
import Derived.Test.YtmpenkinheneoaaDoorKQx19
namespace Go.Proofs.YtmpenkinheneoaaDoor.Plain
set_option linter.unusedVariables false
open Go Go.RowKit Go.Proofs.YtmpenkinheneoaaDoor.HPure Go.Proofs.YtmpenkinheneoaaDoor.Q Go.Proofs.YtmpenkinheneoaaDoor.Lx Go.Proofs.YtmpenkinheneoaaDoorW.PrintWords Go.Proofs.YtmpenkinheneoaaDoorW.PrintLast Go.Proofs.YtmpenkinheneoaaDoorW.PrintMore
theorem P_inj {s : ByteArray} {a r : List Int} (h : P s (a ++ r) = P s r) : a = [] := by
  have h1 := P_app s a r
  have h2 := flat_len a
  cases a with
  | nil => rfl
  | cons c a => simp only [List.length_cons] at h2; omega
theorem P_more {s : ByteArray} {a r : List Int} (h : a ≠ []) : P s r > P s (a ++ r) := by
  have h1 := P_app s a r
  have h2 := flat_len a
  have h3 := List.length_pos_iff.mpr h
  omega
theorem At.all {s : ByteArray} {u : List Int} (h : At s u) : ∀ c ∈ u, isChar c = true := by
  have := h.2
  rw [List.all_eq_true] at this
  exact this
theorem At.app_all {s : ByteArray} {a u : List Int} (h : At s (a ++ u)) : a.all isChar = true := by
  have := h.2
  rw [List.all_append, Bool.and_eq_true] at this
  exact this.1
theorem At.suf {s : ByteArray} {u v : List Int} (h : At s u) (e : ∃ a, u = a ++ v) : At s v := by
  obtain ⟨a, rfl⟩ := e; exact h.tail
theorem drop_suf (p : Int → Bool) (u : List Int) : u = u.takeWhile p ++ u.dropWhile p := List.takeWhile_append_dropWhile.symm
theorem At.drop {s : ByteArray} {u : List Int} (p : Int → Bool) (h : At s u) : At s (u.dropWhile p) := h.suf ⟨_, drop_suf p u⟩
theorem pre_one (x : Int) (u : List Int) : [x].isPrefixOf u = true ↔ ∃ r, u = x :: r := by
  rw [pre_iff]
  exact ⟨fun ⟨t, h⟩ => ⟨t, h⟩, fun ⟨t, h⟩ => ⟨t, h⟩⟩
theorem lit1 (b : Int) (x : UInt8) (h : b.toNat.toUInt8 = x) : (⟨#[x]⟩ : ByteArray) = asc [b] := by unfold asc; simp only [List.map_cons, List.map_nil, h]; rfl
theorem has_one {s : ByteArray} {u : List Int} (h : At s u) (b : Int) (hb : 0 ≤ b ∧ b < 128) (x : UInt8) (hx : b.toNat.toUInt8 = x) : lex_reader_has.f s (P s u) (⟨#[x]⟩ : ByteArray) = some ([b].isPrefixOf u, s, P s u) := by
  rw [lit1 b x hx, has_at h [b] (fun c hc => by simp at hc; subst hc; exact hb) (by simp)]
theorem digits_f {s : ByteArray} (hs : s.size ≤ 1000000000) {u : List Int} (h : At s u) (k : Nat) (hk : u.length < k) : lex_reader_digits.f k s (P s u) = some (decide (u.takeWhile dig ≠ []), s, P s (u.dropWhile dig)) := by
  unfold lex_reader_digits.f
  rw [digits_at hs _ u k h hk]
  have e := drop_suf dig u
  have : decide (P s (u.dropWhile dig) > P s u) = decide (u.takeWhile dig ≠ []) := by
    rw [decide_eq_decide]
    constructor
    · intro hp hn
      rw [hn, List.nil_append] at e
      rw [← e] at hp; omega
    · intro hn
      have := P_more (s := s) (r := u.dropWhile dig) hn
      rw [← e] at this; exact this
  rw [this]
theorem len_suf {a u v : List Int} (h : u = a ++ v) : v.length ≤ u.length := by rw [h, List.length_append]; omega
theorem fEnd_at {s : ByteArray} (hs : s.size ≤ 1000000000) {u : List Int} (h : At s u) (k : Nat) (hk : u.length < k) : lex_reader_number.fEnd k s (P s u) = some (P s (frac (u.dropWhile dig)).2) := by
  unfold lex_reader_number.fEnd
  have hr := h.drop dig
  have hlen := len_suf (drop_suf dig u)
  rw [digits_f hs h k hk, Option.bind_some]
  simp only
  rw [has_one hr 46 (by decide) 46 (by decide), Option.bind_some]
  simp only
  generalize u.dropWhile dig = r at hr hlen
  cases r with
  | nil => rw [if_neg (by simp [List.isPrefixOf])]; rfl
  | cons c r =>
    by_cases hc : c = 46
    · subst hc
      rw [if_pos ((pre_one _ _).2 ⟨r, rfl⟩), frac_cons, w64 (by have := hr.nonneg; omega) (by have := hr.le; omega), ← P_low hr (by decide)]
      rw [digits_f hs hr.cons k (by simp at hlen; omega), Option.bind_some]
      simp only
      by_cases hd : r.takeWhile dig ≠ []
      · rw [if_pos (by simpa using hd), if_pos ⟨by trivial, hd⟩]
      · rw [if_neg (by simpa using hd), if_neg (fun h => hd h.2)]
    · rw [if_neg (fun h => hc (by obtain ⟨r', e⟩ := (pre_one _ _).1 h; exact (List.cons.inj e).1)), frac_cons, if_neg (fun h => hc h.1)]
theorem fSign_at {s : ByteArray} (hs : s.size ≤ 1000000000) {r : List Int} (h : At s r) : lex_reader_number.fSign s (P s r) = some (P s (psign r).2) := by
  unfold lex_reader_number.fSign
  have h0 := h.nonneg
  have h1 := h.le
  rw [has_one h 43 (by decide) 43 (by decide), Option.bind_some]
  simp only
  by_cases c1 : [43].isPrefixOf r = true
  · obtain ⟨t, rfl⟩ := (pre_one _ _).1 c1
    rw [if_pos c1, psign_cons, if_pos (.inl rfl), w64 (by omega) (by omega), ← P_low h (by decide)]
  · rw [if_neg c1, has_one h 45 (by decide) 45 (by decide), Option.bind_some]
    simp only
    by_cases c2 : [45].isPrefixOf r = true
    · obtain ⟨t, rfl⟩ := (pre_one _ _).1 c2
      rw [if_pos c2, psign_cons, if_pos (.inr rfl), w64 (by omega) (by omega), ← P_low h (by decide)]
    · rw [if_neg c2]
      cases r with
      | nil => rfl
      | cons c t =>
        rw [psign_cons, if_neg]
        rintro (rfl | rfl)
        · exact c1 ((pre_one _ _).2 ⟨t, rfl⟩)
        · exact c2 ((pre_one _ _).2 ⟨t, rfl⟩)
def isE : List Int → Bool
  | [] => false
  | c :: _ => c == 101 || c == 69
theorem fExp_at {s : ByteArray} (hs : s.size ≤ 1000000000) {r : List Int} (h : At s r) (k : Nat) (hk : r.length < k) : lex_reader_number.fExp k s (P s r) = some (P s (expo r).2) := by
  unfold lex_reader_number.fExp
  have h0 := h.nonneg
  have h1 := h.le
  rw [has_one h 101 (by decide) 101 (by decide), Option.bind_some]
  simp only
  have key : ((if [101].isPrefixOf r = true then some true else (lex_reader_has.f s (P s r) (⟨#[69]⟩ : ByteArray)).bind fun b => some b.1) : Option Bool) = some (isE r) := by
    by_cases c1 : [101].isPrefixOf r = true
    · obtain ⟨t, rfl⟩ := (pre_one _ _).1 c1
      rw [if_pos c1]; rfl
    · rw [if_neg c1, has_one h 69 (by decide) 69 (by decide), Option.bind_some]
      simp only [Option.some.injEq]
      cases r with
      | nil => rfl
      | cons c t =>
        have h101 : ¬ c = 101 := fun e => c1 ((pre_one _ _).2 ⟨t, by rw [e]⟩)
        simp only [isE, List.isPrefixOf, Bool.and_true]
        rw [Bool.eq_iff_iff]
        simp only [beq_iff_eq, Bool.or_eq_true]
        omega
  rw [key, Option.bind_some]
  cases r with
  | nil => rfl
  | cons c t =>
    rw [expo_cons]
    by_cases hc : c = 101 ∨ c = 69
    · rw [if_pos (by simp only [isE, Bool.or_eq_true, beq_iff_eq]; exact hc)]
      have hlow : c < 128 := by omega
      rw [w64 (by omega) (by omega), ← P_low h hlow, fSign_at hs h.cons, Option.bind_some]
      have hps := h.cons.suf ⟨_, psign_splits t⟩
      have hl := len_suf (psign_splits t)
      rw [digits_f hs hps k (by simp at hk; omega), Option.bind_some]
      simp only
      by_cases hd : (psign t).2.takeWhile dig ≠ []
      · rw [if_pos (by simpa using hd), if_pos ⟨hc, hd⟩]
      · rw [if_neg (by simpa using hd), if_neg (fun h => hd h.2)]
    · rw [if_neg (by simp only [isE, Bool.or_eq_true, beq_iff_eq]; exact hc), if_neg (fun h => hc h.1)]
theorem first_dec {s : ByteArray} {c : Int} {r : List Int} (h : At s (c :: r)) : ((Lib.decodeGo (s.extract (P s (c :: r)).toNat s.size)).1 : Int) = c := by
  have hp := enc_pos c
  have e : s.extract (P s (c :: r)).toNat s.size = mk (flat (c :: r)) := h.1.ext_end
  rw [e]
  unfold Lib.decodeGo
  rw [if_neg (by rw [mk_size, flat_cons, List.length_append]; omega)]
  have := (dec_at [] (flat r) c h.char).1
  simp only [List.nil_append, List.length_nil] at this
  rw [flat_cons, this]
  exact char_nat h.char
theorem number_at {s : ByteArray} (hs : s.size ≤ 1000000000) {u : List Int} (h : At s u) (k : Nat) (hk : u.length < k) :
    lex_reader_number.f k s (P s u) = some (if (num u).1 = [] then .ok (false, P s u) else if starts (num u).2 = true then .error (P s (num u).2) else .ok (true, P s (num u).2)) := by
  unfold lex_reader_number.f
  have hr := h.drop dig
  have e1 := drop_suf dig u
  have e2 := (frac_splits (u.dropWhile dig)).1
  have e3 := (expo_splits (frac (u.dropWhile dig)).2).1
  have hf := hr.suf ⟨_, e2⟩
  have hx := hf.suf ⟨_, e3⟩
  have l1 := len_suf e1
  have l2 := len_suf e2
  rw [fEnd_at hs h k hk, Option.bind_some]
  have hn : P s (frac (u.dropWhile dig)).2 = P s u ↔ (u.takeWhile dig = [] ∧ (frac (u.dropWhile dig)).1 = []) := by
    constructor
    · intro e
      have e4 : u = (u.takeWhile dig ++ (frac (u.dropWhile dig)).1) ++ (frac (u.dropWhile dig)).2 := by rw [List.append_assoc, ← e2, ← e1]
      have := P_inj (s := s) (a := u.takeWhile dig ++ (frac (u.dropWhile dig)).1) (r := (frac (u.dropWhile dig)).2) (by rw [← e4]; exact e.symm)
      exact List.append_eq_nil_iff.mp this
    · rintro ⟨a, b⟩
      rw [b, List.nil_append] at e2
      rw [a, List.nil_append] at e1
      rw [← e2, ← e1]
  unfold num
  by_cases hc : u.takeWhile dig = [] ∧ (frac (u.dropWhile dig)).1 = []
  · rw [if_pos (hn.2 hc), if_pos hc, if_pos rfl, hn.2 hc]
  · rw [if_neg (fun e => hc (hn.1 e)), if_neg hc]
    simp only
    rw [if_neg (by simp only [List.append_eq_nil_iff]; rintro ⟨a, b, _⟩; exact hc ⟨a, b⟩), fExp_at hs hf k (by omega), Option.bind_some, if_pos hx.nonneg, if_pos hx.le]
    generalize (expo (frac (u.dropWhile dig)).2).2 = r at hx
    cases r with
    | nil => rw [if_neg (by rw [P_nil]; omega)]; rfl
    | cons c r =>
      rw [if_pos P_lt, first_dec hx, starts_f k (by omega) hx.char, Option.bind_some]
      show (if lett c = true then some (Except.error _) else some (Except.ok _)) = some (if lett c = true then Except.error _ else Except.ok _)
      by_cases hl : lett c = true
      · rw [if_pos hl, if_pos hl]
      · rw [if_neg hl, if_neg hl]
theorem fin_no (p x : Int) (n : Nat) (c : Int) (h : c ≠ (n : Int) - 1) : lex_reader_name.fin p (some (x, n, c)) = if n ≤ 100 then .ok (true, x) else .error p := by
  simp only [lex_reader_name.fin, if_neg h]
  by_cases h1 : n ≤ 100
  · rw [if_pos h1, if_pos (by omega)]
  · rw [if_neg h1, if_neg (by omega)]
theorem fin_yes (p x : Int) (n : Nat) (c : Int) (h : c = (n : Int) - 1) : lex_reader_name.fin p (some (x, n, c)) = if n ≤ 101 then .ok (true, x - 1) else .error p := by
  simp only [lex_reader_name.fin, if_pos h]
  by_cases h1 : n ≤ 101
  · rw [if_pos h1, if_pos (by omega)]
  · rw [if_neg h1, if_neg (by omega)]
theorem name_dec {u pre v : List Int} {c : Int} (hu : u.all isChar = true) (e : u = pre ++ c :: v) : (flat pre).length < (mk (flat u)).size ∧ Utf8.decode (mk (flat u)) (flat pre).length = (c.toNat, (enc c).length) ∧ (flat pre).length + (enc c).length = (flat (pre ++ [c])).length ∧ isChar c = true := by
  subst e
  have hc : isChar c = true := by rw [List.all_eq_true] at hu; exact hu c (by simp)
  have hp := enc_pos c
  refine ⟨?_, ?_, ?_, hc⟩
  · rw [mk_size, flat_append, flat_cons, List.length_append, List.length_append]; omega
  · rw [flat_append, flat_cons]; exact (dec_at (flat pre) (flat v) c hc).1
  · rw [flat_append, flat_cons, flat_nil, List.append_nil, List.length_append]
theorem name_end {u pre : List Int} (e : u = pre ++ []) : ¬ (flat pre).length < (mk (flat u)).size := by rw [e, List.append_nil, mk_size]; omega
section
variable (k : Nat) (z p : Int) (u : List Int) (hk : 1 ≤ k) (hu : u.all isChar = true) (hz : z = p + (flat u).length)
include hk hu hz
theorem name_s3 : ∀ (v pre : List Int) (f n : Nat) (c : Int), u = pre ++ v → v.length < f → 0 ≤ c → c < (n : Int) - 1 →
    ∃ m : Nat, lex_reader_name.l0 f k (mk (flat u)) z p (flat pre).length n c = some (some (z - (flat (v.dropWhile Lx.cont)).length, m, c)) ∧ m = n + (v.takeWhile Lx.cont).length := by
  intro v
  induction v with
  | nil =>
    intro pre f n c e hf hc hcn
    obtain ⟨f, rfl⟩ : ∃ m, f = m + 1 := ⟨f - 1, by omega⟩
    refine ⟨n, ?_, rfl⟩
    simp only [lex_reader_name.l0]
    rw [if_neg (name_end e), if_neg (by omega)]
    simp [flat_nil]
  | cons x v ih =>
    intro pre f n c e hf hc hcn
    obtain ⟨f, rfl⟩ : ∃ m, f = m + 1 := ⟨f - 1, by omega⟩
    obtain ⟨d1, d2, d3, d4⟩ := name_dec hu e
    simp only [lex_reader_name.l0]
    rw [if_pos d1, if_neg (by omega), d2]
    simp only
    rw [char_nat d4, continues_f k hk d4, Option.bind_some]
    cases hx : Lx.cont x with
    | true =>
      rw [if_pos ⟨rfl, by omega⟩, Option.bind_some, if_pos rfl, d3]
      obtain ⟨m, h1, h2⟩ := ih (pre ++ [x]) f (n + 1) c (by rw [e]; simp) (by simp at hf; omega) hc (by omega)
      refine ⟨m, ?_, ?_⟩
      · rw [h1, List.dropWhile_cons, if_pos hx]
      · rw [h2, List.takeWhile_cons, if_pos hx]; simp; omega
    | false =>
      rw [if_neg (by simp), if_neg (by omega), Option.bind_some, if_neg (by simp), if_neg (by omega)]
      refine ⟨n, ?_, by rw [List.takeWhile_cons, if_neg (by simp [hx])]; simp⟩
      rw [List.dropWhile_cons, if_neg (by simp [hx])]
      have : (flat u).length = (flat pre).length + (flat (x :: v)).length := by rw [e, flat_append, List.length_append]
      congr 3; omega
theorem name_s1 : ∀ (v pre : List Int) (f n : Nat), u = pre ++ v → v.length < f → 1 ≤ n →
    ∃ y, lex_reader_name.l0 f k (mk (flat u)) z p (flat pre).length n (-1) = some (some y) ∧
      lex_reader_name.fin p (some y) = if n + ((v.takeWhile Lx.cont).length + (colon (v.dropWhile Lx.cont)).1.length) ≤ 100 then .ok (true, z - (flat (colon (v.dropWhile Lx.cont)).2).length) else .error p := by
  intro v
  induction v with
  | nil =>
    intro pre f n e hf hn
    obtain ⟨f, rfl⟩ : ∃ m, f = m + 1 := ⟨f - 1, by omega⟩
    refine ⟨(z, n, -1), ?_, ?_⟩
    · simp only [lex_reader_name.l0]
      rw [if_neg (name_end e), if_neg (by omega)]
    · rw [fin_no _ _ _ _ (by omega)]
      show (if n ≤ 100 then Except.ok (true, z) else Except.error p) = if n + (0 + 0) ≤ 100 then Except.ok (true, z - ((0 : Nat) : Int)) else Except.error p
      by_cases h : n ≤ 100
      · rw [if_pos h, if_pos (by omega)]; simp
      · rw [if_neg h, if_neg (by omega)]
  | cons x v ih =>
    intro pre f n e hf hn
    obtain ⟨f, rfl⟩ : ∃ m, f = m + 1 := ⟨f - 1, by omega⟩
    obtain ⟨d1, d2, d3, d4⟩ := name_dec hu e
    have hlen : (flat u).length = (flat pre).length + (flat (x :: v)).length := by rw [e, flat_append, List.length_append]
    simp only [lex_reader_name.l0]
    rw [if_pos d1, if_neg (by omega), d2]
    simp only
    rw [char_nat d4, continues_f k hk d4, Option.bind_some]
    cases hx : Lx.cont x with
    | true =>
      rw [if_pos ⟨rfl, by omega⟩, Option.bind_some, if_pos rfl, d3]
      obtain ⟨y, h1, h2⟩ := ih (pre ++ [x]) f (n + 1) (by rw [e]; simp) (by simp at hf; omega) (by omega)
      refine ⟨y, h1, ?_⟩
      rw [h2, List.dropWhile_cons, if_pos hx, List.takeWhile_cons, if_pos hx]
      have : n + 1 + ((v.takeWhile Lx.cont).length + (colon (v.dropWhile Lx.cont)).1.length) = n + ((x :: v.takeWhile Lx.cont).length + (colon (v.dropWhile Lx.cont)).1.length) := by simp; omega
      rw [this]
    | false =>
      have t1 : (x :: v).dropWhile Lx.cont = x :: v := by rw [List.dropWhile_cons, if_neg (by simp [hx])]
      have t2 : (x :: v).takeWhile Lx.cont = [] := by rw [List.takeWhile_cons, if_neg (by simp [hx])]
      rw [if_neg (by simp), if_neg (by omega), Option.bind_some, if_neg (by simp), t1, t2]
      by_cases h58 : x = 58
      · subst h58
        rw [if_pos ⟨rfl, by omega⟩, d3]
        have e2 : u = (pre ++ [58]) ++ v := by rw [e]; simp
        have hcl : ∀ w : List Int, (∀ d t, w = d :: t → lett d = false) → colon (58 :: w) = ([], 58 :: w) := by
          intro w hw
          cases w with
          | nil => rfl
          | cons d t => rw [colon, if_neg]; rintro ⟨_, hd⟩; rw [hw d t rfl] at hd; cases hd
        have enc58 : (enc 58).length = 1 := by decide
        have hl58 : (flat (58 :: v)).length = 1 + (flat v).length := by rw [flat_cons, List.length_append, enc58]
        cases v with
        | nil =>
          obtain ⟨f, rfl⟩ : ∃ m, f = m + 1 := ⟨f - 1, by simp at hf; omega⟩
          refine ⟨(z, n + 1, (n : Int)), ?_, ?_⟩
          · simp only [lex_reader_name.l0]
            rw [if_neg (name_end e2), if_neg (by omega)]
          · rw [hcl [] (fun d t h => by cases h)]
            rw [fin_yes _ _ _ _ (by omega)]
            simp only [List.length_nil]
            by_cases h : n ≤ 100
            · rw [if_pos (by omega), if_pos (by omega), hl58, flat_nil]
              simp
            · rw [if_neg (by omega), if_neg (by omega)]
        | cons d t =>
          obtain ⟨f, rfl⟩ : ∃ m, f = m + 1 := ⟨f - 1, by simp at hf; omega⟩
          obtain ⟨g1, g2, g3, g4⟩ := name_dec hu e2
          simp only [lex_reader_name.l0]
          rw [if_pos g1, if_neg (by omega), g2]
          simp only
          rw [char_nat g4, continues_f k hk g4, Option.bind_some, if_neg (by omega), if_pos (by omega), starts_f k hk g4, Option.bind_some]
          cases hd : lett d with
          | true =>
            rw [if_pos rfl, g3]
            obtain ⟨m, h1, h2⟩ := name_s3 k z p u hk hu hz t (pre ++ [58] ++ [d]) f (n + 1 + 1) (n : Int) (by rw [e2]; simp) (by simp at hf; omega) (by omega) (by omega)
            refine ⟨_, h1, ?_⟩
            have hct : colon (58 :: d :: t) = (58 :: d :: t.takeWhile Lx.cont, t.dropWhile Lx.cont) := by rw [colon, if_pos ⟨rfl, hd⟩]
            rw [hct, fin_no _ _ _ _ (by omega)]
            simp only [List.length_nil, List.length_cons]
            by_cases h : m ≤ 100
            · rw [if_pos h, if_pos (by omega)]
            · rw [if_neg h, if_neg (by omega)]
          | false =>
            rw [if_neg (by simp), if_neg (by omega)]
            refine ⟨_, rfl, ?_⟩
            rw [hcl (d :: t) (fun d' t' h => by cases h; exact hd)]
            rw [fin_yes _ _ _ _ (by omega)]
            simp only [List.length_nil]
            have hl2 : (flat u).length = (flat (pre ++ [58])).length + (flat (d :: t)).length := by rw [e2, flat_append, List.length_append]
            by_cases h : n ≤ 100
            · rw [if_pos (by omega), if_pos (by omega)]
              congr 2; omega
            · rw [if_neg (by omega), if_neg (by omega)]
      · rw [if_neg (fun h => h58 h.1)]
        refine ⟨_, rfl, ?_⟩
        have hcl : colon (x :: v) = ([], x :: v) := by
          cases v with
          | nil => rfl
          | cons d t => rw [colon, if_neg (fun h => h58 h.1)]
        rw [hcl]
        rw [fin_no _ _ _ _ (by omega)]
        simp only [List.length_nil]
        by_cases h : n ≤ 100
        · rw [if_pos (by omega), if_pos (by omega)]
          congr 2; omega
        · rw [if_neg (by omega), if_neg (by omega)]
end
theorem name_at {s : ByteArray} (hs : s.size ≤ 1000000000) {u : List Int} (h : At s u) (k : Nat) (hk : 1 ≤ k) :
    lex_reader_name.f k s (P s u) = some (if (nam u).1 = [] then .ok (false, P s u) else if (nam u).1.length ≤ 100 then .ok (true, P s (nam u).2) else .error (P s u)) := by
  unfold lex_reader_name.f
  have hlu := flat_len u
  have hle := h.1.len
  have hz : (s.size : Int) = P s u + (flat u).length := by unfold P q; omega
  have e : s.extract (P s u).toNat s.size = mk (flat u) := h.1.ext_end
  rw [if_pos h.nonneg, if_pos h.le, if_pos hs, e]
  cases u with
  | nil =>
    simp only [lex_reader_name.l0]
    rw [if_neg (by rw [mk_size, flat_nil]; simp), if_pos True.intro]
    rfl
  | cons c u =>
    obtain ⟨d1, d2, d3, d4⟩ := name_dec (pre := []) h.2 rfl
    simp only [lex_reader_name.l0]
    simp only [flat_nil, List.length_nil, List.nil_append] at d1 d2 d3
    rw [if_pos d1, if_pos True.intro, d2]
    simp only
    rw [char_nat d4, starts_f k hk d4, Option.bind_some]
    cases hl : lett c with
    | false =>
      have hnam : nam (c :: u) = ([], c :: u) := by rw [nam_cons, if_neg (by simp [hl])]
      rw [hnam, if_neg (by simp)]
      show some (Except.ok (false, _)) = some (if ([] : List Int) = [] then _ else _)
      rw [if_pos rfl]
    | true =>
      have hnam : nam (c :: u) = (c :: (u.takeWhile Lx.cont ++ (colon (u.dropWhile Lx.cont)).1), (colon (u.dropWhile Lx.cont)).2) := by rw [nam_cons, if_pos hl]
      rw [hnam, if_pos rfl, d3, Nat.zero_add]
      obtain ⟨y, h1, h2⟩ := name_s1 k (s.size : Int) (P s (c :: u)) (c :: u) hk h.2 hz u [c] s.size 1 rfl (by simp at hlu; omega) (by omega)
      rw [h1, Option.bind_some, h2]
      simp only
      rw [if_neg (List.cons_ne_nil c (u.takeWhile Lx.cont ++ (colon (u.dropWhile Lx.cont)).1))]
      have : (c :: (u.takeWhile Lx.cont ++ (colon (u.dropWhile Lx.cont)).1)).length = 1 + ((u.takeWhile Lx.cont).length + (colon (u.dropWhile Lx.cont)).1.length) := by simp; omega
      rw [this]
      rfl
theorem signsB_is : signsB = signs.map asc := by decide +kernel
theorem signs_low : ∀ x ∈ signs, (∀ c ∈ x, 0 ≤ c ∧ c < 128) ∧ x.length ≤ 1000 ∧ x ≠ [] := by decide
theorem sg_at {s : ByteArray} {u : List Int} (h : At s u) : ∀ L : List (List Int), (∀ x ∈ L, (∀ c ∈ x, 0 ≤ c ∧ c < 128) ∧ x.length ≤ 1000 ∧ x ≠ []) →
    lex_reader_token.sg (L.map asc) s (P s u) = some (if find L u = [] then none else some (asc (find L u))) := by
  intro L
  induction L with
  | nil => intro _; rfl
  | cons x L ih =>
    intro hL
    obtain ⟨h1, h2, h3⟩ := hL x List.mem_cons_self
    rw [List.map_cons, lex_reader_token.sg, has_at h x h1 h2, Option.bind_some]
    by_cases hp : x.isPrefixOf u = true
    · have e : find (x :: L) u = x := by simp only [find]; rw [if_pos hp]
      rw [e, if_pos hp, if_neg h3]
    · have e : find (x :: L) u = find L u := by simp only [find]; rw [if_neg hp]
      rw [e, if_neg hp]
      exact ih (fun y hy => hL y (List.mem_cons_of_mem _ hy))
theorem find_low (u : List Int) (h : sgn u ≠ []) : (∀ c ∈ sgn u, 0 ≤ c ∧ c < 128) ∧ (sgn u).length ≤ 1000 ∧ sgn u ≠ [] := signs_low _ (find_pre signs u h).1
theorem quoted_at {s : ByteArray} (hs : s.size ≤ 1000000000) {c : Int} {r : List Int} (h : At s (c :: r)) (hl : 0 ≤ c ∧ c < 128) (k : Nat) (hk : s.size < k) :
    lex_reader_quoted.f k s (P s (c :: r)) = some ((quo c r).map fun x => (flat x.1, P s x.2)) := by
  unfold lex_reader_quoted.f
  have hlen := h.cons.1.len
  have e := low_byte hl.1 hl.2
  rw [if_pos h.nonneg, if_pos P_lt, bt_low h hl.2, w64 (by have := h.nonneg; omega) (by have := h.le; omega), ← P_low h hl.2]
  have := quoted_b hs (c.toNat.toUInt8) (flat r).length (flat r) k [] (Nat.le_refl _) h.cons.1 (by omega) (by simp; omega)
  rw [e] at this
  unfold P at *
  rw [this, quo_flat c hl.1 hl.2 r.length r (Nat.le_refl _) h.cons.2]
  cases quo c r with
  | none => rfl
  | some x => simp
theorem comment_at {s : ByteArray} (hs : s.size ≤ 1000000000) {r : List Int} (h : At s (40 :: 58 :: r)) (k : Nat) (hk : s.size < k) :
    lex_reader_comment.f k s (P s (40 :: 58 :: r)) = some ((comm 1 r).map (P s)) := by
  unfold lex_reader_comment.f
  obtain ⟨k, rfl⟩ : ∃ m, k = m + 1 := ⟨k - 1, by omega⟩
  have hlen := h.cons.cons.1.len
  have h0 := h.nonneg
  have hle := h.le
  have e1 := P_low h (by decide)
  have e2 := P_low h.cons (by decide)
  have lo : (⟨#[40, 58]⟩ : ByteArray) = asc [40, 58] := by decide +kernel
  simp only [lex_reader_comment.l0]
  rw [if_pos P_lt, lo, has_at h [40, 58] (by decide) (by decide), Option.bind_some, if_pos (by simp [List.isPrefixOf]), w64 (by omega) (by omega), w64 (by omega) (by omega)]
  rw [show P s (40 :: 58 :: r) + 2 = P s r by omega]
  have hk2 : (flat r).length < k := by
    have := h.1.len
    rw [flat_cons, flat_cons, List.length_append, List.length_append] at this
    have := enc_pos 40
    omega
  have := comment_b hs (flat r).length (flat r) k 1 (Nat.le_refl _) h.cons.cons.1 hk2 (by omega) (by omega)
  unfold P
  rw [show ((0 : Int) + 1) = ((1 : Nat) : Int) by rfl, this, comm_flat r.length r 1 (Nat.le_refl _) h.cons.cons.2]
  cases comm 1 r <;> rfl
theorem ext_at {s : ByteArray} {a r : List Int} (h : At s (a ++ r)) : s.extract (P s (a ++ r)).toNat (P s r).toNat = encode a := by
  have hh := h.1
  unfold P
  rw [flat_append] at hh ⊢
  exact hh.ext
theorem P_le_app (s : ByteArray) (a r : List Int) : P s (a ++ r) ≤ P s r := by have := P_app s a r; omega
def tkP (s : ByteArray) (k : Int) (x : List Int) (u : List Int) : S34 := ⟨k, encode x, P s u⟩
theorem token_at {s : ByteArray} (hs : s.size ≤ 1000000000) {c : Int} {r : List Int} (h : At s (c :: r)) (k : Nat) (hk : s.size < k) :
    lex_reader_token.f k s (P s (c :: r)) = some (match tok (c :: r) with | .error e => .error (P s e.1, e.2) | .ok t => .ok (tkP s t.1 t.2.1 (c :: r), P s t.2.2)) := by
  have hlu : (c :: r).length < k := by have := (flat_len (c :: r)).1; have := h.1.len; omega
  unfold lex_reader_token.f
  rw [has_one h 34 (by decide) 34 (by decide), Option.bind_some]
  simp only
  have key : ((if [34].isPrefixOf (c :: r) = true then some true else (lex_reader_has.f s (P s (c :: r)) (⟨#[39]⟩ : ByteArray)).bind fun b => some b.1) : Option Bool) = some (c == 34 || c == 39) := by
    by_cases c1 : c = 34
    · subst c1; rfl
    · rw [if_neg (fun h => c1 (by obtain ⟨t, e⟩ := (pre_one _ _).1 h; exact (List.cons.inj e).1)), has_one h 39 (by decide) 39 (by decide), Option.bind_some]
      simp only [Option.some.injEq, List.isPrefixOf, Bool.and_true]
      rw [Bool.eq_iff_iff]
      simp only [beq_iff_eq, Bool.or_eq_true]
      omega
  rw [key, Option.bind_some, tok_cons]
  by_cases hq : c = 34 ∨ c = 39
  · rw [if_pos (by simpa using hq), if_pos hq, quoted_at hs h (by omega) k hk, Option.bind_some]
    cases quo c r with
    | none => rfl
    | some x => rfl
  · rw [if_neg (by simpa using hq), if_neg hq, number_at hs h k hlu, Option.bind_some]
    obtain ⟨n1, _⟩ := num_splits (c :: r)
    by_cases hn : (num (c :: r)).1 = []
    · rw [if_pos hn, if_neg (fun h => h hn)]
      simp only
      rw [if_neg (by simp), name_at hs h k (by omega), Option.bind_some]
      obtain ⟨m1, _⟩ := nam_splits (c :: r)
      by_cases hm : (nam (c :: r)).1 = []
      · rw [if_pos hm, if_neg (fun h => h hm)]
        simp only
        rw [if_neg (by simp), signsB_is, sg_at h signs signs_low, Option.bind_some]
        by_cases hg : sgn (c :: r) = []
        · have hg' : find signs (c :: r) = [] := hg
          rw [if_pos hg', if_neg (fun h => h hg)]
        · have hg' : ¬ find signs (c :: r) = [] := hg
          rw [if_neg hg', if_pos hg]
          obtain ⟨e, _⟩ := sgn_splits (c :: r) hg
          obtain ⟨w1, w2, w3⟩ := find_low (c :: r) hg
          have hd := h.suf ⟨_, e⟩
          have hall : (sgn (c :: r)).all isChar = true := by rw [e] at h; exact h.app_all
          have hfl : flat (sgn (c :: r)) = (sgn (c :: r)).map fun c => c.toNat.toUInt8 := by
            have : ∀ x : List Int, (∀ c ∈ x, 0 ≤ c ∧ c < 128) → flat x = x.map fun c => c.toNat.toUInt8 := by
              intro x
              induction x with
              | nil => intro _; rfl
              | cons a x ih => intro hx; rw [flat_cons, enc_low (hx a List.mem_cons_self).1 (hx a List.mem_cons_self).2, ih (fun y hy => hx y (List.mem_cons_of_mem _ hy))]; rfl
            exact this _ w1
          have hp := P_app s (sgn (c :: r)) ((c :: r).drop (sgn (c :: r)).length)
          rw [← e, hfl, List.length_map] at hp
          have h0 := h.nonneg
          have h1 := hd.le
          show some (Except.ok ((⟨3, asc (sgn (c :: r)), P s (c :: r)⟩ : S34), wrap64 (P s (c :: r) + ((asc (sgn (c :: r))).size : Int)))) = some (Except.ok (tkP s 3 (sgn (c :: r)) (c :: r), P s ((c :: r).drop (sgn (c :: r)).length)))
          rw [asc_size, w64 (by omega) (by omega), ← hp]
          unfold tkP
          rw [encode_flat, hfl]; rfl
      · rw [if_neg hm, if_pos hm]
        have hd := h.suf ⟨_, m1⟩
        have he : s.extract (P s (c :: r)).toNat (P s (nam (c :: r)).2).toNat = encode (nam (c :: r)).1 := by
          have := ext_at (s := s) (a := (nam (c :: r)).1) (r := (nam (c :: r)).2) (by rw [← m1]; exact h)
          rw [← m1] at this; exact this
        have hle : P s (c :: r) ≤ P s (nam (c :: r)).2 := by
          have := P_le_app s (nam (c :: r)).1 (nam (c :: r)).2
          rw [← m1] at this; exact this
        by_cases hl : (nam (c :: r)).1.length ≤ 100
        · rw [if_pos hl, if_neg (by omega)]
          simp only
          rw [if_pos True.intro, if_pos ⟨h.nonneg, hle, hd.le⟩, he]; rfl
        · rw [if_neg hl, if_pos (by omega)]
    · rw [if_neg hn, if_pos hn]
      have hd := h.suf ⟨_, n1⟩
      have he : s.extract (P s (c :: r)).toNat (P s (num (c :: r)).2).toNat = encode (num (c :: r)).1 := by
        have := ext_at (s := s) (a := (num (c :: r)).1) (r := (num (c :: r)).2) (by rw [← n1]; exact h)
        rw [← n1] at this; exact this
      have hle : P s (c :: r) ≤ P s (num (c :: r)).2 := by
        have := P_le_app s (num (c :: r)).1 (num (c :: r)).2
        rw [← n1] at this; exact this
      by_cases hst : starts (num (c :: r)).2 = true
      · rw [if_pos hst, if_pos hst]
      · rw [if_neg hst, if_neg hst]
        simp only
        rw [if_pos True.intro, if_pos ⟨h.nonneg, hle, hd.le⟩, he]; rfl
theorem blank_byte (c : Int) (h : 0 ≤ c) (hc : c < 1114112) {s : ByteArray} {r : List Int} (ha : At s (c :: r)) : (0 ≤ Lib.indexByte [9, 10, 13, 32] (HLex.byteAt s (P s (c :: r)))) ↔ Lx.blank c = true := by
  have e : HLex.byteAt s (P s (c :: r)) = (bt s (P s (c :: r))).toNat.toUInt8 := rfl
  have key : ∀ b : UInt8, (0 ≤ Lib.indexByte [9, 10, 13, 32] b) ↔ (b = 9 ∨ b = 10 ∨ b = 13 ∨ b = 32) := by
    intro b
    simp only [Lib.indexByte]
    by_cases h1 : b = 9
    · subst h1; decide
    by_cases h2 : b = 10
    · subst h2; decide
    by_cases h3 : b = 13
    · subst h3; decide
    by_cases h4 : b = 32
    · subst h4; decide
    simp [h1, h2, h3, h4, Ne.symm h1, Ne.symm h2, Ne.symm h3, Ne.symm h4]
  rw [key]
  have hr : 0 ≤ bt s (P s (c :: r)) ∧ bt s (P s (c :: r)) < 256 := by have := bt_range s (P s (c :: r)); omega
  have hb := enc_byte _ hr
  have is : ∀ x : Nat, x < 128 → (HLex.byteAt s (P s (c :: r)) = x.toUInt8 ↔ c = (x : Int)) := by
    intro x hx
    have hx2 := low_byte (c := (x : Int)) (by omega) (by omega)
    rw [Int.toNat_natCast] at hx2
    rw [← bt_is ha (x : Int) (by omega), e]
    constructor
    · intro h; rw [h] at hb; omega
    · intro h; rw [h, Int.toNat_natCast]
  have h9 := is 9 (by decide)
  have h10 := is 10 (by decide)
  have h13 := is 13 (by decide)
  have h32 := is 32 (by decide)
  simp only [Lx.blank, Bool.or_eq_true, beq_iff_eq]
  constructor
  · rintro (h | h | h | h)
    · have := h9.1 h; omega
    · have := h10.1 h; omega
    · have := h13.1 h; omega
    · have := h32.1 h; omega
  · intro h
    rcases h with ((h | h) | h) | h
    · exact .inr (.inr (.inr (h32.2 h)))
    · exact .inl (h9.2 h)
    · exact .inr (.inl (h10.2 h))
    · exact .inr (.inr (.inl (h13.2 h)))
def outP (s : ByteArray) (acc : List S34) : Except (List Int × Int) (List Tk) → Except (Int × Int) (List S34)
  | .error e => .error (P s e.1, e.2)
  | .ok T => .ok (acc ++ T.map fun t => tkP s t.1 t.2.1 t.2.2)
theorem tokens_at {s : ByteArray} (hs : s.size ≤ 1000000000) (k : Nat) (hk : s.size < k) : ∀ (n : Nat) (u : List Int) (f : Nat) (acc : List S34), u.length ≤ n → At s u → u.length < f → acc.length + u.length ≤ 2000000000 →
    lex_Tokens.l0 f k s (P s u) acc = some (outP s acc (lx u)) := by
  intro n
  induction n with
  | zero =>
    intro u f acc hn h hf ha
    obtain ⟨f, rfl⟩ : ∃ m, f = m + 1 := ⟨f - 1, by omega⟩
    cases u with
    | cons c u => simp at hn
    | nil =>
      simp only [lex_Tokens.l0]
      rw [if_neg (by rw [P_nil]; omega), lx_nil]
      simp [outP]
  | succ n ih =>
    intro u f acc hn h hf ha
    obtain ⟨f, rfl⟩ : ∃ m, f = m + 1 := ⟨f - 1, by omega⟩
    cases u with
    | nil =>
      simp only [lex_Tokens.l0]
      rw [if_neg (by rw [P_nil]; omega), lx_nil]
      simp [outP]
    | cons c r =>
      simp only [List.length_cons] at hn hf ha
      have hc := (isChar_iff c).1 h.char
      have h0 := h.nonneg
      have h1 := h.le
      simp only [lex_Tokens.l0]
      rw [if_pos P_lt, if_pos h0]
      by_cases hb : Lx.blank c = true
      · have hlow : c < 128 := by simp only [Lx.blank, Bool.or_eq_true, beq_iff_eq] at hb; omega
        rw [if_pos ((blank_byte c (by omega) (by omega) h).2 hb), w64 (by omega) (by omega), ← P_low h hlow, lx_blank r hb]
        exact ih r f acc (by omega) h.cons (by omega) (by omega)
      · have lo : (⟨#[40, 58]⟩ : ByteArray) = asc [40, 58] := by decide +kernel
        rw [if_neg (fun e => hb ((blank_byte c (by omega) (by omega) h).1 e)), lo, has_at h [40, 58] (by decide) (by decide), Option.bind_some, lx_cons, if_neg hb]
        by_cases ho : opens (c :: r) = true
        · rw [if_pos ho]
          obtain ⟨t, e⟩ := opens_is ho
          simp only [List.cons.injEq] at e
          obtain ⟨rfl, rfl⟩ := e
          rw [if_pos (by simp [List.isPrefixOf]), comment_at hs h k hk, Option.bind_some]
          simp only [List.drop_succ_cons, List.drop_zero]
          cases hcm : comm 1 t with
          | none => rfl
          | some u =>
            have hsh := comm_short hcm
            obtain ⟨q', _, e, _⟩ := comm_splits t.length 1 t u (Nat.le_refl _) hcm
            simp only [Option.map_some]
            exact ih u f acc (by simp at hn; omega) (h.cons.cons.suf ⟨_, e⟩) (by simp at hf; omega) (by simp at ha; omega)
        · rw [if_neg ho]
          have hno : ¬ ([40, 58] : List Int).isPrefixOf (c :: r) = true := by
            intro hp
            apply ho
            obtain ⟨t, e⟩ := (pre_iff _ _).1 hp
            rw [e]; rfl
          rw [if_neg hno, if_pos (by omega), token_at hs h k hk, Option.bind_some]
          cases ht : tok (c :: r) with
          | error e => rfl
          | ok y =>
            obtain ⟨kd, x, u⟩ := y
            have hsh := tok_short ht
            obtain ⟨raw, e, _⟩ := tok_made ht
            simp only [List.length_cons] at hsh
            simp only
            rw [ih u f (acc ++ [tkP s kd x (c :: r)]) (by omega) (h.suf ⟨_, e⟩) (by omega) (by simp; omega)]
            cases lx u with
            | error e => rfl
            | ok T => simp [outP, pre]
def ansP (s : ByteArray) : List S34 × Int × Int := if isText s = true then (if s.size ≤ 1048576 then (match lx (points s) with | .error e => ([], P s e.1, e.2) | .ok T => (T.map (fun t => tkP s t.1 t.2.1 t.2.2), 0, 0)) else ([], 0, 2)) else ([], 0, 10)
theorem At.full {s : ByteArray} (h : isText s = true) : At s (points s) ∧ P s (points s) = 0 := by
  obtain ⟨h1, h2⟩ := chars_of_text s h
  have e : s.data.toList = flat (points s) := by
    have := congrArg (fun x : ByteArray => x.data.toList) h2
    rw [encode_flat, data_mk] at this
    exact this.symm
  refine ⟨⟨⟨[], by rw [← e]; rfl⟩, h1⟩, ?_⟩
  unfold P
  rw [← e]; exact q_full s
theorem tokens_f (s : ByteArray) (h : s.size ≤ 140737488355328) : lex_Tokens.f s = some (ansP s) := by
  unfold lex_Tokens.f ansP
  rw [if_pos h]
  by_cases ht : isText s = true
  · rw [if_pos ht, if_pos ht]
    by_cases hl : s.size ≤ 1048576
    · rw [if_pos (by omega), if_pos hl]
      obtain ⟨ha, hp⟩ := At.full ht
      have hlen := points_le s
      have := tokens_at (s := s) (by omega) (s.size + 10) (by omega) (points s).length (points s) (s.size + 10) [] (Nat.le_refl _) ha (by omega) (by simp; omega)
      rw [hp] at this
      rw [this, Option.bind_some]
      cases lx (points s) with
      | error e => rfl
      | ok T => simp [outP, lex_Tokens.fin]
    · rw [if_neg (by omega), if_neg hl]
  · rw [if_neg ht, if_neg ht]
end Go.Proofs.YtmpenkinheneoaaDoor.Plain
