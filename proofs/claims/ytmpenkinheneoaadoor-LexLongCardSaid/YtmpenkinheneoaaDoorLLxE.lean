/- Texts of the claim: LxE. -/
import Derived.Test.YtmpenkinheneoaaDoorLLxD
import Derived.Test.YtmpenkinheneoaaDoorLQx5
import Derived.Test.YtmpenkinheneoaaDoorLQx15
import Derived.Test.YtmpenkinheneoaaDoorLQx17
import Derived.Test.YtmpenkinheneoaaDoorLQx18
namespace Go.Proofs.YtmpenkinheneoaaDoor.Plain
set_option linter.unusedVariables false
open Go Go.RowKit Go.Proofs.YtmpenkinheneoaaDoor.HPure Go.Proofs.YtmpenkinheneoaaDoor.Q Go.Proofs.YtmpenkinheneoaaDoor.Lx Go.Proofs.YtmpenkinheneoaaDoorW.PrintWords Go.Proofs.YtmpenkinheneoaaDoorW.PrintLast Go.Proofs.YtmpenkinheneoaaDoorW.PrintMore
def commB : Nat → List UInt8 → Option (List UInt8)
  | d, c :: e :: r => if c = 40 ∧ e = 58 then commB (d + 1) r else if c = 58 ∧ e = 41 then (if d ≤ 1 then some r else commB (d - 1) r) else commB d (e :: r)
  | _, _ => none
theorem commB_two (d : Nat) (c e : UInt8) (r : List UInt8) : commB d (c :: e :: r) = if c = 40 ∧ e = 58 then commB (d + 1) r else if c = 58 ∧ e = 41 then (if d ≤ 1 then some r else commB (d - 1) r) else commB d (e :: r) := by rw [commB]
theorem commB_skip (d : Nat) (b : UInt8) (l : List UInt8) (h : b ≠ 40) (h2 : b ≠ 58) : commB d (b :: l) = commB d l := by
  cases l with
  | nil => simp [commB]
  | cons e r => rw [commB_two, if_neg (fun h' => h h'.1), if_neg (fun h' => h2 h'.1)]
theorem commB_skips (d : Nat) : ∀ (bs l : List UInt8), (∀ b ∈ bs, 128 ≤ b.toNat) → commB d (bs ++ l) = commB d l := by
  intro bs
  induction bs with
  | nil => intro l _; rfl
  | cons b bs ih =>
    intro l h
    have hb := h b List.mem_cons_self
    rw [List.cons_append, commB_skip d b _ (by intro e; rw [e] at hb; revert hb; decide) (by intro e; rw [e] at hb; revert hb; decide)]
    exact ih l (fun x hx => h x (List.mem_cons_of_mem _ hx))
theorem pre2 (a b c e : UInt8) (r : List UInt8) : [a, b].isPrefixOf (c :: e :: r) = (a == c && b == e) := by simp [List.isPrefixOf]
theorem comment_b {s : ByteArray} (hs : s.size ≤ 1000000000) : ∀ (n : Nat) (l : List UInt8) (k d : Nat), l.length ≤ n → Rs s l → l.length < k → 1 ≤ d → d + l.length ≤ 1000000001 →
    lex_reader_comment.l0 k s (q s l) (d : Int) = some ((commB d l).map (q s)) := by
  intro n
  induction n with
  | zero =>
    intro l k d hn h hk hd hdl
    obtain ⟨k, rfl⟩ : ∃ m, k = m + 1 := ⟨k - 1, by omega⟩
    cases l with
    | cons b l => simp at hn
    | nil =>
      simp only [lex_reader_comment.l0]
      rw [if_neg (by rw [q_nil]; omega)]; rfl
  | succ n ih =>
    intro l k d hn h hk hd hdl
    obtain ⟨k, rfl⟩ : ∃ m, k = m + 1 := ⟨k - 1, by omega⟩
    have h0 := h.nonneg
    have h1 := h.le
    have ho : ∀ x : ByteArray, x.size ≤ 1000 → lex_reader_has.f s (q s l) x = some (x.data.toList.isPrefixOf l, s, q s l) := fun x hx => has_b h x hx
    match l, hn, h, hk, hdl, h0, h1, ho with
    | [], _, _, _, _, _, _, _ =>
      simp only [lex_reader_comment.l0]
      rw [if_neg (by rw [q_nil]; omega)]; rfl
    | [c], _, h, hk, hdl, h0, h1, ho =>
      simp only [lex_reader_comment.l0]
      rw [if_pos q_lt, ho _ (by decide), Option.bind_some, if_neg (by simp [List.isPrefixOf]), ho _ (by decide), Option.bind_some, if_neg (by simp [List.isPrefixOf]), w64 (by omega) (by omega), ← q_cons]
      rw [ih [] k d (by simp) h.cons (by simp at hk; simp; omega) hd (by simp at hdl; simp; omega)]
      simp [commB]
    | c :: e :: r, hn, h, hk, hdl, h0, h1, ho =>
      simp only [List.length_cons] at hn hk hdl
      have e2 : q s r = q s (c :: e :: r) + 2 := by rw [q_cons s e r, q_cons s c (e :: r)]; omega
      simp only [lex_reader_comment.l0]
      rw [if_pos q_lt, ho _ (by decide), Option.bind_some, commB_two]
      have p1 : (⟨#[40, 58]⟩ : ByteArray).data.toList.isPrefixOf (c :: e :: r) = (40 == c && 58 == e) := pre2 40 58 c e r
      have p2 : (⟨#[58, 41]⟩ : ByteArray).data.toList.isPrefixOf (c :: e :: r) = (58 == c && 41 == e) := pre2 58 41 c e r
      simp only [p1]
      by_cases b1 : c = 40 ∧ e = 58
      · obtain ⟨rfl, rfl⟩ := b1
        rw [if_pos (by decide), if_pos ⟨rfl, rfl⟩, w64 (by omega) (by omega), w64 (by omega) (by omega), ← e2]
        exact_mod_cast ih r k (d + 1) (by omega) h.cons.cons (by omega) (by omega) (by omega)
      · have hb1 : (40 == c && 58 == e) = false := by
          rw [Bool.and_eq_false_iff]
          by_cases hc : c = 40
          · refine .inr ?_; rw [beq_eq_false_iff_ne]; intro he; exact b1 ⟨hc, he.symm⟩
          · refine .inl ?_; rw [beq_eq_false_iff_ne]; intro he; exact hc he.symm
        rw [if_neg (by rw [hb1]; simp), if_neg b1, ho _ (by decide), Option.bind_some]
        simp only [p2]
        by_cases b2 : c = 58 ∧ e = 41
        · obtain ⟨rfl, rfl⟩ := b2
          rw [if_pos (by decide), w64 (by omega) (by omega), w64 (by omega) (by omega), ← e2, if_pos (⟨rfl, rfl⟩ : (58 : UInt8) = 58 ∧ (41 : UInt8) = 41)]
          by_cases hd1 : d ≤ 1
          · rw [if_pos (by omega), if_pos hd1]; rfl
          · rw [if_neg (by omega), if_neg hd1]
            have := ih r k (d - 1) (by omega) h.cons.cons (by omega) (by omega) (by omega)
            rw [show ((d - 1 : Nat) : Int) = (d : Int) - 1 by omega] at this
            exact this
        · have hb2 : (58 == c && 41 == e) = false := by
            rw [Bool.and_eq_false_iff]
            by_cases hc : c = 58
            · refine .inr ?_; rw [beq_eq_false_iff_ne]; intro he; exact b2 ⟨hc, he.symm⟩
            · refine .inl ?_; rw [beq_eq_false_iff_ne]; intro he; exact hc he.symm
          rw [if_neg (by rw [hb2]; simp), if_neg b2, w64 (by omega) (by omega), ← q_cons]
          exact ih (e :: r) k d (by simp; omega) h.cons (by simp; omega) hd (by simp; omega)
theorem u8_is {c : Int} (h0 : 0 ≤ c) (h : c < 128) (x : Nat) (hx : x < 128) : c.toNat.toUInt8 = x.toUInt8 ↔ c = (x : Int) := by
  have h1 := low_byte h0 h
  have h2 := low_byte (c := (x : Int)) (by omega) (by omega)
  rw [Int.toNat_natCast] at h2
  constructor
  · intro e; rw [← h1, ← h2, e]
  · intro e; rw [e, Int.toNat_natCast]
theorem high_ne {b : UInt8} (h : 128 ≤ b.toNat) (x : Nat) (hx : x < 128) : b ≠ x.toUInt8 := by
  intro e
  have h2 := low_byte (c := (x : Int)) (by omega) (by omega)
  rw [Int.toNat_natCast] at h2
  rw [e] at h; omega
theorem comm_skip1 (d : Nat) (c : Int) (r : List Int) (h : c ≠ 40) (h2 : c ≠ 58) : comm d (c :: r) = comm d r := by
  cases r with
  | nil => simp [comm]
  | cons e r => rw [comm_two, if_neg (fun h' => h h'.1), if_neg (fun h' => h2 h'.1)]
theorem comm_flat : ∀ (n : Nat) (u : List Int) (d : Nat), u.length ≤ n → u.all isChar = true → commB d (flat u) = (comm d u).map flat := by
  intro n
  induction n with
  | zero =>
    intro u d hn hu
    cases u with
    | cons c u => simp at hn
    | nil => simp [commB, comm, flat_nil]
  | succ n ih =>
    intro u d hn hu
    cases u with
    | nil => simp [commB, comm, flat_nil]
    | cons c r =>
      simp only [List.length_cons] at hn
      rw [List.all_cons, Bool.and_eq_true] at hu
      rcases enc_form c hu.1 with ⟨h0, h1, e⟩ | ⟨hh, b, bs, e, hb, hbs⟩
      · rw [flat_cons, e, List.singleton_append]
        cases r with
        | nil => simp [commB, comm, flat_nil]
        | cons f r =>
          have hr := hu.2
          rw [List.all_cons, Bool.and_eq_true] at hr
          have hi := ih (f :: r) d (by omega) hu.2
          rcases enc_form f hr.1 with ⟨f0, f1, ef⟩ | ⟨fh, g, gs, ef, hg, hgs⟩
          · rw [flat_cons, ef, List.singleton_append] at hi ⊢
            rw [commB_two, comm_two, hi]
            have c40 := u8_is h0 h1 40 (by decide)
            have c58 := u8_is h0 h1 58 (by decide)
            have f58 := u8_is f0 f1 58 (by decide)
            have f41 := u8_is f0 f1 41 (by decide)
            have hl : r.length ≤ n := by simp at hn; omega
            by_cases x1 : c = 40 ∧ f = 58
            · rw [if_pos ⟨c40.2 (by exact_mod_cast x1.1), f58.2 (by exact_mod_cast x1.2)⟩, if_pos x1]; exact ih r (d + 1) hl hr.2
            · rw [if_neg (fun h => x1 ⟨by exact_mod_cast c40.1 h.1, by exact_mod_cast f58.1 h.2⟩), if_neg x1]
              by_cases x2 : c = 58 ∧ f = 41
              · rw [if_pos ⟨c58.2 (by exact_mod_cast x2.1), f41.2 (by exact_mod_cast x2.2)⟩, if_pos x2]
                by_cases hd : d ≤ 1
                · rw [if_pos hd, if_pos hd]; rfl
                · rw [if_neg hd, if_neg hd]; exact ih r (d - 1) hl hr.2
              · rw [if_neg (fun h => x2 ⟨by exact_mod_cast c58.1 h.1, by exact_mod_cast f41.1 h.2⟩), if_neg x2]
          · have hf : flat (f :: r) = g :: (gs ++ flat r) := by rw [flat_cons, ef]; rfl
            rw [hf] at hi ⊢
            rw [commB_two, if_neg (fun h => high_ne (by omega) 58 (by decide) h.2), if_neg (fun h => high_ne (by omega) 41 (by decide) h.2), hi, comm_two, if_neg (by omega), if_neg (by omega)]
      · rw [flat_cons, e, comm_skip1 d c r (by omega) (by omega)]
        rw [commB_skips d (b :: bs) (flat r) (fun x hx => by rcases List.mem_cons.mp hx with rfl | hx; omega; exact (hbs x hx).1)]
        exact ih r d (by omega) hu.2
def quoB (m : UInt8) : List UInt8 → Option (List UInt8 × List UInt8)
  | [] => none
  | [c] => if c = m then some ([], []) else none
  | c :: d :: r => if c = m then (if d = m then (quoB m r).map (fun x => (m :: x.1, x.2)) else some ([], d :: r)) else (quoB m (d :: r)).map (fun x => (c :: x.1, x.2))
theorem quoB_one (m c : UInt8) : quoB m [c] = if c = m then some ([], []) else none := by rw [quoB]
theorem quoB_two (m c d : UInt8) (r : List UInt8) : quoB m (c :: d :: r) = if c = m then (if d = m then (quoB m r).map (fun x => (m :: x.1, x.2)) else some ([], d :: r)) else (quoB m (d :: r)).map (fun x => (c :: x.1, x.2)) := by rw [quoB]
theorem quoB_skip (m c : UInt8) (w : List UInt8) (h : c ≠ m) : quoB m (c :: w) = (quoB m w).map (fun x => (c :: x.1, x.2)) := by
  cases w with
  | nil => rw [quoB_one, if_neg h]; rfl
  | cons d w => rw [quoB_two, if_neg h]
theorem byteAt_b {s : ByteArray} {b : UInt8} {l : List UInt8} (h : Rs s (b :: l)) : HLex.byteAt s (q s (b :: l)) = b := by
  unfold HLex.byteAt
  rw [h.bt, Int.toNat_natCast]
  simp
theorem quoted_b {s : ByteArray} (hs : s.size ≤ 1000000000) (m : UInt8) : ∀ (n : Nat) (l : List UInt8) (k : Nat) (acc : List UInt8), l.length ≤ n → Rs s l → l.length < k → acc.length + l.length ≤ 2000000000 →
    lex_reader_quoted.l0 k s (m.toNat : Int) (q s l) acc = some ((quoB m l).map fun x => (acc ++ x.1, q s x.2)) := by
  intro n
  induction n with
  | zero =>
    intro l k acc hn h hk ha
    obtain ⟨k, rfl⟩ : ∃ m, k = m + 1 := ⟨k - 1, by omega⟩
    cases l with
    | cons b l => simp at hn
    | nil =>
      simp only [lex_reader_quoted.l0]
      rw [if_neg (by rw [q_nil]; omega)]; rfl
  | succ n ih =>
    intro l k acc hn h hk ha
    obtain ⟨k, rfl⟩ : ∃ m, k = m + 1 := ⟨k - 1, by omega⟩
    cases l with
    | nil =>
      simp only [lex_reader_quoted.l0]
      rw [if_neg (by rw [q_nil]; omega)]; rfl
    | cons c l =>
      simp only [List.length_cons] at hn hk ha
      have h0 := h.nonneg
      have h1 := h.le
      have hb : ∀ x y : UInt8, ((x.toNat : Int) = (y.toNat : Int)) ↔ x = y := fun x y => ⟨fun e => UInt8.toNat_inj.mp (by omega), fun e => by rw [e]⟩
      simp only [lex_reader_quoted.l0]
      rw [if_pos q_lt, if_pos h0, if_pos (by omega), h.bt, w64 (by omega) (by omega), ← q_cons]
      by_cases hc : c = m
      · rw [if_pos ((hb c m).2 hc)]
        cases l with
        | nil =>
          rw [if_pos (by rw [q_nil]), quoB_one, if_pos hc]
          simp
        | cons d r =>
          have g0 := h.cons.nonneg
          have g1 := h.cons.le
          have glt : q s (d :: r) < (s.size : Int) := q_lt
          simp only [List.length_cons] at hn hk ha
          rw [if_neg (by omega), if_pos g0, if_pos glt, h.cons.bt, quoB_two, if_pos hc]
          by_cases hd : d = m
          · rw [if_pos ((hb d m).2 hd), if_pos hd, byteAt_b h.cons, w64 (by omega) (by omega), ← q_cons]
            rw [ih r k (acc ++ [d]) (by omega) h.cons.cons (by omega) (by simp; omega), hd]
            cases quoB m r with
            | none => rfl
            | some x => simp
          · rw [if_neg (fun e => hd ((hb d m).1 e)), if_neg hd]
            simp
      · rw [if_neg (fun e => hc ((hb c m).1 e)), byteAt_b h, quoB_skip m c l hc]
        rw [ih l k (acc ++ [c]) (by omega) h.cons (by omega) (by simp; omega)]
        cases quoB m l with
        | none => rfl
        | some x => simp
theorem quoB_skips (m : UInt8) (hm : m.toNat < 128) : ∀ (bs l : List UInt8), (∀ b ∈ bs, 128 ≤ b.toNat) → quoB m (bs ++ l) = (quoB m l).map (fun x => (bs ++ x.1, x.2)) := by
  intro bs
  induction bs with
  | nil => intro l _; rw [List.nil_append]; cases quoB m l <;> rfl
  | cons b bs ih =>
    intro l h
    have hb := h b List.mem_cons_self
    rw [List.cons_append, quoB_skip m b _ (by intro e; rw [e] at hb; omega), ih l (fun x hx => h x (List.mem_cons_of_mem _ hx))]
    cases quoB m l <;> simp
theorem quo_flat (m : Int) (hm0 : 0 ≤ m) (hm : m < 128) : ∀ (n : Nat) (u : List Int), u.length ≤ n → u.all isChar = true → quoB (m.toNat.toUInt8) (flat u) = (quo m u).map fun x => (flat x.1, flat x.2) := by
  have hlow : (m.toNat.toUInt8).toNat < 128 := by have := low_byte hm0 hm; omega
  have same : ∀ c : Int, 0 ≤ c → c < 128 → (c.toNat.toUInt8 = m.toNat.toUInt8 ↔ c = m) := fun c h0 h1 => by
    have a := low_byte h0 h1
    have b := low_byte hm0 hm
    exact ⟨fun e => by rw [← a, ← b, e], fun e => by rw [e]⟩
  intro n
  induction n with
  | zero =>
    intro u hn hu
    cases u with
    | cons c u => simp at hn
    | nil => simp [quoB, quo, flat_nil]
  | succ n ih =>
    intro u hn hu
    cases u with
    | nil => simp [quoB, quo, flat_nil]
    | cons c r =>
      simp only [List.length_cons] at hn
      rw [List.all_cons, Bool.and_eq_true] at hu
      rcases enc_form c hu.1 with ⟨h0, h1, e⟩ | ⟨hh, b, bs, e, hb, hbs⟩
      · rw [flat_cons, e, List.singleton_append]
        by_cases hc : c = m
        · subst hc
          cases r with
          | nil => rw [flat_nil, quoB_one, if_pos rfl, quo_one, if_pos rfl]; rfl
          | cons f r =>
            have hr := hu.2
            rw [List.all_cons, Bool.and_eq_true] at hr
            rcases enc_form f hr.1 with ⟨f0, f1, ef⟩ | ⟨fh, g, gs, ef, hg, hgs⟩
            · rw [flat_cons, ef, List.singleton_append]
              by_cases hf : f = c
              · subst hf
                rw [quoB_two, if_pos rfl, if_pos rfl, quo_pair, ih r (by simp at hn; omega) hr.2]
                cases quo f r with
                | none => rfl
                | some x => simp only [Option.map_some, flat_cons, e, List.singleton_append]
              · rw [quoB_two, if_pos rfl, if_neg (fun h => hf ((same f f0 f1).1 h)), quo_two, if_pos rfl, if_neg hf]
                simp only [Option.map_some, flat_nil, flat_cons, ef, List.singleton_append]
            · have hfl : flat (f :: r) = g :: (gs ++ flat r) := by rw [flat_cons, ef]; rfl
              rw [hfl, quoB_two, if_pos rfl, if_neg (by intro h; rw [h] at hg; omega), quo_two, if_pos rfl, if_neg (by omega)]
              simp only [Option.map_some, flat_nil, hfl]
        · rw [quoB_skip _ _ _ (fun h => hc ((same c h0 h1).1 h)), quo_skip m c r hc, ih r (by omega) hu.2]
          cases quo m r with
          | none => rfl
          | some x => simp only [Option.map_some, flat_cons, e, List.singleton_append]
      · rw [flat_cons, e, quo_skip m c r (by omega)]
        rw [quoB_skips _ hlow (b :: bs) (flat r) (fun x hx => by rcases List.mem_cons.mp hx with rfl | hx; omega; exact (hbs x hx).1), ih r (by omega) hu.2]
        cases quo m r with
        | none => rfl
        | some x => simp only [Option.map_some, flat_cons, e]
theorem utf8_enc {c : Int} (h : isChar c = true) : Utf8.encode c = mk (enc c) := by
  have hc := (isChar_iff c).1 h
  have hv : Utf8.valid c = true := by
    unfold Utf8.valid
    simp only [Bool.or_eq_true, Bool.and_eq_true, decide_eq_true_eq]
    omega
  have nb : ∀ (x : Int) (y : Nat), x = (y : Int) → x.toNat.toUInt8 = UInt8.ofNat y := fun x y e => by rw [e, Int.toNat_natCast]
  unfold Utf8.encode
  simp only [hv, if_true]
  by_cases h1 : c < 128
  · rw [if_pos (by omega), enc_low (by omega) h1]
    rfl
  · rw [if_neg (by omega)]
    unfold enc Lib.encodeRune
    by_cases h2 : c ≤ 2047
    · rw [if_pos (by omega), Lib.encodeRuneZ_two (by omega) h2]
      simp only [List.map_cons, List.map_nil]
      rw [nb _ (192 + c.toNat / 64) (by omega), nb _ (128 + c.toNat % 64) (by omega)]; rfl
    · rw [if_neg (by omega)]
      by_cases h3 : c ≤ 65535
      · rw [if_pos (by omega), Lib.encodeRuneZ_three (by omega)]
        simp only [List.map_cons, List.map_nil]
        rw [nb _ (224 + c.toNat / 4096) (by omega), nb _ (128 + c.toNat / 64 % 64) (by omega), nb _ (128 + c.toNat % 64) (by omega)]; rfl
      · rw [if_neg (by omega), Lib.encodeRuneZ_four (by omega) (by omega)]
        simp only [List.map_cons, List.map_nil]
        rw [nb _ (240 + c.toNat / 262144) (by omega), nb _ (128 + c.toNat / 4096 % 64) (by omega), nb _ (128 + c.toNat / 64 % 64) (by omega), nb _ (128 + c.toNat % 64) (by omega)]; rfl
theorem part_lett (c : Int) : inPart true c = lett c := by unfold inPart isLetter lett; simp
theorem part_cont (c : Int) : inPart false c = Lx.cont c := by unfold inPart isLetter Lx.cont lett dig; simp
theorem enc_one (c : Int) : mk (enc c) = encode [c] := by rw [encode_flat, flat_cons, flat_nil, List.append_nil]
theorem name_one (c : Int) : nameL [c] = lett c := by
  unfold nameL
  by_cases h : c = 58
  · subst h; rfl
  · have hn : noColon c = true := by simpa [noColon] using h
    simp only [List.dropWhile_cons, hn, if_true, List.dropWhile_nil]
    simp [partL, part_lett]
theorem name_two (c : Int) : nameL [97, c] = Lx.cont c := by
  unfold nameL
  by_cases h : c = 58
  · subst h; rfl
  · have hn : noColon c = true := by simpa [noColon] using h
    have ha : noColon 97 = true := rfl
    simp only [List.dropWhile_cons, ha, hn, if_true, List.dropWhile_nil]
    simp [partL, part_cont]
    intro; decide
theorem isName_enc (l : List Int) (h : l.all isChar = true) (hl : l.length ≤ 100) : (isText (encode l) && (decide ((points (encode l)).length ≤ 100) && nameL (points (encode l)))) = nameL l := by
  obtain ⟨h1, h2⟩ := text_of_chars l h
  rw [h1, h2, decide_eq_true hl]; simp
theorem starts_f (k : Nat) (hk : 1 ≤ k) {c : Int} (h : isChar c = true) : lex_starts.f k c = some (lett c) := by
  have hp := enc_pos c
  unfold lex_starts.f
  rw [utf8_enc h, isName_f _ k hk (by rw [mk_size]; omega), Option.bind_some, enc_one, isName_enc [c] (by simp [h]) (by simp), name_one]
theorem continues_f (k : Nat) (hk : 1 ≤ k) {c : Int} (h : isChar c = true) : lex_continues.f k c = some (Lx.cont c) := by
  have hp := enc_pos c
  have e : (⟨#[97]⟩ : ByteArray) ++ mk (enc c) = encode [97, c] := by
    rw [encode_flat, flat_cons, flat_cons, flat_nil, List.append_nil, show enc 97 = [97] from by decide, ← mk_data ((⟨#[97]⟩ : ByteArray) ++ mk (enc c))]
    simp only [ByteArray.data_append, Array.toList_append, data_mk]
  unfold lex_continues.f
  rw [utf8_enc h, e, isName_f _ k hk (by rw [encode_flat, mk_size, flat_cons, flat_cons, flat_nil, List.append_nil, List.length_append]; have := enc_pos 97; omega), Option.bind_some, isName_enc [97, c] (by simp [h]; decide) (by simp), name_two]
theorem decode_at {s : ByteArray} {c : Int} {u : List Int} (h : At s (c :: u)) : ∃ pre, s.data.toList = pre ++ flat (c :: u) ∧ P s (c :: u) = (pre.length : Int) ∧ Utf8.decode s pre.length = (c.toNat, (enc c).length) := by
  obtain ⟨pre, h1, h2⟩ := h.1.nat
  refine ⟨pre, h1, h2, ?_⟩
  have := (dec_at pre (flat u) c h.char).1
  rw [flat_cons] at h1
  rw [← h1, mk_data] at this
  exact this
theorem char_nat {c : Int} (h : isChar c = true) : ((c.toNat : Nat) : Int) = c := by
  have hc := (isChar_iff c).1 h
  omega
end Go.Proofs.YtmpenkinheneoaaDoor.Plain
