/- Texts of the claim: LxD. -/
import Derived.Test.YtmpenkinheneoaaDoorKLxC
import Derived.Test.YtmpenkinheneoaaDoorKPlainF
import Derived.Test.YtmpenkinheneoaaDoorKQx0
import Derived.Test.YtmpenkinheneoaaDoorKQx5
import Derived.Test.YtmpenkinheneoaaDoorKQx21
namespace Go.Proofs.YtmpenkinheneoaaDoor.Plain
set_option linter.unusedVariables false
open Go Go.RowKit Go.Proofs.YtmpenkinheneoaaDoor.HPure Go.Proofs.YtmpenkinheneoaaDoor.Q Go.Proofs.YtmpenkinheneoaaDoor.Lx Go.Proofs.YtmpenkinheneoaaDoorW.PrintWords Go.Proofs.YtmpenkinheneoaaDoorW.PrintLast Go.Proofs.YtmpenkinheneoaaDoorW.PrintMore
def Rs (s : ByteArray) (l : List UInt8) : Prop := ∃ pre, s.data.toList = pre ++ l
def q (s : ByteArray) (l : List UInt8) : Int := (s.size : Int) - (l.length : Int)
theorem Rs.len {s : ByteArray} {l : List UInt8} (h : Rs s l) : l.length ≤ s.size := by
  obtain ⟨pre, h⟩ := h
  rw [← size_data, h, List.length_append]; omega
theorem Rs.nonneg {s : ByteArray} {l : List UInt8} (h : Rs s l) : 0 ≤ q s l := by have := h.len; unfold q; omega
theorem Rs.le {s : ByteArray} {l : List UInt8} (h : Rs s l) : q s l ≤ (s.size : Int) := by unfold q; omega
theorem Rs.tail {s : ByteArray} {a l : List UInt8} (h : Rs s (a ++ l)) : Rs s l := by
  obtain ⟨pre, h⟩ := h
  exact ⟨pre ++ a, by rw [h, List.append_assoc]⟩
theorem Rs.cons {s : ByteArray} {b : UInt8} {l : List UInt8} (h : Rs s (b :: l)) : Rs s l := Rs.tail (a := [b]) h
theorem q_app (s : ByteArray) (a l : List UInt8) : q s l = q s (a ++ l) + a.length := by unfold q; rw [List.length_append]; omega
theorem q_cons (s : ByteArray) (b : UInt8) (l : List UInt8) : q s l = q s (b :: l) + 1 := q_app s [b] l
theorem q_nil (s : ByteArray) : q s [] = s.size := by unfold q; simp
theorem q_full (s : ByteArray) : q s s.data.toList = 0 := by unfold q; rw [size_data]; omega
theorem q_lt {s : ByteArray} {b : UInt8} {l : List UInt8} : q s (b :: l) < (s.size : Int) := by unfold q; simp; omega
theorem Rs.nat {s : ByteArray} {l : List UInt8} (h : Rs s l) : ∃ pre, s.data.toList = pre ++ l ∧ q s l = (pre.length : Int) := by
  obtain ⟨pre, h⟩ := h
  refine ⟨pre, h, ?_⟩
  unfold q
  rw [← size_data, h, List.length_append]; omega
theorem Rs.drop {s : ByteArray} {l : List UInt8} (h : Rs s l) : s.data.toList.drop (q s l).toNat = l := by
  obtain ⟨pre, h1, h2⟩ := h.nat
  rw [h2, h1]; simp
theorem Rs.bt {s : ByteArray} {b : UInt8} {l : List UInt8} (h : Rs s (b :: l)) : bt s (q s (b :: l)) = (b.toNat : Int) := by
  obtain ⟨pre, h1, h2⟩ := h.nat
  rw [h2, bt_get]
  congr 2
  rw [← mk_data s, mk_get, h1]; simp
theorem ext_mk (s : ByteArray) (i j : Nat) : s.extract i j = mk ((s.data.toList.drop i).take (j - i)) := by
  have := extract_mk' s.data.toList i j
  rw [mk_data] at this
  exact this
theorem Rs.ext {s : ByteArray} {a l : List UInt8} (h : Rs s (a ++ l)) : s.extract (q s (a ++ l)).toNat (q s l).toNat = mk a := by
  obtain ⟨pre, h1, h2⟩ := h.nat
  have h3 := q_app s a l
  rw [ext_mk, h1, h2]
  have e : (q s l).toNat - (pre.length : Int).toNat = a.length := by omega
  rw [e]; simp
theorem Rs.ext_end {s : ByteArray} {l : List UInt8} (h : Rs s l) : s.extract (q s l).toNat s.size = mk l := by
  have := Rs.ext (s := s) (a := l) (l := []) (by simpa using h)
  rw [List.append_nil, q_nil] at this
  simpa using this
theorem toList_mk (l : List UInt8) : (mk l).toList = l := by rw [Lib.toList_data, data_mk]
theorem take_pre (x l : List UInt8) : (decide (x.length ≤ l.length) && (l.take x.length == x)) = x.isPrefixOf l := by
  rw [Bool.eq_iff_iff, List.isPrefixOf_iff_prefix]
  simp only [Bool.and_eq_true, decide_eq_true_eq, beq_iff_eq]
  constructor
  · rintro ⟨h1, h2⟩; exact ⟨l.drop x.length, by have := List.take_append_drop x.length l; rw [h2] at this; exact this⟩
  · rintro ⟨t, rfl⟩; simp
theorem hasPrefix_b (l : List UInt8) (x : ByteArray) (hx : x.size ≤ 1000) : strings_HasPrefix.f (mk l) x = some (x.data.toList.isPrefixOf l) := by
  unfold strings_HasPrefix.f stringslite_HasPrefix.f
  rw [mk_size, ← take_pre, size_data]
  by_cases h : x.size ≤ l.length
  · rw [if_pos (by omega), if_pos (by omega), if_pos (by omega), Option.bind_some, decide_eq_true h, Bool.true_and]
    rw [extract_mk', toList_mk, Lib.toList_data]
    simp
  · rw [if_neg (by omega), decide_eq_false h]; rfl
theorem has_b {s : ByteArray} {l : List UInt8} (h : Rs s l) (x : ByteArray) (hx : x.size ≤ 1000) : lex_reader_has.f s (q s l) x = some (x.data.toList.isPrefixOf l, s, q s l) := by
  unfold lex_reader_has.f
  rw [if_pos h.nonneg, if_pos h.le, h.ext_end, hasPrefix_b l x hx]; rfl
def asc (x : List Int) : ByteArray := mk (x.map fun c => c.toNat.toUInt8)
def At (s : ByteArray) (u : List Int) : Prop := Rs s (flat u) ∧ u.all isChar = true
def P (s : ByteArray) (u : List Int) : Int := q s (flat u)
theorem enc_low {c : Int} (h0 : 0 ≤ c) (h : c < 128) : enc c = [c.toNat.toUInt8] := by
  unfold enc Lib.encodeRune
  rw [Lib.encodeRuneZ_one h0 (by omega)]; rfl
theorem enc_form (c : Int) (h : isChar c = true) : (0 ≤ c ∧ c < 128 ∧ enc c = [c.toNat.toUInt8]) ∨ (128 ≤ c ∧ ∃ b bs, enc c = b :: bs ∧ 192 ≤ b.toNat ∧ ∀ x ∈ bs, 128 ≤ x.toNat ∧ x.toNat < 192) := by
  have hc := (isChar_iff c).1 h
  by_cases hl : c < 128
  · exact .inl ⟨by omega, hl, enc_low (by omega) hl⟩
  · refine .inr ⟨by omega, ?_⟩
    have hi : ∀ x : Int, 192 ≤ x → x < 256 → 192 ≤ (x.toNat.toUInt8).toNat := fun x h1 h2 => by have := enc_byte x ⟨by omega, h2⟩; omega
    have mid : ∀ x : Int, 128 ≤ x → x < 192 → 128 ≤ (x.toNat.toUInt8).toNat ∧ (x.toNat.toUInt8).toNat < 192 := fun x h1 h2 => by have := enc_byte x ⟨by omega, by omega⟩; omega
    unfold enc Lib.encodeRune
    by_cases h2 : c ≤ 2047
    · rw [Lib.encodeRuneZ_two (by omega) h2]
      refine ⟨_, _, rfl, hi _ (by omega) (by omega), fun x hx => ?_⟩
      simp only [List.map_cons, List.map_nil, List.mem_cons, List.mem_nil_iff, or_false] at hx
      subst hx
      exact mid _ (by omega) (by omega)
    · by_cases h3 : c ≤ 65535
      · rw [Lib.encodeRuneZ_three (by omega)]
        refine ⟨_, _, rfl, hi _ (by omega) (by omega), fun x hx => ?_⟩
        simp only [List.map_cons, List.map_nil, List.mem_cons, List.mem_nil_iff, or_false] at hx
        rcases hx with rfl | rfl
        · exact mid _ (by omega) (by omega)
        · exact mid _ (by omega) (by omega)
      · rw [Lib.encodeRuneZ_four (by omega) (by omega)]
        refine ⟨_, _, rfl, hi _ (by omega) (by omega), fun x hx => ?_⟩
        simp only [List.map_cons, List.map_nil, List.mem_cons, List.mem_nil_iff, or_false] at hx
        rcases hx with rfl | rfl | rfl
        · exact mid _ (by omega) (by omega)
        · exact mid _ (by omega) (by omega)
        · exact mid _ (by omega) (by omega)
theorem low_byte {c : Int} (h0 : 0 ≤ c) (h : c < 128) : ((c.toNat.toUInt8).toNat : Int) = c := enc_byte c ⟨h0, by omega⟩
theorem At.tail {s : ByteArray} {a u : List Int} (h : At s (a ++ u)) : At s u := by
  refine ⟨Rs.tail (a := flat a) (by rw [← flat_append]; exact h.1), ?_⟩
  have := h.2
  rw [List.all_append, Bool.and_eq_true] at this
  exact this.2
theorem At.cons {s : ByteArray} {c : Int} {u : List Int} (h : At s (c :: u)) : At s u := At.tail (a := [c]) h
theorem At.char {s : ByteArray} {c : Int} {u : List Int} (h : At s (c :: u)) : isChar c = true := by
  have := h.2
  rw [List.all_cons, Bool.and_eq_true] at this
  exact this.1
theorem P_low {s : ByteArray} {c : Int} {u : List Int} (h : At s (c :: u)) (hl : c < 128) : P s u = P s (c :: u) + 1 := by
  rcases enc_form c h.char with ⟨_, _, e⟩ | ⟨hh, _⟩
  · unfold P; rw [flat_cons, e]; exact q_cons s _ _
  · omega
theorem P_app (s : ByteArray) (a u : List Int) : P s u = P s (a ++ u) + (flat a).length := by unfold P; rw [flat_append]; exact q_app s _ _
theorem At.nonneg {s : ByteArray} {u : List Int} (h : At s u) : 0 ≤ P s u := h.1.nonneg
theorem At.le {s : ByteArray} {u : List Int} (h : At s u) : P s u ≤ (s.size : Int) := h.1.le
theorem P_lt {s : ByteArray} {c : Int} {u : List Int} : P s (c :: u) < (s.size : Int) := by
  have := enc_pos c
  unfold P q; rw [flat_cons, List.length_append]; omega
theorem P_nil (s : ByteArray) : P s [] = s.size := q_nil s
theorem bt_low {s : ByteArray} {c : Int} {u : List Int} (h : At s (c :: u)) (hl : c < 128) : bt s (P s (c :: u)) = c := by
  rcases enc_form c h.char with ⟨h0, _, e⟩ | ⟨hh, _⟩
  · have hr := h.1
    unfold P
    rw [flat_cons, e] at hr ⊢
    rw [List.singleton_append] at hr ⊢
    rw [hr.bt]; exact low_byte h0 hl
  · omega
theorem bt_high {s : ByteArray} {c : Int} {u : List Int} (h : At s (c :: u)) (hl : 128 ≤ c) : 128 ≤ bt s (P s (c :: u)) := by
  rcases enc_form c h.char with ⟨h0, h1, e⟩ | ⟨hh, b, bs, e, hb, _⟩
  · omega
  · have hr := h.1
    unfold P
    rw [flat_cons, e] at hr ⊢
    rw [List.cons_append] at hr ⊢
    rw [hr.bt]; omega
theorem bt_is {s : ByteArray} {c : Int} {u : List Int} (h : At s (c :: u)) (x : Int) (hx : x < 128) : bt s (P s (c :: u)) = x ↔ c = x := by
  by_cases hl : c < 128
  · rw [bt_low h hl]
  · have := bt_high h (by omega)
    constructor
    · intro e; omega
    · intro e; omega
theorem pre_flat : ∀ (x u : List Int), (∀ c ∈ x, 0 ≤ c ∧ c < 128) → u.all isChar = true → (x.map fun c => c.toNat.toUInt8).isPrefixOf (flat u) = x.isPrefixOf u := by
  intro x
  induction x with
  | nil => intro u _ _; rfl
  | cons a x ih =>
    intro u hx hu
    cases u with
    | nil => rfl
    | cons c u =>
      have ha := hx a List.mem_cons_self
      rw [List.all_cons, Bool.and_eq_true] at hu
      have hi := ih u (fun y hy => hx y (List.mem_cons_of_mem _ hy)) hu.2
      have la := low_byte ha.1 ha.2
      rw [flat_cons, List.map_cons]
      rcases enc_form c hu.1 with ⟨h0, h1, e⟩ | ⟨hh, b, bs, e, hb, _⟩
      · have lc := low_byte h0 h1
        rw [e, List.singleton_append, List.isPrefixOf_cons_cons, List.isPrefixOf_cons_cons, hi]
        congr 1
        rw [Bool.eq_iff_iff, beq_iff_eq, beq_iff_eq]
        constructor
        · intro h; rw [← la, ← lc, h]
        · intro h; rw [h]
      · rw [e, List.cons_append, List.isPrefixOf_cons_cons, List.isPrefixOf_cons_cons]
        have e1 : (a.toNat.toUInt8 == b) = false := by rw [beq_eq_false_iff_ne]; intro h; rw [h] at la; omega
        have e2 : (a == c) = false := by rw [beq_eq_false_iff_ne]; omega
        rw [e1, e2]; rfl
theorem asc_data (x : List Int) : (asc x).data.toList = x.map fun c => c.toNat.toUInt8 := data_mk _
theorem asc_size (x : List Int) : (asc x).size = x.length := by unfold asc; rw [mk_size, List.length_map]
theorem has_at {s : ByteArray} {u : List Int} (h : At s u) (x : List Int) (hx : ∀ c ∈ x, 0 ≤ c ∧ c < 128) (hl : x.length ≤ 1000) : lex_reader_has.f s (P s u) (asc x) = some (x.isPrefixOf u, s, P s u) := by
  unfold P
  rw [has_b h.1 (asc x) (by rw [asc_size]; exact hl), asc_data, pre_flat x u hx h.2]
theorem dig_low (c : Int) (h : dig c = true) : 48 ≤ c ∧ c ≤ 57 := by simpa [dig] using h
theorem digits_at {s : ByteArray} (hs : s.size ≤ 1000000000) (x : Int) : ∀ (u : List Int) (k : Nat), At s u → u.length < k → lex_reader_digits.l0 k x s (P s u) = some (decide (P s (u.dropWhile dig) > x), s, P s (u.dropWhile dig)) := by
  intro u
  induction u with
  | nil =>
    intro k h hk
    obtain ⟨k, rfl⟩ : ∃ m, k = m + 1 := ⟨k - 1, by omega⟩
    simp only [lex_reader_digits.l0]
    rw [if_neg (by rw [P_nil]; omega)]; rfl
  | cons c u ih =>
    intro k h hk
    obtain ⟨k, rfl⟩ : ∃ m, k = m + 1 := ⟨k - 1, by omega⟩
    simp only [List.length_cons] at hk
    have h0 := h.nonneg
    have h1 := h.le
    simp only [lex_reader_digits.l0]
    rw [if_pos P_lt, if_pos h0]
    cases hd : dig c with
    | true =>
      have hc := dig_low c hd
      have e : (c :: u).dropWhile dig = u.dropWhile dig := by rw [List.dropWhile_cons, if_pos hd]
      rw [e]
      rw [bt_low h (by omega), if_pos (by omega), if_pos (by omega), w64 (by omega) (by omega), ← P_low h (by omega)]
      exact ih k h.cons (by omega)
    | false =>
      have e : (c :: u).dropWhile dig = c :: u := by rw [List.dropWhile_cons, if_neg (by simp [hd])]
      rw [e]
      by_cases hl : c < 128
      · rw [bt_low h hl]
        have : ¬ (48 ≤ c ∧ c ≤ 57) := fun hc => by rw [show dig c = true by simp [dig, hc.1, hc.2]] at hd; cases hd
        by_cases h48 : c ≥ 48
        · rw [if_pos h48, if_neg (by omega)]
        · rw [if_neg h48]
      · have := bt_high h (by omega)
        rw [if_pos (by omega), if_neg (by omega)]
end Go.Proofs.YtmpenkinheneoaaDoor.Plain
