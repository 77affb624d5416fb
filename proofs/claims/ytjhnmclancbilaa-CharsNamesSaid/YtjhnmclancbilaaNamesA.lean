/- Several texts of this claim in one. -/
import Derived.Test.YtjhnmclancbilaaQx0
import Derived.Test.YtjhnmclancbilaaQx11
import Derived.Test.YtjhnmclancbilaaQx14
import Derived.Test.YtjhnmclancbilaaPlainE
import Derived.Test.YtjhnmclancbilaaPlainF
/- Walks of functions, each against a plain Lean function: written by this session's program wip/hand.py, which runs the kit's print with this session's own contracts put in. -/
namespace Go.Proofs.Ytjhnmclancbilaa.Q
open Go.RowKit Go.Proofs.YtjhnmclancbilaaW.PrintWords Go.Proofs.YtjhnmclancbilaaW.PrintLast Go.Proofs.YtjhnmclancbilaaW.PrintMore
attribute [local go_sem] max2_int min2_int max_two min_two max_three min_three max_four min_four   -- for this text's walks alone
set_option linter.unusedVariables false
set_option linter.unusedSimpArgs false

/-! ### strings_Index: function 53 -/
def strings_Index.f (a0 : ByteArray) (a1 : ByteArray) : Option (Int) := (stringslite_Index.f a0 a1).bind fun t300 => (some t300)
set_option maxHeartbeats 8000000 in
set_option maxRecDepth 100000 in
theorem strings_Index.calls (a0 : ByteArray) (a1 : ByteArray) (r : Int) (w : World) (h : strings_Index.f a0 a1 = some r) :
    Calls Try.prog 53 #[.string a0, .string a1] w fun e w' => e = .returned (.int .i64 r) ∧ Below w.heap.size w w' := by
  have HB := Aside0.mk (Below.refl w.heap.size w)
  have H : ((stringslite_Index.f a0 a1).bind fun t300 => (some t300)) = some r := h
  clear h
  replace H := Option.bind_eq_some_iff.mp H
  obtain ⟨t300, A30, H⟩ := H
  replace H : (some t300) = some r := H
  have A3 := Aside0.mk A30
  clear A30
  obtain rfl := Option.some.inj H
  go_enter Try.func53, Try.ntmps53
  go_wp2_with (first | ((with_reducible refine gate_callee (f := 65) rfl ?_); refine goesL_ (some 7) rfl rfl Try.func65 (by kernel_rfl) rfl #[.string a0, .string a1] rfl (by (try simp only [List.map_toArray, List.map_cons, List.map_nil]); first | done | rfl | (simp only [List.length_drop, List.length_take]; rfl)) ?_; (with_reducible refine (stringslite_Index.calls a0 a1 t300 _ A3.out).mono ?_); rintro e w4 ⟨rfl, hb⟩; refine ⟨_, rfl, ?_⟩; have n0_ := Aside0.mk (below_step (by repeat (first | (with_reducible first | exact HB.out | apply below_alloc | apply pw_below_drewN | apply below_drew1) | exact HB.out)) hb); clear HB; have HB := n0_; clear n0_; (try clear hb); (try clear hb2); (try clear hk); (try clear hi)))
  go_ret
  exact ⟨by first | rfl | (simp [errW_none, errW_some] <;> rfl) | (simp [*, errW_none, errW_some] <;> rfl), by repeat (first | (with_reducible first | exact HB.out | apply below_alloc | apply pw_below_drewN | apply below_drew1) | exact HB.out)⟩

/-! ### strings_Contains: function 32 -/
def strings_Contains.f (a0 : ByteArray) (a1 : ByteArray) : Option (Bool) := (strings_Index.f a0 a1).bind fun t301 => (some (decide (t301 ≥ 0)))
set_option maxHeartbeats 8000000 in
set_option maxRecDepth 100000 in
theorem strings_Contains.calls (a0 : ByteArray) (a1 : ByteArray) (r : Bool) (w : World) (h : strings_Contains.f a0 a1 = some r) :
    Calls Try.prog 32 #[.string a0, .string a1] w fun e w' => e = .returned (.bool r) ∧ Below w.heap.size w w' := by
  have HB := Aside0.mk (Below.refl w.heap.size w)
  have H : ((strings_Index.f a0 a1).bind fun t301 => (some (decide (t301 ≥ 0)))) = some r := h
  clear h
  replace H := Option.bind_eq_some_iff.mp H
  obtain ⟨t301, A30, H⟩ := H
  replace H : (some (decide (t301 ≥ 0))) = some r := H
  have A3 := Aside0.mk A30
  clear A30
  obtain rfl := Option.some.inj H
  go_enter Try.func32, Try.ntmps32
  go_wp2_with (first | ((with_reducible refine gate_callee (f := 53) rfl ?_); refine goesL_ (some 7) rfl rfl Try.func53 (by kernel_rfl) rfl #[.string a0, .string a1] rfl (by (try simp only [List.map_toArray, List.map_cons, List.map_nil]); first | done | rfl | (simp only [List.length_drop, List.length_take]; rfl)) ?_; (with_reducible refine (strings_Index.calls a0 a1 t301 _ A3.out).mono ?_); rintro e w4 ⟨rfl, hb⟩; refine ⟨_, rfl, ?_⟩; have n0_ := Aside0.mk (below_step (by repeat (first | (with_reducible first | exact HB.out | apply below_alloc | apply pw_below_drewN | apply below_drew1) | exact HB.out)) hb); clear HB; have HB := n0_; clear n0_; (try clear hb); (try clear hb2); (try clear hk); (try clear hi)))
  go_ret
  exact ⟨by first | rfl | (simp [errW_none, errW_some] <;> rfl) | (simp [*, errW_none, errW_some] <;> rfl), by repeat (first | (with_reducible first | exact HB.out | apply below_alloc | apply pw_below_drewN | apply below_drew1) | exact HB.out)⟩

end Go.Proofs.Ytjhnmclancbilaa.Q

/- Walks of functions, each against a plain Lean function: written by this session's program wip/hand.py, which runs the kit's print with this session's own contracts put in. -/
namespace Go.Proofs.Ytjhnmclancbilaa.Q
open Go.RowKit Go.Proofs.YtjhnmclancbilaaW.PrintWords Go.Proofs.YtjhnmclancbilaaW.PrintLast Go.Proofs.YtjhnmclancbilaaW.PrintMore
attribute [local go_sem] max2_int min2_int max_two min_two max_three min_three max_four min_four   -- for this text's walks alone
set_option linter.unusedVariables false
set_option linter.unusedSimpArgs false

-- HAND: function 33, by this session's own text
def strings_Count.f (a0 : ByteArray) (a1 : ByteArray) : Option (Int) := if a1.size = 1 then some (Lib.countByte a0.data.toList (a1.get! 0)) else none
theorem strings_Count.calls (a0 : ByteArray) (a1 : ByteArray) (r : Int) (w : World) (h : strings_Count.f a0 a1 = some r) :
    Calls Try.prog 33 #[.string a0, .string a1] w fun e w' => e = .returned (.int .i64 r) ∧ Below w.heap.size w w' := by
  unfold strings_Count.f at h
  split at h
  · rename_i hs
    obtain rfl := Option.some.inj h
    have hc := Try.strings_Count_one a0 (a1.get! 0) w
    rw [← one_byte a1 hs] at hc
    refine hc.mono ?_
    rintro e w' ⟨he, rfl⟩
    exact ⟨he, Below.refl _ _⟩
  · cases h


end Go.Proofs.Ytjhnmclancbilaa.Q

/- Walks of functions, each against a plain Lean function: written by this session's program wip/hand.py, which runs the kit's print with this session's own contracts put in. -/
namespace Go.Proofs.Ytjhnmclancbilaa.Q
open Go.RowKit Go.Proofs.YtjhnmclancbilaaW.PrintWords Go.Proofs.YtjhnmclancbilaaW.PrintLast Go.Proofs.YtjhnmclancbilaaW.PrintMore
attribute [local go_sem] max2_int min2_int max_two min_two max_three min_three max_four min_four   -- for this text's walks alone
set_option linter.unusedVariables false
set_option linter.unusedSimpArgs false

/-! ### chisellaw01_CharsNames_1: function 34 -/
def chisellaw01_CharsNames_1.f (k : Nat) (a0 : ByteArray) : Option (Bool) := (chars_IsName.f k a0).bind fun t302 => (if t302 = true then ((strings_Contains.f a0 (⟨#[58]⟩ : ByteArray)).bind fun t303 => (some (!t303))) else (some false))
theorem chisellaw01_CharsNames_1.mono : ∀ a0 k, LeO (chisellaw01_CharsNames_1.f k a0) (chisellaw01_CharsNames_1.f (k + 1) a0) := by
  intro a0 k
  unfold chisellaw01_CharsNames_1.f
  repeat' first
      | (with_reducible exact chars_IsName.mono _ _)
      | (with_reducible exact LeO.refl _)
      | (with_reducible exact LeO.none _)
      | (with_reducible refine LeO.ite ?_ ?_)
      | (with_reducible refine LeO.bind ?_ (fun _ => ?_))
      | exact chars_IsName.mono _ _
      | exact LeO.none _
      | refine LeO.ite ?_ ?_
      | refine LeO.bind ?_ (fun _ => ?_)
set_option maxHeartbeats 8000000 in
set_option maxRecDepth 100000 in
theorem chisellaw01_CharsNames_1.calls (k : Nat) (a0 : ByteArray) (r : Bool) (w : World) (h : chisellaw01_CharsNames_1.f k a0 = some r) :
    Calls Try.prog 34 #[.string a0] w fun e w' => e = .returned (.bool r) ∧ Below w.heap.size w w' := by
  have HB := Aside0.mk (Below.refl w.heap.size w)
  have H : ((chars_IsName.f k a0).bind fun t302 => (if t302 = true then ((strings_Contains.f a0 (⟨#[58]⟩ : ByteArray)).bind fun t303 => (some (!t303))) else (some false))) = some r := h
  clear h
  replace H := Option.bind_eq_some_iff.mp H
  obtain ⟨t302, A20, H⟩ := H
  replace H : (if t302 = true then ((strings_Contains.f a0 (⟨#[58]⟩ : ByteArray)).bind fun t303 => (some (!t303))) else (some false)) = some r := H
  have A2 := Aside0.mk A20
  clear A20
  by_cases c3 : t302 = true
  · subst c3
    have H1 : ((strings_Contains.f a0 (⟨#[58]⟩ : ByteArray)).bind fun t303 => (some (!t303))) = some r := by rw [if_pos rfl] at H; exact H
    clear H
    have H := H1
    clear H1
    replace H := Option.bind_eq_some_iff.mp H
    obtain ⟨t303, A40, H⟩ := H
    replace H : (some (!t303)) = some r := H
    have A4 := Aside0.mk A40
    clear A40
    obtain rfl := Option.some.inj H
    go_enter Try.func34, Try.ntmps34
    go_wp2_with (first | ((with_reducible refine gate_callee (f := 26) rfl ?_); refine goesL_ (some 4) rfl rfl Try.func26 (by kernel_rfl) rfl #[.string a0] rfl (by (try simp only [List.map_toArray, List.map_cons, List.map_nil]); first | done | rfl | (simp only [List.length_drop, List.length_take]; rfl)) ?_; (with_reducible refine (chars_IsName.calls k a0 true _ A2.out).mono ?_); rintro e w5 ⟨rfl, hb⟩; refine ⟨_, rfl, ?_⟩; have n0_ := Aside0.mk (below_step (by repeat (first | (with_reducible first | exact HB.out | apply below_alloc | apply pw_below_drewN | apply below_drew1) | exact HB.out)) hb); clear HB; have HB := n0_; clear n0_; (try clear hb); (try clear hb2); (try clear hk); (try clear hi)) | (go_at_call 32; (with_reducible refine (strings_Contains.calls a0 (⟨#[58]⟩ : ByteArray) t303 _ A4.out).mono ?_); rintro e w6 ⟨rfl, hb⟩; have n0_ := Aside0.mk (below_step (by repeat (first | (with_reducible first | exact HB.out | apply below_alloc | apply pw_below_drewN | apply below_drew1) | exact HB.out)) hb); clear HB; have HB := n0_; clear n0_; (try clear hb); (try clear hb2); (try clear hk); (try clear hi)))
    go_ret
    exact ⟨by first | rfl | (simp [errW_none, errW_some] <;> rfl) | (simp [*, errW_none, errW_some] <;> rfl), by repeat (first | (with_reducible first | exact HB.out | apply below_alloc | apply pw_below_drewN | apply below_drew1) | exact HB.out)⟩
  · replace c3 := Bool.eq_false_iff.mpr c3
    subst c3
    have H1 : (some false) = some r := by rw [if_neg (show ¬ (false = true) by decide)] at H; exact H
    clear H
    have H := H1
    clear H1
    obtain rfl := Option.some.inj H
    go_enter Try.func34, Try.ntmps34
    go_wp2_with (first | ((with_reducible refine gate_callee (f := 26) rfl ?_); refine goesL_ (some 4) rfl rfl Try.func26 (by kernel_rfl) rfl #[.string a0] rfl (by (try simp only [List.map_toArray, List.map_cons, List.map_nil]); first | done | rfl | (simp only [List.length_drop, List.length_take]; rfl)) ?_; (with_reducible refine (chars_IsName.calls k a0 false _ A2.out).mono ?_); rintro e w7 ⟨rfl, hb⟩; refine ⟨_, rfl, ?_⟩; have n0_ := Aside0.mk (below_step (by repeat (first | (with_reducible first | exact HB.out | apply below_alloc | apply pw_below_drewN | apply below_drew1) | exact HB.out)) hb); clear HB; have HB := n0_; clear n0_; (try clear hb); (try clear hb2); (try clear hk); (try clear hi)))
    go_ret
    exact ⟨by first | rfl | (simp [errW_none, errW_some] <;> rfl) | (simp [*, errW_none, errW_some] <;> rfl), by repeat (first | (with_reducible first | exact HB.out | apply below_alloc | apply pw_below_drewN | apply below_drew1) | exact HB.out)⟩

end Go.Proofs.Ytjhnmclancbilaa.Q

/- Names, as the chapter's outright law asks for them: parts, the one colon, what may follow. -/
namespace Go.Proofs.Ytjhnmclancbilaa.Plain
set_option linter.unusedVariables false
open Go Go.RowKit Go.Proofs.Ytjhnmclancbilaa.HPure Go.Proofs.Ytjhnmclancbilaa.Q Go.Proofs.YtjhnmclancbilaaW.PrintWords Go.Proofs.YtjhnmclancbilaaW.PrintLast Go.Proofs.YtjhnmclancbilaaW.PrintMore

def isNameB (s : ByteArray) : Bool := isText s && (decide ((points s).length ≤ 100) && nameL (points s))

/-- A byte of ASCII in a character's form is the character. -/
theorem enc_ascii (c : Int) (h : isChar c = true) (b : UInt8) (hb : b ∈ enc c) (hl : b.toNat < 128) : c = (b.toNat : Int) := by
  have hc := (isChar_iff c).1 h
  unfold enc Lib.encodeRune at hb
  obtain ⟨x, hx, hxb⟩ := List.mem_map.1 hb
  obtain ⟨h0, h1⟩ := Lib.encodeRuneZ_byte c x hx
  have h2 : x = (b.toNat : Int) := by
    have := enc_byte x ⟨h0, h1⟩
    rw [hxb] at this
    omega
  by_cases h3 : c ≤ 127
  · rw [Lib.encodeRuneZ_one (by omega) h3] at hx
    simp at hx
    omega
  · by_cases h4 : c ≤ 2047
    · rw [Lib.encodeRuneZ_two (by omega) h4] at hx
      simp at hx
      omega
    · by_cases h5 : c ≤ 65535
      · rw [Lib.encodeRuneZ_three (by omega)] at hx
        simp at hx
        omega
      · rw [Lib.encodeRuneZ_four (by omega) (by omega)] at hx
        simp at hx
        omega
theorem flat_mem (p : List Int) (hp : p.all isChar = true) (b : UInt8) (hb : b ∈ flat p) (hl : b.toNat < 128) : ((b.toNat : Nat) : Int) ∈ p := by
  obtain ⟨c, hc, hcb⟩ := List.mem_flatMap.1 hb
  have := enc_ascii c (List.all_eq_true.1 hp c hc) b hcb hl
  rw [← this]; exact hc
theorem inPart_weak (c : Int) (h : inPart true c = true) : inPart false c = true := by
  unfold inPart at h ⊢
  have : isLetter c = true := by simpa using h
  rw [this]; rfl
theorem inPart_ne (c : Int) (h : inPart false c = true) : c ≠ 58 ∧ c ≠ 32 ∧ c ≠ 9 ∧ c ≠ 10 ∧ c ≠ 13 := by
  refine ⟨?_, ?_, ?_, ?_, ?_⟩ <;> (rintro rfl; revert h; decide)
theorem part_chars (a : List Int) (h : partL a = true) : a ≠ [] ∧ ∀ c ∈ a, inPart false c = true := by
  cases a with
  | nil => exact absurd h (by decide)
  | cons c t =>
    simp only [partL, Bool.and_eq_true, List.all_eq_true] at h
    refine ⟨by simp, fun x hx => ?_⟩
    rcases List.mem_cons.1 hx with rfl | hx
    · exact inPart_weak _ h.1
    · exact h.2 x hx
theorem part_noColon (a : List Int) (h : partL a = true) : a.all noColon = true := by
  rw [List.all_eq_true]
  intro c hc
  unfold noColon
  rw [bne_iff_ne]
  exact (inPart_ne c ((part_chars a h).2 c hc)).1
theorem part_more (a e : List Int) (h : partL a = true) (he : e.all (inPart false) = true) : partL (a ++ e) = true := by
  cases a with
  | nil => exact absurd h (by decide)
  | cons c t =>
    simp only [partL, Bool.and_eq_true] at h
    simp only [List.cons_append, partL, Bool.and_eq_true, List.all_append]
    exact ⟨h.1, h.2, he⟩
theorem split_colon : ∀ (p : List Int), p.all noColon = true ∨ ∃ a b, p = a ++ 58 :: b ∧ a.all noColon = true := by
  intro p
  induction p with
  | nil => exact .inl rfl
  | cons c t ih =>
    by_cases h : c = 58
    · subst h; exact .inr ⟨[], t, rfl, rfl⟩
    · have hq : noColon c = true := by unfold noColon; rw [bne_iff_ne]; exact h
      rcases ih with h1 | ⟨a, b, rfl, h1⟩
      · exact .inl (by rw [List.all_cons, hq, h1]; rfl)
      · exact .inr ⟨c :: a, b, rfl, by rw [List.all_cons, hq, h1]; rfl⟩
theorem drop_none : ∀ (a : List Int), a.all noColon = true → a.dropWhile noColon = [] := by
  intro a
  induction a with
  | nil => intro _; rfl
  | cons c t ih =>
    intro h
    rw [List.all_cons, Bool.and_eq_true] at h
    rw [List.dropWhile_cons, h.1, if_pos rfl, ih h.2]
theorem drop_some : ∀ (a b : List Int), a.all noColon = true → (a ++ 58 :: b).dropWhile noColon = 58 :: b ∧ (a ++ 58 :: b).takeWhile noColon = a := by
  intro a b
  induction a with
  | nil => intro _; exact ⟨rfl, rfl⟩
  | cons c t ih =>
    intro h
    rw [List.all_cons, Bool.and_eq_true] at h
    rw [List.cons_append, List.dropWhile_cons, List.takeWhile_cons, h.1, if_pos rfl, if_pos rfl, (ih h.2).1, (ih h.2).2]
    exact ⟨rfl, rfl⟩
theorem nameL_none (a : List Int) (h : a.all noColon = true) : nameL a = partL a := by
  unfold nameL
  rw [drop_none a h]
theorem nameL_some (a b : List Int) (h : a.all noColon = true) : nameL (a ++ 58 :: b) = (partL a && partL b) := by
  unfold nameL
  rw [(drop_some a b h).1, (drop_some a b h).2]
theorem flat_noColon (a : List Int) (hc : a.all isChar = true) (h : a.all noColon = true) : (58 : UInt8) ∉ flat a := by
  intro hm
  have := flat_mem a hc 58 hm (by decide)
  have := List.all_eq_true.1 h _ this
  revert this; decide
theorem flat_colon (a b : List Int) : flat (a ++ 58 :: b) = flat a ++ 58 :: flat b := by
  rw [flat_append, flat_cons]; rfl
theorem name_chars (p : List Int) (h : nameL p = true) : p ≠ [] ∧ ∀ c ∈ p, c = 58 ∨ inPart false c = true := by
  rcases split_colon p with h1 | ⟨a, b, rfl, h1⟩
  · rw [nameL_none p h1] at h
    exact ⟨(part_chars p h).1, fun c hc => .inr ((part_chars p h).2 c hc)⟩
  · rw [nameL_some a b h1, Bool.and_eq_true] at h
    refine ⟨by simp, fun c hc => ?_⟩
    rcases List.mem_append.1 hc with hc | hc
    · exact .inr ((part_chars a h.1).2 c hc)
    · rcases List.mem_cons.1 hc with rfl | hc
      · exact .inl rfl
      · exact .inr ((part_chars b h.2).2 c hc)
theorem name_not (p : List Int) (h : nameL p = true) (x : Int) (hx : x = 32 ∨ x = 9 ∨ x = 10 ∨ x = 13) : x ∉ p := by
  intro hm
  rcases (name_chars p h).2 x hm with e | e
  · omega
  · have := inPart_ne x e; omega
theorem index_mem (l : List UInt8) (b : UInt8) : Lib.indexByte l b ≥ 0 ↔ b ∈ l := by
  have hge := Lib.indexByte_ge l b
  constructor
  · intro h
    obtain ⟨o, ho⟩ : ∃ o : Nat, Lib.indexByte l b = o := ⟨(Lib.indexByte l b).toNat, by omega⟩
    have := (Lib.indexByte_some ho).1
    exact List.mem_of_getElem? this
  · intro h
    obtain ⟨i, hi⟩ := List.mem_iff_getElem?.1 h
    by_cases e : Lib.indexByte l b = -1
    · exact absurd hi (Lib.indexByte_none e i)
    · omega
theorem contains_f (s : ByteArray) (d : UInt8) : strings_Contains.f s ⟨#[d]⟩ = some (decide (d ∈ s.data.toList)) := by
  unfold strings_Contains.f strings_Index.f stringslite_Index.f
  have hg : (⟨#[d]⟩ : ByteArray).get! 0 = d := rfl
  have hs1 : (⟨#[d]⟩ : ByteArray).size = 1 := rfl
  rw [if_pos hs1, hg, Option.bind_some, Option.bind_some]
  exact congrArg some (decide_eq_decide.2 (index_mem _ _))
theorem flat_bytes (s : ByteArray) (h : isText s = true) : s.data.toList = flat (points s) := by
  have := congrArg (fun x => x.data.toList) (chars_of_text s h).2
  simp only [encode_flat, data_mk] at this
  exact this.symm
theorem bytes_append (a b : ByteArray) : (a ++ b).data.toList = a.data.toList ++ b.data.toList := by simp [ByteArray.data_append]
theorem of_bytes (a b : ByteArray) (h : a.data.toList = b.data.toList) : a = b := by rw [← mk_data a, ← mk_data b, h]
theorem bytes_encode (a : List Int) : (encode a).data.toList = flat a := by rw [encode_flat, data_mk]

def plainB (s : ByteArray) : Bool := isNameB s && !decide ((58 : UInt8) ∈ s.data.toList)
theorem isNameB_iff (s : ByteArray) : isNameB s = true ↔ isText s = true ∧ (points s).length ≤ 100 ∧ nameL (points s) = true := by
  unfold isNameB
  rw [Bool.and_eq_true, Bool.and_eq_true, decide_eq_true_eq]
theorem isNameB_enc (a : List Int) (hc : a.all isChar = true) (hl : a.length ≤ 100) (hn : nameL a = true) : isNameB (encode a) = true := by
  have := text_of_chars a hc
  rw [isNameB_iff, this.1, this.2]
  exact ⟨rfl, hl, hn⟩
theorem plain_iff (s : ByteArray) : plainB s = true ↔ ∃ a, s = encode a ∧ a.all isChar = true ∧ partL a = true ∧ a.length ≤ 100 := by
  unfold plainB
  rw [Bool.and_eq_true, isNameB_iff, Bool.not_eq_true', decide_eq_false_iff_not]
  constructor
  · rintro ⟨⟨ht, hl, hn⟩, hm⟩
    have hc := chars_of_text s ht
    refine ⟨points s, hc.2.symm, hc.1, ?_, hl⟩
    rcases split_colon (points s) with h1 | ⟨a, b, e, h1⟩
    · rw [← nameL_none _ h1]; exact hn
    · exact absurd (by rw [flat_bytes s ht, e, flat_colon]; simp) hm
  · rintro ⟨a, rfl, hc, hp, hl⟩
    have ht := text_of_chars a hc
    have hn := part_noColon a hp
    rw [ht.1, ht.2, bytes_encode, nameL_none a hn]
    exact ⟨⟨rfl, hl, hp⟩, flat_noColon a hc hn⟩
theorem split_uniq : ∀ (x y S T : List UInt8), x ++ 58 :: y = S ++ 58 :: T → (58 : UInt8) ∉ x → (58 : UInt8) ∉ y → S = x ∧ T = y := by
  intro x
  induction x with
  | nil =>
    intro y S T h hx hy
    cases S with
    | nil => simp only [List.nil_append, List.cons.injEq, true_and] at h; exact ⟨rfl, h.symm⟩
    | cons c S =>
      simp only [List.nil_append, List.cons_append, List.cons.injEq] at h
      exact absurd (by rw [h.2]; simp) hy
  | cons c x ih =>
    intro y S T h hx hy
    cases S with
    | nil =>
      simp only [List.nil_append, List.cons_append, List.cons.injEq] at h
      exact absurd (by rw [h.1]; simp) hx
    | cons d S =>
      simp only [List.cons_append, List.cons.injEq] at h
      have := ih y S T h.2 (fun hm => hx (List.mem_cons_of_mem _ hm)) hy
      exact ⟨by rw [h.1, this.1], this.2⟩
theorem join_bytes (s t : ByteArray) (d : UInt8) : ((s ++ (⟨#[d]⟩ : ByteArray)) ++ t).data.toList = s.data.toList ++ d :: t.data.toList := by
  rw [bytes_append, bytes_append, List.append_assoc]; rfl
theorem name_join (s t : ByteArray) : isNameB ((s ++ (⟨#[58]⟩ : ByteArray)) ++ t) = true ↔ ∃ a b, s = encode a ∧ t = encode b ∧ a.all isChar = true ∧ b.all isChar = true ∧ partL a = true ∧ partL b = true ∧ a.length + b.length < 100 := by
  constructor
  · intro h
    rw [isNameB_iff] at h
    obtain ⟨ht, hl, hn⟩ := h
    have hc := (chars_of_text _ ht).1
    have hb := flat_bytes _ ht
    rw [join_bytes] at hb
    rcases split_colon (points ((s ++ (⟨#[58]⟩ : ByteArray)) ++ t)) with h1 | ⟨a, b, e, h1⟩
    · exact absurd (by rw [← hb]; simp) (flat_noColon _ hc h1)
    · rw [e] at hc hb hl hn
      rw [nameL_some a b h1, Bool.and_eq_true] at hn
      rw [List.all_append, List.all_cons, Bool.and_eq_true, Bool.and_eq_true] at hc
      rw [flat_colon] at hb
      have hu := split_uniq _ _ _ _ hb.symm (flat_noColon a hc.1 h1) (flat_noColon b hc.2.2 (part_noColon b hn.2))
      refine ⟨a, b, ?_, ?_, hc.1, hc.2.2, hn.1, hn.2, ?_⟩
      · apply of_bytes; rw [bytes_encode, hu.1]
      · apply of_bytes; rw [bytes_encode, hu.2]
      · simp at hl; omega
  · rintro ⟨a, b, rfl, rfl, ha, hb, pa, pb, hl⟩
    have e : (encode a ++ (⟨#[58]⟩ : ByteArray)) ++ encode b = encode (a ++ 58 :: b) := by
      apply of_bytes; rw [join_bytes, bytes_encode, bytes_encode, bytes_encode, flat_colon]
    rw [e]
    refine isNameB_enc _ ?_ ?_ ?_
    · rw [List.all_append, List.all_cons, ha, hb]; rfl
    · simp; omega
    · rw [nameL_some a b (part_noColon a pa), pa, pb]; rfl
theorem name_space (s t : ByteArray) : isNameB ((s ++ (⟨#[32]⟩ : ByteArray)) ++ t) = false := by
  rw [← Bool.not_eq_true]
  intro h
  rw [isNameB_iff] at h
  obtain ⟨ht, hl, hn⟩ := h
  have hb := flat_bytes _ ht
  rw [join_bytes] at hb
  have := flat_mem _ (chars_of_text _ ht).1 32 (by rw [← hb]; simp) (by decide)
  exact name_not _ hn _ (.inl rfl) this
theorem name_colons (s t : ByteArray) : isNameB ((s ++ (⟨#[58, 58]⟩ : ByteArray)) ++ t) = false := by
  rw [← Bool.not_eq_true]
  intro h
  have e : (s ++ (⟨#[58, 58]⟩ : ByteArray)) ++ t = (s ++ (⟨#[58]⟩ : ByteArray)) ++ ((⟨#[58]⟩ : ByteArray) ++ t) := by
    apply of_bytes
    rw [join_bytes, bytes_append, bytes_append, bytes_append, List.append_assoc]; rfl
  rw [e, name_join] at h
  obtain ⟨a, b, _, hb, _, cb, _, pb, _⟩ := h
  have : (58 : UInt8) ∈ flat b := by rw [← bytes_encode, ← hb, bytes_append]; exact List.mem_append_left _ (by simp)
  exact flat_noColon b cb (part_noColon b pb) this
theorem encode_tail : flat [45, 46, 183, 57] = [45, 46, 194, 183, 57] := by decide +kernel
theorem name_more (s : ByteArray) (h : isNameB s = true) (hl : (points s).length ≤ 95) : isNameB (s ++ (⟨#[45, 46, 194, 183, 57]⟩ : ByteArray)) = true := by
  rw [isNameB_iff] at h
  obtain ⟨ht, _, hn⟩ := h
  have hc := chars_of_text s ht
  have e : s ++ (⟨#[45, 46, 194, 183, 57]⟩ : ByteArray) = encode (points s ++ [45, 46, 183, 57]) := by
    apply of_bytes
    rw [bytes_append, bytes_encode, flat_append, encode_tail, flat_bytes s ht]
  rw [e]
  have hx : ([45, 46, 183, 57] : List Int).all (inPart false) = true := by decide
  refine isNameB_enc _ ?_ ?_ ?_
  · rw [List.all_append, hc.1]; rfl
  · simp; omega
  · generalize points s = p at *
    rcases split_colon p with h1 | ⟨a, b, rfl, h1⟩
    · rw [nameL_none p h1] at hn
      have := part_more p _ hn hx
      rw [nameL_none _ (part_noColon _ this)]; exact this
    · rw [nameL_some a b h1, Bool.and_eq_true] at hn
      rw [List.append_assoc, List.cons_append, nameL_some a _ h1, hn.1, part_more b _ hn.2 hx]; rfl
theorem name_norm (s : ByteArray) (h : isNameB s = true) : norm s = s := by
  rw [isNameB_iff] at h
  obtain ⟨ht, _, hn⟩ := h
  have hc := chars_of_text s ht
  have hb := flat_bytes s ht
  rw [norm_bytes]
  apply of_bytes
  rw [data_mk]
  have hsp : ∀ b ∈ s.data.toList, spB b = false := by
    intro b hm
    rw [← Bool.not_eq_true]
    intro hs
    unfold spB at hs
    simp only [Bool.or_eq_true, beq_iff_eq] at hs
    rw [hb] at hm
    exact name_not _ hn _ (by omega) (flat_mem _ hc.1 b hm (by omega))
  generalize s.data.toList = l at *
  cases l with
  | nil => rfl
  | cons x t =>
    have := normB_run (x :: t) [] false [] (by simp) hsp
    rw [List.append_nil] at this
    rw [this]
    simp [normB]
theorem name_count (s : ByteArray) (h : isNameB s = true) : Lib.countByte s.data.toList 58 ≤ 1 := by
  rw [isNameB_iff] at h
  obtain ⟨ht, _, hn⟩ := h
  have hc := chars_of_text s ht
  rw [flat_bytes s ht]
  unfold Lib.countByte
  generalize points s = p at *
  rcases split_colon p with h1 | ⟨a, b, rfl, h1⟩
  · rw [List.count_eq_zero.2 (flat_noColon p hc.1 h1)]; omega
  · rw [nameL_some a b h1, Bool.and_eq_true] at hn
    have hcc := hc.1
    rw [List.all_append, List.all_cons, Bool.and_eq_true, Bool.and_eq_true] at hcc
    rw [flat_colon, List.count_append, List.count_cons_self, List.count_eq_zero.2 (flat_noColon a hcc.1 h1), List.count_eq_zero.2 (flat_noColon b hcc.2.2 (part_noColon b hn.2))]
    omega
theorem name_blank (s : ByteArray) (h : isNameB s = true) : (32 : UInt8) ∉ s.data.toList := by
  rw [isNameB_iff] at h
  obtain ⟨ht, _, hn⟩ := h
  intro hm
  rw [flat_bytes s ht] at hm
  exact name_not _ hn _ (.inl rfl) (flat_mem _ (chars_of_text s ht).1 32 hm (by decide))
theorem name_len (s : ByteArray) (h : isNameB s = true) : 1 ≤ (points s).length := by
  rw [isNameB_iff] at h
  have := (name_chars _ h.2.2).1
  exact List.length_pos_iff.2 this
end Go.Proofs.Ytjhnmclancbilaa.Plain
