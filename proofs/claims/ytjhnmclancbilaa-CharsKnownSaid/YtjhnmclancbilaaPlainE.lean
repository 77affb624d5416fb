/- White space, plainly: fields by code points are fields by bytes. -/
import Derived.Test.YtjhnmclancbilaaPlainC
import Derived.Test.YtjhnmclancbilaaQx3
import Derived.Test.YtjhnmclancbilaaQx2
import Derived.Test.YtjhnmclancbilaaQx14
import Derived.Test.YtjhnmclancbilaaQx27
namespace Go.Proofs.Ytjhnmclancbilaa.Plain
set_option linter.unusedVariables false
open Go Go.RowKit Go.Proofs.Ytjhnmclancbilaa.HPure Go.Proofs.Ytjhnmclancbilaa.Q Go.Proofs.YtjhnmclancbilaaW.PrintWords Go.Proofs.YtjhnmclancbilaaW.PrintLast Go.Proofs.YtjhnmclancbilaaW.PrintMore

def spB (b : UInt8) : Bool := b.toNat == 32 || b.toNat == 9 || b.toNat == 10 || b.toNat == 13
theorem spB_high (b : UInt8) (h : 128 ≤ b.toNat) : spB b = false := by unfold spB; simp; omega
/-- A code point beyond ASCII is made of bytes beyond ASCII. -/
theorem high_bytes (n b0 b1 b2 b3 : Nat) (hn : 1 ≤ n) (h : 128 ≤ b0) : 128 ≤ (Lib.decodeN n b0 b1 b2 b3).1 ∧ 1 ≤ (Lib.decodeN n b0 b1 b2 b3).2 ∧ (Lib.decodeN n b0 b1 b2 b3).2 ≤ 4 ∧ (Lib.decodeN n b0 b1 b2 b3).2 ≤ n ∧ (1 < (Lib.decodeN n b0 b1 b2 b3).2 → 128 ≤ b1) ∧ (2 < (Lib.decodeN n b0 b1 b2 b3).2 → 128 ≤ b2) ∧ (3 < (Lib.decodeN n b0 b1 b2 b3).2 → 128 ≤ b3) := by
  unfold Lib.decodeN
  repeat' split
  all_goals simp only
  all_goals omega
theorem drop_cons (s : ByteArray) (pos : Nat) (h : pos < s.size) : s.data.toList.drop pos = s.get! pos :: s.data.toList.drop (pos + 1) := by
  have hl := size_data s
  have gg : s.get! pos = s.data.toList[pos]?.getD 0 := by rw [← mk_get, mk_data]
  have hp : pos < s.data.toList.length := by omega
  rw [List.drop_eq_getElem_cons hp, gg, List.getElem?_eq_getElem hp]
  rfl
/-- One code point: a byte of ASCII, or bytes beyond it. -/
theorem step_bytes (s : ByteArray) (pos : Nat) (h : pos < s.size) :
    ((s.get! pos).toNat < 128 ∧ Utf8.decode s pos = ((s.get! pos).toNat, 1)) ∨
    (sp (Utf8.decode s pos).1 = false ∧ 1 ≤ (Utf8.decode s pos).2 ∧ pos + (Utf8.decode s pos).2 ≤ s.size ∧ ∃ bs : List UInt8, bs ≠ [] ∧ (∀ b ∈ bs, spB b = false) ∧ bs.length = (Utf8.decode s pos).2 ∧ s.data.toList.drop pos = bs ++ s.data.toList.drop (pos + (Utf8.decode s pos).2)) := by
  rw [Lib.decode_at]
  by_cases ha : (s.get! pos).toNat < 128
  · exact .inl ⟨ha, decodeN_one _ _ _ _ _ ha⟩
  · refine .inr ?_
    have hh := high_bytes (s.size - pos) (s.get! pos).toNat (s.get! (pos + 1)).toNat (s.get! (pos + 2)).toNat (s.get! (pos + 3)).toNat (by omega) (by omega)
    obtain ⟨r, w, hr⟩ : ∃ r w, Lib.decodeN (s.size - pos) (s.get! pos).toNat (s.get! (pos + 1)).toNat (s.get! (pos + 2)).toNat (s.get! (pos + 3)).toNat = (r, w) := ⟨_, _, rfl⟩
    rw [hr] at hh ⊢
    obtain ⟨h1, h2, h3, h4, h5, h6, h7⟩ := hh
    simp only at h1 h2 h3 h4 h5 h6 h7 ⊢
    refine ⟨by unfold sp; simp; omega, h2, by omega, ([s.get! pos, s.get! (pos + 1), s.get! (pos + 2), s.get! (pos + 3)] : List UInt8).take w, ?_, ?_, by simp; omega, ?_⟩
    · intro e
      have := congrArg List.length e
      simp at this
      omega
    · intro b hb
      apply spB_high
      match w, h2, h3 with
      | 1, _, _ => simp at hb; subst hb; omega
      | 2, _, _ => simp at hb; rcases hb with rfl | rfl <;> omega
      | 3, _, _ => simp at hb; rcases hb with rfl | rfl | rfl <;> omega
      | 4, _, _ => simp at hb; rcases hb with rfl | rfl | rfl | rfl <;> omega
    · have gg : ∀ i, s.get! i = s.data.toList[i]?.getD 0 := by
        intro i
        rw [← mk_get, mk_data]
      rw [gg pos, gg (pos + 1), gg (pos + 2), gg (pos + 3)]
      exact take_of_get _ _ _ (by rw [size_data]; omega) h3
theorem sp_byte (b : UInt8) : sp b.toNat = spB b := rfl

/-- White space, byte by byte. -/
theorem isSpace_bytes (s : ByteArray) : isSpace s = s.data.toList.all spB := by
  have key : ∀ f pos, pos ≤ s.size → s.size ≤ pos + f → decide (Lib.idxFuncFrom (fun c => !sp c) true s f pos < 0) = (s.data.toList.drop pos).all spB := by
    intro f
    induction f with
    | zero =>
      intro pos h1 h2
      rw [List.drop_of_length_le (by rw [size_data]; omega)]
      rfl
    | succ f ih =>
      intro pos h1 h2
      by_cases hp : pos < s.size
      · unfold Lib.idxFuncFrom
        rw [if_pos hp]
        rcases step_bytes s pos hp with ⟨ha, hd⟩ | ⟨hs, hw, hle, bs, hne, hbs, hlen, hdrop⟩
        · rw [hd, drop_cons s pos hp, List.all_cons, ← sp_byte]
          simp only
          cases hsp : sp (s.get! pos).toNat
          · rw [if_pos (by rfl)]; simp
          · rw [if_neg (by simp), ih (pos + 1) (by omega) (by omega)]; simp
        · rw [hs, if_pos (by rfl), hdrop]
          match bs, hne with
          | b :: t, _ =>
            rw [List.cons_append, List.all_cons, hbs b (by simp)]
            simp
      · rw [List.drop_of_length_le (by rw [size_data]; omega), Lib.idxFuncFrom_end _ _ _ _ _ hp]
        rfl
  have := key s.size 0 (Nat.zero_le _) (by omega)
  unfold isSpace Lib.idxFunc
  rw [this]
  rfl
theorem space_ref (b : UInt8) : chiselref01_space.f (b.toNat : Int) = some (spB b) := by
  unfold chiselref01_space.f spB
  by_cases h9 : b.toNat = 9
  · rw [h9]; rfl
  by_cases h10 : b.toNat = 10
  · rw [h10]; rfl
  by_cases h13 : b.toNat = 13
  · rw [h13]; rfl
  rw [if_neg (by omega), if_neg (by omega), if_neg (by omega), beq_eq_false_iff_ne.2 h9, beq_eq_false_iff_ne.2 h10, beq_eq_false_iff_ne.2 h13]
  have : ((b.toNat : Int) == 32) = (b.toNat == 32) := by rw [Bool.eq_iff_iff, beq_iff_eq, beq_iff_eq]; omega
  rw [this]; simp
theorem isSpace_ref (s : ByteArray) (k : Nat) (hs : s.size ≤ 1099511627776) (hk : s.size + 1 ≤ k) : chiselref01_IsSpace.f k s = some (isSpace s) := by
  have key : ∀ d i k, i + d = s.size → d + 1 ≤ k → chiselref01_IsSpace.l0 k s (i : Int) = some ((s.data.toList.drop i).all spB) := by
    intro d
    induction d with
    | zero =>
      intro i k h1 h2
      obtain ⟨m, rfl⟩ : ∃ m, k = m + 1 := ⟨k - 1, by omega⟩
      simp only [chiselref01_IsSpace.l0]
      rw [if_neg (by omega), List.drop_of_length_le (by rw [size_data]; omega)]
      rfl
    | succ d ih =>
      intro i k h1 h2
      obtain ⟨m, rfl⟩ : ∃ m, k = m + 1 := ⟨k - 1, by omega⟩
      simp only [chiselref01_IsSpace.l0]
      rw [if_pos (by omega), if_pos (by omega), bt_get, space_ref, Option.bind_some, drop_cons s i (by omega), List.all_cons, w64 (by omega) (by omega)]
      have := ih (i + 1) m (by omega) (by omega)
      rw [show ((i + 1 : Nat) : Int) = (i : Int) + 1 from by omega] at this
      cases spB (s.get! i)
      · rfl
      · rw [if_pos rfl, this]; rfl
  unfold chiselref01_IsSpace.f
  rw [isSpace_bytes]
  exact key s.size 0 k (by omega) hk

/-! ### Normalised white space -/
def normB : List UInt8 → Bool → List UInt8 → List UInt8
  | acc, _, [] => acc
  | acc, p, b :: t => if spB b = true then normB acc (decide (acc ≠ [])) t else normB (acc ++ (if p = true then [32] else []) ++ [b]) false t
theorem normB_run : ∀ (bs : List UInt8) (acc : List UInt8) (p : Bool) (t : List UInt8), bs ≠ [] → (∀ b ∈ bs, spB b = false) → normB acc p (bs ++ t) = normB (acc ++ (if p = true then [32] else []) ++ bs) false t := by
  intro bs
  induction bs with
  | nil => intro _ _ _ h; exact absurd rfl h
  | cons b r ih =>
    intro acc p t _ hb
    rw [List.cons_append]
    simp only [normB]
    rw [if_neg (by rw [hb b (by simp)]; simp)]
    cases r with
    | nil => rfl
    | cons b2 r2 =>
      rw [ih _ false t (by simp) (fun x hx => hb x (by simp [hx]))]
      simp
theorem join_nil (sep : List UInt8) : Lib.join [] sep = [] := rfl
theorem join_snoc (xs : List (List UInt8)) (y sep : List UInt8) : Lib.join (xs ++ [y]) sep = if xs = [] then y else Lib.join xs sep ++ sep ++ y := by
  unfold Lib.join
  induction xs with
  | nil => simp [List.intercalate]
  | cons x t ih =>
    rw [if_neg (by simp)]
    cases t with
    | nil => simp [List.intercalate]
    | cons x2 t2 =>
      rw [if_neg (by simp)] at ih
      simp only [List.intercalate, List.cons_append, List.intersperse_cons_cons, List.flatten_cons] at ih ⊢
      rw [ih]
      simp
def piece (s : ByteArray) (x : Nat × Nat) : List UInt8 := (s.data.toList.drop x.1).take (x.2 - x.1)
def cur (s : ByteArray) (acc : List (Nat × Nat)) (st : Option Nat) (pos : Nat) : List UInt8 :=
  Lib.join ((acc ++ (match st with | some a => [(a, pos)] | none => [])).map (piece s)) [32]
theorem piece_len (s : ByteArray) (x : Nat × Nat) (h : x.2 ≤ s.size) : (piece s x).length = x.2 - x.1 := by
  unfold piece
  rw [List.length_take, List.length_drop, size_data]
  omega
theorem join_ne (xs : List (List UInt8)) (sep : List UInt8) (hne : xs ≠ []) (h : ∀ x ∈ xs, x ≠ []) : Lib.join xs sep ≠ [] := by
  obtain ⟨ys, y, rfl⟩ : ∃ ys y, xs = ys ++ [y] := ⟨xs.dropLast, xs.getLast hne, (List.dropLast_concat_getLast hne).symm⟩
  rw [join_snoc]
  have hy := h y (by simp)
  split
  · exact hy
  · simp [hy]
theorem piece_more (s : ByteArray) (a pos w : Nat) (bs : List UInt8) (h : a ≤ pos) (hw : pos + w ≤ s.size) (hl : bs.length = w) (hd : s.data.toList.drop pos = bs ++ s.data.toList.drop (pos + w)) : piece s (a, pos + w) = piece s (a, pos) ++ bs := by
  unfold piece
  simp only
  rw [show pos + w - a = (pos - a) + w from by omega, List.take_add, List.drop_drop, show a + (pos - a) = pos from by omega, hd, ← hl, List.take_left]
theorem norm_key (s : ByteArray) : ∀ (f pos : Nat) (st : Option Nat) (acc : List (Nat × Nat)), pos ≤ s.size → s.size ≤ pos + f → (∀ x ∈ acc, x.1 < x.2 ∧ x.2 ≤ s.size) → (∀ a, st = some a → a < pos) →
    Lib.join ((Lib.closeSpans s (Lib.spansFromP sp s f pos st acc)).map (piece s)) [32] = normB (cur s acc st pos) (decide (st = none ∧ acc ≠ [])) (s.data.toList.drop pos) := by
  intro f
  induction f with
  | zero =>
    intro pos st acc h1 h2 h3 h4
    have hp : pos = s.size := by omega
    subst hp
    rw [List.drop_of_length_le (by rw [size_data]; omega)]
    cases st <;> simp [Lib.spansFromP, Lib.closeSpans, normB, cur]
  | succ f ih =>
    intro pos st acc h1 h2 h3 h4
    by_cases hp : pos < s.size
    · have cne : ∀ (xs : List (Nat × Nat)), xs ≠ [] → (∀ x ∈ xs, x.1 < x.2 ∧ x.2 ≤ s.size) → Lib.join (xs.map (piece s)) [32] ≠ [] := by
        intro xs hx hall
        refine join_ne _ _ (by simpa using hx) ?_
        intro y hy e
        obtain ⟨x, hx1, rfl⟩ := List.mem_map.1 hy
        have := piece_len s x (hall x hx1).2
        rw [e] at this
        have := (hall x hx1).1
        simp at *
        omega
      unfold Lib.spansFromP
      rw [if_pos hp]
      rcases step_bytes s pos hp with ⟨ha, hd⟩ | ⟨hs, hw, hle, bs, hne, hbs, hlen, hdrop⟩
      · rw [hd]
        simp only
        rw [drop_cons s pos hp]
        simp only [normB]
        rw [sp_byte]
        cases hb : spB (s.get! pos)
        · -- no white space
          simp only [Bool.false_eq_true, if_false]
          have hd1 : s.data.toList.drop pos = [s.get! pos] ++ s.data.toList.drop (pos + 1) := drop_cons s pos hp
          cases st with
          | none =>
            simp only
            rw [ih (pos + 1) (some pos) acc (by omega) (by omega) h3 (fun a e => by cases e; omega)]
            have e1 : cur s acc (some pos) (pos + 1) = cur s acc none pos ++ (if decide ((none : Option Nat) = none ∧ acc ≠ []) = true then [32] else []) ++ [s.get! pos] := by
              unfold cur
              simp only [List.map_append, List.map_cons, List.map_nil, List.append_nil]
              rw [join_snoc, piece_more s pos pos 1 [s.get! pos] (Nat.le_refl _) (by omega) rfl hd1]
              have : piece s (pos, pos) = [] := by unfold piece; simp
              rw [this]
              by_cases hacc : acc = []
              · subst hacc; simp [join_nil]
              · simp [hacc]
            rw [e1]
            simp
          | some a =>
            simp only
            rw [ih (pos + 1) (some a) acc (by omega) (by omega) h3 (fun b e => by cases e; have := h4 a rfl; omega)]
            have e1 : cur s acc (some a) (pos + 1) = cur s acc (some a) pos ++ [s.get! pos] := by
              unfold cur
              simp only [List.map_append, List.map_cons, List.map_nil]
              rw [join_snoc, join_snoc, piece_more s a pos 1 [s.get! pos] (by have := h4 a rfl; omega) (by omega) rfl hd1]
              split <;> simp
            rw [e1]
            simp
        · simp only [if_true]
          cases st with
          | none =>
            simp only
            rw [ih (pos + 1) none acc (by omega) (by omega) h3 (fun a e => by cases e)]
            have e1 : cur s acc none (pos + 1) = cur s acc none pos := rfl
            rw [e1]
            congr 1
            unfold cur
            simp only [List.append_nil, true_and]
            by_cases hacc : acc = []
            · subst hacc; simp [join_nil]
            · have := cne acc hacc h3
              simp [hacc, this]
          | some a =>
            simp only
            have h3' : ∀ x ∈ acc ++ [(a, pos)], x.1 < x.2 ∧ x.2 ≤ s.size := by
              intro x hx
              rcases List.mem_append.1 hx with hx | hx
              · exact h3 x hx
              · simp at hx; subst hx; exact ⟨h4 a rfl, by omega⟩
            rw [ih (pos + 1) none (acc ++ [(a, pos)]) (by omega) (by omega) h3' (fun a e => by cases e)]
            have e1 : cur s (acc ++ [(a, pos)]) none (pos + 1) = cur s acc (some a) pos := by unfold cur; simp
            rw [e1]
            congr 1
            have := cne (acc ++ [(a, pos)]) (by simp) h3'
            have e2 : cur s acc (some a) pos ≠ [] := this
            simp [e2]
      · obtain ⟨r, w, hr⟩ : ∃ r w, Utf8.decode s pos = (r, w) := ⟨_, _, rfl⟩
        rw [hr] at hs hw hle hlen hdrop ⊢
        simp only at hs hw hle hlen hdrop ⊢
        rw [hs]
        simp only [Bool.false_eq_true, if_false]
        rw [hdrop, normB_run bs _ _ _ hne hbs]
        cases st with
        | none =>
          simp only
          rw [ih (pos + w) (some pos) acc (by omega) (by omega) h3 (fun a e => by cases e; omega)]
          have e1 : cur s acc (some pos) (pos + w) = cur s acc none pos ++ (if decide ((none : Option Nat) = none ∧ acc ≠ []) = true then [32] else []) ++ bs := by
            unfold cur
            simp only [List.map_append, List.map_cons, List.map_nil, List.append_nil]
            rw [join_snoc, piece_more s pos pos w bs (Nat.le_refl _) (by omega) hlen hdrop]
            have : piece s (pos, pos) = [] := by unfold piece; simp
            rw [this]
            by_cases hacc : acc = []
            · subst hacc; simp [join_nil]
            · simp [hacc]
          rw [e1]
          simp
        | some a =>
          simp only
          rw [ih (pos + w) (some a) acc (by omega) (by omega) h3 (fun b e => by cases e; have := h4 a rfl; omega)]
          have e1 : cur s acc (some a) (pos + w) = cur s acc (some a) pos ++ bs := by
            unfold cur
            simp only [List.map_append, List.map_cons, List.map_nil]
            rw [join_snoc, join_snoc, piece_more s a pos w bs (by have := h4 a rfl; omega) (by omega) hlen hdrop]
            split <;> simp
          rw [e1]
          simp
    · have hp' : pos = s.size := by omega
      subst hp'
      rw [List.drop_of_length_le (by rw [size_data]; omega), Lib.spansFromP_end _ _ _ _ _ _ hp]
      cases st <;> simp [Lib.closeSpans, normB, cur]
/-- Normalised white space, byte by byte. -/
theorem norm_bytes (s : ByteArray) : norm s = mk (normB [] false s.data.toList) := by
  have := norm_key s s.size 0 none [] (Nat.zero_le _) (by omega) (fun x hx => by cases hx) (fun a e => by cases e)
  unfold norm mk
  congr 2
  have e : (Lib.goFieldsP sp s).map (·.data.toList) = (Lib.closeSpans s (Lib.spansFromP sp s s.size 0 none [])).map (piece s) := by
    unfold Lib.goFieldsP Lib.spansOfP
    rw [List.map_map]
    apply List.map_congr_left
    intro x _
    simp only [Function.comp, piece]
    rw [Lib.extract_data]
  rw [e, this]
  rfl
theorem normB_len : ∀ (l acc : List UInt8) (p : Bool), (normB acc p l).length ≤ acc.length + 2 * l.length := by
  intro l
  induction l with
  | nil => intro acc p; simp [normB]
  | cons b t ih =>
    intro acc p
    simp only [normB]
    split
    · have := ih acc (decide (acc ≠ [])); simp only [List.length_cons]; omega
    · have := ih (acc ++ (if p = true then [32] else []) ++ [b]) false
      have hp : (if p = true then ([32] : List UInt8) else []).length ≤ 1 := by cases p <;> simp
      simp only [List.length_append, List.length_cons, List.length_nil] at this ⊢
      omega
theorem norm_ref (s : ByteArray) (k : Nat) (hs : s.size ≤ 1099511627776) (hk : s.size + 1 ≤ k) : chiselref01_Norm.f k s = some (norm s) := by
  have key : ∀ d i k (acc : List UInt8) p, i + d = s.size → d + 1 ≤ k → acc.length ≤ 2 * i → chiselref01_Norm.l0 k s (acc.map fun b => (b.toNat : Int)) p (i : Int) = some (mk (normB acc p (s.data.toList.drop i))) := by
    intro d
    induction d with
    | zero =>
      intro i k acc p h1 h2 h3
      obtain ⟨m, rfl⟩ : ∃ m, k = m + 1 := ⟨k - 1, by omega⟩
      simp only [chiselref01_Norm.l0]
      rw [if_neg (by omega), List.drop_of_length_le (by rw [size_data]; omega), strOfNums_bytes]
      rfl
    | succ d ih =>
      intro i k acc p h1 h2 h3
      obtain ⟨m, rfl⟩ : ∃ m, k = m + 1 := ⟨k - 1, by omega⟩
      simp only [chiselref01_Norm.l0]
      rw [if_pos (by omega), if_pos (by omega), bt_get, space_ref, Option.bind_some, drop_cons s i (by omega), w64 (by omega) (by omega)]
      simp only [normB]
      have hc : ((i : Int) + 1) = ((i + 1 : Nat) : Int) := by omega
      rw [hc]
      cases hb : spB (s.get! i)
      · simp only [Bool.false_eq_true, if_false]
        cases p
        · simp only [Bool.false_eq_true, if_false, List.append_nil]
          rw [List.length_map, if_pos (by omega)]
          have := ih (i + 1) m (acc ++ [s.get! i]) false (by omega) (by omega) (by simp; omega)
          rw [← this]
          simp
        · simp only [if_true, Option.bind_some]
          rw [List.length_map, if_pos (by omega), List.length_append, List.length_map, if_pos (by simp; omega)]
          have := ih (i + 1) m (acc ++ [32] ++ [s.get! i]) false (by omega) (by omega) (by simp; omega)
          rw [← this]
          simp
      · simp only [if_true]
        have := ih (i + 1) m acc (decide (acc ≠ [])) (by omega) (by omega) (by omega)
        rw [← this, List.length_map]
        congr 2
        cases acc <;> simp
  unfold chiselref01_Norm.f
  rw [norm_bytes]
  exact key s.size 0 k [] false (by omega) hk (by simp)
theorem spans_len (s : ByteArray) : ∀ (f pos : Nat) (st : Option Nat) (acc : List (Nat × Nat)), (Lib.spansFromP sp s f pos st acc).1.length ≤ acc.length + f := by
  intro f
  induction f with
  | zero => intro pos st acc; simp [Lib.spansFromP]
  | succ f ih =>
    intro pos st acc
    unfold Lib.spansFromP
    repeat' split
    · have := ih (pos + (Utf8.decode s pos).2) none (acc ++ [(‹Nat›, pos)]); simp only [List.length_append, List.length_cons, List.length_nil] at this ⊢; omega
    · have := ih (pos + (Utf8.decode s pos).2) none acc; omega
    · have := ih (pos + (Utf8.decode s pos).2) (some ‹Nat›) acc; omega
    · have := ih (pos + (Utf8.decode s pos).2) (some pos) acc; omega
    · simp
theorem fields_len (s : ByteArray) : (Lib.goFieldsP sp s).length ≤ s.size + 1 := by
  unfold Lib.goFieldsP Lib.spansOfP Lib.closeSpans
  have := spans_len s s.size 0 none []
  simp only [List.length_nil] at this
  rw [List.length_map]
  split
  · rw [List.length_append]; simp only [List.length_cons, List.length_nil]; omega
  · omega
theorem norm_size (s : ByteArray) : (norm s).size ≤ 2 * s.size := by
  rw [norm_bytes, mk_size]
  have := normB_len s.data.toList [] false
  rw [size_data] at this
  simpa using this
theorem norm_f (s : ByteArray) (h : s.size ≤ 1000000000) : chars_Norm.f s = some (norm s) := by
  unfold chars_Norm.f
  have h1 := norm_size s
  have h2 := fields_len s
  rw [if_pos ⟨by omega, by omega, by omega⟩]
end Go.Proofs.Ytjhnmclancbilaa.Plain
