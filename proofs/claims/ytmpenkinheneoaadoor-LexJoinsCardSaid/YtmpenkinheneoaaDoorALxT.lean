/- Texts of the claim: LxT. -/
import Derived.Test.YtmpenkinheneoaaDoorALxS
import Derived.Test.YtmpenkinheneoaaDoorAQx31
namespace Go.Proofs.YtmpenkinheneoaaDoor.Plain
set_option linter.unusedVariables false
open Go Go.RowKit Go.Proofs.YtmpenkinheneoaaDoor.HPure Go.Proofs.YtmpenkinheneoaaDoor.Q Go.Proofs.YtmpenkinheneoaaDoor.Lx Go.Proofs.YtmpenkinheneoaaDoorW.PrintWords Go.Proofs.YtmpenkinheneoaaDoorW.PrintLast Go.Proofs.YtmpenkinheneoaaDoorW.PrintMore
theorem ans_ways (s : ByteArray) (hs : s.size ≤ 1000000) : (isText s = false ∧ ansP s = ([], 0, 10)) ∨ (isText s = true ∧ ∃ u e, lx (points s) = .error (u, e) ∧ ansP s = ([], P s u, e)) ∨ (isText s = true ∧ ∃ T, lx (points s) = .ok T ∧ ansP s = (T.map (fun t => tkP s t.1 t.2.1 t.2.2), 0, 0)) := by
  unfold ansP
  cases ht : isText s with
  | false => exact .inl ⟨rfl, rfl⟩
  | true =>
    right
    rw [if_pos rfl, if_pos (by omega)]
    cases he : lx (points s) with
    | error e => exact .inl ⟨rfl, e.1, e.2, rfl, rfl⟩
    | ok T => exact .inr ⟨rfl, T, rfl, rfl⟩
theorem tok_errno (l : List Int) (u : List Int) (e : Int) (h : tok l = .error (u, e)) : e = 5 ∨ e = 2 := by
  cases l with
  | nil => cases h; exact .inl rfl
  | cons c r =>
    rw [tok_cons] at h
    by_cases hq : c = 34 ∨ c = 39
    · rw [if_pos hq] at h
      cases hqq : quo c r with
      | none => rw [hqq] at h; cases h; exact .inl rfl
      | some x => rw [hqq] at h; cases h
    · rw [if_neg hq] at h
      by_cases hn : (num (c :: r)).1 ≠ []
      · rw [if_pos hn] at h
        by_cases hst : starts (num (c :: r)).2 = true
        · rw [if_pos hst] at h; cases h; exact .inl rfl
        · rw [if_neg hst] at h; cases h
      · rw [if_neg hn] at h
        by_cases hm : (nam (c :: r)).1 ≠ []
        · rw [if_pos hm] at h
          by_cases hl : 100 < (nam (c :: r)).1.length
          · rw [if_pos hl] at h; cases h; exact .inr rfl
          · rw [if_neg hl] at h; cases h
        · rw [if_neg hm] at h
          by_cases hg : sgn (c :: r) ≠ []
          · rw [if_pos hg] at h; cases h
          · rw [if_neg hg] at h; cases h; exact .inl rfl
theorem lx_errno : ∀ (n : Nat) (l u : List Int) (e : Int), l.length ≤ n → lx l = .error (u, e) → e = 5 ∨ e = 2 := by
  intro n
  induction n with
  | zero =>
    intro l u e hl h
    cases l with
    | cons c l => simp at hl
    | nil => cases h
  | succ n ih =>
    intro l u e hl h
    cases l with
    | nil => cases h
    | cons c r =>
      simp only [List.length_cons] at hl
      rw [lx_cons] at h
      by_cases hb : Lx.blank c = true
      · rw [if_pos hb] at h; exact ih r u e (by omega) h
      · rw [if_neg hb] at h
        by_cases ho : opens (c :: r) = true
        · rw [if_pos ho] at h
          cases hcm : comm 1 (r.drop 1) with
          | none => rw [hcm] at h; cases h; exact .inl rfl
          | some v =>
            rw [hcm] at h
            have := comm_short hcm
            rw [List.length_drop] at this
            exact ih v u e (by omega) h
        · rw [if_neg ho] at h
          cases ht : tok (c :: r) with
          | error x => rw [ht] at h; cases h; exact tok_errno _ _ _ ht
          | ok y =>
            obtain ⟨k, x, v⟩ := y
            rw [ht] at h
            have := tok_short ht
            simp only [List.length_cons] at this
            exact ih v u e (by omega) (pre_err h)
theorem lx_place {s : ByteArray} {l u : List Int} {e : Int} (h : At s l) (hx : lx l = .error (u, e)) : At s u ∧ u ≠ [] ∧ ∃ p T, l = p ++ u ∧ lx p = .ok T := by
  obtain ⟨p, T, e1, h1, h2⟩ := lx_wrong l.length l u e (Nat.le_refl _) hx
  exact ⟨h.suf ⟨p, e1⟩, h1, p, T, e1, h2⟩
def escB (m : UInt8) : List UInt8 → List UInt8
  | [] => []
  | c :: r => if c = m then m :: m :: escB m r else c :: escB m r
theorem escB_high (m : UInt8) (hm : m.toNat < 128) : ∀ (bs l : List UInt8), (∀ b ∈ bs, 128 ≤ b.toNat) → escB m (bs ++ l) = bs ++ escB m l := by
  intro bs
  induction bs with
  | nil => intro l _; rfl
  | cons b bs ih =>
    intro l h
    have hb := h b List.mem_cons_self
    rw [List.cons_append, escB, if_neg (by intro e; rw [e] at hb; omega), ih l (fun x hx => h x (List.mem_cons_of_mem _ hx))]; rfl
theorem escB_flat (m : Int) (h0 : 0 ≤ m) (h1 : m < 128) : ∀ (x : List Int), x.all isChar = true → escB (m.toNat.toUInt8) (flat x) = flat (esc m x) := by
  have hlow : (m.toNat.toUInt8).toNat < 128 := by have := low_byte h0 h1; omega
  intro x
  induction x with
  | nil => intro _; rfl
  | cons c x ih =>
    intro h
    rw [List.all_cons, Bool.and_eq_true] at h
    rw [flat_cons]
    rcases enc_form c h.1 with ⟨c0, c1, e⟩ | ⟨hh, b, bs, e, hb, hbs⟩
    · rw [e, List.singleton_append, escB, ih h.2, esc]
      by_cases hc : c = m
      · subst hc
        rw [if_pos rfl, if_pos rfl, flat_cons, flat_cons, e]; rfl
      · have : ¬ c.toNat.toUInt8 = m.toNat.toUInt8 := by
          intro e2
          have a := low_byte c0 c1
          have b := low_byte h0 h1
          rw [e2] at a; omega
        rw [if_neg this, if_neg hc, flat_cons, e]; rfl
    · have hall : ∀ y ∈ enc c, 128 ≤ y.toNat := by
        rw [e]; intro y hy
        rcases List.mem_cons.mp hy with hy | hy
        · rw [hy]; omega
        · exact (hbs y hy).1
      rw [escB_high _ hlow (enc c) _ hall, ih h.2, esc, if_neg (by omega), flat_cons]
theorem escB_len (m : UInt8) : ∀ l : List UInt8, (escB m l).length ≤ 2 * l.length := by
  intro l
  induction l with
  | nil => exact Nat.le_refl _
  | cons c l ih => simp only [escB]; split <;> simp <;> omega
theorem app_mk (t : ByteArray) (l : List UInt8) : t ++ mk l = mk (t.data.toList ++ l) := by
  rw [← mk_data (t ++ mk l)]
  simp only [ByteArray.data_append, Array.toList_append, data_mk]
theorem app_size (t : ByteArray) (l : List UInt8) : (t ++ mk l).size = t.size + l.length := by
  rw [app_mk, mk_size, List.length_append, size_data]
theorem one34 : (⟨#[34]⟩ : ByteArray) = mk [34] := rfl
theorem quote_b {s : ByteArray} (hs : s.size ≤ 1000000000) : ∀ (l : List UInt8) (k : Nat) (acc : ByteArray), Rs s l → l.length < k → acc.size + 2 * l.length + 1 ≤ 9000000000000000000 →
    chiselref14_Quote.l0 k s acc (q s l) = some (mk (acc.data.toList ++ (escB 34 l ++ [34]))) := by
  intro l
  induction l with
  | nil =>
    intro k acc h hk ha
    obtain ⟨k, rfl⟩ : ∃ m, k = m + 1 := ⟨k - 1, by omega⟩
    simp only [chiselref14_Quote.l0]
    simp only [List.length_nil] at ha
    rw [if_neg (by rw [q_nil]; omega), if_pos (by omega), one34, app_mk]; rfl
  | cons c l ih =>
    intro k acc h hk ha
    obtain ⟨k, rfl⟩ : ∃ m, k = m + 1 := ⟨k - 1, by omega⟩
    simp only [List.length_cons] at hk ha
    have h0 := h.nonneg
    have h1 := h.le
    have hc := h.cons
    have g1 := hc.le
    have hq := q_cons s c l
    have hx : s.extract (q s (c :: l)).toNat (q s l).toNat = mk [c] := Rs.ext (a := [c]) (l := l) h
    simp only [chiselref14_Quote.l0]
    rw [if_pos q_lt, if_pos h0, h.bt, w64 (by omega) (by omega), ← hq, hx]
    by_cases h34 : c = 34
    · subst h34
      have hz : (acc ++ (⟨#[34]⟩ : ByteArray)).size = acc.size + 1 := by rw [one34, app_size]; rfl
      have hz2 : (mk [(34 : UInt8)]).size = 1 := rfl
      rw [if_pos (by decide), if_pos (by omega), if_pos (by omega), if_pos g1, hz, hz2, if_pos (by omega)]
      rw [ih k _ hc (by omega) (by rw [app_size, hz]; simp; omega), app_mk, data_mk, one34, app_mk, data_mk, escB, if_pos rfl]
      simp
    · have hne : ¬ (c.toNat : Int) = 34 := by
        intro e; apply h34; apply UInt8.toNat_inj.mp; have : (34 : UInt8).toNat = 34 := rfl; omega
      have hz2 : (mk [c]).size = 1 := rfl
      rw [if_neg hne, if_pos (by omega), if_pos g1, hz2, if_pos (by omega)]
      rw [ih k _ hc (by omega) (by rw [app_size]; simp; omega), app_mk, data_mk, escB, if_neg h34]
      simp
theorem quote_f (x : ByteArray) (k : Nat) (hk : x.size < k) (hx : x.size ≤ 1000000000) : chiselref14_Quote.f k x = some (mk (34 :: (escB 34 x.data.toList ++ [34]))) := by
  unfold chiselref14_Quote.f
  have := quote_b hx x.data.toList k (⟨#[34]⟩ : ByteArray) (Rs.full x) (by rw [size_data]; omega) (by rw [size_data]; show 1 + _ + 1 ≤ _; omega)
  rw [q_full] at this
  rw [this]; rfl
def wB (t : S34) : List UInt8 := if t.f0 = 2 then 34 :: (escB 34 t.f1.data.toList ++ [34]) else t.f1.data.toList
def wl (sp : List UInt8) : Bool → List S34 → List UInt8
  | _, [] => []
  | b, t :: T => (if b = true then sp else []) ++ (wB t ++ wl sp true T)
theorem wB_len (t : S34) : (wB t).length ≤ 2 * t.f1.size + 2 := by
  unfold wB
  have := escB_len 34 t.f1.data.toList
  rw [size_data] at this
  split
  · simp; omega
  · rw [size_data]; omega
theorem written_l0 (sp : List UInt8) (hsp : sp.length ≤ 1000) : ∀ (rest pre : List S34) (acc : ByteArray) (k : Nat), (∀ t ∈ rest, t.f1.size ≤ 1000000) → rest.length + 1000000 < k → pre.length + rest.length ≤ 1000000 → acc.size + 3000000 * rest.length ≤ 9000000000000 →
    chisellaw14_written.l0 k (pre ++ rest) (mk sp) acc (pre.length : Int) = some (mk (acc.data.toList ++ wl sp (decide (0 < pre.length)) rest)) := by
  intro rest
  induction rest with
  | nil =>
    intro pre acc k hx hk hp ha
    obtain ⟨k, rfl⟩ : ∃ m, k = m + 1 := ⟨k - 1, by omega⟩
    simp only [chisellaw14_written.l0]
    rw [if_neg (by simp), wl, List.append_nil, mk_data]
  | cons t rest ih =>
    intro pre acc k hx hk hp ha
    obtain ⟨k, rfl⟩ : ∃ m, k = m + 1 := ⟨k - 1, by omega⟩
    simp only [List.length_cons] at hk hp ha
    have ht := hx t List.mem_cons_self
    have e : rd_T34 (pre ++ t :: rest) (pre.length : Int) = t := get_mid z34 pre t rest
    have hq := quote_f t.f1 k (by omega) (by omega)
    have hwl := wB_len t
    have hlen : ((pre.length : Int)) < (((pre ++ t :: rest).length : Nat) : Int) := by simp; omega
    have next : ∀ a : ByteArray, a.size ≤ acc.size + 1000 → (if t.f0 = 2 then ((chiselref14_Quote.f k t.f1).bind fun t259 => (if a.size + t259.size ≤ 9223372036854775807 then (chisellaw14_written.l0 k (pre ++ t :: rest) (mk sp) (a ++ t259) (wrap64 ((pre.length : Int) + 1))) else (none))) else (if a.size + t.f1.size ≤ 9223372036854775807 then (chisellaw14_written.l0 k (pre ++ t :: rest) (mk sp) (a ++ t.f1) (wrap64 ((pre.length : Int) + 1))) else (none))) = some (mk ((a.data.toList ++ wB t) ++ wl sp true rest)) := by
      intro a hza
      have hi : ∀ b : List UInt8, b = wB t → chisellaw14_written.l0 k (pre ++ t :: rest) (mk sp) (a ++ mk b) (wrap64 ((pre.length : Int) + 1)) = some (mk ((a.data.toList ++ wB t) ++ wl sp true rest)) := by
        intro b hb
        have := ih (pre ++ [t]) (a ++ mk b) k (fun y hy => hx y (List.mem_cons_of_mem _ hy)) (by omega) (by simp; omega) (by rw [app_size, hb]; omega)
        rw [List.append_assoc, List.singleton_append, List.length_append, List.length_singleton, decide_eq_true (by omega), app_mk, data_mk] at this
        rw [w64 (by omega) (by omega), app_mk, ← hb]
        exact_mod_cast this
      by_cases h2 : t.f0 = 2
      · rw [if_pos h2, hq, Option.bind_some]
        have hb : 34 :: (escB 34 t.f1.data.toList ++ [34]) = wB t := by unfold wB; rw [if_pos h2]
        rw [hb, mk_size, if_pos (by omega)]
        exact hi _ rfl
      · rw [if_neg h2, if_pos (by omega)]
        have hb : t.f1.data.toList = wB t := by unfold wB; rw [if_neg h2]
        have := hi _ hb
        rw [mk_data] at this; exact this
    simp only [chisellaw14_written.l0]
    rw [e, if_pos hlen]
    by_cases h0 : 0 < pre.length
    · have hz : (mk sp).size = sp.length := mk_size sp
      rw [if_pos (by omega), if_pos (by omega), if_pos (by omega), next (acc ++ mk sp) (by rw [app_size]; omega), app_mk, data_mk, decide_eq_true h0, wl, if_pos rfl]
      simp
    · rw [if_neg (by omega), if_pos (by omega), next acc (by omega), decide_eq_false h0, wl, if_neg (by simp)]
      simp
theorem written_f (T : List S34) (sp : List UInt8) (k : Nat) (hsp : sp.length ≤ 1000) (hT : ∀ t ∈ T, t.f1.size ≤ 1000000) (hl : T.length ≤ 1000000) (hk : 2000000 < k) : chisellaw14_written.f k T (mk sp) = some (mk (wl sp false T)) := by
  unfold chisellaw14_written.f
  have := written_l0 sp hsp T [] (⟨#[]⟩ : ByteArray) k hT (by omega) (by simpa using hl) (by show 0 + _ ≤ _; omega)
  rw [List.nil_append] at this
  rw [show (0 : Int) = (([] : List S34).length : Int) from rfl, this]
  rfl
theorem wB_tk (s : ByteArray) (k : Int) (x u : List Int) (hx : x.all isChar = true) : wB (tkP s k x u) = flat (wr k x) := by
  unfold wB wr
  show (if k = 2 then 34 :: (escB 34 (encode x).data.toList ++ [34]) else (encode x).data.toList) = _
  have he : (encode x).data.toList = flat x := by rw [encode_flat, data_mk]
  rw [he]
  by_cases h : k = 2
  · rw [if_pos h, if_pos h, flat_cons, flat_append, ← escB_flat 34 (by decide) (by decide) x hx]; rfl
  · rw [if_neg h, if_neg h]
theorem wl_tk (s : ByteArray) : ∀ (T : List Tk), (∀ t ∈ T, t.2.1.all isChar = true) → wl [32] false (T.map fun t => tkP s t.1 t.2.1 t.2.2) = flat (wrs T) ∧ wl [32] true (T.map fun t => tkP s t.1 t.2.1 t.2.2) = (if T = [] then [] else 32 :: flat (wrs T)) := by
  intro T
  induction T with
  | nil => intro _; exact ⟨rfl, rfl⟩
  | cons t T ih =>
    intro h
    obtain ⟨h1, h2⟩ := ih (fun x hx => h x (List.mem_cons_of_mem _ hx))
    have hw := wB_tk s t.1 t.2.1 t.2.2 (h t List.mem_cons_self)
    have key : wB (tkP s t.1 t.2.1 t.2.2) ++ wl [32] true (T.map fun t => tkP s t.1 t.2.1 t.2.2) = flat (wrs (t :: T)) := by
      rw [hw, h2]
      cases T with
      | nil => rw [if_pos rfl, List.append_nil]; rfl
      | cons t2 T =>
        have e3 : wrs (t :: t2 :: T) = wr t.1 t.2.1 ++ 32 :: wrs (t2 :: T) := by rw [wrs]; simp
        rw [if_neg (by simp), e3, flat_append, flat_cons]; rfl
    constructor
    · rw [List.map_cons, wl, if_neg (by simp), List.nil_append, key]
    · rw [List.map_cons, wl, if_pos rfl, key, if_neg (by simp)]; rfl
theorem wr_mem {k : Int} {x : List Int} (c : Int) (h : c ∈ wr k x) : c = 34 ∨ c ∈ x := by
  unfold wr at h
  split at h
  · rcases List.mem_cons.mp h with h | h
    · exact .inl h
    · rcases List.mem_append.mp h with h | h
      · exact esc_mem 34 x c h
      · exact .inl (by simpa using h)
  · exact .inr h
theorem wr_len (k : Int) (x : List Int) : (wr k x).length ≤ 2 * x.length + 2 := by
  unfold wr
  have := (esc_len 34 x).1
  split
  · simp; omega
  · omega
theorem wrs_chars : ∀ (T : List Tk), (∀ t ∈ T, t.2.1.all isChar = true) → (wrs T).all isChar = true ∧ (wrs T).length ≤ 2 * (T.map fun t => t.2.1.length).sum + 3 * T.length := by
  intro T
  induction T with
  | nil => intro _; exact ⟨rfl, by simp [wrs]⟩
  | cons t T ih =>
    intro h
    obtain ⟨h1, h2⟩ := ih (fun x hx => h x (List.mem_cons_of_mem _ hx))
    have hw : (wr t.1 t.2.1).all isChar = true := by
      rw [List.all_eq_true]
      intro c hc
      rcases wr_mem c hc with rfl | hc
      · decide
      · exact List.all_eq_true.mp (h t List.mem_cons_self) c hc
    have hl := wr_len t.1 t.2.1
    cases T with
    | nil => exact ⟨hw, by simp [wrs]; omega⟩
    | cons t2 T =>
      have e3 : wrs (t :: t2 :: T) = wr t.1 t.2.1 ++ 32 :: wrs (t2 :: T) := by rw [wrs]; simp
      rw [e3]
      refine ⟨?_, ?_⟩
      · rw [List.all_append, hw, List.all_cons, h1]; decide
      · simp only [List.length_append, List.length_cons, List.map_cons, List.sum_cons] at h2 ⊢; omega
theorem mem_sum (x : Nat) : ∀ L : List Nat, x ∈ L → x ≤ L.sum := by
  intro L
  induction L with
  | nil => intro h; cases h
  | cons a L ih =>
    intro h
    rw [List.sum_cons]
    rcases List.mem_cons.mp h with h | h
    · omega
    · have := ih h; omega
theorem flat_split : ∀ (A L : List Int) (w : List UInt8), A.all isChar = true → L.all isChar = true → flat L = flat A ++ w → ∃ M, L = A ++ M ∧ w = flat M := by
  intro A
  induction A with
  | nil => intro L w _ _ h; exact ⟨L, rfl, by simpa [flat_nil] using h.symm⟩
  | cons a A ih =>
    intro L w hA hL h
    rw [List.all_cons, Bool.and_eq_true] at hA
    have pa := enc_pos a
    cases L with
    | nil =>
      rw [flat_nil, flat_cons] at h
      have := congrArg List.length h
      simp only [List.length_nil, List.length_append] at this; omega
    | cons c L =>
      rw [List.all_cons, Bool.and_eq_true] at hL
      rw [flat_cons, flat_cons, List.append_assoc] at h
      have d1 := (dec_at [] (flat L) c hL.1).1
      have d2 := (dec_at [] (flat A ++ w) a hA.1).1
      rw [h] at d1
      rw [d1] at d2
      simp only [Prod.mk.injEq] at d2
      have hca : c = a := by
        have x := (isChar_iff c).1 hL.1
        have y := (isChar_iff a).1 hA.1
        omega
      subst hca
      obtain ⟨M, e1, e2⟩ := ih L w hA.2 hL.2 (List.append_cancel_left h)
      exact ⟨M, by rw [e1]; rfl, e2⟩
theorem text_join (a b : ByteArray) (ha : isText a = true) : isText ((a ++ (⟨#[10]⟩ : ByteArray)) ++ b) = isText b ∧ (isText b = true → points ((a ++ (⟨#[10]⟩ : ByteArray)) ++ b) = points a ++ 10 :: points b) := by
  obtain ⟨a1, a2⟩ := chars_of_text a ha
  have hj : (a ++ (⟨#[10]⟩ : ByteArray)) ++ b = mk (flat (points a) ++ 10 :: b.data.toList) := by
    have e1 : a = mk (flat (points a)) := by rw [← encode_flat]; exact a2.symm
    have : (⟨#[10]⟩ : ByteArray) = mk [10] := rfl
    rw [this, app_mk, ← mk_data (mk _ ++ b)]
    simp only [ByteArray.data_append, Array.toList_append, data_mk]
    have e2 : a.data.toList = flat (points a) := by
      have := congrArg (fun x : ByteArray => x.data.toList) e1
      rw [data_mk] at this; exact this
    rw [e2]; simp
  have hyes : isText b = true → isText (mk (flat (points a) ++ 10 :: b.data.toList)) = true ∧ points (mk (flat (points a) ++ 10 :: b.data.toList)) = points a ++ 10 :: points b := by
    intro hb
    obtain ⟨b1, b2⟩ := chars_of_text b hb
    have e2 : b.data.toList = flat (points b) := by
      have := congrArg (fun x : ByteArray => x.data.toList) b2
      rw [encode_flat, data_mk] at this; exact this.symm
    have e3 : mk (flat (points a) ++ 10 :: b.data.toList) = encode (points a ++ 10 :: points b) := by
      rw [encode_flat, flat_append, flat_cons, e2]; rfl
    rw [e3]
    exact text_of_chars _ (by rw [List.all_append, a1, List.all_cons, b1]; decide)
  rw [hj]
  refine ⟨?_, fun hb => (hyes hb).2⟩
  cases hb : isText b with
  | true => exact (hyes hb).1
  | false =>
    cases hJ : isText (mk (flat (points a) ++ 10 :: b.data.toList)) with
    | false => rfl
    | true =>
      exfalso
      obtain ⟨j1, j2⟩ := chars_of_text _ hJ
      have j3 := congrArg (fun x : ByteArray => x.data.toList) j2
      rw [encode_flat] at j3
      simp only [data_mk] at j3
      have j4 : flat (points (mk (flat (points a) ++ 10 :: b.data.toList))) = flat (points a ++ [10]) ++ b.data.toList := by
        rw [j3, flat_append, flat_cons, flat_nil, List.append_nil, show enc 10 = [10] from by decide]; simp
      obtain ⟨M, m1, m2⟩ := flat_split (points a ++ [10]) _ b.data.toList (by rw [List.all_append, a1]; decide) j1 j4
      have hM : M.all isChar = true := by
        rw [m1, List.all_append, Bool.and_eq_true] at j1; exact j1.2
      have := (text_of_chars M hM).1
      rw [encode_flat, ← m2, mk_data, hb] at this
      cases this
end Go.Proofs.YtmpenkinheneoaaDoor.Plain
