/- Texts of the claim: LxA. -/
namespace Go.Proofs.YtmpenkinheneoaaDoor.Lx
set_option linter.unusedVariables false
def blank (c : Int) : Bool := c == 32 || c == 9 || c == 10 || c == 13
def dig (c : Int) : Bool := decide (48 ≤ c) && decide (c ≤ 57)
def lett (c : Int) : Bool := (decide (97 ≤ c) && decide (c ≤ 122)) || (decide (65 ≤ c) && decide (c ≤ 90)) || c == 95 || (decide (192 ≤ c) && c != 215 && c != 247)
def cont (c : Int) : Bool := lett c || (c == 45 || c == 46 || c == 183 || dig c)
def frac : List Int → List Int × List Int
  | [] => ([], [])
  | c :: r => if c = 46 ∧ r.takeWhile dig ≠ [] then (c :: r.takeWhile dig, r.dropWhile dig) else ([], c :: r)
def psign : List Int → List Int × List Int
  | [] => ([], [])
  | c :: r => if c = 43 ∨ c = 45 then ([c], r) else ([], c :: r)
def expo : List Int → List Int × List Int
  | [] => ([], [])
  | c :: r => if (c = 101 ∨ c = 69) ∧ (psign r).2.takeWhile dig ≠ [] then (c :: ((psign r).1 ++ (psign r).2.takeWhile dig), (psign r).2.dropWhile dig) else ([], c :: r)
def num (l : List Int) : List Int × List Int :=
  if l.takeWhile dig = [] ∧ (frac (l.dropWhile dig)).1 = [] then ([], l)
  else (l.takeWhile dig ++ ((frac (l.dropWhile dig)).1 ++ (expo (frac (l.dropWhile dig)).2).1), (expo (frac (l.dropWhile dig)).2).2)
def colon : List Int → List Int × List Int
  | c :: d :: r => if c = 58 ∧ lett d = true then (c :: d :: r.takeWhile cont, r.dropWhile cont) else ([], c :: d :: r)
  | l => ([], l)
def nam : List Int → List Int × List Int
  | [] => ([], [])
  | c :: r => if lett c = true then (c :: (r.takeWhile cont ++ (colon (r.dropWhile cont)).1), (colon (r.dropWhile cont)).2) else ([], c :: r)
def signs : List (List Int) := [[46, 46], [47, 47], [124, 124], [33, 61], [60, 61], [60, 60], [62, 61], [62, 62], [58, 61], [58, 58], [61, 62], [40], [41], [91], [93], [123], [125], [44], [46], [64], [47], [124], [43], [45], [42], [61], [60], [62], [58], [33], [63], [35], [36]]
def find : List (List Int) → List Int → List Int
  | [], _ => []
  | s :: t, l => if s.isPrefixOf l = true then s else find t l
def sgn (l : List Int) : List Int := find signs l
def quo (m : Int) : List Int → Option (List Int × List Int)
  | [] => none
  | [c] => if c = m then some ([], []) else none
  | c :: d :: r => if c = m then (if d = m then (quo m r).map (fun x => (m :: x.1, x.2)) else some ([], d :: r)) else (quo m (d :: r)).map (fun x => (c :: x.1, x.2))
def starts : List Int → Bool
  | [] => false
  | c :: _ => lett c
def tok : List Int → Except (List Int × Int) (Int × List Int × List Int)
  | [] => .error ([], 5)
  | c :: r =>
    if c = 34 ∨ c = 39 then (match quo c r with | none => .error (c :: r, 5) | some x => .ok (2, x.1, x.2))
    else if (num (c :: r)).1 ≠ [] then (if starts (num (c :: r)).2 = true then .error ((num (c :: r)).2, 5) else .ok (1, (num (c :: r)).1, (num (c :: r)).2))
    else if (nam (c :: r)).1 ≠ [] then (if 100 < (nam (c :: r)).1.length then .error (c :: r, 2) else .ok (0, (nam (c :: r)).1, (nam (c :: r)).2))
    else if sgn (c :: r) ≠ [] then .ok (3, sgn (c :: r), (c :: r).drop (sgn (c :: r)).length) else .error (c :: r, 5)
def comm : Nat → List Int → Option (List Int)
  | d, c :: e :: r => if c = 40 ∧ e = 58 then comm (d + 1) r else if c = 58 ∧ e = 41 then (if d ≤ 1 then some r else comm (d - 1) r) else comm d (e :: r)
  | _, _ => none
def opens : List Int → Bool
  | c :: d :: _ => c == 40 && d == 58
  | _ => false
abbrev Tk := Int × List Int × List Int
def run : Nat → List Int → Except (List Int × Int) (List Tk)
  | 0, _ => .ok []
  | _ + 1, [] => .ok []
  | f + 1, c :: r => if blank c = true then run f r
      else if opens (c :: r) = true then (match comm 1 (r.drop 1) with | none => .error (c :: r, 5) | some u => run f u)
      else match tok (c :: r) with
        | .error e => .error e
        | .ok (k, x, u) => (match run f u with | .error e => .error e | .ok T => .ok ((k, x, c :: r) :: T))
def lx (l : List Int) : Except (List Int × Int) (List Tk) := run l.length l
def sepc (c : Int) : Bool := c == 32 || c == 9 || c == 10 || c == 40
def Like (r w : List Int) : Prop := ∃ p t, r = p ++ t ∧ (w = p ∨ ∃ c t', w = p ++ c :: t' ∧ sepc c = true)
theorem Like.refl (r : List Int) : Like r r := ⟨r, [], by simp, .inl rfl⟩
theorem Like.pre {r p u : List Int} (h : r = p ++ u) : Like r p := ⟨p, u, h, .inl rfl⟩
theorem Like.nil (r : List Int) : Like r [] := ⟨[], r, rfl, .inl rfl⟩
theorem Like.add {r w : List Int} (a : List Int) (h : Like r w) : Like (a ++ r) (a ++ w) := by
  obtain ⟨p, t, rfl, h⟩ := h
  refine ⟨a ++ p, t, by simp, ?_⟩
  rcases h with rfl | ⟨c, t', rfl, hc⟩
  · exact .inl rfl
  · exact .inr ⟨c, t', by simp, hc⟩
theorem Like.head {r w : List Int} {c : Int} (h : Like r (c :: w)) (hc : sepc c = false) : ∃ r', r = c :: r' ∧ Like r' w := by
  obtain ⟨p, t, rfl, h⟩ := h
  cases p with
  | nil =>
    rcases h with h | ⟨c', t', h, hc'⟩
    · cases h
    · simp only [List.nil_append, List.cons.injEq] at h
      rw [h.1, hc'] at hc
      cases hc
  | cons a p =>
    rcases h with h | ⟨c', t', h, hc'⟩
    · simp only [List.cons.injEq] at h
      obtain ⟨rfl, rfl⟩ := h
      exact ⟨w ++ t, rfl, w, t, rfl, .inl rfl⟩
    · simp only [List.cons_append, List.cons.injEq] at h
      obtain ⟨rfl, rfl⟩ := h
      exact ⟨p ++ t, rfl, p, t, rfl, .inr ⟨c', t', rfl, hc'⟩⟩
def NoHead (p : Int → Bool) (r : List Int) : Prop := ∀ c t, r = c :: t → p c = false
theorem NoHead.nil (p : Int → Bool) : NoHead p [] := by intro c t h; cases h
theorem NoHead.cons {p : Int → Bool} {c : Int} {t : List Int} (h : p c = false) : NoHead p (c :: t) := by intro c' t' h'; cases h'; exact h
theorem NoHead.like {p : Int → Bool} {r w : List Int} (h : NoHead p r) (hp : ∀ c, sepc c = true → p c = false) (hw : Like r w) : NoHead p w := by
  intro c t hc
  subst hc
  cases hs : sepc c with
  | true => exact hp c hs
  | false =>
    obtain ⟨r', rfl, _⟩ := hw.head hs
    exact h c r' rfl
theorem span_of {p : Int → Bool} : ∀ (a r : List Int), (∀ x ∈ a, p x = true) → NoHead p r → (a ++ r).takeWhile p = a ∧ (a ++ r).dropWhile p = r := by
  intro a
  induction a with
  | nil =>
    intro r _ h
    cases r with
    | nil => exact ⟨rfl, rfl⟩
    | cons c t => simp [h c t rfl]
  | cons x a ih =>
    intro r ha h
    obtain ⟨h1, h2⟩ := ih r (fun y hy => ha y (List.mem_cons_of_mem _ hy)) h
    have hx := ha x List.mem_cons_self
    simp [hx, h1, h2]
theorem span_is {p : Int → Bool} : ∀ (l : List Int), l = l.takeWhile p ++ l.dropWhile p ∧ (∀ x ∈ l.takeWhile p, p x = true) ∧ NoHead p (l.dropWhile p) := by
  intro l
  refine ⟨List.takeWhile_append_dropWhile.symm, ?_, ?_⟩
  · induction l with
    | nil => simp
    | cons c l ih =>
      intro x hx
      rw [List.takeWhile_cons] at hx
      split at hx
      · rcases List.mem_cons.mp hx with rfl | h
        · assumption
        · exact ih x h
      · simp at hx
  · induction l with
    | nil => exact NoHead.nil _
    | cons c l ih =>
      rw [List.dropWhile_cons]
      split
      · exact ih
      · rename_i h; exact NoHead.cons (by simpa using h)
theorem dig_sep (c : Int) (h : sepc c = true) : dig c = false := by
  simp only [sepc, Bool.or_eq_true, beq_iff_eq] at h
  simp only [dig, Bool.and_eq_false_iff, decide_eq_false_iff_not]
  omega
theorem cont_sep (c : Int) (h : sepc c = true) : cont c = false := by
  simp only [sepc, Bool.or_eq_true, beq_iff_eq] at h
  rcases h with ((rfl | rfl) | rfl) | rfl <;> decide
theorem lett_sep (c : Int) (h : sepc c = true) : lett c = false := by
  simp only [sepc, Bool.or_eq_true, beq_iff_eq] at h
  rcases h with ((rfl | rfl) | rfl) | rfl <;> decide
theorem dig_nsep (c : Int) (h : dig c = true) : sepc c = false := by
  cases hs : sepc c with
  | false => rfl
  | true => rw [dig_sep c hs] at h; cases h
theorem lett_nsep (c : Int) (h : lett c = true) : sepc c = false := by
  cases hs : sepc c with
  | false => rfl
  | true => rw [lett_sep c hs] at h; cases h
def Splits (f : List Int → List Int × List Int) : Prop := ∀ l, l = (f l).1 ++ (f l).2 ∧ ∀ w, Like (f l).2 w → f ((f l).1 ++ w) = ((f l).1, w)
theorem frac_cons (c : Int) (r : List Int) : frac (c :: r) = if c = 46 ∧ r.takeWhile dig ≠ [] then (c :: r.takeWhile dig, r.dropWhile dig) else ([], c :: r) := rfl
theorem psign_cons (c : Int) (r : List Int) : psign (c :: r) = if c = 43 ∨ c = 45 then ([c], r) else ([], c :: r) := rfl
theorem expo_cons (c : Int) (r : List Int) : expo (c :: r) = if (c = 101 ∨ c = 69) ∧ (psign r).2.takeWhile dig ≠ [] then (c :: ((psign r).1 ++ (psign r).2.takeWhile dig), (psign r).2.dropWhile dig) else ([], c :: r) := rfl
theorem nam_cons (c : Int) (r : List Int) : nam (c :: r) = if lett c = true then (c :: (r.takeWhile cont ++ (colon (r.dropWhile cont)).1), (colon (r.dropWhile cont)).2) else ([], c :: r) := rfl
theorem take_first {p : Int → Bool} {l : List Int} (h : l.takeWhile p ≠ []) : ∃ c t, l = c :: t ∧ p c = true := by
  cases l with
  | nil => simp at h
  | cons c t =>
    refine ⟨c, t, rfl, ?_⟩
    rw [List.takeWhile_cons] at h
    split at h
    · assumption
    · simp at h
theorem take_ne {p : Int → Bool} {c : Int} {t : List Int} (h : p c = true) : (c :: t).takeWhile p ≠ [] := by simp [h]
theorem frac_none {r : List Int} (h : (frac r).1 = []) : frac r = ([], r) := by
  cases r with
  | nil => rfl
  | cons c r =>
    rw [frac_cons] at h ⊢
    split
    · rename_i hc; rw [if_pos hc] at h; cases h
    · rfl
theorem frac_splits : Splits frac := by
  intro l
  cases l with
  | nil =>
    refine ⟨rfl, fun w hw => ?_⟩
    change Like [] w at hw
    change frac w = ([], w)
    cases w with
    | nil => rfl
    | cons c w =>
      rw [frac_cons, if_neg]
      rintro ⟨rfl, _⟩
      obtain ⟨r', h, _⟩ := hw.head rfl
      cases h
  | cons c r =>
    rw [frac_cons]
    by_cases h : c = 46 ∧ r.takeWhile dig ≠ []
    · rw [if_pos h]
      obtain ⟨h1, h2, h3⟩ := span_is (p := dig) r
      refine ⟨by simp only [List.cons_append]; rw [← h1], fun w hw => ?_⟩
      obtain ⟨e1, e2⟩ := span_of (p := dig) (r.takeWhile dig) w h2 (h3.like dig_sep hw)
      simp only [List.cons_append]
      rw [frac_cons, e1, e2, if_pos h]
    · rw [if_neg h]
      refine ⟨rfl, fun w hw => ?_⟩
      simp only [List.nil_append] at hw ⊢
      cases w with
      | nil => rfl
      | cons c' w =>
        rw [frac_cons, if_neg]
        rintro ⟨rfl, h2⟩
        obtain ⟨r', hr, hw'⟩ := hw.head rfl
        simp only [List.cons.injEq] at hr
        obtain ⟨rfl, rfl⟩ := hr
        obtain ⟨d, t, rfl, hd⟩ := take_first h2
        obtain ⟨r2, rfl, _⟩ := hw'.head (dig_nsep d hd)
        exact h ⟨rfl, take_ne hd⟩
theorem psign_splits (r : List Int) : r = (psign r).1 ++ (psign r).2 := by
  cases r with
  | nil => rfl
  | cons c r => rw [psign_cons]; split <;> rfl
theorem expo_splits : Splits expo := by
  intro l
  cases l with
  | nil =>
    refine ⟨rfl, fun w hw => ?_⟩
    change Like [] w at hw
    change expo w = ([], w)
    cases w with
    | nil => rfl
    | cons c w =>
      rw [expo_cons, if_neg]
      rintro ⟨hc, _⟩
      obtain ⟨r', h, _⟩ := hw.head (by rcases hc with rfl | rfl <;> rfl)
      cases h
  | cons c r =>
    rw [expo_cons]
    by_cases h : (c = 101 ∨ c = 69) ∧ (psign r).2.takeWhile dig ≠ []
    · rw [if_pos h]
      obtain ⟨h1, h2, h3⟩ := span_is (p := dig) (psign r).2
      have h0 := psign_splits r
      refine ⟨?_, fun w hw => ?_⟩
      · simp only [List.cons_append, List.append_assoc]
        rw [← h1, ← h0]
      · obtain ⟨e1, e2⟩ := span_of (p := dig) ((psign r).2.takeWhile dig) w h2 (h3.like dig_sep hw)
        obtain ⟨d, t, hd, hdd⟩ := take_first h.2
        have hps : psign ((psign r).1 ++ ((psign r).2.takeWhile dig ++ w)) = ((psign r).1, (psign r).2.takeWhile dig ++ w) := by
          obtain ⟨y, hy⟩ : ∃ y, (psign r).2.takeWhile dig = d :: y := by rw [hd]; simp [hdd]
          cases r with
          | nil => simp [psign] at hd
          | cons a r =>
            by_cases ha : a = 43 ∨ a = 45
            · have e : psign (a :: r) = ([a], r) := by rw [psign_cons, if_pos ha]
              rw [e]; simp only [List.cons_append, List.nil_append]; rw [psign_cons, if_pos ha]
            · have e : psign (a :: r) = ([], a :: r) := by rw [psign_cons, if_neg ha]
              rw [e] at hy hd ⊢; simp only [List.nil_append]
              simp only at hy hd
              rw [hy]; simp only [List.cons_append]
              rw [psign_cons, if_neg]
              simp only [List.cons.injEq] at hd
              rw [← hd.1]; exact ha
        simp only [List.cons_append, List.append_assoc]
        rw [expo_cons, hps]
        simp only
        rw [e1, e2, if_pos h]
    · rw [if_neg h]
      refine ⟨rfl, fun w hw => ?_⟩
      simp only [List.nil_append] at hw ⊢
      cases w with
      | nil => rfl
      | cons c' w =>
        rw [expo_cons, if_neg]
        rintro ⟨hc, h2⟩
        obtain ⟨r', hr, hw'⟩ := hw.head (by rcases hc with rfl | rfl <;> rfl)
        simp only [List.cons.injEq] at hr
        obtain ⟨rfl, rfl⟩ := hr
        apply h
        refine ⟨hc, ?_⟩
        cases w with
        | nil => simp [psign] at h2
        | cons a w =>
          rw [psign_cons] at h2
          by_cases ha : a = 43 ∨ a = 45
          · rw [if_pos ha] at h2
            obtain ⟨d, t, rfl, hd⟩ := take_first h2
            obtain ⟨r2, rfl, hw2⟩ := hw'.head (by rcases ha with rfl | rfl <;> rfl)
            obtain ⟨r3, rfl, _⟩ := hw2.head (dig_nsep d hd)
            rw [psign_cons, if_pos ha]; exact take_ne hd
          · rw [if_neg ha] at h2
            obtain ⟨d, t, hd', hd⟩ := take_first h2
            simp only [List.cons.injEq] at hd'
            obtain ⟨rfl, rfl⟩ := hd'
            obtain ⟨r2, rfl, hw2⟩ := hw'.head (dig_nsep a hd)
            rw [psign_cons, if_neg ha]; exact take_ne hd
theorem num_tail (r w : List Int) (hr : NoHead dig r) (hw : Like (expo (frac r).2).2 w) : NoHead dig ((frac r).1 ++ ((expo (frac r).2).1 ++ w)) := by
  obtain ⟨f1, f2⟩ := frac_splits r
  obtain ⟨x1, x2⟩ := expo_splits (frac r).2
  have hL : Like r ((frac r).1 ++ ((expo (frac r).2).1 ++ w)) := by
    have := (hw.add (expo (frac r).2).1).add (frac r).1
    rw [← x1, ← f1] at this
    exact this
  exact hr.like dig_sep hL
theorem num_splits (l : List Int) : l = (num l).1 ++ (num l).2 ∧ ((num l).1 ≠ [] → ∀ w, Like (num l).2 w → num ((num l).1 ++ w) = ((num l).1, w)) := by
  obtain ⟨h1, h2, h3⟩ := span_is (p := dig) l
  obtain ⟨f1, f2⟩ := frac_splits (l.dropWhile dig)
  obtain ⟨x1, x2⟩ := expo_splits (frac (l.dropWhile dig)).2
  unfold num
  by_cases h : l.takeWhile dig = [] ∧ (frac (l.dropWhile dig)).1 = []
  · rw [if_pos h]; exact ⟨rfl, fun h => absurd rfl h⟩
  · rw [if_neg h]
    refine ⟨?_, fun _ w hw => ?_⟩
    · simp only [List.append_assoc]; rw [← x1, ← f1, ← h1]
    · have hh := num_tail (l.dropWhile dig) w h3 hw
      simp only [List.append_assoc]
      obtain ⟨e1, e2⟩ := span_of (p := dig) (l.takeWhile dig) _ h2 hh
      have hw' : Like (frac (l.dropWhile dig)).2 ((expo (frac (l.dropWhile dig)).2).1 ++ w) := by
        have := Like.add (expo (frac (l.dropWhile dig)).2).1 (r := (expo (frac (l.dropWhile dig)).2).2) (w := w) hw
        rw [← x1] at this; exact this
      have ef := f2 ((expo (frac (l.dropWhile dig)).2).1 ++ w) hw'
      have ex := x2 w hw
      rw [e1, e2, ef]
      simp only
      rw [ex]
      simp only
      rw [if_neg h]
theorem colon_splits : Splits colon := by
  intro l
  have none : ∀ l : List Int, (∀ d t, l = 58 :: d :: t → lett d = false) → colon l = ([], l) := by
    intro l h
    match l with
    | [] => rfl
    | [c] => rfl
    | c :: d :: t =>
      rw [colon, if_neg]
      rintro ⟨rfl, hd⟩
      rw [h d t rfl] at hd; cases hd
  by_cases h : ∃ d t, l = 58 :: d :: t ∧ lett d = true
  · obtain ⟨d, t, rfl, hd⟩ := h
    obtain ⟨h1, h2, h3⟩ := span_is (p := cont) t
    rw [colon, if_pos ⟨rfl, hd⟩]
    refine ⟨by simp only [List.cons_append]; rw [← h1], fun w hw => ?_⟩
    obtain ⟨e1, e2⟩ := span_of (p := cont) (t.takeWhile cont) w h2 (h3.like cont_sep hw)
    simp only [List.cons_append]
    rw [colon, e1, e2, if_pos ⟨rfl, hd⟩]
  · have hn : ∀ d t, l = 58 :: d :: t → lett d = false := by
      intro d t e
      cases hd : lett d with
      | false => rfl
      | true => exact absurd ⟨d, t, e, hd⟩ h
    rw [none l hn]
    refine ⟨rfl, fun w hw => ?_⟩
    simp only [List.nil_append]
    apply none
    rintro d t rfl
    cases hd : lett d with
    | false => rfl
    | true =>
      obtain ⟨r, rfl, hw2⟩ := hw.head rfl
      obtain ⟨r2, rfl, _⟩ := hw2.head (lett_nsep d hd)
      exact absurd (hn d r2 rfl) (by rw [hd]; simp)
theorem nam_splits (l : List Int) : l = (nam l).1 ++ (nam l).2 ∧ ((nam l).1 ≠ [] → ∀ w, Like (nam l).2 w → nam ((nam l).1 ++ w) = ((nam l).1, w)) := by
  cases l with
  | nil => exact ⟨rfl, fun h => absurd rfl h⟩
  | cons c r =>
    obtain ⟨h1, h2, h3⟩ := span_is (p := cont) r
    obtain ⟨x1, x2⟩ := colon_splits (r.dropWhile cont)
    rw [nam_cons]
    by_cases h : lett c = true
    · rw [if_pos h]
      refine ⟨?_, fun _ w hw => ?_⟩
      · simp only [List.cons_append, List.append_assoc]; rw [← x1, ← h1]
      · simp only [List.cons_append, List.append_assoc]
        have hL : Like (r.dropWhile cont) ((colon (r.dropWhile cont)).1 ++ w) := by
          have := hw.add (colon (r.dropWhile cont)).1
          rw [← x1] at this; exact this
        obtain ⟨e1, e2⟩ := span_of (p := cont) (r.takeWhile cont) _ h2 (h3.like cont_sep hL)
        rw [nam_cons, e1, e2, x2 w hw, if_pos h]
    · rw [if_neg h]; exact ⟨rfl, fun h => absurd rfl h⟩
end Go.Proofs.YtmpenkinheneoaaDoor.Lx
