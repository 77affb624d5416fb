/- Texts of the claim: LxB. -/
import Derived.Test.YtmpenkinheneoaaDoorLLxA
namespace Go.Proofs.YtmpenkinheneoaaDoor.Lx
set_option linter.unusedVariables false
theorem pre_iff (s l : List Int) : s.isPrefixOf l = true ↔ ∃ t, l = s ++ t := by
  rw [List.isPrefixOf_iff_prefix]
  exact ⟨fun ⟨t, h⟩ => ⟨t, h.symm⟩, fun ⟨t, h⟩ => ⟨t, h.symm⟩⟩
theorem Like.take : ∀ (b t r w : List Int), Like r w → w = b ++ t → (∀ c ∈ b, sepc c = false) → ∃ t', r = b ++ t' := by
  intro b
  induction b with
  | nil => intro t r w h e hb; exact ⟨r, rfl⟩
  | cons c b ih =>
    intro t r w h e hb
    subst e
    obtain ⟨r', rfl, h'⟩ := Like.head (c := c) (w := b ++ t) h (hb c List.mem_cons_self)
    obtain ⟨t', rfl⟩ := ih t r' (b ++ t) h' rfl (fun x hx => hb x (List.mem_cons_of_mem _ hx))
    exact ⟨t', rfl⟩
theorem pre_like (s s' r w : List Int) (hs : s ≠ []) (hp : s'.isPrefixOf (s ++ w) = true) (ht : ∀ c ∈ s'.tail, sepc c = false) (h : Like r w) : s'.isPrefixOf (s ++ r) = true := by
  rw [pre_iff] at hp ⊢
  obtain ⟨t, e⟩ := hp
  cases s with
  | nil => exact absurd rfl hs
  | cons x s1 =>
    cases s' with
    | nil => exact ⟨_, rfl⟩
    | cons y b =>
      simp only [List.cons_append, List.cons.injEq] at e
      obtain ⟨rfl, e⟩ := e
      obtain ⟨t', e'⟩ := Like.take b t (s1 ++ r) (s1 ++ w) (h.add s1) e ht
      exact ⟨t', by simp only [List.cons_append]; rw [e']⟩
theorem find_pre : ∀ (L : List (List Int)) (l : List Int), find L l ≠ [] → find L l ∈ L ∧ ∃ r, l = find L l ++ r := by
  intro L
  induction L with
  | nil => intro l h; exact absurd rfl h
  | cons s L ih =>
    intro l h
    simp only [find] at h ⊢
    split
    · rename_i hp
      exact ⟨List.mem_cons_self, (pre_iff _ _).mp hp⟩
    · rename_i hp
      rw [if_neg hp] at h
      obtain ⟨h1, h2⟩ := ih l h
      exact ⟨List.mem_cons_of_mem _ h1, h2⟩
theorem find_like : ∀ (L : List (List Int)) (s r w : List Int), (∀ s' ∈ L, ∀ c ∈ s'.tail, sepc c = false) → s ≠ [] → find L (s ++ r) = s → Like r w → find L (s ++ w) = s := by
  intro L
  induction L with
  | nil => intro s r w hL hs h hw; exact h
  | cons s0 L ih =>
    intro s r w hL hs h hw
    simp only [find] at h ⊢
    by_cases hp : s0.isPrefixOf (s ++ r) = true
    · rw [if_pos hp] at h
      subst h
      rw [if_pos ((pre_iff _ _).mpr ⟨w, rfl⟩)]
    · rw [if_neg hp] at h
      rw [if_neg (fun hq => hp (pre_like s s0 r w hs hq (hL s0 List.mem_cons_self) hw))]
      exact ih s r w (fun s' hs' => hL s' (List.mem_cons_of_mem _ hs')) hs h hw
theorem signs_sep : ∀ s' ∈ signs, ∀ c ∈ s'.tail, sepc c = false := by decide
theorem sgn_splits (l : List Int) (h : sgn l ≠ []) : l = sgn l ++ l.drop (sgn l).length ∧ ∀ w, Like (l.drop (sgn l).length) w → sgn (sgn l ++ w) = sgn l := by
  obtain ⟨_, r, hr⟩ := find_pre signs l h
  have e : l = sgn l ++ r := hr
  have ed : l.drop (sgn l).length = r := by
    have : (sgn l ++ r).drop (sgn l).length = r := by simp
    rw [← e] at this
    exact this
  rw [ed]
  refine ⟨e, fun w hw => find_like signs (sgn l) r w signs_sep h (by rw [← e]; rfl) hw⟩
def esc (m : Int) : List Int → List Int
  | [] => []
  | c :: r => if c = m then m :: m :: esc m r else c :: esc m r
theorem quo_two (m c d : Int) (r : List Int) : quo m (c :: d :: r) = if c = m then (if d = m then (quo m r).map (fun x => (m :: x.1, x.2)) else some ([], d :: r)) else (quo m (d :: r)).map (fun x => (c :: x.1, x.2)) := by rw [quo]
theorem quo_one (m c : Int) : quo m [c] = if c = m then some ([], []) else none := by rw [quo]
theorem quo_end (m : Int) (w : List Int) (h : NoHead (· == m) w) : quo m (m :: w) = some ([], w) := by
  cases w with
  | nil => rw [quo_one, if_pos rfl]
  | cons d w =>
    have hd : ¬ d = m := by simpa using h d w rfl
    rw [quo_two, if_pos rfl, if_neg hd]
theorem quo_pair (m : Int) (w : List Int) : quo m (m :: m :: w) = (quo m w).map (fun x => (m :: x.1, x.2)) := by rw [quo_two, if_pos rfl, if_pos rfl]
theorem quo_skip (m c : Int) (w : List Int) (h : c ≠ m) : quo m (c :: w) = (quo m w).map (fun x => (c :: x.1, x.2)) := by
  cases w with
  | nil => rw [quo_one, if_neg h]; rfl
  | cons d w => rw [quo_two, if_neg h]
theorem quo_esc (m : Int) : ∀ (x w : List Int), NoHead (· == m) w → quo m (esc m x ++ m :: w) = some (x, w) := by
  intro x
  induction x with
  | nil => intro w h; exact quo_end m w h
  | cons c x ih =>
    intro w h
    simp only [esc]
    by_cases hc : c = m
    · rw [if_pos hc]
      simp only [List.cons_append]
      rw [quo_pair, ih w h, hc]
      rfl
    · rw [if_neg hc]
      simp only [List.cons_append]
      rw [quo_skip m c _ hc, ih w h]
      rfl
theorem quo_splits (m : Int) : ∀ (n : Nat) (l x r : List Int), l.length ≤ n → quo m l = some (x, r) → l = esc m x ++ m :: r ∧ NoHead (· == m) r := by
  intro n
  induction n with
  | zero =>
    intro l x r hl h
    cases l with
    | nil => simp [quo] at h
    | cons c l => simp at hl
  | succ n ih =>
    intro l x r hl h
    match l, hl, h with
    | [], _, h => simp [quo] at h
    | [c], _, h =>
      rw [quo_one] at h
      by_cases hc : c = m
      · rw [if_pos hc] at h
        cases h
        exact ⟨by rw [hc]; rfl, NoHead.nil _⟩
      · rw [if_neg hc] at h; cases h
    | c :: d :: t, hl, h =>
      by_cases hc : c = m
      · subst hc
        by_cases hd : d = c
        · subst hd
          rw [quo_pair] at h
          obtain ⟨⟨x', r'⟩, h1, h2⟩ := Option.map_eq_some_iff.mp h
          cases h2
          obtain ⟨e, hn⟩ := ih t x' _ (by simp at hl; omega) h1
          refine ⟨?_, hn⟩
          simp only [esc, if_pos, List.cons_append]
          rw [← e]
        · rw [quo_two, if_pos rfl, if_neg hd] at h
          cases h
          exact ⟨rfl, NoHead.cons (by simpa using hd)⟩
      · rw [quo_skip m c _ hc] at h
        obtain ⟨⟨x', r'⟩, h1, h2⟩ := Option.map_eq_some_iff.mp h
        cases h2
        obtain ⟨e, hn⟩ := ih (d :: t) x' _ (by simp at hl; simp; omega) h1
        refine ⟨?_, hn⟩
        simp only [esc, if_neg hc, List.cons_append]
        rw [← e]
theorem mark_sep (m : Int) (hm : m = 34 ∨ m = 39) (c : Int) (h : sepc c = true) : (c == m) = false := by
  simp only [sepc, Bool.or_eq_true, beq_iff_eq] at h
  rw [beq_eq_false_iff_ne]
  rcases hm with rfl | rfl <;> omega
theorem num_none {l w : List Int} (h : (num l).1 = []) (hw : Like l w) : (num w).1 = [] := by
  have h' : l.takeWhile dig = [] ∧ (frac (l.dropWhile dig)).1 = [] := by
    unfold num at h
    by_cases hc : l.takeWhile dig = [] ∧ (frac (l.dropWhile dig)).1 = []
    · exact hc
    · rw [if_neg hc] at h
      simp only [List.append_eq_nil_iff] at h
      exact ⟨h.1, h.2.1⟩
  obtain ⟨h1, h2⟩ := h'
  obtain ⟨s1, s2, s3⟩ := span_is (p := dig) l
  rw [h1, List.nil_append] at s1
  rw [← s1] at s3 h2
  obtain ⟨e1, e2⟩ := span_of (p := dig) [] w (by simp) (s3.like dig_sep hw)
  rw [List.nil_append] at e1 e2
  have e := (frac_splits l).2 w (by rw [frac_none h2]; exact hw)
  rw [h2, List.nil_append] at e
  unfold num
  rw [e1, e2, e, if_pos ⟨rfl, rfl⟩]
theorem nam_none {c : Int} {r : List Int} (h : (nam (c :: r)).1 = []) : lett c = false := by
  rw [nam_cons] at h
  cases hl : lett c with
  | false => rfl
  | true => rw [if_pos hl] at h; cases h
theorem nam_no {c : Int} (r : List Int) (h : lett c = false) : (nam (c :: r)).1 = [] := by rw [nam_cons, if_neg (by simp [h])]
theorem starts_like {r w : List Int} (h : starts r = false) (hw : Like r w) : starts w = false := by
  cases w with
  | nil => rfl
  | cons c w =>
    simp only [starts]
    cases hl : lett c with
    | false => rfl
    | true =>
      obtain ⟨r', rfl, _⟩ := hw.head (lett_nsep c hl)
      simp only [starts] at h
      rw [h] at hl; cases hl
theorem tok_cons (c : Int) (r : List Int) : tok (c :: r) = if c = 34 ∨ c = 39 then (match quo c r with | none => .error (c :: r, 5) | some x => .ok (2, x.1, x.2))
    else if (num (c :: r)).1 ≠ [] then (if starts (num (c :: r)).2 = true then .error ((num (c :: r)).2, 5) else .ok (1, (num (c :: r)).1, (num (c :: r)).2))
    else if (nam (c :: r)).1 ≠ [] then (if 100 < (nam (c :: r)).1.length then .error (c :: r, 2) else .ok (0, (nam (c :: r)).1, (nam (c :: r)).2))
    else if sgn (c :: r) ≠ [] then .ok (3, sgn (c :: r), (c :: r).drop (sgn (c :: r)).length) else .error (c :: r, 5) := rfl
structure Made (k : Int) (x raw r : List Int) : Prop where
  ne : raw ≠ []
  kind : k = 0 ∨ k = 1 ∨ k = 2 ∨ k = 3
  plain : k ≠ 2 → raw = x
  quoted : k = 2 → ∃ m, (m = 34 ∨ m = 39) ∧ raw = m :: (esc m x ++ [m])
  again : ∀ w, Like r w → tok (raw ++ w) = .ok (k, x, w)
theorem tok_made {l : List Int} {k : Int} {x r : List Int} (h : tok l = .ok (k, x, r)) : ∃ raw, l = raw ++ r ∧ Made k x raw r := by
  cases l with
  | nil => simp [tok] at h
  | cons c t =>
    rw [tok_cons] at h
    by_cases hq : c = 34 ∨ c = 39
    · rw [if_pos hq] at h
      cases hx : quo c t with
      | none => rw [hx] at h; cases h
      | some y =>
        rw [hx] at h
        obtain ⟨y1, y2⟩ := y
        simp only [Except.ok.injEq, Prod.mk.injEq] at h
        obtain ⟨rfl, rfl, rfl⟩ := h
        obtain ⟨e, hn⟩ := quo_splits c t.length t y1 y2 (Nat.le_refl _) hx
        refine ⟨c :: (esc c y1 ++ [c]), by rw [e]; simp, ⟨by simp, by simp, fun h => absurd rfl h, fun _ => ⟨c, hq, rfl⟩, fun w hw => ?_⟩⟩
        simp only [List.cons_append, List.append_assoc, List.nil_append]
        rw [tok_cons, if_pos hq, quo_esc c y1 w (hn.like (mark_sep c hq) hw)]
    · rw [if_neg hq] at h
      by_cases hnum : (num (c :: t)).1 ≠ []
      · rw [if_pos hnum] at h
        cases hs : starts (num (c :: t)).2 with
        | true => rw [hs, if_pos rfl] at h; cases h
        | false =>
          rw [hs, if_neg (by simp)] at h
          simp only [Except.ok.injEq, Prod.mk.injEq] at h
          obtain ⟨rfl, hx, hr⟩ := h
          obtain ⟨e, ha⟩ := num_splits (c :: t)
          rw [hx, hr] at e
          rw [hx] at hnum
          refine ⟨x, e, ⟨hnum, by simp, fun _ => rfl, fun h => by simp at h, fun w hw => ?_⟩⟩
          have ha' := ha (by rw [hx]; exact hnum) w (by rw [hr]; exact hw)
          rw [hx] at ha'
          cases x with
          | nil => exact absurd rfl hnum
          | cons c' x' =>
            simp only [List.cons_append, List.cons.injEq] at e
            obtain ⟨rfl, e⟩ := e
            simp only [List.cons_append] at ha' ⊢
            rw [tok_cons, if_neg hq, ha', if_pos (by simp)]
            simp only
            rw [hr] at hs
            rw [starts_like hs hw, if_neg (by simp)]
      · rw [if_neg hnum] at h
        have hnum' : (num (c :: t)).1 = [] := Classical.not_not.mp hnum
        by_cases hnam : (nam (c :: t)).1 ≠ []
        · rw [if_pos hnam] at h
          by_cases hl : 100 < (nam (c :: t)).1.length
          · rw [if_pos hl] at h; cases h
          · rw [if_neg hl] at h
            simp only [Except.ok.injEq, Prod.mk.injEq] at h
            obtain ⟨rfl, hx, hr⟩ := h
            obtain ⟨e, ha⟩ := nam_splits (c :: t)
            rw [hx, hr] at e
            rw [hx] at hnam
            refine ⟨x, e, ⟨hnam, by simp, fun _ => rfl, fun h => by simp at h, fun w hw => ?_⟩⟩
            have ha' := ha (by rw [hx]; exact hnam) w (by rw [hr]; exact hw)
            rw [hx] at ha'
            have hlike : Like (c :: t) (x ++ w) := by rw [e]; exact hw.add x
            have hn := num_none hnum' hlike
            rw [hx] at hl
            cases x with
            | nil => exact absurd rfl hnam
            | cons c' x' =>
              simp only [List.cons_append, List.cons.injEq] at e
              obtain ⟨rfl, e⟩ := e
              simp only [List.cons_append] at ha' hn ⊢
              rw [tok_cons, if_neg hq, hn, if_neg (by simp), ha', if_pos (by simp)]
              simp only
              rw [if_neg hl]
        · rw [if_neg hnam] at h
          have hnam' : (nam (c :: t)).1 = [] := Classical.not_not.mp hnam
          by_cases hs : sgn (c :: t) ≠ []
          · rw [if_pos hs] at h
            simp only [Except.ok.injEq, Prod.mk.injEq] at h
            obtain ⟨rfl, hx, hr⟩ := h
            obtain ⟨e, ha⟩ := sgn_splits (c :: t) hs
            rw [hr] at e ha
            rw [hx] at e ha hs
            refine ⟨x, e, ⟨hs, by simp, fun _ => rfl, fun h => by simp at h, fun w hw => ?_⟩⟩
            have ha' := ha w hw
            have hlike : Like (c :: t) (x ++ w) := by rw [e]; exact hw.add x
            have hn := num_none hnum' hlike
            have hm := nam_none hnam'
            cases x with
            | nil => exact absurd rfl hs
            | cons c' x' =>
              simp only [List.cons_append, List.cons.injEq] at e
              obtain ⟨rfl, e⟩ := e
              simp only [List.cons_append] at ha' hn ⊢
              rw [tok_cons, if_neg hq, hn, if_neg (by simp), nam_no _ hm, if_neg (by simp), ha', if_pos (by simp)]
              simp
          · rw [if_neg hs] at h; cases h
theorem comm_two (d : Nat) (c e : Int) (r : List Int) : comm d (c :: e :: r) = if c = 40 ∧ e = 58 then comm (d + 1) r else if c = 58 ∧ e = 41 then (if d ≤ 1 then some r else comm (d - 1) r) else comm d (e :: r) := by rw [comm]
theorem comm_splits : ∀ (n d : Nat) (l r : List Int), l.length ≤ n → comm d l = some r → ∃ q, q ≠ [] ∧ l = q ++ r ∧ ∀ w, comm d (q ++ w) = some w := by
  intro n
  induction n with
  | zero =>
    intro d l r hl h
    cases l with
    | nil => simp [comm] at h
    | cons c l => simp at hl
  | succ n ih =>
    intro d l r hl h
    match l, hl, h with
    | [], _, h => simp [comm] at h
    | [c], _, h => simp [comm] at h
    | c :: e :: t, hl, h =>
      rw [comm_two] at h
      by_cases h1 : c = 40 ∧ e = 58
      · rw [if_pos h1] at h
        obtain ⟨q, hq, e1, e2⟩ := ih (d + 1) t r (by simp at hl; omega) h
        exact ⟨c :: e :: q, by simp, by rw [e1]; rfl, fun w => by simp only [List.cons_append]; rw [comm_two, if_pos h1]; exact e2 w⟩
      · rw [if_neg h1] at h
        by_cases h2 : c = 58 ∧ e = 41
        · rw [if_pos h2] at h
          by_cases h3 : d ≤ 1
          · rw [if_pos h3] at h
            cases h
            exact ⟨[c, e], by simp, rfl, fun w => by simp only [List.cons_append, List.nil_append]; rw [comm_two, if_neg h1, if_pos h2, if_pos h3]⟩
          · rw [if_neg h3] at h
            obtain ⟨q, hq, e1, e2⟩ := ih (d - 1) t r (by simp at hl; omega) h
            exact ⟨c :: e :: q, by simp, by rw [e1]; rfl, fun w => by simp only [List.cons_append]; rw [comm_two, if_neg h1, if_pos h2, if_neg h3]; exact e2 w⟩
        · rw [if_neg h2] at h
          obtain ⟨q, hq, e1, e2⟩ := ih d (e :: t) r (by simp at hl; simp; omega) h
          cases q with
          | nil => exact absurd rfl hq
          | cons e' q =>
            simp only [List.cons_append, List.cons.injEq] at e1
            obtain ⟨rfl, rfl⟩ := e1
            refine ⟨c :: e :: q, by simp, rfl, fun w => ?_⟩
            simp only [List.cons_append]
            rw [comm_two, if_neg h1, if_neg h2]
            exact e2 w
theorem opens_is {l : List Int} (h : opens l = true) : ∃ r, l = 40 :: 58 :: r := by
  match l, h with
  | [], h => cases h
  | [c], h => cases h
  | c :: d :: r, h =>
    simp only [opens, Bool.and_eq_true, beq_iff_eq] at h
    exact ⟨r, by rw [h.1, h.2]⟩
def pre (T : List Tk) : Except (List Int × Int) (List Tk) → Except (List Int × Int) (List Tk)
  | .error e => .error e
  | .ok U => .ok (T ++ U)
theorem run_cons (f : Nat) (c : Int) (r : List Int) : run (f + 1) (c :: r) = if blank c = true then run f r
      else if opens (c :: r) = true then (match comm 1 (r.drop 1) with | none => .error (c :: r, 5) | some u => run f u)
      else match tok (c :: r) with
        | .error e => .error e
        | .ok (k, x, u) => pre [(k, x, c :: r)] (run f u) := by
  rw [run]
  split
  · rfl
  · split
    · rfl
    · split
      · rename_i h
        rw [h]
      · rename_i h
        rw [h]
        simp only
        split
        · rename_i h2; rw [h2]; rfl
        · rename_i h2; rw [h2]; rfl
theorem tok_short {l : List Int} {k : Int} {x r : List Int} (h : tok l = .ok (k, x, r)) : r.length < l.length := by
  obtain ⟨raw, rfl, hm⟩ := tok_made h
  have := List.length_pos_iff.mpr hm.ne
  simp; omega
theorem comm_short {d : Nat} {l r : List Int} (h : comm d l = some r) : r.length < l.length := by
  obtain ⟨q, hq, rfl, _⟩ := comm_splits l.length d l r (Nat.le_refl _) h
  have := List.length_pos_iff.mpr hq
  simp; omega
theorem run_enough : ∀ (n : Nat) (l : List Int) (f : Nat), l.length ≤ n → l.length ≤ f → run f l = lx l := by
  intro n
  induction n with
  | zero =>
    intro l f hn hf
    cases l with
    | nil => cases f <;> rfl
    | cons c r => simp at hn
  | succ n ih =>
    intro l f hn hf
    cases l with
    | nil => cases f <;> rfl
    | cons c r =>
      simp only [List.length_cons] at hn hf
      obtain ⟨g, rfl⟩ : ∃ g, f = g + 1 := ⟨f - 1, by omega⟩
      have key : ∀ u : List Int, u.length ≤ r.length → run g u = run r.length u := fun u hu => (ih u g (by omega) (by omega)).trans (ih u r.length (by omega) hu).symm
      unfold lx
      rw [List.length_cons, run_cons, run_cons]
      split
      · exact key r (Nat.le_refl _)
      · split
        · split
          · rfl
          · rename_i u hu
            have := comm_short hu
            exact key u (by rw [List.length_drop] at this; omega)
        · split
          · rfl
          · rename_i u hu
            have := tok_short hu
            simp only [List.length_cons] at this
            rw [key u (by omega)]
theorem lx_cons (c : Int) (r : List Int) : lx (c :: r) = if blank c = true then lx r
      else if opens (c :: r) = true then (match comm 1 (r.drop 1) with | none => .error (c :: r, 5) | some u => lx u)
      else match tok (c :: r) with
        | .error e => .error e
        | .ok (k, x, u) => pre [(k, x, c :: r)] (lx u) := by
  have e : lx (c :: r) = run (r.length + 1) (c :: r) := rfl
  rw [e, run_cons]
  split
  · rfl
  · split
    · split
      · rfl
      · rename_i u hu
        have := comm_short hu
        rw [List.length_drop] at this
        exact run_enough u.length u _ (Nat.le_refl _) (by omega)
    · split
      · rfl
      · rename_i u hu
        have := tok_short hu
        simp only [List.length_cons] at this
        rw [run_enough u.length u r.length (Nat.le_refl _) (by omega)]
theorem lx_nil : lx [] = .ok [] := rfl
theorem lx_blank {c : Int} (r : List Int) (h : blank c = true) : lx (c :: r) = lx r := by rw [lx_cons, if_pos h]
theorem lx_comm {r u : List Int} (h : comm 1 r = some u) : lx (40 :: 58 :: r) = lx u := by
  rw [lx_cons, if_neg (by decide), if_pos (by rfl)]
  simp only [List.drop_succ_cons, List.drop_zero]
  rw [h]
structure Front (k : Int) (x raw r : List Int) : Prop extends Made k x raw r where
  first : ∀ c t, raw = c :: t → blank c = false
  close : opens (raw ++ r) = false
theorem lx_ways (l : List Int) (hl : l ≠ []) : (∃ c r, l = c :: r ∧ blank c = true ∧ lx l = lx r) ∨ (∃ q u, l = 40 :: 58 :: (q ++ u) ∧ (∀ w, comm 1 (q ++ w) = some w) ∧ lx l = lx u)
    ∨ (∃ k x raw r, l = raw ++ r ∧ Front k x raw r ∧ lx l = pre [(k, x, l)] (lx r)) ∨ (∃ e, lx l = .error (l, e)) ∨ (∃ t r, l = t ++ r ∧ t ≠ [] ∧ r ≠ [] ∧ Front 1 t t [] ∧ lx l = .error (r, 5)) := by
  cases l with
  | nil => exact absurd rfl hl
  | cons c r =>
    cases hb : blank c with
    | true => exact .inl ⟨c, r, rfl, hb, lx_blank r hb⟩
    | false =>
      cases ho : opens (c :: r) with
      | true =>
        obtain ⟨t, e⟩ := opens_is ho
        simp only [List.cons.injEq] at e
        obtain ⟨rfl, rfl⟩ := e
        cases hc : comm 1 t with
        | none =>
          refine .inr (.inr (.inr (.inl ⟨5, ?_⟩)))
          rw [lx_cons, if_neg (by simp [hb]), if_pos ho]
          simp only [List.drop_succ_cons, List.drop_zero]
          rw [hc]
        | some u =>
          obtain ⟨q, _, rfl, hq⟩ := comm_splits t.length 1 t u (Nat.le_refl _) hc
          exact .inr (.inl ⟨q, u, rfl, hq, lx_comm hc⟩)
      | false =>
        have e0 : lx (c :: r) = match tok (c :: r) with | .error e => .error e | .ok (k, x, u) => pre [(k, x, c :: r)] (lx u) := by rw [lx_cons, if_neg (by simp [hb]), if_neg (by simp [ho])]
        cases ht : tok (c :: r) with
        | ok y =>
          obtain ⟨k, x, u⟩ := y
          obtain ⟨raw, e, hm⟩ := tok_made ht
          refine .inr (.inr (.inl ⟨k, x, raw, u, e, ⟨hm, fun c' t' h => ?_, by rw [← e]; exact ho⟩, by rw [e0, ht]⟩))
          rw [h] at e
          simp only [List.cons_append, List.cons.injEq] at e
          rw [← e.1]; exact hb
        | error y =>
          rw [ht] at e0
          have ht0 := ht
          rw [tok_cons] at ht
          by_cases hq : c = 34 ∨ c = 39
          · rw [if_pos hq] at ht
            cases hx : quo c r with
            | none => rw [hx] at ht; cases ht; exact .inr (.inr (.inr (.inl ⟨5, e0⟩)))
            | some y => rw [hx] at ht; cases ht
          · rw [if_neg hq] at ht
            by_cases hnum : (num (c :: r)).1 ≠ []
            · rw [if_pos hnum] at ht
              cases hs : starts (num (c :: r)).2 with
              | false => rw [hs, if_neg (by simp)] at ht; cases ht
              | true =>
                rw [hs, if_pos rfl] at ht
                simp only [Except.error.injEq] at ht
                subst ht
                obtain ⟨e, ha⟩ := num_splits (c :: r)
                refine .inr (.inr (.inr (.inr ⟨(num (c :: r)).1, (num (c :: r)).2, e, hnum, fun h => ?_, ?_, e0⟩)))
                · rw [h] at hs; cases hs
                · obtain ⟨x', hx'⟩ : ∃ x', (num (c :: r)).1 = c :: x' := by
                    cases hx : (num (c :: r)).1 with
                    | nil => exact absurd hx hnum
                    | cons c' x' =>
                      rw [hx] at e
                      simp only [List.cons_append, List.cons.injEq] at e
                      exact ⟨x', by rw [e.1]⟩
                  have again : ∀ w, Like [] w → tok ((num (c :: r)).1 ++ w) = .ok (1, (num (c :: r)).1, w) := by
                    intro w hw
                    have hw' : Like (num (c :: r)).2 w := by
                      obtain ⟨p, t, hp, h⟩ := hw
                      have : p = [] := (List.append_eq_nil_iff.mp hp.symm).1
                      subst this
                      rcases h with rfl | ⟨c', t', rfl, hc'⟩
                      · exact Like.nil _
                      · exact Like.sep _ _ hc'
                    have ha' := ha hnum w hw'
                    rw [hx'] at ha' ⊢
                    simp only [List.cons_append] at ha' ⊢
                    rw [tok_cons, if_neg hq, ha', if_pos (by simp)]
                    simp only
                    rw [starts_like (r := []) rfl hw, if_neg (by simp)]
                  refine ⟨⟨hnum, by simp, fun _ => rfl, fun h => by simp at h, again⟩, fun c' t' h => ?_, ?_⟩
                  · rw [hx'] at h
                    simp only [List.cons.injEq] at h
                    rw [← h.1]; exact hb
                  · rw [List.append_nil]
                    cases hoo : opens (num (c :: r)).1 with
                    | false => rfl
                    | true =>
                      obtain ⟨t, et⟩ := opens_is hoo
                      rw [et] at e
                      rw [e] at ho
                      cases ho
            · rw [if_neg hnum] at ht
              by_cases hnam : (nam (c :: r)).1 ≠ []
              · rw [if_pos hnam] at ht
                split at ht
                · cases ht; exact .inr (.inr (.inr (.inl ⟨2, e0⟩)))
                · cases ht
              · rw [if_neg hnam] at ht
                split at ht
                · cases ht
                · cases ht; exact .inr (.inr (.inr (.inl ⟨5, e0⟩)))
end Go.Proofs.YtmpenkinheneoaaDoor.Lx
