/- A value as somebody sees it who never writes; slices handed back. -/
import Derived.Test.YtpmdlaojndejfaaGreatDoorEk
set_option linter.unusedVariables false
set_option linter.unusedSimpArgs false
namespace Go.Proofs.YtpmdlaojndejfaaGreatDoor.E
open Go

section
variable {N A : Nat → Prop} {ι : Nat → Lk} {H H' : Heap} {w : World}

/-- All that may be read: what nobody writes, and the blocks of one's own. -/
def AF (A : Nat → Prop) (ι : Nat → Lk) (H : Heap) : Nat → Prop := fun b => A b ∨ ∃ id blk, H[id]? = some blk ∧ blk.alive ∧ b = (ι id).b

theorem flat_lit {rows : List (List V)} (h : flatR rows = true) {i j : Nat} {r : List V} {c : V} (a : rows[i]? = some r) (b : r[j]? = some c) : ∃ x, c = .lit x := by
  have h1 := List.all_eq_true.1 (List.all_eq_true.1 h r (List.mem_of_getElem? a)) c (List.mem_of_getElem? b)
  cases c <;> simp [V.isLit] at h1
  exact ⟨_, rfl⟩
theorem lit_eq {x : Value} {cv : Value} (h : VR A ι H w (.lit x) cv) : cv = x := by cases h; rfl

theorem freeze_sound (hs : SR N A ι H w) (ι2 : Nat → Lk) : ∀ k,
    (∀ (v v' : V) (cv : Value), freeze H k v = some v' → VR A ι H w v cv → VR (AF A ι H) ι2 [] w v' cv) ∧
    (∀ (vs vs' : List V), freezes H k vs = some vs' → vs'.length = vs.length ∧ ∀ (i : Nat) (v' : V), vs'[i]? = some v' → ∃ v, vs[i]? = some v ∧ ∀ cv, VR A ι H w v cv → VR (AF A ι H) ι2 [] w v' cv) ∧
    (∀ (rs rs' : List (List V)), freezess H k rs = some rs' → rs'.length = rs.length ∧ ∀ (i : Nat) (r' : List V), rs'[i]? = some r' → ∃ r, rs[i]? = some r ∧ r'.length = r.length ∧
      ∀ (j : Nat) (v' : V), r'[j]? = some v' → ∃ v, r[j]? = some v ∧ ∀ cv, VR A ι H w v cv → VR (AF A ι H) ι2 [] w v' cv)
  | 0 => ⟨fun v v' cv h => by simp [freeze] at h, fun vs vs' h => by simp [freezes] at h, fun rs rs' h => by simp [freezess] at h⟩
  | k + 1 => by
    obtain ⟨ih1, ih2, ih3⟩ := freeze_sound hs ι2 k
    have sub : ∀ b, A b → AF A ι H b := fun b hb => .inl hb
    refine ⟨fun v v' cv h hv => ?_, fun vs vs' h => ?_, fun rs rs' h => ?_⟩
    · have list : ∀ (cs cs' : List V) (vs : Array Value), freezes H k cs = some cs' → cs.length = vs.size → (∀ (i : Nat) (c : V) (cv : Value), cs[i]? = some c → vs[i]? = some cv → VR A ι H w c cv) →
          cs'.length = vs.size ∧ ∀ (i : Nat) (c : V) (cv : Value), cs'[i]? = some c → vs[i]? = some cv → VR (AF A ι H) ι2 [] w c cv := by
        intro cs cs' vs hf hl hv
        obtain ⟨q1, q2⟩ := ih2 cs cs' hf
        refine ⟨q1.trans hl, fun i c cv a b => ?_⟩
        obtain ⟨v0, r1, r2⟩ := q2 i c a
        exact r2 cv (hv i v0 cv r1 b)
      cases hv with
      | lit _ => simp [freeze] at h; subst h; exact .lit _
      | arr rows b o cap sz hA hcap hsz hc hv =>
        simp [freeze] at h; subst h
        exact .arr rows b o cap sz (sub b hA) hcap hsz hc fun i j r c cv a a' p => (hv i j r c cv a a' p).pure sub
      | row cells b o hA hc hv =>
        simp [freeze] at h; subst h
        exact .row cells b o (sub b hA) hc fun j c cv a p => (hv j c cv a p).pure sub
      | agg cs vs hl hv =>
        simp only [freeze, Option.map_eq_some_iff] at h
        obtain ⟨cs', h1, rfl⟩ := h
        obtain ⟨q1, q2⟩ := list cs cs' vs h1 hl hv
        exact .agg _ _ q1 q2
      | tup cs vs hl hv =>
        simp only [freeze, Option.map_eq_some_iff] at h
        obtain ⟨cs', h1, rfl⟩ := h
        obtain ⟨q1, q2⟩ := list cs cs' vs h1 hl hv
        exact .tup _ _ q1 q2
      | fn f cs vs hl hv =>
        simp only [freeze, Option.map_eq_some_iff] at h
        obtain ⟨cs', h1, rfl⟩ := h
        obtain ⟨q1, q2⟩ := list cs cs' vs h1 hl hv
        exact .fn _ _ _ q1 q2
      | own id ver off len a cap blk hid hf hh =>
        simp only [freeze, Option.bind_eq_some_iff] at h
        obtain ⟨rs, hrs, h⟩ := h
        simp only [rowsOf] at hrs
        rw [hid] at hrs
        cases blk with
        | rows sz ver' rs0 =>
          simp only at hrs
          split at hrs
          · rename_i hc
            obtain ⟨rfl, hle⟩ := hc
            simp only [Option.some.injEq] at hrs
            rcases hh _ _ _ rfl with hq | ⟨_, q1, q2, q3, q4, q5, q6⟩
            · omega
            have hsub := (hs.live id _ hid).sub off len
            rw [hrs] at hsub
            have hlen : rs.length = len := by rw [← hrs]; simp; omega
            have hA : AF A ι H (ι id).b := .inr ⟨id, _, hid, trivial, rfl⟩
            obtain ⟨ab, ao, asp⟩ := a
            simp only at q5 q6; subst q5 q6
            have fin : ∀ rows : List (List V), rows.length = rs.length → (∀ (i : Nat) (r' : List V), rows[i]? = some r' → ∃ r, rs[i]? = some r ∧ r'.length = r.length ∧
                ∀ (j : Nat) (v' : V), r'[j]? = some v' → ∃ v, r[j]? = some v ∧ ∀ cv, VR A ι H w v cv → VR (AF A ι H) ι2 [] w v' cv) →
                VR (AF A ι H) ι2 [] w (.arr rows) (.slice (some ⟨(ι id).b, ao, none⟩) len cap) := by
              intro rows hl hr
              have e : len = rows.length := by omega
              rw [e]
              rcases q4 with q4 | q4
              · have hnil : rows = [] := List.length_eq_zero_iff.1 (by omega)
                subst hnil
                exact .arr [] _ _ _ sz hA (by simp) (fun i r a => by simp at a) (fun i j r c a => by simp at a) (fun i j r c cv a => by simp at a)
              · simp only [Addr.mk.injEq] at q4
                obtain ⟨_, q4, _⟩ := q4
                subst q4
                refine .arr rows _ _ _ sz hA (by omega) (fun i r' a => ?_) (fun i j r' c a a' => ?_) (fun i j r' c cv a a' p => ?_)
                · obtain ⟨r, r1, r2, _⟩ := hr i r' a
                  rw [r2]; exact hsub.1 i r r1
                · obtain ⟨r, r1, r2, r3⟩ := hr i r' a
                  obtain ⟨v0, s1, s2⟩ := r3 j c a'
                  obtain ⟨cv, p, _⟩ := hsub.2 i j r v0 r1 s1
                  exact ⟨cv, p⟩
                · obtain ⟨r, r1, r2, r3⟩ := hr i r' a
                  obtain ⟨v0, s1, s2⟩ := r3 j c a'
                  obtain ⟨cv', p', q'⟩ := hsub.2 i j r v0 r1 s1
                  rw [p] at p'
                  cases p'
                  exact s2 _ q'
            split at h
            · rename_i hfl
              simp only [Option.some.injEq] at h; subst h
              refine fin rs rfl fun i r' a => ⟨r', a, rfl, fun j v' a' => ⟨v', a', fun cv hv => ?_⟩⟩
              obtain ⟨x, rfl⟩ := flat_lit hfl a a'
              rw [lit_eq hv]; exact .lit x
            · simp only [Option.map_eq_some_iff] at h
              obtain ⟨rs', h1, rfl⟩ := h
              obtain ⟨q1, q2⟩ := ih3 rs rs' h1
              exact fin rs' q1 q2
          · cases hrs
        | _ => cases hrs
      | ptr id ver r off a blk hid hf hh =>
        simp only [freeze] at h
        rw [hid] at h
        cases blk with
        | rows sz ver' rs =>
          simp only at h
          split at h
          · rename_i e; subst e
            simp only [Option.bind_eq_some_iff] at h
            obtain ⟨cs, hcs, h⟩ := h
            split at h
            · rename_i hle
              simp only [Option.map_eq_some_iff] at h
              obtain ⟨cs', h1, rfl⟩ := h
              rcases hh _ _ _ rfl with hq | ⟨_, hq⟩
              · omega
              subst hq
              obtain ⟨q1, q2⟩ := ih2 _ cs' h1
              have hA : AF A ι H (ι id).b := .inr ⟨id, _, hid, trivial, rfl⟩
              refine .row cs' _ _ hA (fun j c a => ?_) (fun j c cv a p => ?_)
              · obtain ⟨v0, s1, s2⟩ := q2 j c a
                rw [List.getElem?_drop] at s1
                obtain ⟨cv, p, _⟩ := (hs.live id _ hid).cells hcs (off + j) v0 s1
                exact ⟨cv, by rw [Nat.add_assoc]; exact p⟩
              · obtain ⟨v0, s1, s2⟩ := q2 j c a
                rw [List.getElem?_drop] at s1
                obtain ⟨cv', p', q'⟩ := (hs.live id _ hid).cells hcs (off + j) v0 s1
                rw [Nat.add_assoc, p'] at p
                cases p
                exact s2 _ q'
            · cases h
          · cases h
        | _ => cases h
      | _ => simp [freeze] at h
    · cases vs with
      | nil => simp [freezes] at h; subst h; exact ⟨rfl, fun i v' a => by simp at a⟩
      | cons v vs =>
        simp only [freezes, Option.bind_eq_some_iff, Option.map_eq_some_iff] at h
        obtain ⟨x, hx, xs, hxs, rfl⟩ := h
        obtain ⟨q1, q2⟩ := ih2 vs xs hxs
        refine ⟨by simp [q1], fun i v' a => ?_⟩
        cases i with
        | zero => simp at a; subst a; exact ⟨v, by simp, fun cv hv => ih1 v x cv hx hv⟩
        | succ i => simp at a; obtain ⟨v0, r1, r2⟩ := q2 i v' a; exact ⟨v0, by simpa using r1, r2⟩
    · cases rs with
      | nil => simp [freezess] at h; subst h; exact ⟨rfl, fun i v' a => by simp at a⟩
      | cons v vs =>
        simp only [freezess, Option.bind_eq_some_iff, Option.map_eq_some_iff] at h
        obtain ⟨x, hx, xs, hxs, rfl⟩ := h
        obtain ⟨q1, q2⟩ := ih3 vs xs hxs
        obtain ⟨p1, p2⟩ := ih2 v x hx
        refine ⟨by simp [q1], fun i v' a => ?_⟩
        cases i with
        | zero => simp at a; subst a; exact ⟨v, by simp, p1, p2⟩
        | succ i => simp at a; obtain ⟨v0, r1, r2⟩ := q2 i v' a; exact ⟨v0, by simpa using r1, r2⟩

theorem freezeAll_sound (hs : SR N A ι H w) (ι2 : Nat → Lk) : ∀ (vs vs' : List V) (xs : Array Value), freezeAll H vs = some vs' → TR A ι H w vs xs → TR (AF A ι H) ι2 [] w vs' xs := by
  have key : ∀ (vs vs' : List V), freezeAll H vs = some vs' → vs'.length = vs.length ∧ ∀ (i : Nat) (v' : V), vs'[i]? = some v' → ∃ v, vs[i]? = some v ∧ ∀ cv, VR A ι H w v cv → VR (AF A ι H) ι2 [] w v' cv := by
    intro vs
    induction vs with
    | nil => intro vs' h; simp [freezeAll] at h; subst h; exact ⟨rfl, fun i v' a => by simp at a⟩
    | cons v vs ih =>
      intro vs' h
      simp only [freezeAll, Option.bind_eq_some_iff, Option.map_eq_some_iff] at h
      obtain ⟨x, hx, xs, hxs, rfl⟩ := h
      obtain ⟨q1, q2⟩ := ih xs hxs
      refine ⟨by simp [q1], fun i v' a => ?_⟩
      cases i with
      | zero => simp at a; subst a; exact ⟨v, by simp, fun cv hv => (freeze_sound hs ι2 1000).1 v x cv hx hv⟩
      | succ i => simp at a; obtain ⟨v0, r1, r2⟩ := q2 i v' a; exact ⟨v0, by simpa using r1, r2⟩
  intro vs vs' xs h ht
  obtain ⟨q1, q2⟩ := key vs vs' h
  refine ⟨q1.trans ht.1, fun i x cv a b => ?_⟩
  obtain ⟨v0, r1, r2⟩ := q2 i x a
  exact r2 cv (ht.2 i v0 cv r1 b)

theorem noOwnC_pure {c : V} {cv : Value} (ι2 : Nat → Lk) (h : noOwnC c = true) (hv : VR A ι H w c cv) : VR A ι2 [] w c cv := by
  cases hv with
  | lit _ => exact .lit _
  | arr rows b o cap sz hA hcap hsz hc hv => exact .arr rows b o cap sz hA hcap hsz hc fun i j r c cv a a' p => (hv i j r c cv a a' p).pure fun _ h => h
  | row cells b o hA hc hv => exact .row cells b o hA hc fun j c cv a p => (hv j c cv a p).pure fun _ h => h
  | fn f cs vs hl hv =>
    refine .fn f cs vs hl fun i c cv a1 b1 => ?_
    have hcc := List.all_eq_true.1 (by simpa [noOwnC] using h) c (List.mem_of_getElem? a1)
    have hr := hv i c cv a1 b1
    cases hr with
    | lit _ => exact .lit _
    | arr rows b o cap sz hA hcap hsz hc hv => exact .arr rows b o cap sz hA hcap hsz hc fun i j r c cv a a' p => (hv i j r c cv a a' p).pure fun _ h => h
    | row cells b o hA hc hv => exact .row cells b o hA hc fun j c cv a p => (hv j c cv a p).pure fun _ h => h
    | _ => simp at hcc
  | _ => simp [noOwnC] at h
theorem noOwnA_pure {c : V} {cv : Value} (ι2 : Nat → Lk) (h : c.cells.all noOwnC = true) (hv : VR A ι H w c cv) : VR A ι2 [] w c cv := by
  cases hv with
  | agg cs vs hl hv => exact .agg cs vs hl fun i c cv a b => noOwnC_pure ι2 (List.all_eq_true.1 h c (List.mem_of_getElem? a)) (hv i c cv a b)
  | lit _ => exact .lit _
  | arr rows b o cap sz hA hcap hsz hc hv => exact noOwnC_pure (H := []) ι2 rfl (.arr rows b o cap sz hA hcap hsz hc hv)
  | row cells b o hA hc hv => exact noOwnC_pure (H := []) ι2 rfl (.row cells b o hA hc hv)
  | fn f cs vs hl hv => exact noOwnC_pure ι2 (by simpa [V.cells] using h) (.fn f cs vs hl hv)
  | _ => simp [V.cells, noOwnC] at h
theorem noOwn_pure {c : V} {cv : Value} (ι2 : Nat → Lk) (h : noOwn c = true) (hv : VR A ι H w c cv) : VR A ι2 [] w c cv := by
  cases hv with
  | tup cs vs hl hv =>
    refine .tup cs vs hl fun i c cv a b => noOwnA_pure ι2 ?_ (hv i c cv a b)
    simp only [noOwn, tops, List.all_flatMap] at h
    exact List.all_eq_true.1 h c (List.mem_of_getElem? a)
  | lit _ => exact .lit _
  | agg cs vs hl hv => exact noOwnA_pure ι2 h (.agg cs vs hl hv)
  | arr rows b o cap sz hA hcap hsz hc hv => exact noOwnA_pure (H := []) ι2 h (.arr rows b o cap sz hA hcap hsz hc hv)
  | row cells b o hA hc hv => exact noOwnA_pure (H := []) ι2 h (.row cells b o hA hc hv)
  | fn f cs vs hl hv => exact noOwnA_pure ι2 h (.fn f cs vs hl hv)
  | _ => simp [noOwn, tops, V.cells, noOwnC] at h
end
end Go.Proofs.YtpmdlaojndejfaaGreatDoor.E
