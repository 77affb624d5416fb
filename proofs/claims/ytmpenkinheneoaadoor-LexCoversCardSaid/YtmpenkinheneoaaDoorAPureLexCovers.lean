/- Texts of the claim: PureLexCovers. -/
import Derived.Test.YtmpenkinheneoaaDoorAQx29
import Derived.Test.YtmpenkinheneoaaDoorAQx28
import Derived.Test.YtmpenkinheneoaaDoorALxT
namespace Go.Proofs.YtmpenkinheneoaaDoor.Pure
set_option linter.unusedVariables false
open Go Go.RowKit Go.Proofs.YtmpenkinheneoaaDoor.Plain Go.Proofs.YtmpenkinheneoaaDoor.Lx Go.Proofs.YtmpenkinheneoaaDoor.HPure Go.Proofs.YtmpenkinheneoaaDoor.Q Go.Proofs.YtmpenkinheneoaaDoorW.PrintWords Go.Proofs.YtmpenkinheneoaaDoorW.PrintLast
theorem bt_mk (l : List UInt8) (pre r : List UInt8) (b : UInt8) (h : l = pre ++ b :: r) : bt (mk l) (pre.length : Int) = (b.toNat : Int) := by
  rw [bt_get, mk_get, h, List.getElem?_append_right (Nat.le_refl _), Nat.sub_self]; rfl
theorem ends_l0 {s : ByteArray} (hs : s.size ≤ 1000000) (m : UInt8) (full : List UInt8) (hf : full.length ≤ 5000000) (kd b0 : Int) : ∀ (x pre r : List UInt8) (k : Nat), full = pre ++ x → Rs s (escB m x ++ m :: r) → 2 * x.length + 2 < k →
    chisellaw14_ends.l0 k s (m.toNat : Int) (q s (escB m x ++ m :: r)) (pre.length : Int) kd (mk full) b0 = some (q s r) := by
  have hb : ∀ x y : UInt8, ((x.toNat : Int) = (y.toNat : Int)) ↔ x = y := fun x y => ⟨fun e => UInt8.toNat_inj.mp (by omega), fun e => by rw [e]⟩
  intro x
  induction x with
  | nil =>
    intro pre r k hp h hk
    obtain ⟨k, rfl⟩ : ∃ n, k = n + 1 := ⟨k - 1, by omega⟩
    rw [List.append_nil] at hp
    simp only [escB, List.nil_append] at h ⊢
    have h0 := h.nonneg
    have h1 := h.le
    have hlt : q s (m :: r) < (s.size : Int) := q_lt
    simp only [chisellaw14_ends.l0]
    rw [if_neg (by rw [mk_size, hp]; omega), if_neg (by omega), if_pos h0, if_pos hlt, h.bt, if_pos rfl, w64 (by omega) (by omega), ← q_cons]
  | cons c x ih =>
    intro pre r k hp h hk
    obtain ⟨k, rfl⟩ : ∃ n, k = n + 1 + 1 := ⟨k - 2, by simp only [List.length_cons] at hk; omega⟩
    simp only [List.length_cons] at hk
    have hfl : full.length = pre.length + (x.length + 1) := by rw [hp]; simp
    have hbt := bt_mk full pre x c hp
    have hz : ((mk full).size : Int) = full.length := by rw [mk_size]
    have hp2 : full = (pre ++ [c]) ++ x := by rw [hp]; simp
    have hlen2 : (((pre ++ [c]).length : Nat) : Int) = (pre.length : Int) + 1 := by simp
    simp only [chisellaw14_ends.l0]
    by_cases hc : c = m
    · subst hc
      rw [escB, if_pos rfl] at h ⊢
      simp only [List.cons_append] at h ⊢
      have h0 := h.nonneg
      have h1 := h.le
      have hlt : q s (c :: c :: (escB c x ++ c :: r)) < (s.size : Int) := q_lt
      have g0 := h.cons.nonneg
      have glt : q s (c :: (escB c x ++ c :: r)) < (s.size : Int) := q_lt
      have e1 := q_cons s c (c :: (escB c x ++ c :: r))
      have e2 := q_cons s c (escB c x ++ c :: r)
      have hi := ih (pre ++ [c]) r k hp2 h.cons.cons (by omega)
      rw [if_pos (by omega), if_neg (by omega), if_pos h0, if_pos hlt, if_pos (by omega), h.bt, hbt]
      rw [show ((c.toNat : Int) != (c.toNat : Int)) = false from by simp]
      simp only [chisellaw14_ends.j3]
      rw [if_neg (by simp), if_pos (by omega), if_pos (by omega), hbt, if_pos rfl, w64 (by omega) (by omega), ← e1, if_neg (by omega), if_pos g0, if_pos glt, h.cons.bt, if_pos rfl, w64 (by omega) (by omega), ← e2, w64 (by omega) (by omega), ← hlen2]
      exact hi
    · rw [escB, if_neg hc] at h ⊢
      simp only [List.cons_append] at h ⊢
      have h0 := h.nonneg
      have h1 := h.le
      have hlt : q s (c :: (escB m x ++ m :: r)) < (s.size : Int) := q_lt
      have e1 := q_cons s c (escB m x ++ m :: r)
      have hi := ih (pre ++ [c]) r k hp2 h.cons (by omega)
      rw [if_pos (by omega), if_neg (by omega), if_pos h0, if_pos hlt, if_pos (by omega), h.bt, hbt]
      rw [show ((c.toNat : Int) != (c.toNat : Int)) = false from by simp]
      simp only [chisellaw14_ends.j3]
      rw [if_neg (by simp), if_pos (by omega), if_pos (by omega), hbt, if_neg (fun e => hc ((hb c m).1 e)), w64 (by omega) (by omega), ← e1, w64 (by omega) (by omega), ← hlen2]
      exact hi
theorem ends_f {s : ByteArray} (hs : s.size ≤ 1000000) {kd : Int} {x raw r : List Int} (h : Front kd x raw r) (ha : At s (raw ++ r)) (k : Nat) (hk : 8000100 ≤ k) :
    chisellaw14_ends.f k s kd (encode x) (P s (raw ++ r)) = some (P s r) := by
  have h0 := ha.nonneg
  have hne : raw ++ r ≠ [] := fun e => h.ne (List.append_eq_nil_iff.mp e).1
  have hlt : P s (raw ++ r) < (s.size : Int) := by
    cases hh : raw ++ r with
    | nil => exact absurd hh hne
    | cons c t => exact P_lt
  have hr := ha.tail
  have r0 := hr.nonneg
  have r1 := hr.le
  have hrs := ha.1
  have hlen := ha.1.len
  rw [flat_append, List.length_append] at hlen
  have hfm := (front_mem h).2
  have hxall : x.all isChar = true := by
    rw [List.all_eq_true]; intro c hc
    exact ha.all c (List.mem_append_left _ ((front_mem h).1 c hc))
  have hex : (encode x).size = (flat x).length := by rw [encode_flat, mk_size]
  have hfx := (flat_len x).2
  have hfr := (flat_len raw).1
  unfold chisellaw14_ends.f
  rw [if_neg (by omega), decide_eq_false (by omega)]
  obtain ⟨k, rfl⟩ : ∃ n, k = n + 1 + 1 := ⟨k - 2, by omega⟩
  simp only [chisellaw14_ends.j0]
  rw [if_neg (by simp)]
  by_cases h2 : kd = 2
  · obtain ⟨m, hm, e⟩ := h.quoted h2
    have hm0 : 0 ≤ m ∧ m < 128 := by omega
    subst e
    rw [if_pos h2, if_pos h0, if_pos hlt]
    have ha' : At s (m :: (esc m x ++ [m] ++ r)) := by simpa using ha
    have hbm : bt s (P s (m :: (esc m x ++ [m]) ++ r)) = m := by
      rw [List.cons_append]; exact bt_low ha' hm0.2
    rw [hbm]
    have hj : ∀ z : Bool, z = false → chisellaw14_ends.j1 (k + 1) s m z kd (encode x) (P s (m :: (esc m x ++ [m]) ++ r)) = some (P s r) := by
      intro z hz
      simp only [chisellaw14_ends.j1]
      rw [hz, if_neg (by simp), w64 (by omega) (by omega)]
      have e1 : P s (m :: (esc m x ++ [m]) ++ r) + 1 = q s (escB (m.toNat.toUInt8) (flat x) ++ (m.toNat.toUInt8) :: flat r) := by
        rw [List.cons_append, ← P_low ha' hm0.2]
        unfold P
        rw [escB_flat m hm0.1 hm0.2 x hxall, flat_append, flat_append, flat_cons, flat_nil, enc_low hm0.1 hm0.2]
        simp
      have hR : Rs s (escB (m.toNat.toUInt8) (flat x) ++ (m.toNat.toUInt8) :: flat r) := by
        have := ha'.cons.1
        rw [flat_append, flat_append, flat_cons, flat_nil, enc_low hm0.1 hm0.2] at this
        rw [escB_flat m hm0.1 hm0.2 x hxall]
        simpa using this
      have := ends_l0 hs (m.toNat.toUInt8) (flat x) (by omega) kd (P s (m :: (esc m x ++ [m]) ++ r)) (flat x) [] (flat r) k rfl hR (by omega)
      rw [low_byte hm0.1 hm0.2] at this
      rw [e1]; exact this
    rcases hm with rfl | rfl
    · rw [if_pos rfl]; exact hj _ rfl
    · rw [if_neg (by decide)]; exact hj _ rfl
  · have e := h.plain h2
    subst e
    have hpa := P_app s raw r
    have hext := ext_at ha
    rw [if_neg h2, hex, w64 (by omega) (by omega), ← hpa, if_neg (by omega), if_pos h0, if_pos (by omega), if_pos r1, hext, if_pos rfl]
theorem between_f (g : List Int) (hg : g.all isChar = true) (hz : (encode g).size ≤ 1000000) (h : lx g = .ok []) : chisellaw14_between.f (encode g) = some true := by
  unfold chisellaw14_between.f
  rw [tokens_f _ (by omega), Option.bind_some]
  obtain ⟨t1, t2⟩ := text_of_chars g hg
  rcases ans_ways (encode g) hz with ⟨y, _⟩ | ⟨_, u, er, y, _⟩ | ⟨_, T, y, e⟩
  · rw [t1] at y; cases y
  · rw [t2, h] at y; cases y
  · rw [t2, h] at y
    obtain rfl := Except.ok.inj y
    rw [e]; rfl
theorem covers_loop {s : ByteArray} (hs : s.size ≤ 1000000) : ∀ (T : List Tk) (v : List Int) (pre : List S34) (k : Nat), At s v → lx v = .ok T → T.length + 8000200 < k → pre.length + T.length ≤ 1000000 →
    chisellaw14_LexCovers.l0 k s (pre ++ T.map fun t => tkP s t.1 t.2.1 t.2.2) 0 (P s v) (pre.length : Int) = some true := by
  have hencz : ∀ a r : List Int, At s (a ++ r) → (encode a).size ≤ 1000000 := fun a r h => by
    have := h.1.len
    rw [flat_append, List.length_append] at this
    rw [encode_flat, mk_size]; omega
  intro T
  induction T with
  | nil =>
    intro v pre k h hl hk hp
    obtain ⟨k, rfl⟩ : ∃ n, k = n + 1 := ⟨k - 1, by omega⟩
    have he : s.extract (P s v).toNat s.size = encode v := by rw [encode_flat]; exact h.1.ext_end
    simp only [chisellaw14_LexCovers.l0]
    rw [if_neg (by simp), if_pos h.nonneg, if_pos h.le, he, between_f v h.2 (hencz v [] (by simpa using h)) hl, Option.bind_some, if_pos rfl, if_pos True.intro, works_f k (by omega)]; rfl
  | cons t T ih =>
    intro v pre k h hl hk hp
    obtain ⟨k, rfl⟩ : ∃ n, k = n + 1 := ⟨k - 1, by omega⟩
    simp only [List.length_cons] at hk hp
    obtain ⟨kd, x, u⟩ := t
    obtain ⟨p, raw, r, e1, e2, g1, g2, g3⟩ := lx_first v.length v kd x u T (Nat.le_refl _) hl
    subst e1
    subst e2
    have hu := h.tail
    have hr := hu.tail
    have u0 := hu.nonneg
    have u1 := hu.le
    have hle := P_le_app s p (raw ++ r)
    have hext := ext_at h
    have e : rd_T34 (pre ++ tkP s kd x (raw ++ r) :: T.map fun t => tkP s t.1 t.2.1 t.2.2) (pre.length : Int) = tkP s kd x (raw ++ r) := get_mid z34 pre _ _
    rw [List.map_cons]
    simp only [chisellaw14_LexCovers.l0]
    rw [e, if_pos (by simp; omega), if_pos (by omega)]
    show ((if P s (raw ++ r) < P s (p ++ (raw ++ r)) then some false else ((chisellaw14_ends.f k s kd (encode x) (P s (raw ++ r))).bind fun t254 => (if t254 < 0 then some false else (if 0 ≤ P s (p ++ (raw ++ r)) then (if P s (p ++ (raw ++ r)) ≤ P s (raw ++ r) then (if P s (raw ++ r) ≤ (s.size : Int) then ((chisellaw14_between.f (s.extract (P s (p ++ (raw ++ r))).toNat (P s (raw ++ r)).toNat)).bind fun t256 => (if t256 = true then (chisellaw14_LexCovers.l0 k s (pre ++ tkP s kd x (raw ++ r) :: T.map fun t => tkP s t.1 t.2.1 t.2.2) 0 t254 (wrap64 ((pre.length : Int) + 1))) else (some false))) else none) else none) else none)))) : Option Bool) = some true
    have r0 := hr.nonneg
    rw [if_neg (by omega), ends_f hs g2 hu k (by omega), Option.bind_some, if_neg (by omega), if_pos h.nonneg, if_pos hle, if_pos u1, hext, between_f p h.app_all (hencz _ _ h) g1, Option.bind_some, if_pos rfl, w64 (by omega) (by omega)]
    have := ih r (pre ++ [tkP s kd x (raw ++ r)]) k hr g3 (by omega) (by simp; omega)
    rw [List.append_assoc, List.singleton_append, List.length_append, List.length_singleton] at this
    exact_mod_cast this
theorem LexCovers : chisellaw14_LexCovers.Pure := by
  intro s hs
  refine ⟨10000000, ?_⟩
  unfold chisellaw14_LexCovers.f
  by_cases hz : (s.size : Int) > 2000
  · rw [if_pos hz, works_f 10000000 (by omega)]; rfl
  · rw [if_neg hz, tokens_f s (by omega), Option.bind_some]
    have wrong : ∀ (u : Int) (p : ByteArray), 0 ≤ u → u < (s.size : Int) → s.extract 0 u.toNat = p → p.size ≤ 1000000 → (ansP p).2.2 = 0 → chisellaw14_LexCovers.j0 10000000 s u (decide (u ≥ (s.size : Int))) = some true := by
      intro u p h0 h1 hx hp ha
      generalize hk : (10000000 : Nat) = k
      obtain ⟨k, rfl⟩ : ∃ n, k = n + 1 := ⟨k - 1, by omega⟩
      rw [decide_eq_false (by omega)]
      simp only [chisellaw14_LexCovers.j0]
      rw [if_neg (by simp), if_pos h0, if_pos (by omega), hx, tokens_f p (by omega), Option.bind_some, if_pos ha, works_f k (by omega)]; rfl
    rcases ans_ways s (by omega) with ⟨ht, e⟩ | ⟨ht, u, er, hl, e⟩ | ⟨ht, T, hl, e⟩
    · rw [e]; simp only
      rw [if_neg (by decide), if_pos (by simp), if_neg (by decide)]
      have hpos : 0 < s.size := by
        rcases Nat.eq_zero_or_pos s.size with h0 | h0
        · exfalso
          have : s = encode [] := by
            have : s.data.toList = [] := List.length_eq_zero_iff.mp (by rw [size_data]; exact h0)
            rw [encode_flat, flat_nil, ← this, mk_data]
          rw [this, (text_of_chars [] rfl).1] at ht; cases ht
        · exact h0
      exact wrong 0 (s.extract 0 0) (by omega) (by omega) rfl (by rw [ByteArray.size_extract]; omega) (by
        have : s.extract 0 0 = encode [] := by rw [ext_mk]; rfl
        rw [this]; decide +kernel)
    · rw [e]; simp only
      have her := lx_errno _ _ u er (Nat.le_refl _) hl
      obtain ⟨ha, hp0⟩ := At.full ht
      obtain ⟨hu, hne, p, T, e1, e2⟩ := lx_place ha hl
      have h0 := hu.nonneg
      have hlt : P s u < (s.size : Int) := by
        cases u with
        | nil => exact absurd rfl hne
        | cons c t => exact P_lt
      rw [if_neg (by omega), if_pos (by simp), if_neg (by omega)]
      have hx : s.extract 0 (P s u).toNat = encode p := by
        rw [e1] at ha hp0
        have := ext_at ha
        rw [hp0] at this; exact this
      have hpz : (encode p).size ≤ 1000000 := by
        rw [← hx, ByteArray.size_extract]; omega
      refine wrong (P s u) (encode p) h0 hlt hx hpz ?_
      have hpa : p.all isChar = true := by rw [e1] at ha; exact ha.app_all
      obtain ⟨t1, t2⟩ := text_of_chars p hpa
      rcases ans_ways (encode p) hpz with ⟨y, _⟩ | ⟨_, u', er', y, _⟩ | ⟨_, U, y, e'⟩
      · rw [t1] at y; cases y
      · rw [t2, e2] at y; cases y
      · rw [e']
    · rw [e]; simp only
      obtain ⟨ha, hp0⟩ := At.full ht
      have hTl := (lx_parts T.length (points s) T (Nat.le_refl _) hl).2.2
      have hpl := points_le s
      have := covers_loop (s := s) (by omega) T (points s) [] 10000000 ha hl (by omega) (by simpa using (by omega : T.length ≤ 1000000))
      rw [hp0] at this
      rw [if_pos trivial]; exact this
end Go.Proofs.YtmpenkinheneoaaDoor.Pure
