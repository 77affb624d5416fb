/- The evaluator's operations against the machine's: a builder's string. -/
import Derived.Lib.UnsafeStr
import Derived.Test.YtpmdlaojndejfaaGreatDoorEj
set_option linter.unusedVariables false
set_option linter.unusedSimpArgs false
namespace Go.Proofs.YtpmdlaojndejfaaGreatDoor.E
open Go

section
variable {P : Program} {N A : Nat → Prop} {ι : Nat → Lk} {H H' : Heap} {w : World}

theorem bytesOf_get : ∀ {rows : List (List V)} {l : List UInt8}, bytesOf rows = some l → l.length = rows.length ∧ ∀ (j : Nat) (x : UInt8), l[j]? = some x → rows[j]? = some [.lit (.int .u8 x.toNat)]
  | [], l, h => by simp [bytesOf] at h; subst h; exact ⟨rfl, fun j x h => by simp at h⟩
  | r :: rows, l, h => by
    unfold bytesOf at h
    split at h
    · rename_i heq; cases heq
    · rename_i n t heq
      simp only [List.cons.injEq] at heq
      obtain ⟨rfl, rfl⟩ := heq
      split at h
      case isFalse => cases h
      rename_i hn
      simp only [Option.map_eq_some_iff] at h
      obtain ⟨l', h1, rfl⟩ := h
      obtain ⟨q1, q2⟩ := bytesOf_get h1
      refine ⟨by simp [q1], fun j x hx => ?_⟩
      cases j with
      | zero =>
        simp at hx; subst hx
        have : ((n.toNat.toUInt8).toNat : Int) = n := by
          have h1 : n.toNat < 256 := by omega
          have : (n.toNat.toUInt8).toNat = n.toNat := by simp [Nat.toUInt8, UInt8.toNat_ofNat']; omega
          rw [this]; omega
        simp only [List.getElem?_cons_zero, this]
      | succ j => simpa using q2 j x (by simpa using hx)
    · cases h

theorem sliceData_sound (hs : SR N A ι H w) {ts : Array TypeId} {ty : TypeId} {id ver off len : Nat} {x : V} {ca : Value} (ha : VR A ι H w (.own id ver off len) ca) (h : sliceData H id ver off len = some x) :
    Out P N A ι H w (Builtin.unsafeSliceData_ ts ty #[ca]) x H := by
  unfold sliceData at h
  split at h
  · cases h
  rename_i hl
  split at h
  case h_2 => cases h
  rename_i sz ver' rs hid
  split at h
  case isFalse => cases h
  rename_i hc
  obtain ⟨rfl, hc⟩ := hc
  simp only [Option.some.injEq] at h; subst h
  cases ha with
  | own _ _ _ _ a cap blk hid' hf hh =>
  rw [hid] at hid'; cases hid'
  rcases hh _ _ _ rfl with hq | ⟨_, q1, q2, q3, q4, q5⟩
  · omega
  have q4 := q4.resolve_left (by omega)
  refine Out.still hs (Lib.run_unsafeSliceData_row w ts ty a len cap (by omega)) (.ptr _ _ _ _ _ _ hid (by simp) fun s v r e => ?_)
  cases e
  exact .inr ⟨rfl, by rw [q4]; simp⟩

theorem strData_sound (hs : SR N A ι H w) {ts : Array TypeId} {ty : TypeId} {id ver : Nat} {n : Int} {v : V} {ca : Value} (ha : VR A ι H w (.ptr id ver 0 0) ca) (h : strData P H ts id ver n = some (v, H')) :
    Out P N A ι H w (Builtin.unsafeString_ ts ty #[ca, .int .i64 n]) v H' := by
  unfold strData at h
  split at h
  case h_2 => cases h
  rename_i sz ver' rs pt it hid hts
  split at h
  case h_2 => cases h
  rename_i e hu
  split at h
  case isFalse => cases h
  rename_i hc
  obtain ⟨rfl, rfl, c3, c4, c5, c6, c7⟩ := hc
  simp only [Option.map_eq_some_iff, Prod.mk.injEq] at h
  obtain ⟨l, hl, rfl, rfl⟩ := h
  have hts : ts = #[pt, it] := by apply Array.toList_inj.1; simpa using hts
  subst hts
  cases ha with
  | ptr _ _ _ _ a blk hid' hf hh =>
  rw [hid] at hid'; cases hid'
  rcases hh _ _ _ rfl with hq | ⟨_, rfl⟩
  · omega
  obtain ⟨cs, e', b1, b2, b3, b4, b5, b6⟩ := hs.live id _ hid
  obtain ⟨rfl, ho⟩ := b6.2 e c4
  obtain ⟨g1, g2⟩ := bytesOf_get hl
  have hlen : l.length = n.toNat := by rw [g1, List.length_take]; omega
  have hn : n = (l.length : Int) := by omega
  rw [hn]
  have hrun := Lib.run_unsafeString_row (P := P) w pt it ty e' hu c3 (ι id).b cs.size (by simp [World.shape?, b1]) l (fun e0 => by subst e0; simp at hlen; omega) (by omega) (by omega) (fun j x hx => by
    have := g2 j x hx
    rw [List.getElem?_take] at this
    split at this
    case isFalse => cases this
    obtain ⟨cv, p, q⟩ := b5 j 0 _ (.lit (.int .u8 x.toNat)) this (by simp)
    cases q
    rw [ho] at p
    rw [add_none]
    simp only [World.cell?, b1]
    simpa using p)
  rw [ho]
  simp only [Nat.zero_mul, Nat.add_zero]
  refine ⟨_, _, N, A, upd ι id (ι id), hrun, Ext.turn hs hid trivial (L := ι id) (.inl rfl) (fun k _ hk => ?_) ?_ ?_ ?_ ?_ (by simp [Later, upd_same]) fun keep => trivial, .lit _⟩
  · unfold World.freeze
    split
    · rfl
    · simp only [Array.getElem?_modify]; rw [if_neg (Ne.symm hk)]
  · unfold World.freeze; split <;> simp
  · unfold World.freeze; split <;> rfl
  · unfold World.freeze; split <;> rfl
  · unfold World.freeze; split <;> rfl
end
end Go.Proofs.YtpmdlaojndejfaaGreatDoor.E
