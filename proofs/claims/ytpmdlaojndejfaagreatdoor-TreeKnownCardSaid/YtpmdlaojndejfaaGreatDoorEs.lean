/- A free place that is filled changes nothing: code, calls. -/
import Derived.Test.YtpmdlaojndejfaaGreatDoorEr
set_option linter.unusedVariables false
set_option linter.unusedSimpArgs false
namespace Go.Proofs.YtpmdlaojndejfaaGreatDoor.E
open Go

section
variable {P : Program} {E : Env} {H H' : Heap} {p : Nat} {b : Blk}

theorem opE_fill (hp : H[p]? = some .free) {tmps : List V} {nid : Nat} (hn : nid ≠ p) {o : Oper} {v : V} (h : opE E tmps nid H o = some (v, H')) :
    opE E tmps nid (H.set p b) o = some (v, H'.set p b) ∧ H'[p]? = some .free := by
  obtain ⟨dst, op, ty, pos, after, guard⟩ := o
  -- an operation that leaves the memory as it is
  have still : ∀ {x y : Option V}, (∀ z, x = some z → y = some z) → x.map (fun z => (z, H)) = some (v, H') → y.map (fun z => (z, H.set p b)) = some (v, H'.set p b) ∧ H'[p]? = some .free := by
    intro x y hxy h
    simp only [Option.map_eq_some_iff, Prod.mk.injEq] at h
    obtain ⟨z, hz, rfl, rfl⟩ := h
    rw [hxy z hz]; exact ⟨rfl, hp⟩
  have same : ∀ {x : Option V}, x.map (fun z => (z, H)) = some (v, H') → x.map (fun z => (z, H.set p b)) = some (v, H'.set p b) ∧ H'[p]? = some .free := fun h => still (fun _ h => h) h
  have one : ∀ {z : V}, some (z, H) = some (v, H') → some (z, H.set p b) = some (v, H'.set p b) ∧ H'[p]? = some .free := by
    intro z h
    simp only [Option.some.injEq, Prod.mk.injEq] at h
    obtain ⟨rfl, rfl⟩ := h
    exact ⟨rfl, hp⟩
  have plc : ∀ {c : Blk} {z : V}, (place H nid c).map (fun H => (z, H)) = some (v, H') → (place (H.set p b) nid c).map (fun H => (z, H)) = some (v, H'.set p b) ∧ H'[p]? = some .free := by
    intro c z h
    simp only [Option.map_eq_some_iff, Prod.mk.injEq] at h
    obtain ⟨H1, h1, rfl, rfl⟩ := h
    obtain ⟨q1, q2⟩ := place_fill (b := b) hp hn h1
    rw [q1]; exact ⟨rfl, q2⟩
  cases op
  case move x => exact one h
  case assign x => exact one h
  case pick c x y =>
    simp only [opE] at h ⊢
    split at h
    · exact one h
    · cases h
  case alloc t =>
    simp only [opE, Option.bind_eq_some_iff] at h ⊢
    obtain ⟨z, hz, h⟩ := h
    split at h
    · cases h
    rename_i hc
    obtain ⟨q1, q2⟩ := plc h
    exact ⟨⟨z, hz, by rw [if_neg hc]; exact q1⟩, q2⟩
  case box t x =>
    simp only [opE] at h ⊢
    split at h
    · cases h
    rename_i hc
    rw [if_neg hc]; exact plc h
  case build t ps => exact same h
  case buildSlice t n ps =>
    simp only [opE] at h ⊢
    split at h
    case h_2 => cases h
    split at h
    case isFalse => cases h
    rename_i hc
    rw [if_pos hc]
    simp only [Option.bind_eq_some_iff] at h ⊢
    obtain ⟨z, hz, h⟩ := h
    split at h
    · cases h
    rename_i hc2
    simp only [Option.bind_eq_some_iff] at h
    obtain ⟨cs, hcs, h⟩ := h
    obtain ⟨q1, q2⟩ := plc h
    refine ⟨⟨z, hz, ?_⟩, q2⟩
    rw [if_neg hc2]
    simp only [Option.bind_eq_some_iff]
    exact ⟨cs, hcs, q1⟩
  case load t x => exact still (fun z hz => loadT_fill hp hz) h
  case store t x y =>
    simp only [opE, Option.map_eq_some_iff, Prod.mk.injEq] at h
    obtain ⟨H1, h1, rfl, rfl⟩ := h
    obtain ⟨q1, q2⟩ := storeT_fill (b := b) hp h1
    simp only [opE, q1, Option.map_some]
    exact ⟨trivial, q2⟩
  case nilCheck x =>
    simp only [opE] at h ⊢
    split at h
    · exact one h
    · exact one h
    · exact one h
    · cases h
  case fieldAddr s x f => exact same h
  case field s x f => exact same h
  case indexAddr t x i => exact still (fun z hz => indexA_fill hp hz) h
  case extract x i =>
    simp only [opE] at h ⊢
    split at h
    · exact same h
    · cases h
  case makeFunc fn first caps =>
    cases fn with
    | func f =>
      simp only [opE] at h ⊢
      split at h
      · rename_i hc; rw [if_pos hc]; exact one h
      · cases h
    | _ => exact same h
  case makeMap t r =>
    cases r with
    | none => exact plc h
    | some r => exact same h
  case makeSlice t l c =>
    simp only [opE] at h ⊢
    split at h
    case h_2 => cases h
    split at h
    case isFalse => cases h
    rename_i hc
    rw [if_pos hc]
    simp only [Option.bind_eq_some_iff] at h ⊢
    obtain ⟨z, hz, h⟩ := h
    split at h
    · cases h
    rename_i hc2
    obtain ⟨q1, q2⟩ := plc h
    refine ⟨⟨z, hz, ?_⟩, q2⟩
    rw [if_neg hc2]; exact q1
  case lookup t m k ok => exact still (fun z hz => lookupV_fill hp hz) h
  case mapUpdate t m k x =>
    simp only [opE, Option.map_eq_some_iff, Prod.mk.injEq] at h
    obtain ⟨H1, h1, rfl, rfl⟩ := h
    obtain ⟨q1, q2⟩ := mapPut_fill (b := b) hp h1
    simp only [opE, q1, Option.map_some]
    exact ⟨trivial, q2⟩
  case insert t m k x =>
    simp only [opE, Option.map_eq_some_iff, Prod.mk.injEq] at h
    obtain ⟨H1, h1, rfl, rfl⟩ := h
    obtain ⟨q1, q2⟩ := mapPut_fill (b := b) hp h1
    simp only [opE, q1, Option.map_some]
    exact ⟨trivial, q2⟩
  case range t x =>
    simp only [opE] at h ⊢
    split at h
    · exact plc h
    · cases h
  case next x bb =>
    cases bb with
    | false => exact same h
    | true =>
      simp only [opE] at h ⊢
      split at h
      case h_2 => cases h
      split at h
      case h_2 => cases h
      rename_i hid
      simp only [get_fill hp hid (by simp)]
      split at h
      · rename_i hc
        rw [if_pos hc]
        simp only [Option.some.injEq, Prod.mk.injEq] at h
        obtain ⟨rfl, rfl⟩ := h
        exact ⟨by rw [set_swap (ne_free hp hid (by simp))], set_free hp (ne_free hp hid (by simp))⟩
      · rename_i hc
        rw [if_neg hc]; exact one h
  case slice t x lo hi mx =>
    cases mx with
    | some m => exact same h
    | none =>
      simp only [opE] at h ⊢
      split at h
      · exact same h
      · exact still (fun z hz => sliceV_fill hp hz) h
  case binOp op t x y yt =>
    simp only [opE] at h ⊢
    split at h
    · rename_i hc
      rw [if_pos hc]
      split at h
      · exact one h
      · exact one h
      · cases h
    · rename_i hc
      rw [if_neg hc]; exact same h
  case call c =>
    obtain ⟨callee, args, ats⟩ := c
    cases callee with
    | builtin bb =>
      simp only [opE] at h ⊢
      split at h
      · exact appendV_fill hp hn h
      · split at h
        · rename_i hc; rw [if_pos hc]; exact one h
        · cases h
      · split at h
        · rename_i hc; rw [if_pos hc]; exact one h
        · cases h
      · exact still (fun z hz => sliceData_fill hp hz) h
      · exact strData_fill hp h
      · exact same h
    | _ => exact same h
  all_goals (simp only [opE] at h ⊢; exact same h)

theorem freeze_fill (hp : H[p]? = some .free) : ∀ k, (∀ v v', freeze H k v = some v' → freeze (H.set p b) k v = some v') ∧ (∀ v v', freezes H k v = some v' → freezes (H.set p b) k v = some v') ∧
    (∀ v v', freezess H k v = some v' → freezess (H.set p b) k v = some v')
  | 0 => ⟨fun v v' h => by simp [freeze] at h, fun v v' h => by simp [freezes] at h, fun v v' h => by simp [freezess] at h⟩
  | k + 1 => by
    obtain ⟨i1, i2, i3⟩ := freeze_fill hp k
    refine ⟨fun v v' h => ?_, fun v v' h => ?_, fun v v' h => ?_⟩
    · cases v with
      | agg cs => simp only [freeze, Option.map_eq_some_iff] at h ⊢; obtain ⟨x, hx, rfl⟩ := h; exact ⟨x, i2 _ _ hx, rfl⟩
      | tup cs => simp only [freeze, Option.map_eq_some_iff] at h ⊢; obtain ⟨x, hx, rfl⟩ := h; exact ⟨x, i2 _ _ hx, rfl⟩
      | fn f cs => simp only [freeze, Option.map_eq_some_iff] at h ⊢; obtain ⟨x, hx, rfl⟩ := h; exact ⟨x, i2 _ _ hx, rfl⟩
      | own id ver off len =>
        simp only [freeze, Option.bind_eq_some_iff] at h ⊢
        obtain ⟨rs, hrs, h⟩ := h
        refine ⟨rs, rowsOf_fill hp hrs, ?_⟩
        split at h
        · rename_i hc; rw [if_pos hc]; exact h
        · rename_i hc
          rw [if_neg hc]
          simp only [Option.map_eq_some_iff] at h ⊢
          obtain ⟨x, hx, rfl⟩ := h
          exact ⟨x, i3 _ _ hx, rfl⟩
      | ptr id ver r off =>
        simp only [freeze] at h ⊢
        split at h
        case h_2 => cases h
        rename_i hid
        simp only [get_fill hp hid (by simp)]
        split at h
        case isFalse => cases h
        rename_i hc
        rw [if_pos hc]
        simp only [Option.bind_eq_some_iff] at h ⊢
        obtain ⟨cs, hcs, h⟩ := h
        refine ⟨cs, hcs, ?_⟩
        split at h
        · rename_i hc2
          rw [if_pos hc2]
          simp only [Option.map_eq_some_iff] at h ⊢
          obtain ⟨x, hx, rfl⟩ := h
          exact ⟨x, i2 _ _ hx, rfl⟩
        · cases h
      | lit x => simpa [freeze] using h
      | arr x => simpa [freeze] using h
      | row x => simpa [freeze] using h
      | _ => simp [freeze] at h
    · cases v with
      | nil => simpa [freezes] using h
      | cons x xs =>
        simp only [freezes, Option.bind_eq_some_iff, Option.map_eq_some_iff] at h ⊢
        obtain ⟨y, hy, ys, hys, rfl⟩ := h
        exact ⟨y, i1 _ _ hy, ys, i2 _ _ hys, rfl⟩
    · cases v with
      | nil => simpa [freezess] using h
      | cons x xs =>
        simp only [freezess, Option.bind_eq_some_iff, Option.map_eq_some_iff] at h ⊢
        obtain ⟨y, hy, ys, hys, rfl⟩ := h
        exact ⟨y, i2 _ _ hy, ys, i3 _ _ hys, rfl⟩
theorem freezeAll_fill (hp : H[p]? = some .free) : ∀ v v', freezeAll H v = some v' → freezeAll (H.set p b) v = some v'
  | [], v', h => by simpa [freezeAll] using h
  | x :: xs, v', h => by
    simp only [freezeAll, Option.bind_eq_some_iff, Option.map_eq_some_iff] at h ⊢
    obtain ⟨y, hy, ys, hys, rfl⟩ := h
    exact ⟨y, (freeze_fill hp 1000).1 _ _ hy, ys, freezeAll_fill hp _ _ hys, rfl⟩

def FillCall (call : FuncId → List V → Heap → Option (V × Heap)) : Prop :=
  ∀ (f : FuncId) (args : List V) (H : Heap) (v : V) (H' : Heap) (p : Nat) (b : Blk), call f args H = some (v, H') → H[p]? = some .free → call f args (H.set p b) = some (v, H'.set p b) ∧ H'[p]? = some .free
def FillCode (code : Option Nat → Code → St → Option (X × St)) : Prop :=
  ∀ (ro : Option Nat) (c : Code) (s : St) (x : X) (s' : St) (p : Nat) (b : Blk), code ro c s = some (x, s') → s.H[p]? = some .free →
    code ro c ⟨s.tmps, s.H.set p b, s.ds⟩ = some (x, ⟨s'.tmps, s'.H.set p b, s'.ds⟩) ∧ s'.H[p]? = some .free
def PrimFill (E : Env) : Prop :=
  ∀ (f : FuncId) (q : List V → Heap → Option (V × Heap)), E.prim f = some q → FillCall (fun _ args H => q args H)

theorem callE_fill {self : Self} (hc : FillCall self.call) (hq : PrimFill E) (hp : H[p]? = some .free) {f : FuncId} {args : List V} {nid : Nat} (hn : nid ≠ p) (hn2 : nid + 1 ≠ p) {v : V}
    (h : callE E self f args nid H = some (v, H')) : callE E self f args nid (H.set p b) = some (v, H'.set p b) ∧ H'[p]? = some .free := by
  unfold callE at h ⊢
  split at h
  · cases h
  rename_i hg
  rw [if_neg hg]
  split at h
  · rename_i q hqe
    split at h
    · cases h
    rename_i hb
    rw [if_neg hb]
    exact hq f q hqe f args H v H' p b h hp
  · rename_i hqe
    split at h
    · rename_i hb
      rw [if_pos hb]
      simp only [Option.bind_eq_some_iff] at h ⊢
      obtain ⟨xs, hxs, h⟩ := h
      split at h
      · rename_i hy
        simp only [Option.some.injEq, Prod.mk.injEq] at h
        obtain ⟨rfl, rfl⟩ := h
        exact ⟨⟨xs, hxs, by rw [hy]⟩, hp⟩
      · cases h
    rename_i hb
    rw [if_neg hb]
    split at h
    · rename_i hh
      rw [if_pos hh]
      exact hc f args H v H' p b h hp
    rename_i hh
    rw [if_neg hh]
    simp only [Option.bind_eq_some_iff] at h ⊢
    obtain ⟨args', ha, r, hr, h⟩ := h
    have ha2 : (if args.all noOwn then some args else freezeAll (H.set p b) args) = some args' := by
      split at ha
      · rename_i hno; rw [if_pos hno]; exact ha
      · rename_i hno; rw [if_neg hno]; exact freezeAll_fill hp _ _ ha
    split at h
    · rename_i hs
      simp only [Option.map_eq_some_iff, Prod.mk.injEq] at h
      obtain ⟨H1, h1, rfl, rfl⟩ := h
      have h2 : r.2.length ≤ 2 := by rw [Bool.and_eq_true] at hs; simpa using hs.2
      obtain ⟨q1, q2⟩ := placeAll_fill (b := b) hp (fun i hi => by
        have : i = 0 ∨ i = 1 := by omega
        rcases this with rfl | rfl
        · simpa using hn
        · exact hn2) h1
      refine ⟨⟨args', ha2, r, hr, ?_⟩, q2⟩
      rw [if_pos hs, q1]; rfl
    · cases h

theorem loopAt_fill (hp : H[p]? = some .free) {l : Nat} {o r : Bool} {pd : Option Code} (h : loopAt H l o r pd = some H') : loopAt (H.set p b) l o r pd = some (H'.set p b) ∧ H'[p]? = some .free := by
  unfold loopAt at h ⊢
  split at h
  case h_2 => cases h
  rename_i hid
  simp only [get_fill hp hid (by simp)]
  split at h
  case isFalse => cases h
  rename_i hc
  rw [if_pos hc]
  simp only [Option.some.injEq] at h; subst h
  exact ⟨by rw [set_swap (ne_free hp hid (by simp))], set_free hp (ne_free hp hid (by simp))⟩

theorem yieldE_fill {self : Self} (hc : FillCode self.code) (hp : H[p]? = some .free) {l : Nat} {args : List V} {v : V} (h : yieldE self l args H = some (v, H')) :
    yieldE self l args (H.set p b) = some (v, H'.set p b) ∧ H'[p]? = some .free := by
  unfold yieldE at h ⊢
  split at h
  case h_2 => cases h
  rename_i hid
  simp only [get_fill hp hid (by simp)]
  split at h
  case isFalse => cases h
  rename_i hl
  rw [if_pos hl]
  simp only [Option.bind_eq_some_iff] at h ⊢
  obtain ⟨⟨x1, s1⟩, h1, h⟩ := h
  obtain ⟨a1, a2⟩ := hc _ _ _ _ _ p b h1 hp
  cases x1 with
  | exit id => cases h
  | ret => cases h
  | normal =>
    simp only at h
    split at h
    · cases h
    rename_i hds
    simp only [Option.bind_eq_some_iff] at h
    obtain ⟨H1, hH1, ⟨x2, s2⟩, h2, h⟩ := h
    obtain ⟨b1, b2⟩ := loopAt_fill (b := b) a2 hH1
    obtain ⟨c1, c2⟩ := hc _ _ _ _ _ p b h2 b2
    have fin : ∀ (r : Bool) (pd : Option Code) (y : V), (loopAt s2.H l false r pd).map (fun H => (y, H)) = some (v, H') → (loopAt (s2.H.set p b) l false r pd).map (fun H => (y, H)) = some (v, H'.set p b) ∧ H'[p]? = some .free := by
      intro r pd y h
      simp only [Option.map_eq_some_iff, Prod.mk.injEq] at h
      obtain ⟨H3, h3, rfl, rfl⟩ := h
      obtain ⟨d1, d2⟩ := loopAt_fill (b := b) c2 h3
      rw [d1]; exact ⟨rfl, d2⟩
    cases x2 with
    | normal => obtain ⟨d1, d2⟩ := fin _ _ _ h; exact ⟨⟨_, a1, by simp only [if_neg hds, Option.bind_eq_some_iff]; exact ⟨_, b1, _, c1, d1⟩⟩, d2⟩
    | ret => obtain ⟨d1, d2⟩ := fin _ _ _ h; exact ⟨⟨_, a1, by simp only [if_neg hds, Option.bind_eq_some_iff]; exact ⟨_, b1, _, c1, d1⟩⟩, d2⟩
    | exit id => obtain ⟨d1, d2⟩ := fin _ _ _ h; exact ⟨⟨_, a1, by simp only [if_neg hds, Option.bind_eq_some_iff]; exact ⟨_, b1, _, c1, d1⟩⟩, d2⟩

theorem stepE_fill {self : Self} (hcall : FillCall self.call) (hcode : FillCode self.code) (hq : PrimFill E) (hp : H[p]? = some .free) {tmps : List V} {nid : Nat} (hn : nid ≠ p) (hn2 : nid + 1 ≠ p) {o : Oper} {v : V}
    (h : stepE E self tmps nid H o = some (v, H')) : stepE E self tmps nid (H.set p b) o = some (v, H'.set p b) ∧ H'[p]? = some .free := by
  obtain ⟨dst, op, ty, pos, after, guard⟩ := o
  by_cases hc : ∃ g args ats, op = .call { callee := .value g, args := args, argTypes := ats }
  · obtain ⟨g, args, ats, rfl⟩ := hc
    simp only [stepE] at h ⊢
    split at h
    · exact callE_fill hcall hq hp hn hn2 h
    · exact yieldE_fill hcode hp h
    · cases h
  · have e : ∀ H, stepE E self tmps nid H { dst := dst, op := op, type := ty, pos := pos, after := after, guard := guard } = opE E tmps nid H { dst := dst, op := op, type := ty, pos := pos, after := after, guard := guard } := by
      intro H
      cases op with
      | call c =>
        obtain ⟨callee, args, ats⟩ := c
        cases callee with
        | value g => exact absurd ⟨_, _, _, rfl⟩ hc
        | _ => rfl
      | _ => rfl
    rw [e] at h ⊢
    exact opE_fill hp hn h
end
end Go.Proofs.YtpmdlaojndejfaaGreatDoor.E
