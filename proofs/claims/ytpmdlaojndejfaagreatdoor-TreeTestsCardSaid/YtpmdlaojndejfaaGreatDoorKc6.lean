/- Blocks by other numbers: what an operation does does not hang on them. -/
import Derived.Test.YtpmdlaojndejfaaGreatDoorKc5
import Derived.Lib.RuneCount
import Derived.Lib.RuneBytes
import Derived.Lib.DecodeN
import Derived.Lib.FieldsP
import Derived.Lib.Join
import Derived.Lib.Bytealg
import Derived.Lib.Repeat
import Derived.Shelf.GgClosure.StringsIndexFunc
set_option linter.unusedVariables false
set_option linter.unusedSimpArgs false
namespace Go.Proofs.YtpmdlaojndejfaaGreatDoor.E
open Go

mutual
def mapV (r : Nat → Nat) : V → V
  | .lit v => .lit v
  | .arr rows => .arr rows
  | .row cs => .row cs
  | .agg cs => .agg (mapVs r cs)
  | .tup cs => .tup (mapVs r cs)
  | .own id ver off len => .own (r id) ver off len
  | .ptr id ver row off => .ptr (r id) ver row off
  | .fn f cs => .fn f (mapVs r cs)
  | .yld id => .yld (r id)
  | .mp id => .mp (r id)
  | .it id => .it (r id)
def mapVs (r : Nat → Nat) : List V → List V
  | [] => []
  | v :: vs => mapV r v :: mapVs r vs
end
theorem mapVs_eq (r : Nat → Nat) : ∀ l, mapVs r l = l.map (mapV r)
  | [] => rfl
  | v :: vs => by simp only [mapVs, List.map_cons, mapVs_eq r vs]
def mapR (r : Nat → Nat) (rs : List (List V)) : List (List V) := rs.map fun l => l.map (mapV r)
def mapB (r : Nat → Nat) : Blk → Blk
  | .rows sz ver rs => .rows sz ver (mapR r rs)
  | .map es c => .map (es.map fun e => (mapV r e.1, mapV r e.2)) c
  | .loop a b tmps c d e => .loop a b (tmps.map (mapV r)) c d e
  | b => b

mutual
/-- No block's number is in it. -/
def closedV : V → Bool
  | .lit _ | .arr _ | .row _ => true
  | .agg cs | .tup cs | .fn _ cs => closedVs cs
  | _ => false
def closedVs : List V → Bool
  | [] => true
  | v :: vs => closedV v && closedVs vs
end
section
variable {r : Nat → Nat}
mutual
theorem closed_eq : ∀ {v : V}, closedV v = true → mapV r v = v
  | .lit _, _ => rfl
  | .arr _, _ => rfl
  | .row _, _ => rfl
  | .agg cs, h => by simp only [closedV] at h; simp only [mapV, closeds_eq h]
  | .tup cs, h => by simp only [closedV] at h; simp only [mapV, closeds_eq h]
  | .fn _ cs, h => by simp only [closedV] at h; simp only [mapV, closeds_eq h]
  | .own .., h => by simp [closedV] at h
  | .ptr .., h => by simp [closedV] at h
  | .yld .., h => by simp [closedV] at h
  | .mp .., h => by simp [closedV] at h
  | .it .., h => by simp [closedV] at h
theorem closeds_eq : ∀ {l : List V}, closedVs l = true → mapVs r l = l
  | [], _ => rfl
  | v :: vs, h => by
    simp only [closedVs, Bool.and_eq_true] at h
    simp only [mapVs, closed_eq h.1, closeds_eq h.2]
end
theorem mapV_ofValue (v : Value) : mapV r (ofValue v) = ofValue v := by
  unfold ofValue
  split
  · simp only [mapV, mapVs_eq, List.map_map]; rfl
  · split
    · rfl
    · rfl
  · rfl
theorem mapV_un : mapV r un = un := rfl
theorem mapV_cells (v : V) : (mapV r v).cells = v.cells.map (mapV r) := by
  cases v <;> simp [mapV, V.cells, mapVs_eq]
theorem scalarV_mapV (v : V) : scalarV (mapV r v) = scalarV v := by
  cases v <;> simp [mapV, scalarV]
theorem all_scalar (l : List V) : (l.map (mapV r)).all scalarV = l.all scalarV := by
  simp only [List.all_map]
  congr 1
  funext v; exact scalarV_mapV v
theorem intOf_mapV (v : V) : intOf (mapV r v) = intOf v := by cases v <;> rfl
theorem litOf_mapV (v : V) : litOf (mapV r v) = litOf v := by cases v <;> rfl
theorem litOf_closed {v : V} {x : Value} (h : litOf v = some x) : v = .lit x := by
  cases v <;> simp_all [litOf]
theorem litsOf_map : ∀ (l : List V), litsOf (l.map (mapV r)) = litsOf l
  | [] => rfl
  | v :: vs => by simp only [List.map_cons, litsOf, litOf_mapV, litsOf_map vs]
theorem toValue_mapV (v : V) : toValue? (mapV r v) = toValue? v := by
  cases v <;> simp [mapV, toValue?, mapVs_eq, litsOf_map]
theorem zero_closed {P : Program} {t : TypeId} {z : V} (h : zeroT P t = some z) : mapV r z = z := by
  unfold zeroT at h
  simp only [Option.map_eq_some_iff] at h
  obtain ⟨a, _, rfl⟩ := h
  exact mapV_ofValue a
theorem zero_cells {P : Program} {t : TypeId} {z : V} (h : zeroT P t = some z) : z.cells.map (mapV r) = z.cells := by
  rw [← mapV_cells, zero_closed h]
theorem evalO_map (T : List V) (x : Operand) : evalO (T.map (mapV r)) x = mapV r (evalO T x) := by
  cases x with
  | tmp t => simp only [evalO, List.getD, List.getElem?_map]; cases T[t]? <;> rfl
  | const v => exact (mapV_ofValue v).symm
  | global g => rfl
  | func f => rfl
theorem partT_map {P : Program} {t : TypeId} {cs : List V} {off : Nat} {v : V} (h : partT P t cs off = some v) : partT P t (cs.map (mapV r)) off = some (mapV r v) := by
  unfold partT at h ⊢
  split at h
  case isFalse => cases h
  rename_i hs
  rw [if_pos hs]
  split at h
  · rename_i ha
    rw [if_pos ha]
    split at h
    case isFalse => cases h
    rename_i hl
    rw [if_pos (by simpa using hl)]
    simp only [Option.some.injEq] at h; subst h
    simp only [mapV, mapVs_eq, List.map_drop, List.map_take]
  · rename_i ha
    rw [if_neg ha, List.getElem?_map, h]; rfl
end

/-- The numbers of a memory's blocks: r takes the known block i to the block r i, new blocks to new blocks. -/
structure Rn (r : Nat → Nat) (K H : Heap) : Prop where
  inj : ∀ i j, r i = r j → i = j
  next : ∀ j, r (K.length + j) = H.length + j
  get : ∀ i b, K[i]? = some b → H[r i]? = some (mapB r b)
/-- What has no number by r stays. -/
def Fm (r : Nat → Nat) (H H' : Heap) : Prop := ∀ id, (∀ i, r i ≠ id) → H'[id]? = H[id]?
theorem Fm.rfl {r : Nat → Nat} {H : Heap} : Fm r H H := fun _ _ => Eq.refl _
theorem Fm.trans {r : Nat → Nat} {H H1 H2 : Heap} (a : Fm r H H1) (b : Fm r H1 H2) : Fm r H H2 := fun id h => (b id h).trans (a id h)

section
variable {r : Nat → Nat} {K H K' : Heap} {P : Program} {E : Env}
theorem Rn.lay (h : Rn r K H) {nid : Nat} {b : Blk} (hp : place K nid b = some K') : ∃ H', place H (r nid) (mapB r b) = some H' ∧ Rn r K' H' ∧ Fm r H H' := by
  unfold place at hp ⊢
  split at hp
  · rename_i e
    have e2 : r nid = H.length := by have := h.next 0; rw [e]; simpa using this
    rw [if_pos e2]
    simp only [Option.some.injEq] at hp; subst hp
    refine ⟨_, rfl, ⟨h.inj, fun j => ?_, fun i c hi => ?_⟩, fun id hid => ?_⟩
    · have := h.next (j + 1)
      simp only [List.length_append, List.length_singleton]
      rw [show K.length + 1 + j = K.length + (j + 1) by omega, this]; omega
    · rw [List.getElem?_append] at hi
      split at hi
      · have := h.get i c hi
        rw [List.getElem?_append_left (List.getElem?_eq_some_iff.1 this).1]; exact this
      · rename_i hlt
        have hi0 : i = K.length := by
          have := (List.getElem?_eq_some_iff.1 hi).1
          simp only [List.length_singleton] at this; omega
        subst hi0
        simp only [Nat.sub_self, List.getElem?_cons_zero, Option.some.injEq] at hi
        subst hi
        have e3 : r K.length = H.length := by simpa using h.next 0
        rw [e3]; simp
    · have hne : id ≠ H.length := fun e3 => hid nid (by rw [e2, e3])
      rw [List.getElem?_append]
      split
      · rfl
      · rename_i hlt
        rw [List.getElem?_eq_none (by simp; omega), List.getElem?_eq_none (by omega)]
  · rename_i e
    have e2 : r nid ≠ H.length := fun e3 => e (h.inj _ _ (e3.trans (by simpa using (h.next 0).symm)))
    rw [if_neg e2]
    split at hp
    · rename_i hf
      have hf' := h.get _ _ hf
      simp only [mapB] at hf'
      simp only [hf']
      simp only [Option.some.injEq] at hp; subst hp
      refine ⟨_, rfl, ⟨h.inj, fun j => by simpa using h.next j, fun i c hi => ?_⟩, fun id hid => List.getElem?_set_ne (hid nid)⟩
      by_cases hin : nid = i
      · subst hin
        rw [List.getElem?_set_self (List.getElem?_eq_some_iff.1 hf).1] at hi
        simp only [Option.some.injEq] at hi; subst hi
        rw [List.getElem?_set_self (List.getElem?_eq_some_iff.1 hf').1]
      · rw [List.getElem?_set_ne hin] at hi
        rw [List.getElem?_set_ne fun e3 => hin (h.inj _ _ e3)]
        exact h.get i c hi
    · cases hp
theorem Rn.set (h : Rn r K H) {id : Nat} {b0 b : Blk} (hb : K[id]? = some b0) : Rn r (K.set id b) (H.set (r id) (mapB r b)) ∧ Fm r H (H.set (r id) (mapB r b)) := by
  have hb' := h.get _ _ hb
  refine ⟨⟨h.inj, fun j => by simpa using h.next j, fun i c hi => ?_⟩, fun x hx => List.getElem?_set_ne (hx id)⟩
  by_cases hin : id = i
  · subst hin
    rw [List.getElem?_set_self (List.getElem?_eq_some_iff.1 hb).1] at hi
    simp only [Option.some.injEq] at hi; subst hi
    rw [List.getElem?_set_self (List.getElem?_eq_some_iff.1 hb').1]
  · rw [List.getElem?_set_ne hin] at hi
    rw [List.getElem?_set_ne fun e3 => hin (h.inj _ _ e3)]
    exact h.get i c hi
theorem Rn.rows (h : Rn r K H) {id sz ver : Nat} {rs : List (List V)} (hb : K[id]? = some (.rows sz ver rs)) : H[r id]? = some (.rows sz ver (mapR r rs)) := h.get _ _ hb
theorem mapR_len (rs : List (List V)) : (mapR r rs).length = rs.length := by simp [mapR]
theorem mapR_get (rs : List (List V)) (i : Nat) : (mapR r rs)[i]? = (rs[i]?).map fun l => l.map (mapV r) := by simp [mapR]
theorem mapR_set (rs : List (List V)) (i : Nat) (l : List V) : mapR r (rs.set i l) = (mapR r rs).set i (l.map (mapV r)) := by simp [mapR, List.map_set]
theorem mapR_app (a b : List (List V)) : mapR r (a ++ b) = mapR r a ++ mapR r b := by simp [mapR]
theorem mapR_take (a : List (List V)) (n : Nat) : mapR r (a.take n) = (mapR r a).take n := by simp [mapR, List.map_take]
theorem mapR_drop (a : List (List V)) (n : Nat) : mapR r (a.drop n) = (mapR r a).drop n := by simp [mapR, List.map_drop]
theorem mapR_rows {sz n : Nat} (cs : List V) : mapR r (toRows sz n cs) = toRows sz n (cs.map (mapV r)) := by
  simp [mapR, toRows, List.map_take, List.map_drop]

theorem storeT_ren (hR : Rn r K H) {t : TypeId} {a v : V} (h : storeT E K t a v = some K') : ∃ H', storeT E H t (mapV r a) (mapV r v) = some H' ∧ Rn r K' H' ∧ Fm r H H' := by
  unfold storeT at h
  split at h
  · rename_i id ver row off
    split at h
    case h_2 => cases h
    rename_i sz ver' rs hid
    split at h
    case isFalse => cases h
    rename_i hc
    simp only [Option.bind_eq_some_iff] at h
    obtain ⟨cs, hcs, h⟩ := h
    split at h
    case isFalse => cases h
    rename_i hl
    simp only [Option.some.injEq] at h; subst h
    obtain ⟨q1, q2⟩ := hR.set (b := .rows sz ver' (rs.set row (cs.take off ++ v.cells ++ cs.drop (off + v.cells.length)))) hid
    refine ⟨_, ?_, q1, q2⟩
    simp only [storeT, mapV, hR.rows hid, mapV_cells, List.length_map, all_scalar]
    rw [if_pos hc, mapR_get, hcs]
    simp only [Option.map_some, Option.bind_some, List.length_map, if_pos hl, mapB, mapR_set, List.map_append, List.map_take, List.map_drop]
  · cases h
theorem loadT_ren (hR : Rn r K H) {t : TypeId} {a x : V} (hcl : (match a with | .ptr .. => true | _ => closedV x) = true) (h : loadT E K t a = some x) : loadT E H t (mapV r a) = some (mapV r x) := by
  unfold loadT at h
  split at h
  · split at h
    · rename_i hid
      split at h
      case isFalse => cases h
      rename_i hv
      simp only [Option.bind_eq_some_iff] at h
      obtain ⟨cs, hcs, h⟩ := h
      simp only [loadT, mapV, hR.rows hid, if_pos hv, mapR_get, hcs, Option.map_some, Option.bind_some]
      exact partT_map h
    · cases h
  · simp only at hcl
    rw [closed_eq hcl]; exact h
  · simp only at hcl
    rw [closed_eq hcl]; exact h
  · cases h
theorem fieldA_ren {s f : Nat} {a x : V} (h : fieldA P s f a = some x) : fieldA P s f (mapV r a) = some (mapV r x) := by
  unfold fieldA at h ⊢
  simp only [Option.bind_eq_some_iff] at h ⊢
  obtain ⟨fd, hfd, h⟩ := h
  refine ⟨fd, hfd, ?_⟩
  split at h
  · cases h
  rename_i hz
  rw [if_neg hz]
  split at h
  · simp only [Option.some.injEq] at h; subst h; rfl
  · simp only [Option.some.injEq] at h; subst h; rfl
  · cases h
theorem fieldV_ren {s f : Nat} {a x : V} (h : fieldV P s f a = some x) : fieldV P s f (mapV r a) = some (mapV r x) := by
  unfold fieldV at h ⊢
  simp only [Option.bind_eq_some_iff] at h ⊢
  obtain ⟨fd, hfd, h⟩ := h
  refine ⟨fd, hfd, ?_⟩
  split at h
  · simp only [mapV, mapVs_eq]; exact partT_map h
  · cases h
theorem indexA_ren (hR : Rn r K H) {t : TypeId} {x i y : V} (h : indexA P K t x i = some y) : indexA P H t (mapV r x) (mapV r i) = some (mapV r y) := by
  unfold indexA at h ⊢
  rw [intOf_mapV]
  simp only [Option.bind_eq_some_iff] at h ⊢
  obtain ⟨n, hn, h⟩ := h
  refine ⟨n, hn, ?_⟩
  split at h
  · cases h
  rename_i h0
  rw [if_neg h0]
  split at h
  · rename_i hu
    split at h
    case isFalse => cases h
    rename_i hlt
    simp only [hu, mapV]
    rw [if_pos hlt]
    split at h
    · rename_i hid
      simp only [hR.rows hid]
      split at h
      · rename_i hc
        rw [if_pos hc]
        simp only [Option.some.injEq] at h; subst h; rfl
      · cases h
    · cases h
  · rename_i hu
    simp only [hu, mapV]
    simp only [Option.bind_eq_some_iff] at h ⊢
    obtain ⟨row, hrow, h⟩ := h
    refine ⟨row, hrow, ?_⟩
    split at h
    · rename_i hc
      rw [if_pos hc]
      simp only [Option.some.injEq] at h; subst h; rfl
    · cases h
  · rename_i hu
    simp only [hu, mapV]
    split at h
    · rename_i hc
      rw [if_pos hc]
      simp only [Option.some.injEq] at h; subst h; rfl
    · cases h
  · rename_i hu
    simp only [hu, mapV]
    split at h
    · rename_i hc
      rw [if_pos hc]
      simp only [Option.some.injEq] at h; subst h; rfl
    · cases h
  · cases h
theorem boundOf_map (d : Nat) (x : Option V) : boundOf d (x.map (mapV r)) = boundOf d x := by
  cases x <;> simp [boundOf, intOf_mapV]
theorem sliceV_ren (hR : Rn r K H) {t : TypeId} {x y : V} {lo hi : Option V} (h : sliceV P K t x lo hi = some y) : sliceV P H t (mapV r x) (lo.map (mapV r)) (hi.map (mapV r)) = some (mapV r y) := by
  unfold sliceV at h ⊢
  split at h
  · rename_i hu
    simp only [hu, mapV]
    simp only [boundOf_map, Option.bind_eq_some_iff] at h ⊢
    obtain ⟨l, hl, u, hu, h⟩ := h
    refine ⟨l, hl, u, hu, ?_⟩
    split at h
    · rename_i hid
      simp only [hR.rows hid, mapR_len]
      split at h
      · rename_i hc
        rw [if_pos hc]
        simp only [Option.some.injEq] at h; subst h; rfl
      · cases h
    · cases h
  · rename_i hu
    simp only [hu, mapV]
    simp only [boundOf_map, Option.bind_eq_some_iff] at h ⊢
    obtain ⟨l, hl, u, hu, h⟩ := h
    refine ⟨l, hl, u, hu, ?_⟩
    split at h
    · rename_i hc
      rw [if_pos hc]
      simp only [Option.some.injEq] at h; subst h; rfl
    · cases h
  · cases h
def isArr : V → Bool
  | .arr _ => true
  | _ => false
theorem rowsOf_ren (hR : Rn r K H) {x : V} {rs : List (List V)} (ha : isArr x = false) (h : rowsOf K x = some rs) : rowsOf H (mapV r x) = some (mapR r rs) := by
  unfold rowsOf at h
  split at h
  · simp only [Option.some.injEq] at h; subst h; rfl
  · simp [isArr] at ha
  · split at h
    · rename_i hid
      split at h
      · rename_i hc
        simp only [Option.some.injEq] at h; subst h
        simp only [rowsOf, mapV, hR.rows hid, mapR_len]
        rw [if_pos hc, mapR_take, mapR_drop]
      · cases h
    · cases h
  · cases h
theorem rowsOfX_ren (hR : Rn r K H) {x : V} {rs : List (List V)} (ha : isArr x = false) (h : rowsOfX K x = some rs) : rowsOfX H (mapV r x) = some (mapR r rs) := by
  unfold rowsOfX at h
  split at h
  · simp only [Option.some.injEq] at h; subst h
    simp only [rowsOfX, mapV, mapR, List.map_map]
    rfl
  · rename_i hn
    have := rowsOf_ren hR ha h
    unfold rowsOfX
    split
    · rename_i b e
      cases x <;> simp_all [mapV]
    · exact this
end
end Go.Proofs.YtpmdlaojndejfaaGreatDoor.E

/- Blocks by other numbers: operations. -/
set_option linter.unusedVariables false
set_option linter.unusedSimpArgs false
namespace Go.Proofs.YtpmdlaojndejfaaGreatDoor.E
open Go
section
variable {r : Nat → Nat} {K H K' : Heap} {P : Program} {E : Env}
theorem rowsAll (sz : Nat) (nr : List (List V)) : (mapR r nr).all (fun l => l.length == sz && l.all scalarV) = nr.all (fun l => l.length == sz && l.all scalarV) := by
  simp only [mapR, List.all_map]
  congr 1
  funext l
  simp only [Function.comp, List.length_map, all_scalar]
theorem appendV_ren (hR : Rn r K H) {nid : Nat} {ts : Array TypeId} {s x v : V} (ha : isArr x = false) (h : appendV P nid K ts s x = some (v, K')) :
    ∃ H', appendV P (r nid) H ts (mapV r s) (mapV r x) = some (mapV r v, H') ∧ Rn r K' H' ∧ Fm r H H' := by
  unfold appendV at h
  simp only [Option.bind_eq_some_iff] at h
  obtain ⟨e, he, z, hz, nr, hnr, h⟩ := h
  split at h
  case isFalse => cases h
  rename_i hc
  unfold appendV
  have hnr' := rowsOfX_ren hR ha hnr
  simp only [he, hz, hnr', Option.bind_some, mapR_len, rowsAll]
  rw [if_pos hc]
  split at h
  · split at h
    · rename_i h0
      simp only [Option.some.injEq, Prod.mk.injEq] at h
      obtain ⟨rfl, rfl⟩ := h
      exact ⟨H, by simp only [mapV]; rw [if_pos h0], hR, .rfl⟩
    · rename_i h0
      simp only [Option.map_eq_some_iff, Prod.mk.injEq] at h
      obtain ⟨H1, h1, rfl, rfl⟩ := h
      obtain ⟨H2, q1, q2, q3⟩ := hR.lay h1
      refine ⟨H2, ?_, q2, q3⟩
      simp only [mapV]
      rw [if_neg h0]
      simp only [mapB] at q1
      rw [q1]; rfl
  · split at h
    case h_2 => cases h
    rename_i hid
    split at h
    case isFalse => cases h
    rename_i hd
    simp only [mapV, hR.rows hid, mapR_len]
    rw [if_pos hd]
    split at h
    · rename_i h0
      simp only [Option.some.injEq, Prod.mk.injEq] at h
      obtain ⟨rfl, rfl⟩ := h
      exact ⟨H, by rw [if_pos h0]; rfl, hR, .rfl⟩
    · rename_i h0
      rw [if_neg h0]
      split at h
      · rename_i hl
        simp only [Option.some.injEq, Prod.mk.injEq] at h
        obtain ⟨rfl, rfl⟩ := h
        rw [if_pos hl]
        refine ⟨_, ?_, hR.set hid⟩
        simp only [mapV, mapB, mapR_app, mapR_take, mapR_drop]
      · rename_i hl
        rw [if_neg hl]
        split at h
        case isFalse => cases h
        rename_i hv
        rw [if_pos hv]
        simp only [Option.some.injEq, Prod.mk.injEq] at h
        obtain ⟨rfl, rfl⟩ := h
        refine ⟨_, ?_, hR.set hid⟩
        simp only [mapV, mapB, mapR_app, mapR_take, mapR_drop]
  · cases h
theorem findI_map {d : TypeDesc} {k : Value} : ∀ (es : List (V × V)) (i : Nat), findI d k (es.map fun e => (mapV r e.1, mapV r e.2)) i = (findI d k es i).map fun o => o.map fun e => (e.1, mapV r e.2)
  | [], i => rfl
  | (k', v) :: es, i => by
    simp only [List.map_cons, findI, litOf_mapV]
    cases litOf k' with
    | none => rfl
    | some x =>
      simp only [Option.bind_some]
      split
      · rfl
      · exact findI_map es (i + 1)
      · rfl
theorem lookupV_ren (hR : Rn r K H) {t : TypeId} {m k y : V} {ok : Bool} (h : lookupV P K t m k ok = some y) : lookupV P H t (mapV r m) (mapV r k) ok = some (mapV r y) := by
  unfold lookupV at h ⊢
  split at h
  · rename_i hu
    simp only [hu, mapV, litOf_mapV]
    simp only [Option.bind_eq_some_iff] at h ⊢
    obtain ⟨d, hd, kv, hkv, h⟩ := h
    refine ⟨d, hd, kv, hkv, ?_⟩
    split at h
    · rename_i hid
      have := hR.get _ _ hid
      simp only [mapB] at this
      simp only [this, findI_map]
      simp only [Option.bind_eq_some_iff] at h
      obtain ⟨f, hf, h⟩ := h
      simp only [hf, Option.map_some, Option.bind_some]
      split at h
      · simp only [Option.some.injEq] at h; subst h
        simp only [Option.map_some]
        cases ok <;> rfl
      · simp only [Option.map_eq_some_iff] at h
        obtain ⟨z, hz, rfl⟩ := h
        simp only [Option.map_none, hz, Option.map_some, Option.some.injEq]
        cases ok
        · simp [zero_closed hz]
        · simp [mapV, mapVs, zero_closed hz]
    · cases h
  · cases h
theorem mapPut_ren (hR : Rn r K H) {t : TypeId} {m k v : V} (h : mapPut P K t m k v = some K') : ∃ H', mapPut P H t (mapV r m) (mapV r k) (mapV r v) = some H' ∧ Rn r K' H' ∧ Fm r H H' := by
  unfold mapPut at h
  split at h
  · rename_i hu
    simp only [Option.bind_eq_some_iff] at h
    obtain ⟨d, hd, kv, hkv, h⟩ := h
    split at h
    · rename_i hid
      have hg := hR.get _ _ hid
      simp only [mapB] at hg
      simp only [Option.bind_eq_some_iff] at h
      obtain ⟨f, hf, h⟩ := h
      split at h
      · simp only [Option.some.injEq] at h; subst h
        refine ⟨_, ?_, hR.set hid⟩
        simp only [mapPut, hu, mapV, litOf_mapV, hd, hkv, hg, findI_map, hf, Option.map_some, Option.bind_some, mapB, List.map_set]
      · simp only [Option.some.injEq] at h; subst h
        refine ⟨_, ?_, hR.set hid⟩
        simp only [mapPut, hu, mapV, litOf_mapV, hd, hkv, hg, findI_map, hf, Option.map_some, Option.map_none, Option.bind_some, mapB, List.map_append, List.map_cons, List.map_nil]
    · cases h
  · cases h
theorem fillV_map {pl : Nat → Option (Nat × Nat)} : ∀ (ps : List (Nat × V)) (cells cs : List V), fillV pl cells ps = some cs → fillV pl (cells.map (mapV r)) (ps.map fun p => (p.1, mapV r p.2)) = some (cs.map (mapV r))
  | [], cells, cs, h => by simp only [fillV, Option.some.injEq] at h; subst h; rfl
  | (i, v) :: ps, cells, cs, h => by
    simp only [fillV] at h
    simp only [List.map_cons, fillV]
    split at h
    · cases h
    · rename_i off size hp
      simp only [hp, mapV_cells, List.length_map, all_scalar]
      split at h
      case isFalse => cases h
      rename_i hc
      rw [if_pos hc]
      have := fillV_map ps _ _ h
      simpa only [List.map_append, List.map_take, List.map_drop] using this
theorem buildV_ren {t : TypeId} {ps : List (Nat × V)} {v : V} (h : buildV P t ps = some v) : buildV P t (ps.map fun p => (p.1, mapV r p.2)) = some (mapV r v) := by
  unfold buildV at h ⊢
  simp only [Option.bind_eq_some_iff] at h ⊢
  obtain ⟨z, hz, h⟩ := h
  refine ⟨z, hz, ?_⟩
  split at h
  · cases h
  rename_i hs
  rw [if_neg hs]
  split at h
  · simp only [Option.bind_eq_some_iff, Option.map_eq_some_iff] at h ⊢
    obtain ⟨pl, hpl, cs, hcs, rfl⟩ := h
    refine ⟨pl, hpl, cs.map (mapV r), ?_, by simp only [mapV, mapVs_eq]⟩
    have := fillV_map (r := r) _ _ _ hcs
    rwa [zero_cells hz] at this
  · simp only [Option.bind_eq_some_iff, Option.map_eq_some_iff] at h ⊢
    obtain ⟨pl, hpl, cs, hcs, rfl⟩ := h
    refine ⟨pl, hpl, cs.map (mapV r), ?_, by simp only [mapV, mapVs_eq]⟩
    have := fillV_map (r := r) _ _ _ hcs
    rwa [zero_cells hz] at this
  · cases h
theorem toOps_ren {T : List V} {o : Oper} {v : V} (h : toOps P T o = some v) : toOps P (T.map (mapV r)) o = some (mapV r v) := by
  have e : toOps P (T.map (mapV r)) o = toOps P T o := by
    unfold toOps
    have e1 : (fun x => (toValue? (evalO (T.map (mapV r)) x)).getD undef) = fun x => (toValue? (evalO T x)).getD undef := by
      funext x; rw [evalO_map, toValue_mapV]
    have e2 : (fun x => (toValue? (evalO (T.map (mapV r)) x)).isSome) = fun x => (toValue? (evalO T x)).isSome := by
      funext x; rw [evalO_map, toValue_mapV]
    rw [e1, e2]
  rw [e, h]
  unfold toOps at h
  split at h
  case isFalse => cases h
  split at h
  · simp only [Option.some.injEq] at h; subst h; rw [mapV_ofValue]
  · simp only [Option.some.injEq] at h; subst h; rfl
  · cases h
theorem nilCmp_map {t : TypeId} {x y : V} : nilCmp P t (mapV r x) (mapV r y) = nilCmp P t x y := by
  unfold nilCmp
  generalize P.underlying t = u
  have key : ∀ (x y : V), (match u, mapV r x, mapV r y with
    | some (.slice _), .own .., .lit (.slice none 0 0) | some (.slice _), .arr (_ :: _), .lit (.slice none 0 0) => true
    | some (.func ..), .fn .., .lit .nilFunc => true
    | some (.pointer _), .ptr .., .lit (.pointer none) | some (.pointer _), .row .., .lit (.pointer none) => true
    | _, _, _ => false) = (match u, x, y with
    | some (.slice _), .own .., .lit (.slice none 0 0) | some (.slice _), .arr (_ :: _), .lit (.slice none 0 0) => true
    | some (.func ..), .fn .., .lit .nilFunc => true
    | some (.pointer _), .ptr .., .lit (.pointer none) | some (.pointer _), .row .., .lit (.pointer none) => true
    | _, _, _ => false) := by
    intro x y
    rcases u with _ | u
    · rfl
    · cases u <;> cases x <;> cases y <;> simp only [mapV] <;> (split <;> first | rfl | simp_all)
  exact key x y

/-- Operations that hang on no number. -/
def renOk (T : List V) (o : Oper) (v : V) : Bool :=
  match o.op with
  | .load t a => match evalO T a with | .ptr .. => true | _ => closedV v
  | .call { callee := .builtin .append, args, .. } => match args.toList.map (evalO T) with | [_, x] => !isArr x | _ => true
  | .call { callee := .builtin .unsafeSliceData, .. } => false
  | .call { callee := .builtin .unsafeString, .. } => false
  | _ => true
theorem opE_ren (hR : Rn r K H) {T : List V} {nid : Nat} {o : Oper} {v : V} (hok : renOk T o v = true) (h : opE E T nid K o = some (v, K')) :
    ∃ H', opE E (T.map (mapV r)) (r nid) H o = some (mapV r v, H') ∧ Rn r K' H' ∧ Fm r H H' := by
  obtain ⟨dst, op, ty, pos, after, guard⟩ := o
  have still : ∀ {x y : Option V}, (∀ z, x = some z → y = some (mapV r z)) → x.map (fun z => (z, K)) = some (v, K') → ∃ H', y.map (fun z => (z, H)) = some (mapV r v, H') ∧ Rn r K' H' ∧ Fm r H H' := by
    intro x y hxy h
    simp only [Option.map_eq_some_iff, Prod.mk.injEq] at h
    obtain ⟨z, hz, rfl, rfl⟩ := h
    rw [hxy z hz]; exact ⟨H, rfl, hR, .rfl⟩
  have same : (toOps E.P T { dst := dst, op := op, type := ty, pos := pos, after := after, guard := guard }).map (fun z => (z, K)) = some (v, K') →
      ∃ H', (toOps E.P (T.map (mapV r)) { dst := dst, op := op, type := ty, pos := pos, after := after, guard := guard }).map (fun z => (z, H)) = some (mapV r v, H') ∧ Rn r K' H' ∧ Fm r H H' := fun h => still (fun _ h => toOps_ren h) h
  have one : ∀ {z : V}, some (z, K) = some (v, K') → ∃ H', some (mapV r z, H) = some (mapV r v, H') ∧ Rn r K' H' ∧ Fm r H H' := by
    intro z h
    simp only [Option.some.injEq, Prod.mk.injEq] at h
    obtain ⟨rfl, rfl⟩ := h
    exact ⟨H, rfl, hR, .rfl⟩
  have plc : ∀ {c : Blk} {z : V}, (place K nid c).map (fun H => (z, H)) = some (v, K') → ∃ H', (place H (r nid) (mapB r c)).map (fun H => (mapV r z, H)) = some (mapV r v, H') ∧ Rn r K' H' ∧ Fm r H H' := by
    intro c z h
    simp only [Option.map_eq_some_iff, Prod.mk.injEq] at h
    obtain ⟨H1, h1, rfl, rfl⟩ := h
    obtain ⟨H2, q1, q2⟩ := hR.lay h1
    exact ⟨H2, by rw [q1]; rfl, q2⟩
  cases op
  case move x => simp only [opE, evalO_map] at h ⊢; exact one h
  case assign x => simp only [opE, evalO_map] at h ⊢; exact one h
  case pick c x y =>
    simp only [opE, evalO_map] at h ⊢
    split at h
    · rename_i t ht
      simp only [ht, mapV]
      cases t
      · exact one h
      · exact one h
    · cases h
  case alloc t =>
    simp only [opE, Option.bind_eq_some_iff] at h
    obtain ⟨z, hz, h⟩ := h
    split at h
    · cases h
    rename_i hc
    obtain ⟨H', q1, q2⟩ := plc h
    refine ⟨H', ?_, q2⟩
    simp only [opE, hz, Option.bind_some, if_neg hc]
    simp only [mapB, mapR, List.map_cons, List.map_nil, zero_cells hz] at q1
    exact q1
  case box t x =>
    simp only [opE] at h
    split at h
    · cases h
    rename_i hc
    obtain ⟨H', q1, q2⟩ := plc h
    refine ⟨H', ?_, q2⟩
    simp only [opE, evalO_map, mapV_cells, all_scalar, if_neg hc, List.length_map]
    exact q1
  case build t ps =>
    simp only [opE] at h ⊢
    refine still (fun z hz => ?_) h
    have := buildV_ren (r := r) hz
    rw [List.map_map] at this
    rw [← this]
    congr 1
    apply List.map_congr_left
    intro p _
    simp only [Function.comp, evalO_map]
  case buildSlice t n ps =>
    simp only [opE] at h ⊢
    split at h
    case h_2 => cases h
    split at h
    case isFalse => cases h
    rename_i hc
    rw [if_pos hc]
    simp only [Option.bind_eq_some_iff] at h
    obtain ⟨z, hz, h⟩ := h
    split at h
    · cases h
    rename_i hc2
    simp only [Option.bind_eq_some_iff] at h
    obtain ⟨cs, hcs, h⟩ := h
    obtain ⟨H', q1, q2⟩ := plc h
    refine ⟨H', ?_, q2⟩
    have h3 := fillV_map (r := r) _ _ _ hcs
    rw [List.map_map, List.map_map] at h3
    have e1 : ∀ m, (List.map (mapV r ∘ fun i => z.cells.getD (i % z.cells.length) un) (List.range m)) = (List.range m).map fun i => z.cells.getD (i % z.cells.length) un := by
      intro m
      apply List.map_congr_left
      intro i _
      simp only [Function.comp]
      have hzc := zero_cells (r := r) hz
      simp only [List.getD]
      cases hg : z.cells[i % z.cells.length]? with
      | none => rfl
      | some y =>
        have h5 : (z.cells.map (mapV r))[i % z.cells.length]? = z.cells[i % z.cells.length]? := by rw [hzc]
        rw [List.getElem?_map, hg] at h5
        simpa using h5
    rw [e1] at h3
    have e2 : (List.map ((fun p : Nat × V => (p.fst, mapV r p.snd)) ∘ fun x => (x.fst, evalO T x.snd)) ps.toList) = ps.toList.map fun x => (x.fst, evalO (T.map (mapV r)) x.snd) := by
      apply List.map_congr_left
      intro p _
      simp only [Function.comp, evalO_map]
    rw [e2] at h3
    simp only [hz, Option.bind_some, if_neg hc2, h3]
    simp only [mapB, mapR_rows] at q1
    exact q1
  case load t x =>
    simp only [opE, evalO_map] at h ⊢
    simp only [renOk] at hok
    refine still (fun z hz => ?_) h
    refine loadT_ren hR ?_ hz
    rw [hz] at h
    simp only [Option.map_some, Option.some.injEq, Prod.mk.injEq] at h
    rw [h.1]; exact hok
  case store t x y =>
    simp only [opE, Option.map_eq_some_iff, Prod.mk.injEq] at h
    obtain ⟨H1, h1, rfl, rfl⟩ := h
    obtain ⟨H', q1, q2⟩ := storeT_ren hR h1
    exact ⟨H', by simp only [opE, evalO_map, q1]; rfl, q2⟩
  case nilCheck x =>
    simp only [opE, evalO_map] at h ⊢
    split at h
    · rename_i e; rw [e]; exact one h
    · rename_i e; rw [e]; exact one h
    · rename_i e; rw [e]; simp only [mapV] at *; exact one h
    · cases h
  case fieldAddr s x f => simp only [opE, evalO_map] at h ⊢; exact still (fun _ h => fieldA_ren h) h
  case field s x f => simp only [opE, evalO_map] at h ⊢; exact still (fun _ h => fieldV_ren h) h
  case indexAddr t x i => simp only [opE, evalO_map] at h ⊢; exact still (fun z hz => indexA_ren hR hz) h
  case extract x i =>
    simp only [opE, evalO_map] at h ⊢
    split at h
    · rename_i vs e
      rw [e]
      simp only [mapV, mapVs_eq, List.getElem?_map]
      exact still (fun z hz => by rw [hz]; rfl) h
    · cases h
  case makeFunc fn first caps =>
    cases fn with
    | func f =>
      simp only [opE] at h ⊢
      split at h
      · rename_i hc
        rw [if_pos hc]
        obtain ⟨H', q1, q2⟩ := one h
        refine ⟨H', ?_, q2⟩
        rw [← q1]
        simp only [mapV, mapVs_eq, List.map_map]
        congr 4
        funext x
        simp only [Function.comp, evalO_map]
      · cases h
    | _ => exact same h
  case makeMap t rr =>
    cases rr with
    | none => exact plc h
    | some rr => exact same h
  case makeSlice t l c =>
    simp only [opE, evalO_map, intOf_mapV] at h ⊢
    split at h
    case h_2 => cases h
    split at h
    case isFalse => cases h
    rename_i hc
    rw [if_pos hc]
    simp only [Option.bind_eq_some_iff] at h
    obtain ⟨z, hz, h⟩ := h
    split at h
    · cases h
    rename_i hc2
    obtain ⟨H', q1, q2⟩ := plc h
    refine ⟨H', ?_, q2⟩
    simp only [hz, Option.bind_some, if_neg hc2]
    simp only [mapB, mapR, List.map_replicate, zero_cells hz] at q1
    exact q1
  case lookup t m k ok => simp only [opE, evalO_map] at h ⊢; exact still (fun z hz => lookupV_ren hR hz) h
  case mapUpdate t m k x =>
    simp only [opE, Option.map_eq_some_iff, Prod.mk.injEq] at h
    obtain ⟨H1, h1, rfl, rfl⟩ := h
    obtain ⟨H', q1, q2⟩ := mapPut_ren hR h1
    exact ⟨H', by simp only [opE, evalO_map, q1]; rfl, q2⟩
  case insert t m k x =>
    simp only [opE, Option.map_eq_some_iff, Prod.mk.injEq] at h
    obtain ⟨H1, h1, rfl, rfl⟩ := h
    obtain ⟨H', q1, q2⟩ := mapPut_ren hR h1
    exact ⟨H', by simp only [opE, evalO_map, q1]; rfl, q2⟩
  case range t x =>
    simp only [opE, evalO_map] at h ⊢
    split at h
    · rename_i hu hx
      simp only [hu, hx, mapV]
      exact plc h
    · cases h
  case next x bb =>
    cases bb with
    | false => exact same h
    | true =>
      simp only [opE, evalO_map] at h ⊢
      split at h
      case h_2 => cases h
      rename_i hx
      split at h
      case h_2 => cases h
      rename_i hid
      have hg := hR.get _ _ hid
      simp only [mapB] at hg
      simp only [hx, mapV, hg]
      split at h
      · rename_i hc
        rw [if_pos hc]
        simp only [Option.some.injEq, Prod.mk.injEq] at h
        obtain ⟨rfl, rfl⟩ := h
        exact ⟨_, rfl, hR.set hid⟩
      · rename_i hc
        rw [if_neg hc]; exact one h
  case slice t x lo hi mx =>
    cases mx with
    | some m => exact same h
    | none =>
      simp only [opE, evalO_map] at h ⊢
      split at h
      · rename_i e
        rw [e]
        exact same h
      · rename_i hne
        have hne' : ∀ v, mapV r (evalO T x) = .lit v → False := by
          intro w e
          cases hx : evalO T x <;> simp_all [mapV]
        split
        · rename_i e; exact (hne' _ e).elim
        · refine still (fun z hz => ?_) h
          have := sliceV_ren hR hz
          rw [Option.map_map, Option.map_map] at this
          rw [← this]
          have e : (mapV r ∘ evalO T) = evalO (T.map (mapV r)) := by funext x; simp only [Function.comp, evalO_map]
          rw [e]
  case binOp op t x y yt =>
    simp only [opE, evalO_map, nilCmp_map] at h ⊢
    split at h
    · rename_i hc
      rw [if_pos hc]
      split at h
      · exact one h
      · exact one h
      · cases h
    · rename_i hc
      rw [if_neg hc]; exact same h
  case call c =>
    obtain ⟨callee, args, ats⟩ := c
    cases callee with
    | builtin bb =>
      have ea : args.toList.map (evalO (T.map (mapV r))) = (args.toList.map (evalO T)).map (mapV r) := by
        rw [List.map_map]
        apply List.map_congr_left
        intro x _
        simp only [Function.comp, evalO_map]
      generalize hl : args.toList.map (evalO T) = l at ea
      simp only [renOk, hl] at hok
      cases bb
      case append =>
        simp only [opE, ea, hl] at h ⊢
        rcases l with _ | ⟨a, _ | ⟨b, _ | ⟨c, l⟩⟩⟩
        · exact same h
        · exact same h
        · exact appendV_ren hR (by simpa [hl] using hok) h
        · exact same h
      case len =>
        simp only [opE, ea, hl] at h ⊢
        rcases l with _ | ⟨a, _ | ⟨b, l⟩⟩
        · exact same h
        · cases a
          case own =>
            simp only [List.map_cons, List.map_nil, mapV] at h ⊢
            split at h
            · rename_i hc; rw [if_pos hc]; exact one h
            · cases h
          case arr =>
            simp only [List.map_cons, List.map_nil, mapV] at h ⊢
            split at h
            · rename_i hc; rw [if_pos hc]; exact one h
            · cases h
          all_goals exact same h
        · cases a <;> exact same h
      case unsafeSliceData => cases hok
      case unsafeString => cases hok
      all_goals exact same h
    | _ => exact same h
  all_goals (simp only [opE] at h ⊢; exact same h)
end
end Go.Proofs.YtpmdlaojndejfaaGreatDoor.E

/- The evaluator for values that are known in part, over known blocks alone: blocks by numbers of their own; what is dead is not looked at. -/
set_option linter.unusedVariables false
set_option linter.unusedSimpArgs false
namespace Go.Proofs.YtpmdlaojndejfaaGreatDoor.E
open Go

def deadV : V := .tup []
def isDead : V → Bool
  | .tup [] => true
  | _ => false
def liveO (T : List V) (o : Oper) : Bool := o.op.operands.toList.all fun x => !isDead (evalO T x)
def liveG (ops : Array Oper) (T : List V) (o : Oper) : Bool :=
  match o.guard with
  | none => true
  | some (j, _) => match (ops[j]?).bind (·.dst) with
    | some d => !isDead (T.getD d un)
    | none => true

def stepR (E : Env) (con : Con) (T : List V) (nid : Nat) (K : Heap) (o : Oper) (q : V → Heap → Prop) : Prop :=
  if liveO T o = true then
    match o.op with
    | .call { callee := .value g, args, .. } =>
      match evalO T g with
      | .fn f caps => con f (args.toList.map (evalO T) ++ caps) nid K fun v K => forkW v fun v => q v K
      | _ => False
    | _ => opW E T nid K o fun v K' => if renOk T o v = true then q v K' else False
  else False

def regionR1 (E : Env) (con : Con) (ops : Array Oper) (q : St → Prop) : List Oper → St → Prop
  | [], s => q s
  | o :: os, s =>
    if liveG ops s.tmps o = true then
    if Region.wanted o (yieldedV ops s.tmps) = true then
      if isDefer o.op = true then False else
      match panicV s.tmps o.op, panCall E s.tmps o with
      | none, none => stepR E con s.tmps s.H.length s.H o fun v H => regionR1 E con ops q os ⟨put s.tmps o.dst v, H, s.ds⟩
      | _, _ => False
    else regionR1 E con ops q os ⟨put s.tmps o.dst un, s.H, s.ds⟩
    else False
def stepIR (E : Env) (con : Con) (ops : Array Oper) (r : DRun) (it : DItem) (s : St) (q : St → Prop) : Prop :=
  if liveG ops s.tmps it.o = true then
  if Region.wanted it.o (yieldedV ops s.tmps) = true then
    if okI r it s.tmps s.H.length = true then
      stepR E con s.tmps (posI r it s.H.length) (maskH s.H (hidI r it)) it.o fun v H =>
        if (it.dry || decide (r.base + r.room ≤ H.length)) = true then q ⟨put s.tmps it.o.dst v, unmaskH s.H H (hidI r it), s.ds⟩ else False
    else False
  else q ⟨put s.tmps it.o.dst un, s.H, s.ds⟩
  else False
def runIR (E : Env) (con : Con) (ops : Array Oper) (r : DRun) (q : St → Prop) : List DItem → St → Prop
  | [], s => q s
  | it :: is, s => stepIR E con ops r it s fun s' => runIR E con ops r q is s'
def regionDR (E : Env) (con : Con) (ops : Array Oper) (s : St) (q : St → Prop) : Prop :=
  if E.P.follows .mixedOrders = false then False else
  if needSid E ops.toList = true then False
  else
    match planS E false ops with
    | some its => if its.all (fun it => it.hs.isEmpty) = true then runIR E con ops ⟨false, s.H.length, slotsN E ops.toList, []⟩ (fun r => q ⟨r.tmps, trimH s.H.length r.H, r.ds⟩) its (padded E ops s) else False
    | none => False

def codeR1 (E : Env) (con : Con) (u : Nat) : Code → St → (X → St → Prop) → Prop
  | .skip, s, q => q .normal s
  | .region _ ops draw, s, q => if draw = true then regionDR E con ops s (q .normal) else regionR1 E con ops (q .normal) ops.toList s
  | .seq a b, s, q => codeR1 E con u a s fun
    | .normal, s' => codeR1 E con u b s' q
    | x, s' => q x s'
  | .cond c a b, s, q =>
    match evalO s.tmps c with
    | .lit (.bool t) => if t = true then codeR1 E con u a s q else codeR1 E con u b s q
    | _ => False
  | .block id b, s, q => codeR1 E con u b s fun
    | .exit i, s' => if i = id then q .normal s' else q (.exit i) s'
    | x, s' => q x s'
  | .loop b, s, q => loopW (fun s q => codeR1 E con u b s q) u s q
  | .exit id, s, q => q (.exit id) s
  | .ret, s, q => q .ret s
  | _, _, _ => False

/-- The state that is meant. -/
structure Rs (r : Nat → Nat) (s t : St) : Prop where
  len : t.tmps.length = s.tmps.length
  tm : ∀ i, isDead (s.tmps.getD i un) = false → t.tmps.getD i un = mapV r (s.tmps.getD i un)
  H : Rn r s.H t.H
/-- What is known of functions, by whatever numbers. -/
def ConR (E : Env) (self : Self) (con : Con) : Prop :=
  ∀ f args nid K q, con f args nid K q → ∀ r H, Rn r K H → ∃ v K' H', callE E self f (args.map (mapV r)) (r nid) H = some (mapV r v, H') ∧ Rn r K' H' ∧ Fm r H H' ∧ q v K'

section
variable {E : Env} {self : Self} {con : Con} {r : Nat → Nat}
theorem evalO_live {T tmps : List V} (h : ∀ i, isDead (T.getD i un) = false → tmps.getD i un = mapV r (T.getD i un)) {x : Operand} (hx : isDead (evalO T x) = false) : evalO tmps x = evalO (T.map (mapV r)) x := by
  rw [evalO_map]
  cases x with
  | tmp t => exact h t hx
  | const v => exact (mapV_ofValue v).symm
  | global g => rfl
  | func f => rfl
theorem liveO_eq {T tmps : List V} (h : ∀ i, isDead (T.getD i un) = false → tmps.getD i un = mapV r (T.getD i un)) {o : Oper} (hl : liveO T o = true) : ∀ x ∈ o.op.operands, evalO tmps x = evalO (T.map (mapV r)) x := by
  intro x hx
  refine evalO_live h ?_
  have := List.all_eq_true.1 hl x (by simpa using hx)
  simpa using this
theorem put_rel {T tmps : List V} (hl : tmps.length = T.length) (h : ∀ i, isDead (T.getD i un) = false → tmps.getD i un = mapV r (T.getD i un)) (d : Option Tmp) (v : V) :
    ∀ i, isDead ((put T d v).getD i un) = false → (put tmps d (mapV r v)).getD i un = mapV r ((put T d v).getD i un) := by
  intro i hi
  cases d with
  | none => exact h i hi
  | some d =>
    simp only [put, List.getD, List.getElem?_set] at hi ⊢
    by_cases hd : d = i
    · subst hd
      simp only [if_true, hl] at hi ⊢
      by_cases hlt : d < T.length
      · simp only [hlt, if_true, Option.getD_some]
      · simp only [hlt, if_false]; rfl
    · simp only [if_neg hd] at hi ⊢
      exact h i hi
theorem yielded_rel {ops : Array Oper} {T tmps : List V} (hl : tmps.length = T.length) (h : ∀ i, isDead (T.getD i un) = false → tmps.getD i un = mapV r (T.getD i un)) {o : Oper} (hg : liveG ops T o = true) :
    Region.wanted o (yieldedV ops tmps) = Region.wanted o (yieldedV ops T) := by
  unfold Region.wanted
  unfold liveG at hg
  split at hg
  · rename_i e; simp only [e]
  · rename_i j b e
    simp only [e]
    have key : yieldedV ops tmps j = yieldedV ops T j := by
      unfold yieldedV
      cases ho : (ops[j]?).bind (·.dst) with
      | none => rfl
      | some d =>
        simp only [ho] at hg
        simp only [Option.bind_some]
        have h1 := h d (by simpa using hg)
        by_cases hlt : d < T.length
        · have a1 : T[d]? = some (T.getD d un) := getD_some hlt
          have a2 : tmps[d]? = some (tmps.getD d un) := getD_some (show d < tmps.length by rw [hl]; exact hlt)
          rw [a1, a2, h1]
          cases T.getD d un <;> rfl
        · have a1 : T[d]? = none := List.getElem?_eq_none (Nat.le_of_not_lt hlt)
          have a2 : tmps[d]? = none := List.getElem?_eq_none (by rw [hl]; exact Nat.le_of_not_lt hlt)
          rw [a1, a2]
    rw [key]
theorem stepR_ok (hc : ConR E self con) {T tmps : List V} {nid : Nat} {K H : Heap} {o : Oper} {q : V → Heap → Prop} (hT : ∀ i, isDead (T.getD i un) = false → tmps.getD i un = mapV r (T.getD i un)) (hR : Rn r K H)
    (h : stepR E con T nid K o q) : ∃ v K' H', stepE E self tmps (r nid) H o = some (mapV r v, H') ∧ Rn r K' H' ∧ Fm r H H' ∧ q v K' := by
  unfold stepR at h
  split at h
  case isFalse => exact h.elim
  rename_i hl
  rw [stepE_congr (liveO_eq hT hl)]
  obtain ⟨dst, op, ty, pos, after, guard⟩ := o
  by_cases hcall : ∃ g args ats, op = .call { callee := .value g, args := args, argTypes := ats }
  · obtain ⟨g, args, ats, rfl⟩ := hcall
    simp only at h
    simp only [stepE]
    split at h
    · rename_i f caps e
      obtain ⟨v, K', H', h1, h2, h3, h4⟩ := hc _ _ _ _ _ h r H hR
      refine ⟨v, K', H', ?_, h2, h3, forkW_iff h4⟩
      simp only [evalO_map, e, mapV, mapVs_eq]
      rw [← h1, List.map_append, List.map_map]
      congr 2
      apply List.map_congr_left
      intro x _
      simp only [Function.comp, evalO_map]
    · exact h.elim
  · have h' : opW E T nid K { dst := dst, op := op, type := ty, pos := pos, after := after, guard := guard } (fun v K' => if renOk T { dst := dst, op := op, type := ty, pos := pos, after := after, guard := guard } v = true then q v K' else False) := by
      cases op with
      | call c =>
        obtain ⟨callee, args, ats⟩ := c
        cases callee with
        | value g => exact absurd ⟨_, _, _, rfl⟩ hcall
        | _ => exact h
      | _ => exact h
    obtain ⟨v, K', h1, h2⟩ := opW_ok h'
    split at h2
    case isFalse => exact h2.elim
    rename_i hok
    obtain ⟨H', h3, h4, h5⟩ := opE_ren hR hok h1
    refine ⟨v, K', H', ?_, h4, h5, h2⟩
    cases op with
    | call c =>
      obtain ⟨callee, args, ats⟩ := c
      cases callee with
      | value g => exact absurd ⟨_, _, _, rfl⟩ hcall
      | _ => exact h3
    | _ => exact h3
theorem panicV_rel {T tmps : List V} (hT : ∀ i, isDead (T.getD i un) = false → tmps.getD i un = mapV r (T.getD i un)) {o : Oper} (hl : liveO T o = true) (h : panicV T o.op = none) : panicV tmps o.op = none := by
  unfold panicV at h ⊢
  cases ho : o.op with
  | panic x =>
    simp only [ho] at h ⊢
    have := liveO_eq hT hl x (by rw [ho]; simp [Op.operands])
    rw [this, evalO_map]
    cases he : evalO T x <;> simp_all [mapV]
  | _ => rfl
theorem panCall_rel {T tmps : List V} (hT : ∀ i, isDead (T.getD i un) = false → tmps.getD i un = mapV r (T.getD i un)) {o : Oper} (hl : liveO T o = true) (h : panCall E T o = none) : panCall E tmps o = none := by
  unfold panCall at h ⊢
  split
  · rename_i g args ats ho
    simp only [ho] at h
    have := liveO_eq hT hl g (by rw [ho]; simp [Op.operands, Call.operands])
    rw [this, evalO_map]
    cases he : evalO T g with
    | fn f caps =>
      simp only [he, mapV] at h ⊢
      split at h
      · cases h
      · rename_i hc; rw [if_neg hc]
    | _ => simp [mapV]
  · rfl
end
end Go.Proofs.YtpmdlaojndejfaaGreatDoor.E

/- Known blocks alone: regions. -/
set_option linter.unusedVariables false
set_option linter.unusedSimpArgs false
namespace Go.Proofs.YtpmdlaojndejfaaGreatDoor.E
open Go
section
variable {E : Env} {self : Self} {con : Con} {r : Nat → Nat}
theorem Rs.put {s t : St} (h : Rs r s t) {d : Option Tmp} {v : V} {K H : Heap} (hR : Rn r K H) : Rs r ⟨put s.tmps d v, K, s.ds⟩ ⟨put t.tmps d (mapV r v), H, t.ds⟩ :=
  ⟨by simp only [put_length]; exact h.len, put_rel h.len h.tm d v, hR⟩
theorem stepR_live {T : List V} {nid : Nat} {K : Heap} {o : Oper} {q : V → Heap → Prop} (h : stepR E con T nid K o q) : liveO T o = true := by
  unfold stepR at h
  split at h
  · assumption
  · exact h.elim
/-- What a piece of code keeps. -/
def Kp (s t s' t' : St) : Prop := t'.ds = t.ds ∧ s'.tmps.length = s.tmps.length
theorem Kp.rfl {s t : St} : Kp s t s t := ⟨Eq.refl _, Eq.refl _⟩
theorem Kp.trans {s t s1 t1 s2 t2 : St} (a : Kp s t s1 t1) (b : Kp s1 t1 s2 t2) : Kp s t s2 t2 := ⟨b.1.trans a.1, b.2.trans a.2⟩
theorem Kp.put {s t : St} {d : Option Tmp} {v v' : V} {K H : Heap} : Kp s t ⟨put s.tmps d v, K, s.ds⟩ ⟨put t.tmps d v', H, t.ds⟩ := ⟨Eq.refl _, put_length _ _ _⟩
theorem regionR1_ok (hc : ConR E self con) {ro : Option Nat} {ops : Array Oper} {q : St → Prop} : ∀ (os : List Oper) (s t : St), Rs r s t → regionR1 E con ops q os s →
    ∃ s' t', regionE E self ro ops os t = some (.normal, t') ∧ Rs r s' t' ∧ Fm r t.H t'.H ∧ Kp s t s' t' ∧ q s'
  | [], s, t, hs, h => ⟨s, t, rfl, hs, .rfl, .rfl, h⟩
  | o :: os, s, t, hs, h => by
    unfold regionR1 at h
    split at h
    case isFalse => exact h.elim
    rename_i hg
    unfold regionE
    rw [yielded_rel hs.len hs.tm hg]
    split at h
    · rename_i hw
      rw [if_pos hw]
      split at h
      · exact h.elim
      rename_i hd
      rw [if_neg hd]
      split at h
      case h_2 => exact h.elim
      rename_i hp hpc
      have hl := stepR_live h
      simp only [panicV_rel hs.tm hl hp, panCall_rel hs.tm hl hpc]
      have hn : r s.H.length = t.H.length := by simpa using hs.H.next 0
      obtain ⟨v, K', H', h1, h2, h3, h4⟩ := stepR_ok hc hs.tm hs.H h
      obtain ⟨s', t', g1, g2, g3, g4, g5⟩ := regionR1_ok hc (ro := ro) os _ _ (hs.put (d := o.dst) (v := v) h2) h4
      refine ⟨s', t', ?_, g2, h3.trans g3, Kp.put.trans g4, g5⟩
      rw [← hn, h1]; exact g1
    · rename_i hw
      rw [if_neg hw]
      obtain ⟨s', t', g1, g2, g3, g4, g5⟩ := regionR1_ok hc (ro := ro) os _ _ (hs.put (d := o.dst) (v := un) hs.H) h
      exact ⟨s', t', g1, g2, g3, Kp.put.trans g4, g5⟩

/-! Regions that draw. -/
theorem mask_get (ps : List Nat) (K : Heap) (i : Nat) : (maskH K ps)[i]? = if i ∈ ps ∧ i < K.length then some .free else K[i]? := maskH_get ps K i
theorem Rn.len_iff {K H : Heap} (h : Rn r K H) (i : Nat) : i < K.length ↔ r i < H.length ∧ ∃ b, K[i]? = some b := by
  constructor
  · intro hi
    obtain ⟨b, hb⟩ : ∃ b, K[i]? = some b := ⟨_, List.getElem?_eq_getElem hi⟩
    exact ⟨(List.getElem?_eq_some_iff.1 (h.get i b hb)).1, b, hb⟩
  · rintro ⟨_, b, hb⟩
    exact (List.getElem?_eq_some_iff.1 hb).1
theorem Rn.mask {K H : Heap} (h : Rn r K H) (ps : List Nat) : Rn r (maskH K ps) (maskH H (ps.map r)) := by
  refine ⟨h.inj, fun j => by rw [maskH_len, maskH_len]; exact h.next j, fun i b hi => ?_⟩
  rw [maskH_get] at hi ⊢
  split at hi
  · rename_i hc
    simp only [Option.some.injEq] at hi; subst hi
    rw [if_pos ⟨List.mem_map.2 ⟨i, hc.1, rfl⟩, ((h.len_iff i).1 hc.2).1⟩]; rfl
  · rename_i hc
    have hlt := (List.getElem?_eq_some_iff.1 hi).1
    rw [if_neg ?_]
    · exact h.get i b hi
    · rintro ⟨hm, _⟩
      obtain ⟨k, hk, e⟩ := List.mem_map.1 hm
      have := h.inj _ _ e; subst this
      exact hc ⟨hk, hlt⟩
theorem Rn.unmask {K H K' H' : Heap} (h : Rn r K H) (h' : Rn r K' H') (ps : List Nat) : Rn r (unmaskH K K' ps) (unmaskH H H' (ps.map r)) := by
  refine ⟨h.inj, fun j => by rw [unmaskH_len, unmaskH_len]; exact h'.next j, fun i b hi => ?_⟩
  rw [unmaskH_get] at hi ⊢
  split at hi
  · rename_i hc
    rw [if_pos ⟨List.mem_map.2 ⟨i, hc.1, rfl⟩, ((h'.len_iff i).1 hc.2.1).1, ((h.len_iff i).1 hc.2.2).1⟩]
    exact h.get i b hi
  · rename_i hc
    have hlt := (List.getElem?_eq_some_iff.1 hi).1
    have h2 := h'.get i b hi
    have hlt2 := (List.getElem?_eq_some_iff.1 h2).1
    by_cases hk : i ∈ ps ∧ i < K.length
    · exact absurd ⟨hk.1, hlt, hk.2⟩ hc
    · by_cases hm : r i ∈ ps.map r ∧ r i < H'.length ∧ r i < H.length
      · obtain ⟨k, hkm, e⟩ := List.mem_map.1 hm.1
        have := h.inj _ _ e; subst this
        -- i is no place of K's, yet r i lies below H's end
        exfalso
        apply hk
        refine ⟨hkm, Nat.lt_of_not_le fun hge => ?_⟩
        have := h.next (k - K.length)
        rw [show K.length + (k - K.length) = k by omega] at this
        omega
      · rw [if_neg hm]; exact h2
end
end Go.Proofs.YtpmdlaojndejfaaGreatDoor.E

/- Known blocks alone: regions that draw, code. -/
set_option linter.unusedVariables false
set_option linter.unusedSimpArgs false
namespace Go.Proofs.YtpmdlaojndejfaaGreatDoor.E
open Go
section
variable {E : Env} {self : Self} {con : Con} {r : Nat → Nat}
theorem Fm.mask {H : Heap} (ps : List Nat) : Fm r H (maskH H (ps.map r)) := fun id hid => by
  rw [maskH_get, if_neg]
  rintro ⟨hm, _⟩
  obtain ⟨k, _, e⟩ := List.mem_map.1 hm
  exact hid k e
theorem Fm.unmask {H H0 H' : Heap} (ps : List Nat) (h : Fm r H H') : Fm r H (unmaskH H0 H' (ps.map r)) := fun id hid => by
  rw [unmaskH_get, if_neg]
  · exact h id hid
  · rintro ⟨hm, _⟩
    obtain ⟨k, _, e⟩ := List.mem_map.1 hm
    exact hid k e
theorem contains_map (hi : ∀ i j, r i = r j → i = j) (ps : List Nat) (x : Nat) : (ps.map r).contains (r x) = ps.contains x := by
  rw [Bool.eq_iff_iff]
  simp only [List.contains_iff_mem, List.mem_map]
  exact ⟨fun ⟨k, hk, e⟩ => hi _ _ e ▸ hk, fun h => ⟨x, h, rfl⟩⟩
/-- Where a region begins. -/
structure Bs (r : Nat → Nat) (b b' : Nat) : Prop where
  eq : ∀ j, r (b + j) = b' + j
theorem Bs.le {b b' : Nat} {K H : Heap} (h : Bs r b b') (hR : Rn r K H) {n : Nat} (hl : b + n ≤ K.length) : b' + n ≤ H.length := by
  have h1 := h.eq (K.length - b)
  have h2 := hR.next 0
  rw [show b + (K.length - b) = K.length + 0 by omega] at h1
  omega
theorem stepIR_ok (hc : ConR E self con) {ops : Array Oper} {b b' room : Nat} (hb : Bs r b b') {it : DItem} (hs0 : it.hs = []) {s t : St} {q : St → Prop} (hs : Rs r s t) (h : stepIR E con ops ⟨false, b, room, []⟩ it s q) :
    ∃ s' t', stepI E self ops ⟨false, b', room, []⟩ it t = some t' ∧ Rs r s' t' ∧ Fm r t.H t'.H ∧ Kp s t s' t' ∧ q s' := by
  unfold stepIR at h
  unfold stepI
  split at h
  case isFalse => exact h.elim
  rename_i hg
  rw [yielded_rel hs.len hs.tm hg]
  split at h
  · rename_i hw
    rw [if_pos hw]
    split at h
    case isFalse => exact h.elim
    rename_i ho
    have hid : hidI ⟨false, b', room, []⟩ it = (hidI ⟨false, b, room, []⟩ it).map r := by
      simp only [hidI, hs0, List.map_nil, List.append_nil, List.map_map]
      apply List.map_congr_left
      intro j _
      exact (hb.eq j).symm
    have ho' : okI ⟨false, b', room, []⟩ it t.tmps t.H.length = true := by
      unfold okI at ho ⊢
      rw [hid]
      dsimp only at ho ⊢
      have c1 : b' + it.off = r (b + it.off) := (hb.eq _).symm
      have c2 : b' + it.off + 1 = r (b + it.off + 1) := (hb.eq (it.off + 1)).symm
      rw [c2, c1, contains_map hs.H.inj, contains_map hs.H.inj]
      simp only [Bool.not_false, Bool.true_or, Bool.true_and, Bool.or_eq_true, Bool.and_eq_true, decide_eq_true_eq] at ho ⊢
      rcases ho with ho | ho
      · exact .inl ho
      · exact .inr ⟨⟨hb.le hs.H ho.1.1, ho.1.2⟩, ho.2⟩
    rw [if_pos ho']
    have hp : posI ⟨false, b', room, []⟩ it t.H.length = r (posI ⟨false, b, room, []⟩ it s.H.length) := by
      unfold posI
      split
      · exact (hs.H.next 1).symm
      · exact (hb.eq it.off).symm
    obtain ⟨v, K', H', h1, h2, h3, h4⟩ := stepR_ok hc hs.tm (hs.H.mask (hidI ⟨false, b, room, []⟩ it)) h
    split at h4
    case isFalse => exact h4.elim
    rename_i hd
    have hd' : (it.dry || decide (b' + room ≤ H'.length)) = true := by
      simp only [Bool.or_eq_true, decide_eq_true_eq] at hd ⊢
      rcases hd with hd | hd
      · exact .inl hd
      · exact .inr (hb.le h2 hd)
    refine ⟨_, ⟨put t.tmps it.o.dst (mapV r v), unmaskH t.H H' (hidI ⟨false, b', room, []⟩ it), t.ds⟩, ?_, ?_, ?_, Kp.put, h4⟩
    · rw [hp, hid, h1, Option.bind_some]
      simp only [hd', if_true]
    · rw [hid]; exact hs.put (hs.H.unmask h2 _)
    · rw [hid]; exact Fm.unmask _ ((Fm.mask _).trans h3)
  · rename_i hw
    rw [if_neg hw]
    exact ⟨_, _, rfl, hs.put (v := un) hs.H, .rfl, Kp.put, h⟩
theorem runIR_ok (hc : ConR E self con) {ops : Array Oper} {b b' room : Nat} (hb : Bs r b b') {q : St → Prop} : ∀ (is : List DItem) (hs0 : ∀ it ∈ is, it.hs = []) (s t : St), Rs r s t → runIR E con ops ⟨false, b, room, []⟩ q is s →
    ∃ s' t', runI E self ops ⟨false, b', room, []⟩ is t = some t' ∧ Rs r s' t' ∧ Fm r t.H t'.H ∧ Kp s t s' t' ∧ q s'
  | [], _, s, t, hs, h => ⟨s, t, rfl, hs, .rfl, .rfl, h⟩
  | it :: is, h0, s, t, hs, h => by
    unfold runIR at h
    unfold runI
    obtain ⟨s1, t1, a1, a2, a3, a4, a5⟩ := stepIR_ok hc hb (h0 it (by simp)) hs h
    obtain ⟨s2, t2, b1, b2, b3, b4, b5⟩ := runIR_ok hc hb is (fun it h => h0 it (by simp [h])) s1 t1 a2 a5
    exact ⟨s2, t2, by rw [a1]; exact b1, b2, a3.trans b3, a4.trans b4, b5⟩
theorem dropF_map : ∀ (l : Heap), dropF (l.map (mapB r)) = (dropF l).map (mapB r)
  | [] => rfl
  | b :: bs => by
    simp only [List.map_cons, dropF, dropF_map bs]
    cases hd : dropF bs with
    | nil => cases b <;> simp [mapB]
    | cons c cs => simp
theorem trim_eq : ∀ (n : Nat) (K : Heap), trimH n K = K.take n ++ dropF (K.drop n)
  | 0, K => by simp [trimH]
  | n + 1, [] => by simp [trimH, dropF]
  | n + 1, b :: K => by simp [trimH, trim_eq n K]
theorem Rn.trim {K H : Heap} (h : Rn r K H) {b b' : Nat} (hb : Bs r b b') : Rn r (trimH b K) (trimH b' H) ∧ Fm r H (trimH b' H) := by
  rw [trim_eq, trim_eq]
  have hlo : ∀ i, i < b → r i < b' := fun i hi => Nat.lt_of_not_le fun hge => by
    have := hb.eq (r i - b')
    rw [show b' + (r i - b') = r i by omega] at this
    have := h.inj _ _ this
    omega
  have h0 : r K.length = H.length := by simpa using h.next 0
  by_cases hl : K.length ≤ b
  · have hl' : H.length ≤ b' := by
      have h1 := hb.eq 0
      have h2 := h.next (b - K.length)
      rw [show K.length + (b - K.length) = b + 0 by omega] at h2
      omega
    rw [List.take_of_length_le hl, List.take_of_length_le hl', List.drop_eq_nil_of_le hl, List.drop_eq_nil_of_le hl']
    simp only [dropF, List.append_nil]
    exact ⟨h, .rfl⟩
  · have hk : H.length = b' + (K.length - b) := by
      have h1 := hb.eq (K.length - b)
      rw [show b + (K.length - b) = K.length by omega] at h1
      omega
    have hd : H.drop b' = (K.drop b).map (mapB r) := by
      apply List.ext_getElem?
      intro j
      rw [List.getElem?_drop, List.getElem?_map, List.getElem?_drop]
      cases hj : K[b + j]? with
      | none =>
        have := List.getElem?_eq_none_iff.1 hj
        rw [List.getElem?_eq_none (by omega)]; rfl
      | some c =>
        have := h.get _ _ hj
        rw [hb.eq] at this
        rw [this]; rfl
    rw [hd, dropF_map]
    have l1 : (K.take b).length = b := by rw [List.length_take]; omega
    have l2 : (H.take b').length = b' := by rw [List.length_take]; omega
    refine ⟨⟨h.inj, fun j => ?_, fun i c hi => ?_⟩, fun id hid => ?_⟩
    · rw [List.length_append, List.length_append, l1, l2, List.length_map, Nat.add_assoc, hb.eq]; omega
    · rw [List.getElem?_append, l1] at hi
      split at hi
      · rename_i hib
        rw [List.getElem?_append_left (by rw [l2]; exact hlo i hib), List.getElem?_take, if_pos (hlo i hib)]
        rw [List.getElem?_take, if_pos hib] at hi
        exact h.get i c hi
      · rename_i hib
        have := hb.eq (i - b)
        rw [show b + (i - b) = i by omega] at this
        rw [this, List.getElem?_append_right (by rw [l2]; omega), l2, show b' + (i - b) - b' = i - b by omega, List.getElem?_map, hi]; rfl
    · have hlt : id < b' := Nat.lt_of_not_le fun hge => hid (b + (id - b')) (by rw [hb.eq]; omega)
      rw [List.getElem?_append_left (by rw [l2]; exact hlt), List.getElem?_take, if_pos hlt]
theorem Rn.pad {K H : Heap} (h : Rn r K H) (n : Nat) : Rn r (K ++ List.replicate n .free) (H ++ List.replicate n .free) ∧ Fm r H (H ++ List.replicate n .free) := by
  refine ⟨⟨h.inj, fun j => ?_, fun i c hi => ?_⟩, fun id hid => ?_⟩
  · rw [List.length_append, List.length_append, List.length_replicate, Nat.add_assoc, h.next]; omega
  · rw [List.getElem?_append] at hi
    split at hi
    · have := h.get i c hi
      rw [List.getElem?_append_left (List.getElem?_eq_some_iff.1 this).1]; exact this
    · rename_i hge
      have := h.next (i - K.length)
      rw [show K.length + (i - K.length) = i by omega] at this
      rw [this, List.getElem?_append_right (by omega), show H.length + (i - K.length) - H.length = i - K.length by omega]
      rw [List.getElem?_replicate] at hi ⊢
      split at hi
      · rename_i hlt
        rw [if_pos hlt]
        simp only [Option.some.injEq] at hi; subst hi; rfl
      · cases hi
  · have hlt : id < H.length := Nat.lt_of_not_le fun hge => hid (K.length + (id - H.length)) (by rw [h.next]; omega)
    rw [List.getElem?_append_left hlt]
theorem regionDR_ok (hc : ConR E self con) {ops : Array Oper} {s t : St} {q : St → Prop} (hs : Rs r s t) (h : regionDR E con ops s q) : ∃ s' t', regionD E self ops t = some t' ∧ Rs r s' t' ∧ Fm r t.H t'.H ∧ Kp s t s' t' ∧ q s' := by
  unfold regionDR at h
  unfold regionD
  split at h
  · exact h.elim
  rename_i hm
  rw [if_neg hm]
  split at h
  · exact h.elim
  rename_i hn
  simp only [if_neg hn]
  split at h
  case h_2 => exact h.elim
  rename_i its hp
  split at h
  case isFalse => exact h.elim
  rename_i hi
  have hb : Bs r s.H.length t.H.length := ⟨hs.H.next⟩
  obtain ⟨p1, p2⟩ := hs.H.pad (slotsN E ops.toList)
  have hs' : Rs r (padded E ops s) (padded E ops t) := ⟨hs.len, hs.tm, p1⟩
  obtain ⟨s1, t1, a1, a2, a3, a4, a5⟩ := runIR_ok hc hb its (fun it hm => by simpa using List.all_eq_true.1 hi it hm) _ _ hs' h
  obtain ⟨c1, c2⟩ := a2.H.trim hb
  exact ⟨⟨s1.tmps, trimH s.H.length s1.H, s1.ds⟩, ⟨t1.tmps, trimH t.H.length t1.H, t1.ds⟩, by rw [hp, Option.bind_some, a1]; rfl, ⟨a2.len, a2.tm, c1⟩, (p2.trans a3).trans c2, a4, a5⟩
theorem loopR_ok {ro : Option Nat} {b : Code} {cw : St → (X → St → Prop) → Prop} (hup : CodeUp E self)
    (hcw : ∀ s t q, Rs r s t → cw s q → ∃ x s' t', codeE E self ro b t = some (x, t') ∧ Rs r s' t' ∧ Fm r t.H t'.H ∧ Kp s t s' t' ∧ q x s') : ∀ (n : Nat) (s t : St) (q : X → St → Prop), Rs r s t → loopW cw n s q →
    ∃ x s' t', codeE E self ro (.loop b) t = some (x, t') ∧ Rs r s' t' ∧ Fm r t.H t'.H ∧ Kp s t s' t' ∧ q x s'
  | 0, s, t, q, hs, h => h.elim
  | n + 1, s, t, q, hs, h => by
    unfold loopW at h
    obtain ⟨x, s1, t1, h1, h2, h3, h4, h5⟩ := hcw _ _ _ hs h
    cases x with
    | normal =>
      obtain ⟨x, s', t', g1, g2, g3, g4, g5⟩ := loopR_ok hup hcw n s1 t1 q h2 h5
      refine ⟨x, s', t', ?_, g2, h3.trans g3, h4.trans g4, g5⟩
      have := hup _ _ _ _ g1
      simp only [codeE, h1, Option.bind_some]
      exact this
    | _ => exact ⟨_, s1, t1, by simp only [codeE, h1, Option.bind_some], h2, h3, h4, h5⟩
theorem codeR1_ok (hc : ConR E self con) (hup : CodeUp E self) {ro : Option Nat} {u : Nat} : ∀ (c : Code) (s t : St) (q : X → St → Prop), Rs r s t → codeR1 E con u c s q →
    ∃ x s' t', codeE E self ro c t = some (x, t') ∧ Rs r s' t' ∧ Fm r t.H t'.H ∧ Kp s t s' t' ∧ q x s' := by
  intro c
  induction c with
  | skip => exact fun s t q hs h => ⟨_, _, _, rfl, hs, .rfl, .rfl, h⟩
  | exit id => exact fun s t q hs h => ⟨_, _, _, rfl, hs, .rfl, .rfl, h⟩
  | ret => exact fun s t q hs h => ⟨_, _, _, rfl, hs, .rfl, .rfl, h⟩
  | region id ops draw =>
    intro s t q hs h
    simp only [codeR1] at h
    split at h
    · rename_i hd
      obtain ⟨s', t', h1, h2, h3, h4, h5⟩ := regionDR_ok hc hs h
      exact ⟨.normal, s', t', by simp only [codeE, if_pos hd, h1]; rfl, h2, h3, h4, h5⟩
    rename_i hd
    obtain ⟨s', t', h1, h2, h3, h4, h5⟩ := regionR1_ok hc (ro := ro) _ _ _ hs h
    exact ⟨.normal, s', t', by simp only [codeE, if_neg hd]; exact h1, h2, h3, h4, h5⟩
  | seq a b iha ihb =>
    intro s t q hs h
    simp only [codeR1] at h
    obtain ⟨x, s1, t1, h1, h2, h3, h4, h5⟩ := iha _ _ _ hs h
    cases x with
    | normal =>
      obtain ⟨x, s', t', g1, g2, g3, g4, g5⟩ := ihb _ _ _ h2 h5
      exact ⟨x, s', t', by simp only [codeE, h1, Option.bind_some]; exact g1, g2, h3.trans g3, h4.trans g4, g5⟩
    | _ => exact ⟨_, s1, t1, by simp only [codeE, h1, Option.bind_some], h2, h3, h4, h5⟩
  | cond cc a b iha ihb =>
    intro s t q hs h
    simp only [codeR1] at h
    split at h
    case h_2 => exact h.elim
    rename_i tt ht
    have ht' : evalO t.tmps cc = .lit (.bool tt) := by
      rw [evalO_live (r := r) hs.tm (by rw [ht]; rfl), evalO_map, ht]; rfl
    simp only [codeE, ht']
    cases tt
    · exact ihb _ _ _ hs (by simpa using h)
    · exact iha _ _ _ hs (by simpa using h)
  | block id b ihb =>
    intro s t q hs h
    simp only [codeR1] at h
    obtain ⟨x, s1, t1, h1, h2, h3, h4, h5⟩ := ihb _ _ _ hs h
    cases x with
    | exit i =>
      simp only at h5
      split at h5
      · rename_i hi
        exact ⟨.normal, s1, t1, by simp only [codeE, h1, Option.bind_some, if_pos hi], h2, h3, h4, h5⟩
      · rename_i hi
        exact ⟨.exit i, s1, t1, by simp only [codeE, h1, Option.bind_some, if_neg hi], h2, h3, h4, h5⟩
    | _ => exact ⟨_, s1, t1, by simp only [codeE, h1, Option.bind_some], h2, h3, h4, h5⟩
  | loop b ihb =>
    intro s t q hs h
    simp only [codeR1] at h
    exact loopR_ok hup (fun s t q hs h => ihb s t q hs h) u s t q hs h
  | _ => exact fun s t q hs h => by simp [codeR1] at h
end
end Go.Proofs.YtpmdlaojndejfaaGreatDoor.E

/- Known blocks alone: regions that draw and store. -/
set_option linter.unusedVariables false
set_option linter.unusedSimpArgs false
namespace Go.Proofs.YtpmdlaojndejfaaGreatDoor.E
open Go

def isSA : Op → Bool
  | .store .. => true
  | .call { callee := .builtin .append, .. } => true
  | _ => false
/-- The block of a store is known. -/
def isSid (T : List V) (o : Oper) : Bool :=
  match o.op with
  | .store _ a _ => match evalO T a with | .ptr .. => true | _ => false
  | .call { callee := .builtin .append, args, .. } => match args.toList.map (evalO T) with | .own .. :: _ => true | _ => false
  | _ => true
/-- A first run, for the places of the stores. -/
def runPR (E : Env) (con : Con) (ops : Array Oper) (r : DRun) (q : St → Prop) : List DItem → St → Prop
  | [], s => q s
  | it :: is, s =>
    if liveG ops s.tmps it.o = true then
    if Region.wanted it.o (yieldedV ops s.tmps) = true then
      stepR E con s.tmps (posI r it s.H.length) s.H it.o fun v H => runPR E con ops r q is ⟨put s.tmps it.o.dst v, H, s.ds⟩
    else runPR E con ops r q is ⟨put s.tmps it.o.dst un, s.H, s.ds⟩
    else False
def isOpd (ops : Array Oper) (T : List V) (j : Nat) : Bool := match ops[j]? with | some o => isSA o.op && isSid T o | none => false
def regionDQ (E : Env) (con : Con) (ops : Array Oper) (s : St) (q : St → Prop) : Prop :=
  if needSid E ops.toList = true then
    if E.P.follows .mixedOrders = false then False else
    match planS E true ops with
    | some its => runPR E con ops ⟨true, s.H.length, slotsN E ops.toList, []⟩ (fun s1 =>
        if its.all (fun it => it.hs.all (isOpd ops s1.tmps) && (!isSA it.o.op || isOpd ops s1.tmps it.i)) = true then
          runIR E con ops ⟨true, s.H.length, slotsN E ops.toList, ops.toList.map (sidOf s1.tmps)⟩ (fun r => q ⟨r.tmps, trimH s.H.length r.H, r.ds⟩) its (padded E ops s)
        else False) its (padded E ops s)
    | none => False
  else regionDR E con ops s q
section
variable {E : Env} {self : Self} {con : Con} {r : Nat → Nat}
theorem sid_ren {T tmps : List V} (hT : ∀ i, isDead (T.getD i un) = false → tmps.getD i un = mapV r (T.getD i un)) {o : Oper} (h : (isSA o.op && isSid T o) = true) : sidOf tmps o = r (sidOf T o) := by
  simp only [Bool.and_eq_true] at h
  obtain ⟨h1, h2⟩ := h
  unfold isSid at h2
  unfold sidOf
  split at h2
  · rename_i t a x ho
    simp only [ho]
    split at h2
    · rename_i id ver row off e
      have : evalO tmps a = .ptr (r id) ver row off := by
        rw [evalO_live hT (by rw [e]; rfl), evalO_map, e]; rfl
      rw [e, this]
    · cases h2
  · rename_i args ats ho
    simp only [ho]
    cases ha : args.toList with
    | nil => simp [ha] at h2
    | cons a l =>
      simp only [ha, List.map_cons] at h2 ⊢
      split at h2
      · rename_i id ver off len rest e
        have e1 : evalO T a = .own id ver off len := (List.cons.inj e).1
        have : evalO tmps a = .own (r id) ver off len := by
          rw [evalO_live hT (by rw [e1]; rfl), evalO_map, e1]; rfl
        rw [e1, this]
      · cases h2
  · rename_i h3 h4
    exfalso
    unfold isSA at h1
    split at h1
    · rename_i e; exact h3 _ _ _ e
    · rename_i e; exact h4 _ _ e
    · cases h1
theorem sidL_ren {T tmps : List V} (hT : ∀ i, isDead (T.getD i un) = false → tmps.getD i un = mapV r (T.getD i un)) {ops : Array Oper} {j : Nat} (h : isOpd ops T j = true) : (ops.toList.map (sidOf tmps)).getD j 0 = r ((ops.toList.map (sidOf T)).getD j 0) := by
  unfold isOpd at h
  split at h
  · rename_i o e
    have e' : ops.toList[j]? = some o := by simpa using e
    simp only [List.getD, List.getElem?_map, e', Option.map_some, Option.getD_some]
    exact sid_ren hT h
  · cases h
theorem storeAt_ren (hi : ∀ i j, r i = r j → i = j) {T tmps : List V} (hT : ∀ i, isDead (T.getD i un) = false → tmps.getD i un = mapV r (T.getD i un)) {o : Oper} (hl : liveO T o = true) {x y : Nat} (hx : isSA o.op = true → y = r x) (h : storeAt T o x = true) : storeAt tmps o y = true := by
  have hop := liveO_eq (r := r) hT hl
  unfold storeAt at h ⊢
  split at h
  · rename_i t a z ho
    have hy := hx (by rw [ho]; rfl)
    rw [hop a (by rw [ho]; simp [Op.operands]), evalO_map]
    split at h
    · rename_i id ver row off e
      rw [e]
      simp only [mapV, beq_iff_eq] at h ⊢
      rw [hy, h]
    · cases h
  · rename_i args ats ho
    have hy := hx (by rw [ho]; rfl)
    have hm : args.toList.map (evalO tmps) = (args.toList.map (evalO T)).map (mapV r) := by
      rw [List.map_map]
      refine List.map_congr_left fun a ha => ?_
      rw [hop a (by rw [ho]; simp [Op.operands, Call.operands]; simpa using ha), evalO_map]; rfl
    rw [hm]
    split at h
    · rename_i id ver off len rest e
      rw [e]
      simp only [List.map_cons, mapV, beq_iff_eq] at h ⊢
      rw [hy, h]
    · rename_i hn
      cases hl : args.toList.map (evalO T) with
      | nil => rfl
      | cons v l =>
        cases v with
        | own a b c d => exact absurd hl (hn _ _ _ _ _)
        | _ => rfl
  · rfl
theorem stepIS_ok (hc : ConR E self con) {ops : Array Oper} {chk : Bool} {b b' room : Nat} {sid sid' : List Nat} (hb : Bs r b b') {it : DItem} (hs0 : ∀ j ∈ it.hs, sid'.getD j 0 = r (sid.getD j 0)) (hs1 : isSA it.o.op = true → sid'.getD it.i 0 = r (sid.getD it.i 0)) {s t : St} {q : St → Prop} (hs : Rs r s t) (h : stepIR E con ops ⟨chk, b, room, sid⟩ it s q) :
    ∃ s' t', stepI E self ops ⟨chk, b', room, sid'⟩ it t = some t' ∧ Rs r s' t' ∧ Fm r t.H t'.H ∧ Kp s t s' t' ∧ q s' := by
  unfold stepIR at h
  unfold stepI
  split at h
  case isFalse => exact h.elim
  rename_i hg
  rw [yielded_rel hs.len hs.tm hg]
  split at h
  · rename_i hw
    rw [if_pos hw]
    split at h
    case isFalse => exact h.elim
    rename_i ho
    have hl := stepR_live h
    have hid : hidI ⟨chk, b', room, sid'⟩ it = (hidI ⟨chk, b, room, sid⟩ it).map r := by
      simp only [hidI, List.map_append, List.map_map]
      congr 1
      · apply List.map_congr_left
        intro j _
        exact (hb.eq j).symm
      · apply List.map_congr_left
        intro j hj
        exact hs0 j hj
    have ho' : okI ⟨chk, b', room, sid'⟩ it t.tmps t.H.length = true := by
      unfold okI at ho ⊢
      rw [hid]
      dsimp only at ho ⊢
      have c1 : b' + it.off = r (b + it.off) := (hb.eq _).symm
      have c2 : b' + it.off + 1 = r (b + it.off + 1) := (hb.eq (it.off + 1)).symm
      rw [c2, c1, contains_map hs.H.inj, contains_map hs.H.inj]
      simp only [Bool.or_eq_true, Bool.and_eq_true, decide_eq_true_eq] at ho ⊢
      refine ⟨?_, ?_⟩
      · rcases ho.1 with h1 | h1
        · exact .inl h1
        · exact .inr (storeAt_ren hs.H.inj hs.tm hl hs1 h1)
      · rcases ho.2 with ho | ho
        · exact .inl ho
        · exact .inr ⟨⟨hb.le hs.H ho.1.1, ho.1.2⟩, ho.2⟩
    rw [if_pos ho']
    have hp : posI ⟨chk, b', room, sid'⟩ it t.H.length = r (posI ⟨chk, b, room, sid⟩ it s.H.length) := by
      unfold posI
      split
      · exact (hs.H.next 1).symm
      · exact (hb.eq it.off).symm
    obtain ⟨v, K', H', h1, h2, h3, h4⟩ := stepR_ok hc hs.tm (hs.H.mask (hidI ⟨chk, b, room, sid⟩ it)) h
    split at h4
    case isFalse => exact h4.elim
    rename_i hd
    have hd' : (it.dry || decide (b' + room ≤ H'.length)) = true := by
      simp only [Bool.or_eq_true, decide_eq_true_eq] at hd ⊢
      rcases hd with hd | hd
      · exact .inl hd
      · exact .inr (hb.le h2 hd)
    refine ⟨_, ⟨put t.tmps it.o.dst (mapV r v), unmaskH t.H H' (hidI ⟨chk, b', room, sid'⟩ it), t.ds⟩, ?_, ?_, ?_, Kp.put, h4⟩
    · rw [hp, hid, h1, Option.bind_some]
      simp only [hd', if_true]
    · rw [hid]; exact hs.put (hs.H.unmask h2 _)
    · rw [hid]; exact Fm.unmask _ ((Fm.mask _).trans h3)
  · rename_i hw
    rw [if_neg hw]
    exact ⟨_, _, rfl, hs.put (v := un) hs.H, .rfl, Kp.put, h⟩
theorem runIS_ok (hc : ConR E self con) {ops : Array Oper} {chk : Bool} {b b' room : Nat} {sid sid' : List Nat} (hb : Bs r b b') {q : St → Prop} : ∀ (is : List DItem) (hs0 : ∀ it ∈ is, (∀ j ∈ it.hs, sid'.getD j 0 = r (sid.getD j 0)) ∧ (isSA it.o.op = true → sid'.getD it.i 0 = r (sid.getD it.i 0))) (s t : St), Rs r s t → runIR E con ops ⟨chk, b, room, sid⟩ q is s →
    ∃ s' t', runI E self ops ⟨chk, b', room, sid'⟩ is t = some t' ∧ Rs r s' t' ∧ Fm r t.H t'.H ∧ Kp s t s' t' ∧ q s'
  | [], _, s, t, hs, h => ⟨s, t, rfl, hs, .rfl, .rfl, h⟩
  | it :: is, h0, s, t, hs, h => by
    unfold runIR at h
    unfold runI
    obtain ⟨s1, t1, a1, a2, a3, a4, a5⟩ := stepIS_ok hc hb (h0 it (by simp)).1 (h0 it (by simp)).2 hs h
    obtain ⟨s2, t2, b1, b2, b3, b4, b5⟩ := runIS_ok hc hb is (fun it h => h0 it (by simp [h])) s1 t1 a2 a5
    exact ⟨s2, t2, by rw [a1]; exact b1, b2, a3.trans b3, a4.trans b4, b5⟩
theorem runPR_ok (hc : ConR E self con) {ops : Array Oper} {chk : Bool} {b b' room : Nat} {sid : List Nat} (hb : Bs r b b') {q : St → Prop} : ∀ (is : List DItem) (s t : St), Rs r s t → runPR E con ops ⟨chk, b, room, sid⟩ q is s →
    ∃ s' t', runP E self ops ⟨chk, b', room, sid⟩ is t = some t' ∧ Rs r s' t' ∧ q s'
  | [], s, t, hs, h => ⟨s, t, rfl, hs, h⟩
  | it :: is, s, t, hs, h => by
    unfold runPR at h
    unfold runP
    split at h
    case isFalse => exact h.elim
    rename_i hg
    rw [yielded_rel hs.len hs.tm hg]
    split at h
    · rename_i hw
      rw [if_pos hw]
      have hp : posI ⟨chk, b', room, sid⟩ it t.H.length = r (posI ⟨chk, b, room, sid⟩ it s.H.length) := by
        unfold posI
        split
        · exact (hs.H.next 1).symm
        · exact (hb.eq it.off).symm
      obtain ⟨v, K', H', h1, h2, h3, h4⟩ := stepR_ok hc hs.tm hs.H h
      obtain ⟨s', t', g1, g2, g3⟩ := runPR_ok hc hb is _ _ (hs.put (d := it.o.dst) (v := v) h2) h4
      exact ⟨s', t', by rw [hp, h1, Option.bind_some]; exact g1, g2, g3⟩
    · rename_i hw
      rw [if_neg hw]
      exact runPR_ok hc hb is _ _ (hs.put (d := it.o.dst) (v := un) hs.H) h
theorem regionDQ_ok (hc : ConR E self con) {ops : Array Oper} {s t : St} {q : St → Prop} (hs : Rs r s t) (h : regionDQ E con ops s q) : ∃ s' t', regionD E self ops t = some t' ∧ Rs r s' t' ∧ Fm r t.H t'.H ∧ Kp s t s' t' ∧ q s' := by
  unfold regionDQ at h
  split at h
  case isFalse => exact regionDR_ok hc hs h
  rename_i hn
  unfold regionD
  split at h
  · exact h.elim
  rename_i hm
  rw [if_neg hm]
  simp only [if_pos hn]
  split at h
  case h_2 => exact h.elim
  rename_i its hp
  have hb : Bs r s.H.length t.H.length := ⟨hs.H.next⟩
  obtain ⟨p1, p2⟩ := hs.H.pad (slotsN E ops.toList)
  have hs' : Rs r (padded E ops s) (padded E ops t) := ⟨hs.len, hs.tm, p1⟩
  obtain ⟨s1, t1, a1, a2, a3⟩ := runPR_ok hc hb its _ _ hs' h
  split at a3
  case isFalse => exact a3.elim
  rename_i hsid
  obtain ⟨s2, t2, b1, b2, b3, b4, b5⟩ := runIS_ok hc hb (sid' := ops.toList.map (sidOf t1.tmps)) its (fun it hit => by
    have := List.all_eq_true.1 hsid it hit
    simp only [Bool.and_eq_true, Bool.or_eq_true, Bool.not_eq_true', List.all_eq_true] at this
    refine ⟨fun j hj => sidL_ren a2.tm (this.1 j hj), fun hsa => ?_⟩
    rcases this.2 with h | h
    · rw [hsa] at h; cases h
    · exact sidL_ren a2.tm h) _ _ hs' a3
  obtain ⟨c1, c2⟩ := b2.H.trim hb
  exact ⟨⟨s2.tmps, trimH s.H.length s2.H, s2.ds⟩, ⟨t2.tmps, trimH t.H.length t2.H, t2.ds⟩, by rw [hp, Option.bind_some, a1, Option.bind_some, b1]; rfl, ⟨b2.len, b2.tm, c1⟩, (p2.trans b3).trans c2, b4, b5⟩
end
end Go.Proofs.YtpmdlaojndejfaaGreatDoor.E

/- Known blocks alone: frames; forgetting; what is known of functions. -/
set_option linter.unusedVariables false
set_option linter.unusedSimpArgs false
namespace Go.Proofs.YtpmdlaojndejfaaGreatDoor.E
open Go
/-- A frame of n cells, some of them known, over known blocks. -/
structure Fq (t : St) (n : Nat) (r : Nat → Nat) (K : Heap) (l : List (Nat × V)) : Prop where
  len : t.tmps.length = n
  ds : t.ds = []
  H : Rn r K t.H
  at_ : ∀ p ∈ l, isDead p.2 = false → t.tmps.getD p.1 un = mapV r p.2
def lookT : List (Nat × V) → Nat → V
  | [], _ => deadV
  | p :: l, i => if p.1 = i then p.2 else lookT l i
def frameT (n : Nat) (l : List (Nat × V)) : List V := (List.range n).map (lookT l)
theorem lookT_mem : ∀ (l : List (Nat × V)) (i : Nat), isDead (lookT l i) = false → (i, lookT l i) ∈ l
  | [], i, h => by simp [lookT, deadV, isDead] at h
  | p :: l, i, h => by
    unfold lookT at h ⊢
    split
    · rename_i e; subst e; exact List.mem_cons_self
    · rename_i e
      rw [if_neg e] at h
      exact List.mem_cons_of_mem _ (lookT_mem l i h)
section
variable {E : Env} {self : Self} {con : Con} {r : Nat → Nat} {n : Nat} {K : Heap} {l : List (Nat × V)} {t : St}
theorem Fq.get (h : Fq t n r K l) (i : Nat) {v : V} (hm : (i, v) ∈ l) (hv : isDead v = false) : t.tmps.getD i un = mapV r v := h.at_ _ hm hv
theorem Fq.sub {l' : List (Nat × V)} (h : Fq t n r K l) (hl : ∀ p ∈ l', p ∈ l) : Fq t n r K l' := ⟨h.len, h.ds, h.H, fun p hp => h.at_ p (hl p hp)⟩
theorem Fq.rs (h : Fq t n r K l) {T : List V} (hT : frameT n l = T) : Rs r ⟨T, K, []⟩ t := by
  subst hT
  refine ⟨by simp [frameT, h.len], fun i hi => ?_, h.H⟩
  by_cases hlt : i < n
  · have e : (frameT n l).getD i un = lookT l i := by simp [frameT, List.getD, hlt]
    simp only [e] at hi ⊢
    exact h.at_ _ (lookT_mem l i hi) hi
  · have e : (frameT n l).getD i un = un := by simp [frameT, List.getD, hlt]
    simp only [e]
    rw [List.getD, List.getElem?_eq_none (by rw [h.len]; omega)]; rfl
theorem Fq.of_rs {s : St} (h : Rs r s t) (hl : s.tmps.length = n ∨ t.tmps.length = n) (hd : t.ds = []) (hm : ∀ p ∈ l, s.tmps.getD p.1 un = p.2) : Fq t n r s.H l :=
  ⟨by rcases hl with hl | hl; exact h.len.trans hl; exact hl, hd, h.H, fun p hp hv => by rw [h.tm _ (by rw [hm p hp]; exact hv), hm p hp]⟩

/-- No block from the k-th on is named. -/
def LowV (k : Nat) (v : V) : Prop := ∀ r r' : Nat → Nat, (∀ i, i < k → r i = r' i) → mapV r v = mapV r' v
def LowB (k : Nat) (b : Blk) : Prop := ∀ r r' : Nat → Nat, (∀ i, i < k → r i = r' i) → mapB r b = mapB r' b
/-- What stands behind the first k blocks is forgotten. -/
def cutR (r : Nat → Nat) (k m : Nat) (i : Nat) : Nat := if i < k then r i else m + (i - k)
theorem Rn.lt {K H : Heap} (h : Rn r K H) {i : Nat} (hi : i < K.length) : r i < H.length := ((h.len_iff i).1 hi).1
theorem Rn.cut {K H : Heap} (h : Rn r K H) {k : Nat} (hk : k ≤ K.length) (hK : ∀ b ∈ K.take k, LowB k b) : Rn (cutR r k H.length) (K.take k) H := by
  have hlen : (K.take k).length = k := by rw [List.length_take]; omega
  refine ⟨fun i j e => ?_, fun j => ?_, fun i b hi => ?_⟩
  · unfold cutR at e
    split at e <;> split at e
    · exact h.inj _ _ e
    · have := h.lt (show i < K.length by omega); omega
    · have := h.lt (show j < K.length by omega); omega
    · omega
  · rw [hlen]; unfold cutR; rw [if_neg (by omega)]; omega
  · have hik : i < k := by have := (List.getElem?_eq_some_iff.1 hi).1; omega
    have hm := List.mem_of_getElem? hi
    rw [List.getElem?_take, if_pos hik] at hi
    have h1 := h.get i b hi
    have e1 : cutR r k H.length i = r i := by unfold cutR; rw [if_pos hik]
    rw [e1, h1]
    congr 1
    exact hK b hm _ _ fun j hj => by unfold cutR; rw [if_pos hj]
theorem Fq.forget (h : Fq t n r K l) {k : Nat} (hk : k ≤ K.length) (hK : ∀ b ∈ K.take k, LowB k b) (hl : ∀ p ∈ l, LowV k p.2) : Fq t n (cutR r k t.H.length) (K.take k) l :=
  ⟨h.len, h.ds, h.H.cut hk hK, fun p hp hv => by
    rw [h.at_ p hp hv]
    exact hl p hp _ _ fun j hj => by unfold cutR; rw [if_pos hj]⟩
theorem Rn.reach {K H : Heap} (h : Rn r K H) {k : Nat} (hk : k ≤ K.length) (i : Nat) : ∃ j, r j = cutR r k H.length i := by
  unfold cutR
  split
  · exact ⟨i, rfl⟩
  · exact ⟨K.length + (i - k), h.next _⟩
/-- What is untouched by the fewer numbers is untouched. -/
theorem Fm.uncut {K H H1 H2 : Heap} (h : Rn r K H) {k : Nat} (hk : k ≤ K.length) (hf : Fm (cutR r k H.length) H1 H2) : Fm r H1 H2 := fun id hid => hf id fun i e => by
  obtain ⟨j, hj⟩ := h.reach hk i
  exact hid j (hj.trans e)

/-! What is known of functions. -/
theorem noOwnC_closed {c : V} (h : noOwnC c = true) : closedV c = true := by
  cases c with
  | fn f cs =>
    simp only [noOwnC, List.all_eq_true] at h
    simp only [closedV]
    induction cs with
    | nil => rfl
    | cons v vs ih =>
      simp only [closedVs, Bool.and_eq_true]
      refine ⟨?_, ih fun x hx => h x (by simp [hx])⟩
      have := h v (by simp)
      cases v <;> simp_all [closedV]
  | _ => simp_all [noOwnC, closedV]
theorem closedVs_all : ∀ (l : List V), (∀ v ∈ l, closedV v = true) → closedVs l = true
  | [], _ => rfl
  | v :: vs, h => by simp only [closedVs, Bool.and_eq_true]; exact ⟨h v (by simp), closedVs_all vs fun x hx => h x (by simp [hx])⟩
theorem cells_closed {v : V} (h : ∀ c ∈ v.cells, noOwnC c = true) : closedV v = true := by
  cases v with
  | agg cs => exact closedVs_all cs fun c hc => noOwnC_closed (h c hc)
  | _ => exact noOwnC_closed (h _ (by simp [V.cells]))
theorem noOwn_closed {v : V} (h : noOwn v = true) : closedV v = true := by
  unfold noOwn at h
  rw [List.all_eq_true] at h
  cases v with
  | tup vs => exact closedVs_all vs fun c hc => cells_closed fun d hd => h d (by simp only [tops, List.mem_flatMap]; exact ⟨c, hc, hd⟩)
  | _ => exact cells_closed fun c hc => h c hc
theorem args_closed {args : List V} (h : args.all noOwn = true) : args.map (mapV r) = args := by
  rw [← mapVs_eq]
  exact closeds_eq (closedVs_all args fun v hv => noOwn_closed (List.all_eq_true.1 h v hv))
end
end Go.Proofs.YtpmdlaojndejfaaGreatDoor.E

/- Plain functions on bytes and code points, of no program: what the walks of package chars come to. -/
namespace Go.Proofs.YtpmdlaojndejfaaGreatDoor.HPure
open Go

/-- Is a code point a character? -/
def isChar (c : Int) : Bool := c == 9 || c == 10 || c == 13 || (decide (32 ≤ c) && decide (c ≤ 55295)) || (decide (57344 ≤ c) && decide (c ≤ 65533)) || (decide (65536 ≤ c) && decide (c ≤ 1114111))
/-- Do the bytes of U+FFFD stand at a place? -/
def isBad (s : ByteArray) (i : Nat) : Bool := decide (i + 3 ≤ s.size) && (s.get! i == 239 && s.get! (i + 1) == 191 && s.get! (i + 2) == 189)
/-- From a place on, by so many code points: each is a character, and one that reads as U+FFFD is written so. -/
def isTextFrom (s : ByteArray) : Nat → Nat → Bool
  | 0, _ => true
  | f + 1, pos => if pos < s.size then
      (if !isChar (Utf8.decode s pos).1 || ((Utf8.decode s pos).1 == 65533 && !isBad s pos) then false else isTextFrom s f (pos + (Utf8.decode s pos).2))
    else true
def isText (s : ByteArray) : Bool := isTextFrom s s.size 0
theorem isTextFrom_end (s : ByteArray) (f pos : Nat) (h : ¬ pos < s.size) : isTextFrom s f pos = true := by cases f <;> simp [isTextFrom, h]

/-- The code points from a place on. -/
def pointsFrom (s : ByteArray) : Nat → Nat → List Int
  | 0, _ => []
  | f + 1, pos => if pos < s.size then ((Utf8.decode s pos).1 : Int) :: pointsFrom s f (pos + (Utf8.decode s pos).2) else []
def points (s : ByteArray) : List Int := pointsFrom s s.size 0
theorem pointsFrom_end (s : ByteArray) (f pos : Nat) (h : ¬ pos < s.size) : pointsFrom s f pos = [] := by cases f <;> simp [pointsFrom, h]

/-- Can a name begin with a character? -/
def isLetter (c : Int) : Bool := (decide (97 ≤ c) && decide (c ≤ 122)) || (decide (65 ≤ c) && decide (c ≤ 90)) || c == 95 || (decide (192 ≤ c) && c != 215 && c != 247)
/-- May a character stand at a place of a part of a name? -/
def inPart (first : Bool) (c : Int) : Bool := isLetter c || (!first && (c == 45 || c == 46 || c == 183 || (decide (48 ≤ c) && decide (c ≤ 57))))
def isNamePartFrom (s : ByteArray) : Nat → Nat → Bool
  | 0, _ => true
  | f + 1, pos => if pos < s.size then (if inPart (pos == 0) (Utf8.decode s pos).1 then isNamePartFrom s f (pos + (Utf8.decode s pos).2) else false) else true
def isNamePart (s : ByteArray) : Bool := isNamePartFrom s s.size 0 && decide (s.size ≠ 0)
theorem isNamePartFrom_end (s : ByteArray) (f pos : Nat) (h : ¬ pos < s.size) : isNamePartFrom s f pos = true := by cases f <;> simp [isNamePartFrom, h]

/-- The UTF-8 form of code points. -/
def encode (l : List Int) : ByteArray := ⟨(l.flatMap Lib.encodeRune).toArray⟩

/-- Where the parts begin and end: the loop of Cut. -/
def cutFrom (s : ByteArray) (a b : Int) : Nat → Nat → Int → Nat → Nat → Nat × Nat
  | 0, _, _, x, y => (x, y)
  | f + 1, pos, place, x, y => if pos < s.size then
      cutFrom s a b f (pos + (Utf8.decode s pos).2) (place + 1) (if place = max a 0 then pos else x) (if place = b then pos else y)
    else (x, y)
theorem cutFrom_end (s : ByteArray) (a b : Int) (f pos : Nat) (place : Int) (x y : Nat) (h : ¬ pos < s.size) : cutFrom s a b f pos place x y = (x, y) := by cases f <;> simp [cutFrom, h]
def cutAt (s : ByteArray) (a b : Int) : Nat × Nat := cutFrom s a b s.size 0 0 s.size s.size
def cut (s : ByteArray) (a b : Int) : ByteArray :=
  if b ≤ a ∨ isText s = false then ⟨#[]⟩
  else if (cutAt s a b).2 < (cutAt s a b).1 ∨ b ≤ 0 then ⟨#[]⟩
  else s.extract (cutAt s a b).1 (cutAt s a b).2

/-- White space. -/
def sp (c : Nat) : Bool := c == 32 || c == 9 || c == 10 || c == 13
def isSpace (s : ByteArray) : Bool := decide (Lib.idxFunc (fun c => !sp c) true s < 0)
def norm (s : ByteArray) : ByteArray := ⟨(Lib.join ((Lib.goFieldsP sp s).map (·.data.toList)) [32]).toArray⟩

end Go.Proofs.YtpmdlaojndejfaaGreatDoor.HPure

/- Plain arithmetic of UTF-8, of no program: decoding and encoding are each other's, and the reference's way of decoding is the model's. -/
namespace Go.Proofs.YtpmdlaojndejfaaGreatDoor.Plain
set_option linter.unusedVariables false
open Go Go.Lib Go.Proofs.YtpmdlaojndejfaaGreatDoor.HPure

/-- A code point that is read at a place, and is a character, written as it stands. -/
def good (n b0 b1 b2 : Nat) (r : Nat) : Bool := isChar (r : Int) && !(r == 65533 && !(decide (3 ≤ n) && (b0 == 239 && b1 == 191 && b2 == 189)))

theorem isChar_iff (c : Int) : isChar c = true ↔ (c = 9 ∨ c = 10 ∨ c = 13 ∨ (32 ≤ c ∧ c ≤ 55295) ∨ (57344 ≤ c ∧ c ≤ 65533) ∨ (65536 ≤ c ∧ c ≤ 1114111)) := by
  unfold isChar
  simp only [Bool.or_eq_true, Bool.and_eq_true, beq_iff_eq, decide_eq_true_eq, or_assoc]
theorem isChar_no (c : Int) : isChar c = false ↔ ¬ (c = 9 ∨ c = 10 ∨ c = 13 ∨ (32 ≤ c ∧ c ≤ 55295) ∨ (57344 ≤ c ∧ c ≤ 65533) ∨ (65536 ≤ c ∧ c ≤ 1114111)) := by
  rw [← isChar_iff, Bool.not_eq_true]
theorem good_iff (n b0 b1 b2 r : Nat) : good n b0 b1 b2 r = true ↔ (isChar (r : Int) = true ∧ (r = 65533 → 3 ≤ n ∧ b0 = 239 ∧ b1 = 191 ∧ b2 = 189)) := by
  unfold good
  rw [Bool.and_eq_true]
  refine and_congr Iff.rfl ?_
  by_cases h : r = 65533
  · simp [h, and_assoc]
  · simp [h]

/-- What a character's form reads as, whatever stands behind it. -/
theorem decodeN_one (n c b1 b2 b3 : Nat) (h : c < 128) : decodeN n c b1 b2 b3 = (c, 1) := by unfold decodeN; rw [if_pos h]
theorem decodeN_two (n c b2 b3 : Nat) (hn : 2 ≤ n) (h0 : 128 ≤ c) (h1 : c ≤ 2047) : decodeN n (192 + c / 64) (128 + c % 64) b2 b3 = (c, 2) := by
  unfold decodeN
  rw [if_neg (by omega), if_pos (by omega), if_pos (by omega)]
  congr 1
  omega
theorem decodeN_three (n c b3 : Nat) (hn : 3 ≤ n) (h0 : 2048 ≤ c) (h1 : c ≤ 55295 ∨ (57344 ≤ c ∧ c ≤ 65535)) : decodeN n (224 + c / 4096) (128 + c / 64 % 64) (128 + c % 64) b3 = (c, 3) := by
  unfold decodeN
  rw [if_neg (by omega), if_neg (by omega), if_pos (by omega), if_pos (by omega)]
  congr 1
  omega
theorem decodeN_four (n c : Nat) (hn : 4 ≤ n) (h0 : 65536 ≤ c) (h1 : c ≤ 1114111) : decodeN n (240 + c / 262144) (128 + c / 4096 % 64) (128 + c / 64 % 64) (128 + c % 64) = (c, 4) := by
  unfold decodeN
  rw [if_neg (by omega), if_neg (by omega), if_neg (by omega), if_pos (by omega), if_pos (by omega)]
  congr 1
  omega

/-- What is read as a character is its form. -/
theorem decodeN_good (n b0 b1 b2 b3 r w : Nat) (hn : 1 ≤ n) (h0 : b0 < 256) (h1 : b1 < 256) (h2 : b2 < 256) (h3 : b3 < 256) (h : decodeN n b0 b1 b2 b3 = (r, w)) (hg : good n b0 b1 b2 r = true) :
    w ≤ n ∧ encodeRuneZ (r : Int) = ((([b0, b1, b2, b3] : List Nat).take w).map (fun (x : Nat) => (x : Int))) := by
  rw [good_iff, isChar_iff] at hg
  obtain ⟨hc, hb⟩ := hg
  unfold decodeN at h
  split at h
  · obtain ⟨rfl, rfl⟩ := Prod.mk.inj h
    exact ⟨hn, by rw [encodeRuneZ_one (by omega) (by omega)]; rfl⟩
  · split at h
    · split at h
      · obtain ⟨rfl, rfl⟩ := Prod.mk.inj h
        refine ⟨by omega, ?_⟩
        rw [encodeRuneZ_two (by omega) (by omega)]
        simp only [List.take_succ_cons, List.take_zero, List.map_cons, List.map_nil, List.cons.injEq, and_true]
        omega
      · obtain ⟨rfl, rfl⟩ := Prod.mk.inj h
        have := hb rfl
        omega
    · split at h
      · split at h
        · obtain ⟨rfl, rfl⟩ := Prod.mk.inj h
          refine ⟨by omega, ?_⟩
          rw [encodeRuneZ_three (by omega)]
          simp only [List.take_succ_cons, List.take_zero, List.map_cons, List.map_nil, List.cons.injEq, and_true]
          omega
        · obtain ⟨rfl, rfl⟩ := Prod.mk.inj h
          have := hb rfl
          omega
      · split at h
        · split at h
          · obtain ⟨rfl, rfl⟩ := Prod.mk.inj h
            refine ⟨by omega, ?_⟩
            rw [encodeRuneZ_four (by omega) (by omega)]
            simp only [List.take_succ_cons, List.take_zero, List.map_cons, List.map_nil, List.cons.injEq, and_true]
            omega
          · obtain ⟨rfl, rfl⟩ := Prod.mk.inj h
            have := hb rfl
            omega
        · obtain ⟨rfl, rfl⟩ := Prod.mk.inj h
          have := hb rfl
          omega

/-- The reference's way: the code point and its width; width 0: there is none. -/
def cont (b : Nat) : Bool := decide (128 ≤ b) && decide (b < 192)
def nextN (n b0 b1 b2 b3 : Nat) : Nat × Nat :=
  if b0 < 128 then (b0, 1)
  else if 192 ≤ b0 ∧ b0 < 224 then
    (if n < 2 then (0, 0) else if cont b1 = false then (0, 0) else if (b0 - 192) * 64 + (b1 - 128) < 128 then (0, 0) else ((b0 - 192) * 64 + (b1 - 128), 2))
  else if 224 ≤ b0 ∧ b0 < 240 then
    (if n < 3 then (0, 0) else if cont b1 = false then (0, 0) else if cont b2 = false then (0, 0) else if ((b0 - 224) * 64 + (b1 - 128)) * 64 + (b2 - 128) < 2048 then (0, 0) else (((b0 - 224) * 64 + (b1 - 128)) * 64 + (b2 - 128), 3))
  else if 240 ≤ b0 ∧ b0 < 248 then
    (if n < 4 then (0, 0) else if cont b1 = false then (0, 0) else if cont b2 = false then (0, 0) else if cont b3 = false then (0, 0)
     else if (((b0 - 240) * 64 + (b1 - 128)) * 64 + (b2 - 128)) * 64 + (b3 - 128) < 65536 then (0, 0) else ((((b0 - 240) * 64 + (b1 - 128)) * 64 + (b2 - 128)) * 64 + (b3 - 128), 4))
  else (0, 0)
theorem cont_iff (b : Nat) : cont b = false ↔ ¬ (128 ≤ b ∧ b < 192) := by unfold cont; simp
/-- At a place where the model reads a character, so does the reference, and the same one. -/
theorem next_good (n b0 b1 b2 b3 r w : Nat) (hn : 1 ≤ n) (h0 : b0 < 256) (h1 : b1 < 256) (h2 : b2 < 256) (h3 : b3 < 256) (h : decodeN n b0 b1 b2 b3 = (r, w)) (hg : good n b0 b1 b2 r = true) : nextN n b0 b1 b2 b3 = (r, w) := by
  rw [good_iff, isChar_iff] at hg
  obtain ⟨hc, hb⟩ := hg
  unfold nextN
  unfold decodeN at h
  simp only [cont_iff]
  split at h
  · rename_i a
    rw [if_pos a]
    exact h
  · rename_i a
    rw [if_neg a]
    split at h
    · split at h
      · obtain ⟨rfl, rfl⟩ := Prod.mk.inj h
        rw [if_pos (by omega), if_neg (by omega), if_neg (by omega), if_neg (by omega)]
        exact Prod.ext (by show _ = _; omega) rfl
      · obtain ⟨rfl, rfl⟩ := Prod.mk.inj h
        have := hb rfl
        omega
    · split at h
      · split at h
        · obtain ⟨rfl, rfl⟩ := Prod.mk.inj h
          rw [if_neg (by omega), if_pos (by omega), if_neg (by omega), if_neg (by omega), if_neg (by omega), if_neg (by omega)]
          exact Prod.ext (by show _ = _; omega) rfl
        · obtain ⟨rfl, rfl⟩ := Prod.mk.inj h
          have := hb rfl
          omega
      · split at h
        · split at h
          · obtain ⟨rfl, rfl⟩ := Prod.mk.inj h
            rw [if_neg (by omega), if_neg (by omega), if_pos (by omega), if_neg (by omega), if_neg (by omega), if_neg (by omega), if_neg (by omega), if_neg (by omega)]
            exact Prod.ext (by show _ = _; omega) rfl
          · obtain ⟨rfl, rfl⟩ := Prod.mk.inj h
            have := hb rfl
            omega
        · obtain ⟨rfl, rfl⟩ := Prod.mk.inj h
          have := hb rfl
          omega
/-- Where it doesn't, the reference finds no character. -/
theorem next_bad (n b0 b1 b2 b3 r w c z : Nat) (hn : 1 ≤ n) (h0 : b0 < 256) (h1 : b1 < 256) (h2 : b2 < 256) (h3 : b3 < 256) (h : decodeN n b0 b1 b2 b3 = (r, w)) (hx : nextN n b0 b1 b2 b3 = (c, z)) (hz : z ≠ 0) (hc : isChar (c : Int) = true) : good n b0 b1 b2 r = true := by
  rw [good_iff, isChar_iff]
  rw [isChar_iff] at hc
  unfold nextN at hx
  simp only [cont_iff] at hx
  have key : r = c ∧ (c = 65533 → 3 ≤ n ∧ b0 = 239 ∧ b1 = 191 ∧ b2 = 189) := by
    unfold decodeN at h
    split at hx
    · rename_i a
      rw [if_pos a] at h
      obtain ⟨rfl, rfl⟩ := Prod.mk.inj h
      obtain ⟨rfl, rfl⟩ := Prod.mk.inj hx
      exact ⟨rfl, by omega⟩
    · rename_i a
      rw [if_neg a] at h
      split at hx
      · repeat (split at hx; · (obtain ⟨rfl, rfl⟩ := Prod.mk.inj hx; exact absurd rfl hz))
        obtain ⟨rfl, rfl⟩ := Prod.mk.inj hx
        rw [if_pos (by omega), if_pos (by omega)] at h
        obtain ⟨rfl, rfl⟩ := Prod.mk.inj h
        exact ⟨by omega, by omega⟩
      · split at hx
        · repeat (split at hx; · (obtain ⟨rfl, rfl⟩ := Prod.mk.inj hx; exact absurd rfl hz))
          obtain ⟨rfl, rfl⟩ := Prod.mk.inj hx
          rw [if_neg (by omega), if_pos (by omega), if_pos (by omega)] at h
          obtain ⟨rfl, rfl⟩ := Prod.mk.inj h
          exact ⟨by omega, by omega⟩
        · split at hx
          · repeat (split at hx; · (obtain ⟨rfl, rfl⟩ := Prod.mk.inj hx; exact absurd rfl hz))
            obtain ⟨rfl, rfl⟩ := Prod.mk.inj hx
            rw [if_neg (by omega), if_neg (by omega), if_pos (by omega), if_pos (by omega)] at h
            obtain ⟨rfl, rfl⟩ := Prod.mk.inj h
            exact ⟨by omega, by omega⟩
          · obtain ⟨rfl, rfl⟩ := Prod.mk.inj hx
            exact absurd rfl hz
  obtain ⟨rfl, hk⟩ := key
  exact ⟨hc, hk⟩
end Go.Proofs.YtpmdlaojndejfaaGreatDoor.Plain
