/- The evaluator's operations against the machine's: the theorem. -/
import Derived.Test.YtpmdlaojndejfaaGreatDoorEjb
set_option linter.unusedVariables false
set_option linter.unusedSimpArgs false
namespace Go.Proofs.YtpmdlaojndejfaaGreatDoor.E
open Go

section
variable {N A : Nat → Prop} {ι : Nat → Lk} {H H' : Heap} {w : World}

theorem eq_slice {P : Program} {t e : TypeId} (hu : P.underlying t = some (.slice e)) (a : Addr) (n c m k : Nat) (w : World) : (Op.equal t (.slice (some a) n c) (.slice none m k)).run P w = .ok false w := by
  have e1 : Op.equal t (.slice (some a) n c) (.slice none m k) = Op.equalIn (9999 + 1) t (.slice (some a) n c) (.slice none m k) := rfl
  rw [e1]; generalize 9999 = d; unfold Op.equalIn; simp [run_underlying hu]
theorem eq_ptr {P : Program} {t e : TypeId} (hu : P.underlying t = some (.pointer e)) (a : Addr) (w : World) : (Op.equal t (.pointer (some a)) (.pointer none)).run P w = .ok false w := by
  have e1 : Op.equal t (.pointer (some a)) (.pointer none) = Op.equalIn (9999 + 1) t (.pointer (some a)) (.pointer none) := rfl
  rw [e1]; generalize 9999 = d; unfold Op.equalIn; simp [run_underlying hu]
theorem eq_fn {P : Program} {t : TypeId} {p r : Array TypeId} {v : Bool} (hu : P.underlying t = some (.func p r v)) (f : Fn) (x y : Array Value) (w : World) : (Op.equal t (.func f x y) .nilFunc).run P w = .ok false w := by
  have e1 : Op.equal t (.func f x y) .nilFunc = Op.equalIn (9999 + 1) t (.func f x y) .nilFunc := rfl
  rw [e1]; generalize 9999 = d; unfold Op.equalIn; simp [run_underlying hu]

/-- What 'nil' is compared with. -/
def Solid : Value → Prop
  | .slice _ _ _ | .pointer _ | .func _ _ _ => True
  | _ => False

theorem nilCmp_sound {P : Program} {t : TypeId} {x y : V} {cx cy : Value} (h : nilCmp P t x y = true) (hx : VR A ι H w x cx) (hy : VR A ι H w y cy) :
    (Op.equal t cx cy).run P w = .ok false w ∧ Solid cx ∧ (∀ k n, cy ≠ .int k n) ∧ (∀ a, cy ≠ .pointer (some a)) := by
  unfold nilCmp at h
  split at h
  · rename_i e i v o l hu
    cases hy with
    | lit _ =>
      cases hx with
      | own _ _ _ _ ad cap blk hid hf hh => exact ⟨eq_slice hu _ _ _ _ _ _, trivial, by simp, by simp⟩
  · rename_i e rows hu
    cases hy with
    | lit _ =>
      cases hx with
      | arr _ b o cap sz hA hcap hsz hc hv => exact ⟨eq_slice hu _ _ _ _ _ _, trivial, by simp, by simp⟩
  · rename_i p r v f cs hu
    cases hy with
    | lit _ =>
      cases hx with
      | fn _ _ vs hl hv => exact ⟨eq_fn hu _ _ _ _, trivial, by simp, by simp⟩
  · rename_i e i v r o hu
    cases hy with
    | lit _ =>
      cases hx with
      | ptr _ _ _ _ ad blk hid hf hh => exact ⟨eq_ptr hu _ _, trivial, by simp, by simp⟩
  · rename_i e cs hu
    cases hy with
    | lit _ =>
      cases hx with
      | row _ b o hA hc hv => exact ⟨eq_ptr hu _ _, trivial, by simp, by simp⟩
  · cases h

theorem eqGuard_solid {P : Program} {op : BinOp} {t : TypeId} {x y : Operand} {cx cy : Value} (h : Solid cx) (w : World) : (eqGuard op t x y cx cy).run P w = .ok () w := by
  unfold eqGuard
  cases cx <;> first | exact h.elim | (cases op <;> simp)
theorem binOp_solid {P : Program} {t : TypeId} {cx cy : Value} (h : Solid cx) (he : (Op.equal t cx cy).run P w = .ok false w) :
    (Go.binOp .eql t cx cy).run P w = .ok (.bool false) w ∧ (Go.binOp .neq t cx cy).run P w = .ok (.bool true) w := by
  cases cx <;> first | exact h.elim | (constructor <;> simp [Go.binOp, he])

theorem args1 {tmps : List V} {args : Array Operand} {v : V} (h : args.toList.map (evalO tmps) = [v]) : ∃ x, args = #[x] ∧ evalO tmps x = v := by
  obtain ⟨l⟩ := args
  cases l with
  | nil => simp at h
  | cons x l =>
    cases l with
    | nil => simp at h; exact ⟨x, rfl, h⟩
    | cons y l => simp at h
theorem args2 {tmps : List V} {args : Array Operand} {v u : V} (h : args.toList.map (evalO tmps) = [v, u]) : ∃ x y, args = #[x, y] ∧ evalO tmps x = v ∧ evalO tmps y = u := by
  obtain ⟨l⟩ := args
  cases l with
  | nil => simp at h
  | cons x l =>
    cases l with
    | nil => simp at h
    | cons y l =>
      cases l with
      | nil => simp at h; exact ⟨x, y, rfl, h.1, h.2⟩
      | cons z l => simp at h
theorem len_sl {P : Program} {ts : Array TypeId} (h : lenSl P ts = true) : ∃ t e, ts[0]? = some t ∧ P.underlying t = some (.slice e) := by
  unfold lenSl at h
  split at h
  · rename_i t ht
    split at h
    · rename_i e hu; exact ⟨t, e, ht, hu⟩
    · cases h
  · cases h

set_option maxHeartbeats 4000000 in
theorem opE_sound {E : Env} (hs : SR N A ι H w) (hg : GR E A ι H w) {tmps : List V} {a : Act} (ht : TR A ι H w tmps a.tmps) {nid : Nat} {o : Oper} {v : V} (h : opE E tmps nid H o = some (v, H')) :
    OpOut E.P N A ι H w (execOp a.eval o) v H' := by
  obtain ⟨dst, op, ty, pos, after, guard⟩ := o
  have dflt : ∀ {o : Oper}, (toOps E.P tmps o).map (fun x => (x, H)) = some (v, H') → OpOut E.P N A ι H w (execOp a.eval o) v H' := by
    intro o h
    simp only [Option.map_eq_some_iff, Prod.mk.injEq] at h
    obtain ⟨x, hx, rfl, rfl⟩ := h
    exact .tt hs (toOps_sound ht hx)
  cases op
  case move x =>
    simp only [opE, Option.some.injEq, Prod.mk.injEq] at h
    obtain ⟨rfl, rfl⟩ := h
    exact .still hs (cv := a.eval x) rfl (ht.eval x)
  case assign x =>
    simp only [opE, Option.some.injEq, Prod.mk.injEq] at h
    obtain ⟨rfl, rfl⟩ := h
    exact .still hs (cv := a.eval x) rfl (ht.eval x)
  case pick c x y =>
    simp only [opE] at h
    split at h
    · rename_i t hc
      simp only [Option.some.injEq, Prod.mk.injEq] at h
      obtain ⟨rfl, rfl⟩ := h
      have e : a.eval c = .bool t := litOf_eq (v := .lit (.bool t)) rfl (hc ▸ ht.eval c)
      refine .still hs (cv := if t then a.eval x else a.eval y) (by simp [execOp, e, asBool]) ?_
      cases t
      · exact ht.eval y
      · exact ht.eval x
    · cases h
  case alloc t =>
    simp only [opE, Option.bind_eq_some_iff] at h
    obtain ⟨z, hz, h⟩ := h
    split at h
    · cases h
    rename_i hsc
    simp only [Option.map_eq_some_iff, Prod.mk.injEq] at h
    obtain ⟨H1, hp, rfl, rfl⟩ := h
    obtain ⟨i, zv, hi, hzv, rfl⟩ := zeroT_some hz
    obtain ⟨w', ι', h1, h2, h3⟩ := newVar_sound (P := E.P) hs (VR.ofValue zv) (by simpa using hsc) hp t (.inr (Nat.mul_div_cancel _ (by decide)))
    refine ⟨_, _, w', N, A, ι', ?_, .inl rfl, h2, h3⟩
    simp [execOp, Instr.alloc, zeroValue, typeInfo, hi, hzv, h1]
  case box t x =>
    simp only [opE] at h
    split at h
    · cases h
    rename_i hsc
    simp only [Option.map_eq_some_iff, Prod.mk.injEq] at h
    obtain ⟨H1, hp, rfl, rfl⟩ := h
    obtain ⟨w', ι', h1, h2, h3⟩ := newVar_sound (P := E.P) hs (ht.eval x) (by simpa using hsc) hp t (.inl (Nat.zero_div _))
    refine ⟨_, _, w', N, A, ι', ?_, .inl rfl, h2, h3⟩
    simp [execOp, Instr.box, h1]
  case build t ps =>
    simp only [opE, Option.map_eq_some_iff, Prod.mk.injEq] at h
    obtain ⟨x, hx, rfl, rfl⟩ := h
    exact .ofs hs (build_sound (PR.of ht ps) hx) rfl
  case buildSlice t n ps =>
    simp only [opE] at h
    split at h
    case h_2 => cases h
    rename_i e hu
    split at h
    case isFalse => cases h
    rename_i hc
    simp only [Option.bind_eq_some_iff] at h
    obtain ⟨z, hz, h⟩ := h
    split at h
    · cases h
    rename_i hc2
    simp only [Option.bind_eq_some_iff, Option.map_eq_some_iff, Prod.mk.injEq] at h
    obtain ⟨cs, hcs, H1, hp, rfl, rfl⟩ := h
    have hc3 : z.cells.length = sizeT E.P e ∧ z.cells.all scalarV = true := by
      rw [not_or] at hc2
      exact ⟨by simpa using hc2.1, by simpa using hc2.2⟩
    exact .of (buildSlice_sound hs (PR.of ht ps) hu hc.1 hc.2 hz hc3.1 hc3.2 hcs hp) rfl
  case load t x =>
    simp only [opE, Option.map_eq_some_iff, Prod.mk.injEq] at h
    obtain ⟨y, hy, rfl, rfl⟩ := h
    exact .ofs hs (loadAt_sound hs hg (ht.eval x) hy) rfl
  case store t x y =>
    simp only [opE, Option.map_eq_some_iff, Prod.mk.injEq] at h
    obtain ⟨H1, h1, rfl, rfl⟩ := h
    exact .ofu (storeAt_sound hs (ht.eval x) (ht.eval y) h1) rfl
  case nilCheck x =>
    simp only [opE] at h
    have hx := ht.eval x
    split at h
    · rename_i i b c d e
      simp only [Option.some.injEq, Prod.mk.injEq] at h
      obtain ⟨rfl, rfl⟩ := h
      rw [e] at hx
      generalize hev : a.eval x = cx at hx
      cases hx with
      | ptr _ _ _ _ ad blk hid hf hh =>
        exact .still hs (cv := .pointer (some ad)) (by simp [execOp, hev]) (.ptr _ _ _ _ ad blk hid hf hh)
    · rename_i cs e
      simp only [Option.some.injEq, Prod.mk.injEq] at h
      obtain ⟨rfl, rfl⟩ := h
      rw [e] at hx
      generalize hev : a.eval x = cx at hx
      cases hx with
      | row _ b o hA hc hv =>
        exact .still hs (cv := .pointer (some ⟨b, o, none⟩)) (by simp [execOp, hev]) (.row _ b o hA hc hv)
    · rename_i f cs e
      simp only [Option.some.injEq, Prod.mk.injEq] at h
      obtain ⟨rfl, rfl⟩ := h
      rw [e] at hx
      generalize hev : a.eval x = cx at hx
      cases hx with
      | fn _ _ vs hl hv =>
        exact .still hs (cv := .func (.func f) #[] vs) (by simp [execOp, hev]) (.fn _ _ vs hl hv)
    · cases h
  case fieldAddr s x f =>
    simp only [opE, Option.map_eq_some_iff, Prod.mk.injEq] at h
    obtain ⟨y, hy, rfl, rfl⟩ := h
    exact .ofs hs (fieldAt_sound (ht.eval x) hy) rfl
  case field s x f =>
    simp only [opE, Option.map_eq_some_iff, Prod.mk.injEq] at h
    obtain ⟨y, hy, rfl, rfl⟩ := h
    exact .ofs hs (fieldV_sound (ht.eval x) hy) rfl
  case indexAddr t x i =>
    simp only [opE, Option.map_eq_some_iff, Prod.mk.injEq] at h
    obtain ⟨y, hy, rfl, rfl⟩ := h
    exact .ofs hs (indexAt_sound hs (ht.eval x) (ht.eval i) hy) rfl
  case extract x i =>
    simp only [opE] at h
    have hx := ht.eval x
    split at h
    · rename_i vs e
      simp only [Option.map_eq_some_iff, Prod.mk.injEq] at h
      obtain ⟨y, hy, rfl, rfl⟩ := h
      rw [e] at hx
      generalize hev : a.eval x = cx at hx
      cases hx with
      | tup _ cs hl hv =>
        have hlt := (List.getElem?_eq_some_iff.1 hy).1
        have e1 : cs[i]? = some (cs[i]'(hl ▸ hlt)) := by simp
        exact .still hs (cv := cs[i]'(hl ▸ hlt)) (by simp [execOp, hev, Instr.extract, e1]) (hv i _ _ hy e1)
    · cases h
  case makeFunc fn first caps =>
    cases fn with
    | func f =>
      simp only [opE] at h
      split at h
      · rename_i hf
        simp only [Option.some.injEq, Prod.mk.injEq] at h
        obtain ⟨rfl, rfl⟩ := h
        have e : first = #[] := by simpa using hf
        subst e
        refine .still hs (cv := .func (.func f) #[] (caps.map a.eval)) (by simp [execOp, Instr.makeFunc]) (.fn _ _ _ (by simp) fun i c cv h1 h2 => ?_)
        simp only [List.getElem?_map, Option.map_eq_some_iff] at h1
        obtain ⟨y, hy, rfl⟩ := h1
        have : caps[i]? = some y := by simpa using hy
        simp [this] at h2; subst h2
        exact ht.eval y
      · cases h
    | _ => exact dflt h
  case makeMap t r =>
    cases r with
    | none =>
      simp only [opE, Option.map_eq_some_iff, Prod.mk.injEq] at h
      obtain ⟨H1, hp, rfl, rfl⟩ := h
      obtain ⟨p1, _, _⟩ := place_get hp
      have ex := newObj_sound hs hp (.map #[] 0) (fun keep => ⟨#[], by rw [upd_same]; exact alloc_new w _, by simp, fun i k v a => by simp at a⟩)
      refine ⟨_, .map (some w.heap.size), _, N, A, _, by simp [execOp, Instr.makeMap], .inl rfl, ex, ?_⟩
      have := VR.mp (A := A) (ι := upd ι nid ⟨w.heap.size, 0, 0⟩) (H := H1) (w := w.alloc (.map #[] 0)) nid _ p1 (by simp) (by simp)
      rw [upd_same] at this; exact this
    | some r => exact dflt h
  case makeSlice t l c =>
    simp only [opE] at h
    split at h
    case h_2 => cases h
    rename_i e n m hu hn hm
    split at h
    case isFalse => cases h
    rename_i hc
    obtain ⟨c0, rfl, c1, c2, c3⟩ := hc
    simp only [Option.bind_eq_some_iff] at h
    obtain ⟨z, hz, h⟩ := h
    split at h
    · cases h
    rename_i hc2
    simp only [Option.map_eq_some_iff, Prod.mk.injEq] at h
    obtain ⟨H1, hp, rfl, rfl⟩ := h
    have hc3 : z.cells.length = sizeT E.P e ∧ z.cells.all scalarV = true := by
      rw [not_or] at hc2
      exact ⟨by simpa using hc2.1, by simpa using hc2.2⟩
    obtain ⟨k, hk⟩ := intOf_eq hn (ht.eval l)
    obtain ⟨k', hk'⟩ := intOf_eq hm (ht.eval c)
    exact .of (makeSlice_sound hs hk hk' hu c0 c1 c2 c3 hz hc3.1 hc3.2 hp) rfl
  case lookup t m k ok =>
    simp only [opE, Option.map_eq_some_iff, Prod.mk.injEq] at h
    obtain ⟨y, hy, rfl, rfl⟩ := h
    exact .ofs hs (lookup_sound hs (ht.eval m) (ht.eval k) hy) rfl
  case mapUpdate t m k x =>
    simp only [opE, Option.map_eq_some_iff, Prod.mk.injEq] at h
    obtain ⟨H1, h1, rfl, rfl⟩ := h
    exact .ofu (mapPut_sound hs (ht.eval m) (ht.eval k) (ht.eval x) h1) rfl
  case insert t m k x =>
    simp only [opE, Option.map_eq_some_iff, Prod.mk.injEq] at h
    obtain ⟨H1, h1, rfl, rfl⟩ := h
    exact .ofu (mapPut_sound hs (ht.eval m) (ht.eval k) (ht.eval x) h1) rfl
  case range t x =>
    simp only [opE] at h
    split at h
    case h_2 => cases h
    rename_i s hu hx
    simp only [Option.map_eq_some_iff, Prod.mk.injEq] at h
    obtain ⟨H1, hp, rfl, rfl⟩ := h
    have e : a.eval x = .string s := litOf_eq (v := .lit (.string s)) rfl (hx ▸ ht.eval x)
    obtain ⟨p1, _, _⟩ := place_get hp
    have ex := newObj_sound hs hp (.stringIter s 0) (fun keep => by simp only [BR, upd_same]; exact alloc_new w _)
    refine ⟨_, .pointer (some ⟨w.heap.size, 0, none⟩), _, N, A, _, by simp [execOp, Instr.range, run_underlying hu, e], .inl rfl, ex, ?_⟩
    have := VR.it (A := A) (ι := upd ι nid ⟨w.heap.size, 0, 0⟩) (H := H1) (w := w.alloc (.stringIter s 0)) nid _ p1 (by simp) (by simp)
    rw [upd_same] at this; exact this
  case next x b =>
    cases b with
    | false => exact dflt h
    | true =>
      simp only [opE] at h
      have hx := ht.eval x
      split at h
      case h_2 => cases h
      rename_i id e
      split at h
      case h_2 => cases h
      rename_i s p hid
      rw [e] at hx
      have hn := next_sound (P := E.P) hs hid hx ty
      split at h
      · rename_i hp
        rw [if_pos hp] at hn
        simp only [Option.some.injEq, Prod.mk.injEq] at h
        obtain ⟨rfl, rfl⟩ := h
        exact .of hn rfl
      · rename_i hp
        rw [if_neg hp] at hn
        simp only [Option.some.injEq, Prod.mk.injEq] at h
        obtain ⟨rfl, rfl⟩ := h
        exact .of hn rfl
  case slice t x lo hi mx =>
    cases mx with
    | some m => exact dflt h
    | none =>
      simp only [opE] at h
      split at h
      · exact dflt h
      · simp only [Option.map_eq_some_iff, Prod.mk.injEq] at h
        obtain ⟨y, hy, rfl, rfl⟩ := h
        exact .ofs hs (sliceAt_sound hs (ht.eval x) (OR.of ht lo) (OR.of ht hi) hy) rfl
  case binOp op t x y yt =>
    simp only [opE] at h
    split at h
    · rename_i hn
      obtain ⟨h1, h2, _, _⟩ := nilCmp_sound hn (ht.eval x) (ht.eval y)
      obtain ⟨b1, b2⟩ := binOp_solid h2 h1
      split at h
      · simp only [Option.some.injEq, Prod.mk.injEq] at h
        obtain ⟨rfl, rfl⟩ := h
        exact .still hs (cv := .bool false) (by simp [execOp, eqGuard_solid h2, b1]) (.lit _)
      · simp only [Option.some.injEq, Prod.mk.injEq] at h
        obtain ⟨rfl, rfl⟩ := h
        exact .still hs (cv := .bool true) (by simp [execOp, eqGuard_solid h2, b2]) (.lit _)
      · cases h
    · exact dflt h
  case call c =>
    obtain ⟨callee, args, ats⟩ := c
    cases callee with
    | builtin b =>
      simp only [opE] at h
      split at h
      · -- append
        rename_i s x hargs
        obtain ⟨x1, x2, rfl, rfl, rfl⟩ := args2 hargs
        exact .of (append_sound hs (ty := ty) (ht.eval x1) (ht.eval x2) h) (by simp [execOp, resolve, invoke, Go.builtin])
      · -- len
        rename_i id vr off n hargs
        obtain ⟨x1, rfl, e1⟩ := args1 hargs
        split at h
        case isFalse => cases h
        rename_i hu
        obtain ⟨t, e, h0, hu⟩ := len_sl hu
        simp only [Option.some.injEq, Prod.mk.injEq] at h
        obtain ⟨rfl, rfl⟩ := h
        have hx := ht.eval x1
        rw [e1] at hx
        generalize hev : a.eval x1 = cx at hx
        cases hx with
        | own _ _ _ _ ad cap blk hid hf hh =>
          exact .still hs (cv := goInt n) (by simp [execOp, resolve, invoke, Go.builtin, Builtin.len_, hev, h0, run_underlying hu]) (.lit _)
      · rename_i rows hargs
        obtain ⟨x1, rfl, e1⟩ := args1 hargs
        split at h
        case isFalse => cases h
        rename_i hu
        obtain ⟨t, e, h0, hu⟩ := len_sl hu
        simp only [Option.some.injEq, Prod.mk.injEq] at h
        obtain ⟨rfl, rfl⟩ := h
        have hx := ht.eval x1
        rw [e1] at hx
        generalize hev : a.eval x1 = cx at hx
        cases hx with
        | arr _ b o cap sz hA hcap hsz hc hv =>
          exact .still hs (cv := goInt rows.length) (by simp [execOp, resolve, invoke, Go.builtin, Builtin.len_, hev, h0, run_underlying hu]) (.lit _)
      · -- unsafe.SliceData
        rename_i id vr off n hargs
        obtain ⟨x1, rfl, e1⟩ := args1 hargs
        simp only [Option.map_eq_some_iff, Prod.mk.injEq] at h
        obtain ⟨z, hz, rfl, rfl⟩ := h
        have hx := ht.eval x1
        rw [e1] at hx
        exact .of (sliceData_sound hs (ts := ats) (ty := ty) hx hz) (by simp [execOp, resolve, invoke, Go.builtin])
      · -- unsafe.String
        rename_i id vr n hargs
        obtain ⟨x1, x2, rfl, e1, e2⟩ := args2 hargs
        have hx := ht.eval x1
        have hy := ht.eval x2
        rw [e1] at hx
        rw [e2] at hy
        have hy' : a.eval x2 = .int .i64 n := litOf_eq (v := .lit (.int .i64 n)) rfl hy
        exact .of (strData_sound hs (ty := ty) hx h) (by simp [execOp, resolve, invoke, Go.builtin, hy'])
      · exact dflt h
    | _ => exact dflt h
  all_goals exact dflt h
end
end Go.Proofs.YtpmdlaojndejfaaGreatDoor.E
