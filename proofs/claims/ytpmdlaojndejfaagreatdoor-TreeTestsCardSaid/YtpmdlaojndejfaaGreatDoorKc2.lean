/- The evaluator's operations against the machine's: the theorem. -/
import Derived.Test.YtpmdlaojndejfaaGreatDoorKc1
import Derived.TacticsIn
import Derived.RangeFuncCalls
set_option linter.unusedVariables false
set_option linter.unusedSimpArgs false
namespace Go.Proofs.YtpmdlaojndejfaaGreatDoor.E
open Go

section
variable {N A : Nat → Prop} {ι : Nat → Lk} {H H' : Heap} {w : World}

theorem eq_slice {P : Program} {t e : TypeId} (hu : P.underlying t = some (.slice e)) (a : Addr) (n c m k : Nat) (w : World) : (Op.equal t (.slice (some a) n c) (.slice none m k)).run P w = .ok false w := by
  have e1 : Op.equal t (.slice (some a) n c) (.slice none m k) = Op.equalIn (9999 + 1) t (.slice (some a) n c) (.slice none m k) := rfl
  rw [e1]; generalize 9999 = d; unfold Op.equalIn; simp [run_underlying hu]
theorem eq_ptr {P : Program} {t e : TypeId} (hu : P.underlying t = some (.pointer e)) (a : Addr) (w : World) : (Op.equal t (.pointer (some a)) (.pointer none)).run P w = .ok false w := by
  have e1 : Op.equal t (.pointer (some a)) (.pointer none) = Op.equalIn (9999 + 1) t (.pointer (some a)) (.pointer none) := rfl
  rw [e1]; generalize 9999 = d; unfold Op.equalIn; simp [run_underlying hu]
theorem eq_fn {P : Program} {t : TypeId} {p r : Array TypeId} {v : Bool} (hu : P.underlying t = some (.func p r v)) (f : Fn) (x y : Array Value) (w : World) : (Op.equal t (.func f x y) .nilFunc).run P w = .ok false w := by
  have e1 : Op.equal t (.func f x y) .nilFunc = Op.equalIn (9999 + 1) t (.func f x y) .nilFunc := rfl
  rw [e1]; generalize 9999 = d; unfold Op.equalIn; simp [run_underlying hu]

/-- What 'nil' is compared with. -/
def Solid : Value → Prop
  | .slice _ _ _ | .pointer _ | .func _ _ _ => True
  | _ => False

theorem nilCmp_sound {P : Program} {t : TypeId} {x y : V} {cx cy : Value} (h : nilCmp P t x y = true) (hx : VR A ι H w x cx) (hy : VR A ι H w y cy) :
    (Op.equal t cx cy).run P w = .ok false w ∧ Solid cx ∧ (∀ k n, cy ≠ .int k n) ∧ (∀ a, cy ≠ .pointer (some a)) := by
  unfold nilCmp at h
  split at h
  · rename_i e i v o l hu
    cases hy with
    | lit _ =>
      cases hx with
      | own _ _ _ _ ad cap blk hid hf hh => exact ⟨eq_slice hu _ _ _ _ _ _, trivial, by simp, by simp⟩
  · rename_i e rows hu
    cases hy with
    | lit _ =>
      cases hx with
      | arr _ b o cap sz hA hcap hsz hc hv => exact ⟨eq_slice hu _ _ _ _ _ _, trivial, by simp, by simp⟩
  · rename_i p r v f cs hu
    cases hy with
    | lit _ =>
      cases hx with
      | fn _ _ vs hl hv => exact ⟨eq_fn hu _ _ _ _, trivial, by simp, by simp⟩
  · rename_i e i v r o hu
    cases hy with
    | lit _ =>
      cases hx with
      | ptr _ _ _ _ ad blk hid hf hh => exact ⟨eq_ptr hu _ _, trivial, by simp, by simp⟩
  · rename_i e cs hu
    cases hy with
    | lit _ =>
      cases hx with
      | row _ b o hA hc hv => exact ⟨eq_ptr hu _ _, trivial, by simp, by simp⟩
  · cases h

theorem eqGuard_solid {P : Program} {op : BinOp} {t : TypeId} {x y : Operand} {cx cy : Value} (h : Solid cx) (w : World) : (eqGuard op t x y cx cy).run P w = .ok () w := by
  unfold eqGuard
  cases cx <;> first | exact h.elim | (cases op <;> simp)
theorem binOp_solid {P : Program} {t : TypeId} {cx cy : Value} (h : Solid cx) (he : (Op.equal t cx cy).run P w = .ok false w) :
    (Go.binOp .eql t cx cy).run P w = .ok (.bool false) w ∧ (Go.binOp .neq t cx cy).run P w = .ok (.bool true) w := by
  cases cx <;> first | exact h.elim | (constructor <;> simp [Go.binOp, he])

theorem args1 {tmps : List V} {args : Array Operand} {v : V} (h : args.toList.map (evalO tmps) = [v]) : ∃ x, args = #[x] ∧ evalO tmps x = v := by
  obtain ⟨l⟩ := args
  cases l with
  | nil => simp at h
  | cons x l =>
    cases l with
    | nil => simp at h; exact ⟨x, rfl, h⟩
    | cons y l => simp at h
theorem args2 {tmps : List V} {args : Array Operand} {v u : V} (h : args.toList.map (evalO tmps) = [v, u]) : ∃ x y, args = #[x, y] ∧ evalO tmps x = v ∧ evalO tmps y = u := by
  obtain ⟨l⟩ := args
  cases l with
  | nil => simp at h
  | cons x l =>
    cases l with
    | nil => simp at h
    | cons y l =>
      cases l with
      | nil => simp at h; exact ⟨x, y, rfl, h.1, h.2⟩
      | cons z l => simp at h
theorem len_sl {P : Program} {ts : Array TypeId} (h : lenSl P ts = true) : ∃ t e, ts[0]? = some t ∧ P.underlying t = some (.slice e) := by
  unfold lenSl at h
  split at h
  · rename_i t ht
    split at h
    · rename_i e hu; exact ⟨t, e, ht, hu⟩
    · cases h
  · cases h

set_option maxHeartbeats 4000000 in
theorem opE_sound {E : Env} (hs : SR N A ι H w) (hg : GR E A ι H w) {tmps : List V} {a : Act} (ht : TR A ι H w tmps a.tmps) {nid : Nat} {o : Oper} {v : V} (h : opE E tmps nid H o = some (v, H')) :
    OpOut E.P N A ι H w (execOp a.eval o) v H' := by
  obtain ⟨dst, op, ty, pos, after, guard⟩ := o
  have dflt : ∀ {o : Oper}, (toOps E.P tmps o).map (fun x => (x, H)) = some (v, H') → OpOut E.P N A ι H w (execOp a.eval o) v H' := by
    intro o h
    simp only [Option.map_eq_some_iff, Prod.mk.injEq] at h
    obtain ⟨x, hx, rfl, rfl⟩ := h
    exact .tt hs (toOps_sound ht hx)
  cases op
  case move x =>
    simp only [opE, Option.some.injEq, Prod.mk.injEq] at h
    obtain ⟨rfl, rfl⟩ := h
    exact .still hs (cv := a.eval x) rfl (ht.eval x)
  case assign x =>
    simp only [opE, Option.some.injEq, Prod.mk.injEq] at h
    obtain ⟨rfl, rfl⟩ := h
    exact .still hs (cv := a.eval x) rfl (ht.eval x)
  case pick c x y =>
    simp only [opE] at h
    split at h
    · rename_i t hc
      simp only [Option.some.injEq, Prod.mk.injEq] at h
      obtain ⟨rfl, rfl⟩ := h
      have e : a.eval c = .bool t := litOf_eq (v := .lit (.bool t)) rfl (hc ▸ ht.eval c)
      refine .still hs (cv := if t then a.eval x else a.eval y) (by simp [execOp, e, asBool]) ?_
      cases t
      · exact ht.eval y
      · exact ht.eval x
    · cases h
  case alloc t =>
    simp only [opE, Option.bind_eq_some_iff] at h
    obtain ⟨z, hz, h⟩ := h
    split at h
    · cases h
    rename_i hsc
    simp only [Option.map_eq_some_iff, Prod.mk.injEq] at h
    obtain ⟨H1, hp, rfl, rfl⟩ := h
    obtain ⟨i, zv, hi, hzv, rfl⟩ := zeroT_some hz
    obtain ⟨w', ι', h1, h2, h3⟩ := newVar_sound (P := E.P) hs (VR.ofValue zv) (by simpa using hsc) hp t (.inr (Nat.mul_div_cancel _ (by decide)))
    refine ⟨_, _, w', N, A, ι', ?_, .inl rfl, h2, h3⟩
    simp [execOp, Instr.alloc, zeroValue, typeInfo, hi, hzv, h1]
  case box t x =>
    simp only [opE] at h
    split at h
    · cases h
    rename_i hsc
    simp only [Option.map_eq_some_iff, Prod.mk.injEq] at h
    obtain ⟨H1, hp, rfl, rfl⟩ := h
    obtain ⟨w', ι', h1, h2, h3⟩ := newVar_sound (P := E.P) hs (ht.eval x) (by simpa using hsc) hp t (.inl (Nat.zero_div _))
    refine ⟨_, _, w', N, A, ι', ?_, .inl rfl, h2, h3⟩
    simp [execOp, Instr.box, h1]
  case build t ps =>
    simp only [opE, Option.map_eq_some_iff, Prod.mk.injEq] at h
    obtain ⟨x, hx, rfl, rfl⟩ := h
    exact .ofs hs (build_sound (PR.of ht ps) hx) rfl
  case buildSlice t n ps =>
    simp only [opE] at h
    split at h
    case h_2 => cases h
    rename_i e hu
    split at h
    case isFalse => cases h
    rename_i hc
    simp only [Option.bind_eq_some_iff] at h
    obtain ⟨z, hz, h⟩ := h
    split at h
    · cases h
    rename_i hc2
    simp only [Option.bind_eq_some_iff, Option.map_eq_some_iff, Prod.mk.injEq] at h
    obtain ⟨cs, hcs, H1, hp, rfl, rfl⟩ := h
    have hc3 : z.cells.length = sizeT E.P e ∧ z.cells.all scalarV = true := by
      rw [not_or] at hc2
      exact ⟨by simpa using hc2.1, by simpa using hc2.2⟩
    exact .of (buildSlice_sound hs (PR.of ht ps) hu hc.1 hc.2 hz hc3.1 hc3.2 hcs hp) rfl
  case load t x =>
    simp only [opE, Option.map_eq_some_iff, Prod.mk.injEq] at h
    obtain ⟨y, hy, rfl, rfl⟩ := h
    exact .ofs hs (loadAt_sound hs hg (ht.eval x) hy) rfl
  case store t x y =>
    simp only [opE, Option.map_eq_some_iff, Prod.mk.injEq] at h
    obtain ⟨H1, h1, rfl, rfl⟩ := h
    exact .ofu (storeAt_sound hs (ht.eval x) (ht.eval y) h1) rfl
  case nilCheck x =>
    simp only [opE] at h
    have hx := ht.eval x
    split at h
    · rename_i i b c d e
      simp only [Option.some.injEq, Prod.mk.injEq] at h
      obtain ⟨rfl, rfl⟩ := h
      rw [e] at hx
      generalize hev : a.eval x = cx at hx
      cases hx with
      | ptr _ _ _ _ ad blk hid hf hh =>
        exact .still hs (cv := .pointer (some ad)) (by simp [execOp, hev]) (.ptr _ _ _ _ ad blk hid hf hh)
    · rename_i cs e
      simp only [Option.some.injEq, Prod.mk.injEq] at h
      obtain ⟨rfl, rfl⟩ := h
      rw [e] at hx
      generalize hev : a.eval x = cx at hx
      cases hx with
      | row _ b o hA hc hv =>
        exact .still hs (cv := .pointer (some ⟨b, o, none⟩)) (by simp [execOp, hev]) (.row _ b o hA hc hv)
    · rename_i f cs e
      simp only [Option.some.injEq, Prod.mk.injEq] at h
      obtain ⟨rfl, rfl⟩ := h
      rw [e] at hx
      generalize hev : a.eval x = cx at hx
      cases hx with
      | fn _ _ vs hl hv =>
        exact .still hs (cv := .func (.func f) #[] vs) (by simp [execOp, hev]) (.fn _ _ vs hl hv)
    · cases h
  case fieldAddr s x f =>
    simp only [opE, Option.map_eq_some_iff, Prod.mk.injEq] at h
    obtain ⟨y, hy, rfl, rfl⟩ := h
    exact .ofs hs (fieldAt_sound (ht.eval x) hy) rfl
  case field s x f =>
    simp only [opE, Option.map_eq_some_iff, Prod.mk.injEq] at h
    obtain ⟨y, hy, rfl, rfl⟩ := h
    exact .ofs hs (fieldV_sound (ht.eval x) hy) rfl
  case indexAddr t x i =>
    simp only [opE, Option.map_eq_some_iff, Prod.mk.injEq] at h
    obtain ⟨y, hy, rfl, rfl⟩ := h
    exact .ofs hs (indexAt_sound hs (ht.eval x) (ht.eval i) hy) rfl
  case extract x i =>
    simp only [opE] at h
    have hx := ht.eval x
    split at h
    · rename_i vs e
      simp only [Option.map_eq_some_iff, Prod.mk.injEq] at h
      obtain ⟨y, hy, rfl, rfl⟩ := h
      rw [e] at hx
      generalize hev : a.eval x = cx at hx
      cases hx with
      | tup _ cs hl hv =>
        have hlt := (List.getElem?_eq_some_iff.1 hy).1
        have e1 : cs[i]? = some (cs[i]'(hl ▸ hlt)) := by simp
        exact .still hs (cv := cs[i]'(hl ▸ hlt)) (by simp [execOp, hev, Instr.extract, e1]) (hv i _ _ hy e1)
    · cases h
  case makeFunc fn first caps =>
    cases fn with
    | func f =>
      simp only [opE] at h
      split at h
      · rename_i hf
        simp only [Option.some.injEq, Prod.mk.injEq] at h
        obtain ⟨rfl, rfl⟩ := h
        have e : first = #[] := by simpa using hf
        subst e
        refine .still hs (cv := .func (.func f) #[] (caps.map a.eval)) (by simp [execOp, Instr.makeFunc]) (.fn _ _ _ (by simp) fun i c cv h1 h2 => ?_)
        simp only [List.getElem?_map, Option.map_eq_some_iff] at h1
        obtain ⟨y, hy, rfl⟩ := h1
        have : caps[i]? = some y := by simpa using hy
        simp [this] at h2; subst h2
        exact ht.eval y
      · cases h
    | _ => exact dflt h
  case makeMap t r =>
    cases r with
    | none =>
      simp only [opE, Option.map_eq_some_iff, Prod.mk.injEq] at h
      obtain ⟨H1, hp, rfl, rfl⟩ := h
      obtain ⟨p1, _, _⟩ := place_get hp
      have ex := newObj_sound hs hp (.map #[] 0) (fun keep => ⟨#[], by rw [upd_same]; exact alloc_new w _, by simp, fun i k v a => by simp at a⟩)
      refine ⟨_, .map (some w.heap.size), _, N, A, _, by simp [execOp, Instr.makeMap], .inl rfl, ex, ?_⟩
      have := VR.mp (A := A) (ι := upd ι nid ⟨w.heap.size, 0, 0⟩) (H := H1) (w := w.alloc (.map #[] 0)) nid _ p1 (by simp) (by simp)
      rw [upd_same] at this; exact this
    | some r => exact dflt h
  case makeSlice t l c =>
    simp only [opE] at h
    split at h
    case h_2 => cases h
    rename_i e n m hu hn hm
    split at h
    case isFalse => cases h
    rename_i hc
    obtain ⟨c0, rfl, c1, c2, c3⟩ := hc
    simp only [Option.bind_eq_some_iff] at h
    obtain ⟨z, hz, h⟩ := h
    split at h
    · cases h
    rename_i hc2
    simp only [Option.map_eq_some_iff, Prod.mk.injEq] at h
    obtain ⟨H1, hp, rfl, rfl⟩ := h
    have hc3 : z.cells.length = sizeT E.P e ∧ z.cells.all scalarV = true := by
      rw [not_or] at hc2
      exact ⟨by simpa using hc2.1, by simpa using hc2.2⟩
    obtain ⟨k, hk⟩ := intOf_eq hn (ht.eval l)
    obtain ⟨k', hk'⟩ := intOf_eq hm (ht.eval c)
    exact .of (makeSlice_sound hs hk hk' hu c0 c1 c2 c3 hz hc3.1 hc3.2 hp) rfl
  case lookup t m k ok =>
    simp only [opE, Option.map_eq_some_iff, Prod.mk.injEq] at h
    obtain ⟨y, hy, rfl, rfl⟩ := h
    exact .ofs hs (lookup_sound hs (ht.eval m) (ht.eval k) hy) rfl
  case mapUpdate t m k x =>
    simp only [opE, Option.map_eq_some_iff, Prod.mk.injEq] at h
    obtain ⟨H1, h1, rfl, rfl⟩ := h
    exact .ofu (mapPut_sound hs (ht.eval m) (ht.eval k) (ht.eval x) h1) rfl
  case insert t m k x =>
    simp only [opE, Option.map_eq_some_iff, Prod.mk.injEq] at h
    obtain ⟨H1, h1, rfl, rfl⟩ := h
    exact .ofu (mapPut_sound hs (ht.eval m) (ht.eval k) (ht.eval x) h1) rfl
  case range t x =>
    simp only [opE] at h
    split at h
    case h_2 => cases h
    rename_i s hu hx
    simp only [Option.map_eq_some_iff, Prod.mk.injEq] at h
    obtain ⟨H1, hp, rfl, rfl⟩ := h
    have e : a.eval x = .string s := litOf_eq (v := .lit (.string s)) rfl (hx ▸ ht.eval x)
    obtain ⟨p1, _, _⟩ := place_get hp
    have ex := newObj_sound hs hp (.stringIter s 0) (fun keep => by simp only [BR, upd_same]; exact alloc_new w _)
    refine ⟨_, .pointer (some ⟨w.heap.size, 0, none⟩), _, N, A, _, by simp [execOp, Instr.range, run_underlying hu, e], .inl rfl, ex, ?_⟩
    have := VR.it (A := A) (ι := upd ι nid ⟨w.heap.size, 0, 0⟩) (H := H1) (w := w.alloc (.stringIter s 0)) nid _ p1 (by simp) (by simp)
    rw [upd_same] at this; exact this
  case next x b =>
    cases b with
    | false => exact dflt h
    | true =>
      simp only [opE] at h
      have hx := ht.eval x
      split at h
      case h_2 => cases h
      rename_i id e
      split at h
      case h_2 => cases h
      rename_i s p hid
      rw [e] at hx
      have hn := next_sound (P := E.P) hs hid hx ty
      split at h
      · rename_i hp
        rw [if_pos hp] at hn
        simp only [Option.some.injEq, Prod.mk.injEq] at h
        obtain ⟨rfl, rfl⟩ := h
        exact .of hn rfl
      · rename_i hp
        rw [if_neg hp] at hn
        simp only [Option.some.injEq, Prod.mk.injEq] at h
        obtain ⟨rfl, rfl⟩ := h
        exact .of hn rfl
  case slice t x lo hi mx =>
    cases mx with
    | some m => exact dflt h
    | none =>
      simp only [opE] at h
      split at h
      · exact dflt h
      · simp only [Option.map_eq_some_iff, Prod.mk.injEq] at h
        obtain ⟨y, hy, rfl, rfl⟩ := h
        exact .ofs hs (sliceAt_sound hs (ht.eval x) (OR.of ht lo) (OR.of ht hi) hy) rfl
  case binOp op t x y yt =>
    simp only [opE] at h
    split at h
    · rename_i hn
      obtain ⟨h1, h2, _, _⟩ := nilCmp_sound hn (ht.eval x) (ht.eval y)
      obtain ⟨b1, b2⟩ := binOp_solid h2 h1
      split at h
      · simp only [Option.some.injEq, Prod.mk.injEq] at h
        obtain ⟨rfl, rfl⟩ := h
        exact .still hs (cv := .bool false) (by simp [execOp, eqGuard_solid h2, b1]) (.lit _)
      · simp only [Option.some.injEq, Prod.mk.injEq] at h
        obtain ⟨rfl, rfl⟩ := h
        exact .still hs (cv := .bool true) (by simp [execOp, eqGuard_solid h2, b2]) (.lit _)
      · cases h
    · exact dflt h
  case call c =>
    obtain ⟨callee, args, ats⟩ := c
    cases callee with
    | builtin b =>
      simp only [opE] at h
      split at h
      · -- append
        rename_i s x hargs
        obtain ⟨x1, x2, rfl, rfl, rfl⟩ := args2 hargs
        exact .of (append_sound hs (ty := ty) (ht.eval x1) (ht.eval x2) h) (by simp [execOp, resolve, invoke, Go.builtin])
      · -- len
        rename_i id vr off n hargs
        obtain ⟨x1, rfl, e1⟩ := args1 hargs
        split at h
        case isFalse => cases h
        rename_i hu
        obtain ⟨t, e, h0, hu⟩ := len_sl hu
        simp only [Option.some.injEq, Prod.mk.injEq] at h
        obtain ⟨rfl, rfl⟩ := h
        have hx := ht.eval x1
        rw [e1] at hx
        generalize hev : a.eval x1 = cx at hx
        cases hx with
        | own _ _ _ _ ad cap blk hid hf hh =>
          exact .still hs (cv := goInt n) (by simp [execOp, resolve, invoke, Go.builtin, Builtin.len_, hev, h0, run_underlying hu]) (.lit _)
      · rename_i rows hargs
        obtain ⟨x1, rfl, e1⟩ := args1 hargs
        split at h
        case isFalse => cases h
        rename_i hu
        obtain ⟨t, e, h0, hu⟩ := len_sl hu
        simp only [Option.some.injEq, Prod.mk.injEq] at h
        obtain ⟨rfl, rfl⟩ := h
        have hx := ht.eval x1
        rw [e1] at hx
        generalize hev : a.eval x1 = cx at hx
        cases hx with
        | nilA => exact .still hs (cv := goInt 0) (by simp [execOp, resolve, invoke, Go.builtin, Builtin.len_, hev, h0, run_underlying hu]) (.lit _)
        | arr _ b o cap sz hA hcap hsz hc hv =>
          exact .still hs (cv := goInt rows.length) (by simp [execOp, resolve, invoke, Go.builtin, Builtin.len_, hev, h0, run_underlying hu]) (.lit _)
      · -- unsafe.SliceData
        rename_i id vr off n hargs
        obtain ⟨x1, rfl, e1⟩ := args1 hargs
        simp only [Option.map_eq_some_iff, Prod.mk.injEq] at h
        obtain ⟨z, hz, rfl, rfl⟩ := h
        have hx := ht.eval x1
        rw [e1] at hx
        exact .of (sliceData_sound hs (ts := ats) (ty := ty) hx hz) (by simp [execOp, resolve, invoke, Go.builtin])
      · -- unsafe.String
        rename_i id vr n hargs
        obtain ⟨x1, x2, rfl, e1, e2⟩ := args2 hargs
        have hx := ht.eval x1
        have hy := ht.eval x2
        rw [e1] at hx
        rw [e2] at hy
        have hy' : a.eval x2 = .int .i64 n := litOf_eq (v := .lit (.int .i64 n)) rfl hy
        exact .of (strData_sound hs (ty := ty) hx h) (by simp [execOp, resolve, invoke, Go.builtin, hy'])
      · exact dflt h
    | _ => exact dflt h
  all_goals exact dflt h
end
end Go.Proofs.YtpmdlaojndejfaaGreatDoor.E

/- A value as somebody sees it who never writes; slices handed back. -/
set_option linter.unusedVariables false
set_option linter.unusedSimpArgs false
namespace Go.Proofs.YtpmdlaojndejfaaGreatDoor.E
open Go

section
variable {N A : Nat → Prop} {ι : Nat → Lk} {H H' : Heap} {w : World}

/-- All that may be read: what nobody writes, and the blocks of one's own. -/
def AF (A : Nat → Prop) (ι : Nat → Lk) (H : Heap) : Nat → Prop := fun b => A b ∨ ∃ id blk, H[id]? = some blk ∧ blk.alive ∧ b = (ι id).b

theorem flat_lit {rows : List (List V)} (h : flatR rows = true) {i j : Nat} {r : List V} {c : V} (a : rows[i]? = some r) (b : r[j]? = some c) : ∃ x, c = .lit x := by
  have h1 := List.all_eq_true.1 (List.all_eq_true.1 h r (List.mem_of_getElem? a)) c (List.mem_of_getElem? b)
  cases c <;> simp [V.isLit] at h1
  exact ⟨_, rfl⟩
theorem lit_eq {x : Value} {cv : Value} (h : VR A ι H w (.lit x) cv) : cv = x := by cases h; rfl

theorem freeze_sound (hs : SR N A ι H w) (ι2 : Nat → Lk) : ∀ k,
    (∀ (v v' : V) (cv : Value), freeze H k v = some v' → VR A ι H w v cv → VR (AF A ι H) ι2 [] w v' cv) ∧
    (∀ (vs vs' : List V), freezes H k vs = some vs' → vs'.length = vs.length ∧ ∀ (i : Nat) (v' : V), vs'[i]? = some v' → ∃ v, vs[i]? = some v ∧ ∀ cv, VR A ι H w v cv → VR (AF A ι H) ι2 [] w v' cv) ∧
    (∀ (rs rs' : List (List V)), freezess H k rs = some rs' → rs'.length = rs.length ∧ ∀ (i : Nat) (r' : List V), rs'[i]? = some r' → ∃ r, rs[i]? = some r ∧ r'.length = r.length ∧
      ∀ (j : Nat) (v' : V), r'[j]? = some v' → ∃ v, r[j]? = some v ∧ ∀ cv, VR A ι H w v cv → VR (AF A ι H) ι2 [] w v' cv)
  | 0 => ⟨fun v v' cv h => by simp [freeze] at h, fun vs vs' h => by simp [freezes] at h, fun rs rs' h => by simp [freezess] at h⟩
  | k + 1 => by
    obtain ⟨ih1, ih2, ih3⟩ := freeze_sound hs ι2 k
    have sub : ∀ b, A b → AF A ι H b := fun b hb => .inl hb
    refine ⟨fun v v' cv h hv => ?_, fun vs vs' h => ?_, fun rs rs' h => ?_⟩
    · have list : ∀ (cs cs' : List V) (vs : Array Value), freezes H k cs = some cs' → cs.length = vs.size → (∀ (i : Nat) (c : V) (cv : Value), cs[i]? = some c → vs[i]? = some cv → VR A ι H w c cv) →
          cs'.length = vs.size ∧ ∀ (i : Nat) (c : V) (cv : Value), cs'[i]? = some c → vs[i]? = some cv → VR (AF A ι H) ι2 [] w c cv := by
        intro cs cs' vs hf hl hv
        obtain ⟨q1, q2⟩ := ih2 cs cs' hf
        refine ⟨q1.trans hl, fun i c cv a b => ?_⟩
        obtain ⟨v0, r1, r2⟩ := q2 i c a
        exact r2 cv (hv i v0 cv r1 b)
      cases hv with
      | lit _ => simp [freeze] at h; subst h; exact .lit _
      | nilA p => simp [freeze] at h; subst h; exact .nilA p
      | arr rows b o cap sz hA hcap hsz hc hv =>
        simp [freeze] at h; subst h
        exact .arr rows b o cap sz (sub b hA) hcap hsz hc fun i j r c cv a a' p => (hv i j r c cv a a' p).pure sub
      | row cells b o hA hc hv =>
        simp [freeze] at h; subst h
        exact .row cells b o (sub b hA) hc fun j c cv a p => (hv j c cv a p).pure sub
      | agg cs vs hl hv =>
        simp only [freeze, Option.map_eq_some_iff] at h
        obtain ⟨cs', h1, rfl⟩ := h
        obtain ⟨q1, q2⟩ := list cs cs' vs h1 hl hv
        exact .agg _ _ q1 q2
      | tup cs vs hl hv =>
        simp only [freeze, Option.map_eq_some_iff] at h
        obtain ⟨cs', h1, rfl⟩ := h
        obtain ⟨q1, q2⟩ := list cs cs' vs h1 hl hv
        exact .tup _ _ q1 q2
      | fn f cs vs hl hv =>
        simp only [freeze, Option.map_eq_some_iff] at h
        obtain ⟨cs', h1, rfl⟩ := h
        obtain ⟨q1, q2⟩ := list cs cs' vs h1 hl hv
        exact .fn _ _ _ q1 q2
      | own id ver off len a cap blk hid hf hh =>
        simp only [freeze, Option.bind_eq_some_iff] at h
        obtain ⟨rs, hrs, h⟩ := h
        simp only [rowsOf] at hrs
        rw [hid] at hrs
        cases blk with
        | rows sz ver' rs0 =>
          simp only at hrs
          split at hrs
          · rename_i hc
            obtain ⟨rfl, hle⟩ := hc
            simp only [Option.some.injEq] at hrs
            rcases hh _ _ _ rfl with hq | ⟨_, q1, q2, q3, q4, q5, q6⟩
            · omega
            have hsub := (hs.live id _ hid).sub off len
            rw [hrs] at hsub
            have hlen : rs.length = len := by rw [← hrs]; simp; omega
            have hA : AF A ι H (ι id).b := .inr ⟨id, _, hid, trivial, rfl⟩
            obtain ⟨ab, ao, asp⟩ := a
            simp only at q5 q6; subst q5 q6
            have fin : ∀ rows : List (List V), rows.length = rs.length → (∀ (i : Nat) (r' : List V), rows[i]? = some r' → ∃ r, rs[i]? = some r ∧ r'.length = r.length ∧
                ∀ (j : Nat) (v' : V), r'[j]? = some v' → ∃ v, r[j]? = some v ∧ ∀ cv, VR A ι H w v cv → VR (AF A ι H) ι2 [] w v' cv) →
                VR (AF A ι H) ι2 [] w (.arr rows) (.slice (some ⟨(ι id).b, ao, none⟩) len cap) := by
              intro rows hl hr
              have e : len = rows.length := by omega
              rw [e]
              rcases q4 with q4 | q4
              · have hnil : rows = [] := List.length_eq_zero_iff.1 (by omega)
                subst hnil
                exact .arr [] _ _ _ sz hA (by simp) (fun i r a => by simp at a) (fun i j r c a => by simp at a) (fun i j r c cv a => by simp at a)
              · simp only [Addr.mk.injEq] at q4
                obtain ⟨_, q4, _⟩ := q4
                subst q4
                refine .arr rows _ _ _ sz hA (by omega) (fun i r' a => ?_) (fun i j r' c a a' => ?_) (fun i j r' c cv a a' p => ?_)
                · obtain ⟨r, r1, r2, _⟩ := hr i r' a
                  rw [r2]; exact hsub.1 i r r1
                · obtain ⟨r, r1, r2, r3⟩ := hr i r' a
                  obtain ⟨v0, s1, s2⟩ := r3 j c a'
                  obtain ⟨cv, p, _⟩ := hsub.2 i j r v0 r1 s1
                  exact ⟨cv, p⟩
                · obtain ⟨r, r1, r2, r3⟩ := hr i r' a
                  obtain ⟨v0, s1, s2⟩ := r3 j c a'
                  obtain ⟨cv', p', q'⟩ := hsub.2 i j r v0 r1 s1
                  rw [p] at p'
                  cases p'
                  exact s2 _ q'
            split at h
            · rename_i hfl
              simp only [Option.some.injEq] at h; subst h
              refine fin rs rfl fun i r' a => ⟨r', a, rfl, fun j v' a' => ⟨v', a', fun cv hv => ?_⟩⟩
              obtain ⟨x, rfl⟩ := flat_lit hfl a a'
              rw [lit_eq hv]; exact .lit x
            · simp only [Option.map_eq_some_iff] at h
              obtain ⟨rs', h1, rfl⟩ := h
              obtain ⟨q1, q2⟩ := ih3 rs rs' h1
              exact fin rs' q1 q2
          · cases hrs
        | _ => cases hrs
      | ptr id ver r off a blk hid hf hh =>
        simp only [freeze] at h
        rw [hid] at h
        cases blk with
        | rows sz ver' rs =>
          simp only at h
          split at h
          · rename_i e; subst e
            simp only [Option.bind_eq_some_iff] at h
            obtain ⟨cs, hcs, h⟩ := h
            split at h
            · rename_i hle
              simp only [Option.map_eq_some_iff] at h
              obtain ⟨cs', h1, rfl⟩ := h
              rcases hh _ _ _ rfl with hq | ⟨_, hq⟩
              · omega
              subst hq
              obtain ⟨q1, q2⟩ := ih2 _ cs' h1
              have hA : AF A ι H (ι id).b := .inr ⟨id, _, hid, trivial, rfl⟩
              refine .row cs' _ _ hA (fun j c a => ?_) (fun j c cv a p => ?_)
              · obtain ⟨v0, s1, s2⟩ := q2 j c a
                rw [List.getElem?_drop] at s1
                obtain ⟨cv, p, _⟩ := (hs.live id _ hid).cells hcs (off + j) v0 s1
                exact ⟨cv, by rw [Nat.add_assoc]; exact p⟩
              · obtain ⟨v0, s1, s2⟩ := q2 j c a
                rw [List.getElem?_drop] at s1
                obtain ⟨cv', p', q'⟩ := (hs.live id _ hid).cells hcs (off + j) v0 s1
                rw [Nat.add_assoc, p'] at p
                cases p
                exact s2 _ q'
            · cases h
          · cases h
        | _ => cases h
      | _ => simp [freeze] at h
    · cases vs with
      | nil => simp [freezes] at h; subst h; exact ⟨rfl, fun i v' a => by simp at a⟩
      | cons v vs =>
        simp only [freezes, Option.bind_eq_some_iff, Option.map_eq_some_iff] at h
        obtain ⟨x, hx, xs, hxs, rfl⟩ := h
        obtain ⟨q1, q2⟩ := ih2 vs xs hxs
        refine ⟨by simp [q1], fun i v' a => ?_⟩
        cases i with
        | zero => simp at a; subst a; exact ⟨v, by simp, fun cv hv => ih1 v x cv hx hv⟩
        | succ i => simp at a; obtain ⟨v0, r1, r2⟩ := q2 i v' a; exact ⟨v0, by simpa using r1, r2⟩
    · cases rs with
      | nil => simp [freezess] at h; subst h; exact ⟨rfl, fun i v' a => by simp at a⟩
      | cons v vs =>
        simp only [freezess, Option.bind_eq_some_iff, Option.map_eq_some_iff] at h
        obtain ⟨x, hx, xs, hxs, rfl⟩ := h
        obtain ⟨q1, q2⟩ := ih3 vs xs hxs
        obtain ⟨p1, p2⟩ := ih2 v x hx
        refine ⟨by simp [q1], fun i v' a => ?_⟩
        cases i with
        | zero => simp at a; subst a; exact ⟨v, by simp, p1, p2⟩
        | succ i => simp at a; obtain ⟨v0, r1, r2⟩ := q2 i v' a; exact ⟨v0, by simpa using r1, r2⟩

theorem freezeAll_sound (hs : SR N A ι H w) (ι2 : Nat → Lk) : ∀ (vs vs' : List V) (xs : Array Value), freezeAll H vs = some vs' → TR A ι H w vs xs → TR (AF A ι H) ι2 [] w vs' xs := by
  have key : ∀ (vs vs' : List V), freezeAll H vs = some vs' → vs'.length = vs.length ∧ ∀ (i : Nat) (v' : V), vs'[i]? = some v' → ∃ v, vs[i]? = some v ∧ ∀ cv, VR A ι H w v cv → VR (AF A ι H) ι2 [] w v' cv := by
    intro vs
    induction vs with
    | nil => intro vs' h; simp [freezeAll] at h; subst h; exact ⟨rfl, fun i v' a => by simp at a⟩
    | cons v vs ih =>
      intro vs' h
      simp only [freezeAll, Option.bind_eq_some_iff, Option.map_eq_some_iff] at h
      obtain ⟨x, hx, xs, hxs, rfl⟩ := h
      obtain ⟨q1, q2⟩ := ih xs hxs
      refine ⟨by simp [q1], fun i v' a => ?_⟩
      cases i with
      | zero => simp at a; subst a; exact ⟨v, by simp, fun cv hv => (freeze_sound hs ι2 1000).1 v x cv hx hv⟩
      | succ i => simp at a; obtain ⟨v0, r1, r2⟩ := q2 i v' a; exact ⟨v0, by simpa using r1, r2⟩
  intro vs vs' xs h ht
  obtain ⟨q1, q2⟩ := key vs vs' h
  refine ⟨q1.trans ht.1, fun i x cv a b => ?_⟩
  obtain ⟨v0, r1, r2⟩ := q2 i x a
  exact r2 cv (ht.2 i v0 cv r1 b)

theorem noOwnC_pure {c : V} {cv : Value} (ι2 : Nat → Lk) (h : noOwnC c = true) (hv : VR A ι H w c cv) : VR A ι2 [] w c cv := by
  cases hv with
  | lit _ => exact .lit _
  | nilA p => exact .nilA p
  | arr rows b o cap sz hA hcap hsz hc hv => exact .arr rows b o cap sz hA hcap hsz hc fun i j r c cv a a' p => (hv i j r c cv a a' p).pure fun _ h => h
  | row cells b o hA hc hv => exact .row cells b o hA hc fun j c cv a p => (hv j c cv a p).pure fun _ h => h
  | fn f cs vs hl hv =>
    refine .fn f cs vs hl fun i c cv a1 b1 => ?_
    have hcc := List.all_eq_true.1 (by simpa [noOwnC] using h) c (List.mem_of_getElem? a1)
    have hr := hv i c cv a1 b1
    cases hr with
    | lit _ => exact .lit _
    | nilA p => exact .nilA p
    | arr rows b o cap sz hA hcap hsz hc hv => exact .arr rows b o cap sz hA hcap hsz hc fun i j r c cv a a' p => (hv i j r c cv a a' p).pure fun _ h => h
    | row cells b o hA hc hv => exact .row cells b o hA hc fun j c cv a p => (hv j c cv a p).pure fun _ h => h
    | _ => simp at hcc
  | _ => simp [noOwnC] at h
theorem noOwnA_pure {c : V} {cv : Value} (ι2 : Nat → Lk) (h : c.cells.all noOwnC = true) (hv : VR A ι H w c cv) : VR A ι2 [] w c cv := by
  cases hv with
  | agg cs vs hl hv => exact .agg cs vs hl fun i c cv a b => noOwnC_pure ι2 (List.all_eq_true.1 h c (List.mem_of_getElem? a)) (hv i c cv a b)
  | lit _ => exact .lit _
  | nilA p => exact .nilA p
  | arr rows b o cap sz hA hcap hsz hc hv => exact noOwnC_pure (H := []) ι2 rfl (.arr rows b o cap sz hA hcap hsz hc hv)
  | row cells b o hA hc hv => exact noOwnC_pure (H := []) ι2 rfl (.row cells b o hA hc hv)
  | fn f cs vs hl hv => exact noOwnC_pure ι2 (by simpa [V.cells] using h) (.fn f cs vs hl hv)
  | _ => simp [V.cells, noOwnC] at h
theorem noOwn_pure {c : V} {cv : Value} (ι2 : Nat → Lk) (h : noOwn c = true) (hv : VR A ι H w c cv) : VR A ι2 [] w c cv := by
  cases hv with
  | tup cs vs hl hv =>
    refine .tup cs vs hl fun i c cv a b => noOwnA_pure ι2 ?_ (hv i c cv a b)
    simp only [noOwn, tops, List.all_flatMap] at h
    exact List.all_eq_true.1 h c (List.mem_of_getElem? a)
  | lit _ => exact .lit _
  | nilA p => exact .nilA p
  | agg cs vs hl hv => exact noOwnA_pure ι2 h (.agg cs vs hl hv)
  | arr rows b o cap sz hA hcap hsz hc hv => exact noOwnA_pure (H := []) ι2 h (.arr rows b o cap sz hA hcap hsz hc hv)
  | row cells b o hA hc hv => exact noOwnA_pure (H := []) ι2 h (.row cells b o hA hc hv)
  | fn f cs vs hl hv => exact noOwnA_pure ι2 h (.fn f cs vs hl hv)
  | _ => simp [noOwn, tops, V.cells, noOwnC] at h
end
end Go.Proofs.YtpmdlaojndejfaaGreatDoor.E

/- Slices that a call hands back: moved into the caller's memory. -/
set_option linter.unusedVariables false
set_option linter.unusedSimpArgs false
namespace Go.Proofs.YtpmdlaojndejfaaGreatDoor.E
open Go

def lk (LK : List Lk) (i : Nat) : Lk := LK.getD i ⟨0, 0, 0⟩

theorem nodup_spec : ∀ {l : List Nat}, nodup l = true → ∀ (i j a : Nat), l[i]? = some a → l[j]? = some a → i = j
  | [], _, i, j, a, h, _ => by simp at h
  | x :: l, h, i, j, a, hi, hj => by
    simp only [nodup, Bool.and_eq_true, Bool.not_eq_true'] at h
    obtain ⟨h1, h2⟩ := h
    have nm : x ∉ l := by simpa using h1
    cases i with
    | zero =>
      cases j with
      | zero => rfl
      | succ j => simp at hi hj; subst hi; exact absurd (List.mem_of_getElem? hj) nm
    | succ i =>
      cases j with
      | zero => simp at hi hj; subst hj; exact absurd (List.mem_of_getElem? hi) nm
      | succ j => simp at hi hj; rw [nodup_spec h2 i j a hi hj]

theorem placeAll_get : ∀ {K H H' : Heap} {nid : Nat}, placeAll H nid K = some H' →
    (∀ i, i < K.length → H'[nid + i]? = K[i]? ∧ (H[nid + i]? = none ∨ H[nid + i]? = some .free)) ∧ ∀ j, (j < nid ∨ nid + K.length ≤ j) → H'[j]? = H[j]?
  | [], H, H', nid, h => by simp [placeAll] at h; subst h; exact ⟨fun i hi => by simp at hi, fun _ _ => rfl⟩
  | b :: K, H, H', nid, h => by
    simp only [placeAll, Option.bind_eq_some_iff] at h
    obtain ⟨H1, h1, h2⟩ := h
    obtain ⟨p1, p2, p3⟩ := place_get h1
    obtain ⟨q1, q2⟩ := placeAll_get h2
    refine ⟨fun i hi => ?_, fun j hj => ?_⟩
    · cases i with
      | zero =>
        refine ⟨?_, by simpa using p3⟩
        rw [q2 _ (.inl (by omega))]; simpa using p1
      | succ i =>
        simp at hi
        obtain ⟨r1, r2⟩ := q1 i hi
        have e : nid + (i + 1) = nid + 1 + i := by omega
        rw [e]
        refine ⟨by simpa using r1, ?_⟩
        rw [p2 _ (by omega)] at r2; exact r2
    · simp at hj
      rw [q2 _ (by omega), p2 _ (by omega)]

section
variable {A' : Nat → Prop} {ι' : Nat → Lk} {H' : Heap} {w' : World}

structure TI (ι' : Nat → Lk) (H' : Heap) (w' : World) (ids : List Nat) (K : Heap) (LK : List Lk) : Prop where
  l1 : K.length = ids.length
  l2 : LK.length = ids.length
  each : ∀ (i id : Nat), ids[i]? = some id → ∃ sz rs blk, K[i]? = some (.rows sz 0 rs) ∧ H'[id]? = some blk ∧ blk.alive ∧ (lk LK i).b = (ι' id).b ∧
    ∃ cs e, w'.heap[(lk LK i).b]? = some (.cells cs e (0, 0)) ∧ cs.size = (lk LK i).n ∧ (∀ (j : Nat) (r : List V), rs[j]? = some r → r.length = sz) ∧
      (lk LK i).o + rs.length * sz ≤ cs.size ∧ ∀ (j k : Nat) (r : List V) (c : V), rs[j]? = some r → r[k]? = some c → ∃ x, cs[(lk LK i).o + j * sz + k]? = some x ∧ c = .lit x

/-- A cell that is handed back. -/
def CC (A : Nat → Prop) (K : Heap) (LK : List Lk) (w : World) (c : V) (cv : Value) : Prop :=
  VR A (lk []) [] w c cv ∨ ∃ i len, c = .own i 0 0 len ∧ i < K.length ∧ VR A (lk LK) K w c cv
def CA (A : Nat → Prop) (K : Heap) (LK : List Lk) (w : World) (c : V) (cv : Value) : Prop :=
  match c with
  | .agg cs => ∃ vs, cv = .agg vs ∧ cs.length = vs.size ∧ ∀ (i : Nat) (c : V) (x : Value), cs[i]? = some c → vs[i]? = some x → CC A K LK w c x
  | c => CC A K LK w c cv
def CT (A : Nat → Prop) (K : Heap) (LK : List Lk) (w : World) (c : V) (cv : Value) : Prop :=
  match c with
  | .tup cs => ∃ vs, cv = .tuple vs ∧ cs.length = vs.size ∧ ∀ (i : Nat) (c : V) (x : Value), cs[i]? = some c → vs[i]? = some x → CA A K LK w c x
  | c => CA A K LK w c cv

def Grow (A : Nat → Prop) (w : World) (K : Heap) (LK : List Lk) (K' : Heap) (LK' : List Lk) : Prop := ∀ c cv, CC A K LK w c cv → CC A K' LK' w c cv
theorem Grow.ca {A : Nat → Prop} {w : World} {K K' : Heap} {LK LK' : List Lk} (g : Grow A w K LK K' LK') {c : V} {cv : Value} (h : CA A K LK w c cv) : CA A K' LK' w c cv := by
  unfold CA at h ⊢
  split at h
  · obtain ⟨vs, h1, h2, h3⟩ := h
    exact ⟨vs, h1, h2, fun i c x a b => g _ _ (h3 i c x a b)⟩
  · exact g _ _ h

theorem trC_sound (hs : ∀ (id : Nat) (blk : Blk), H'[id]? = some blk → BR A' ι' H' w' id blk) {ids : List Nat} {K K' : Heap} {LK : List Lk} (ti : TI ι' H' w' ids K LK) {c c' : V} {cv : Value}
    (hv : VR A' ι' H' w' c cv) (hc : (noOwnC c || flatOwn H' c) = true) (h : trC H' c K = some (c', K')) :
    ∃ LK', TI ι' H' w' (ids ++ (ownId c).toList) K' LK' ∧ CC A' K' LK' w' c' cv ∧ Grow A' w' K LK K' LK' := by
  by_cases ho : ∃ id ver off len, c = .own id ver off len
  · obtain ⟨id, ver, off, len, rfl⟩ := ho
    simp only [noOwnC, Bool.false_or] at hc
    simp only [trC, Option.bind_eq_some_iff] at h
    obtain ⟨rs, hrs, h⟩ := h
    split at h
    case h_2 => cases h
    rename_i sz ver' rs0 hid
    simp only [Option.some.injEq, Prod.mk.injEq] at h
    obtain ⟨rfl, rfl⟩ := h
    have hfl : flatR rs = true := by simpa [flatOwn, hrs] using hc
    simp only [rowsOf, hid] at hrs
    split at hrs
    case isFalse => cases hrs
    rename_i hcond
    obtain ⟨rfl, hle⟩ := hcond
    simp only [Option.some.injEq] at hrs
    cases hv with
    | own _ _ _ _ a cap blk hid' hf hh =>
      rw [hid] at hid'; cases hid'
      rcases hh _ _ _ rfl with hq | ⟨_, q1, q2, q3, q4, q5, q6⟩
      · omega
      obtain ⟨xs, e, b1, b2, b3, b4, b5, _⟩ := hs id _ hid
      have hget : ∀ (j : Nat) (r : List V), rs[j]? = some r → rs0[off + j]? = some r := by
        intro j r a
        rw [← hrs, List.getElem?_take] at a
        split at a
        · rwa [List.getElem?_drop] at a
        · cases a
      have hlen : rs.length = len := by rw [← hrs]; simp; omega
      have old : ∀ i, i < ids.length → lk (LK ++ [⟨(ι' id).b, (ι' id).o + off * sz, (ι' id).n⟩]) i = lk LK i := by
        intro i hi
        have : i < LK.length := by rw [ti.l2]; exact hi
        simp [lk, List.getElem?_append_left this]
      have new : lk (LK ++ [⟨(ι' id).b, (ι' id).o + off * sz, (ι' id).n⟩]) K.length = ⟨(ι' id).b, (ι' id).o + off * sz, (ι' id).n⟩ := by
        have : LK.length = K.length := ti.l2.trans ti.l1.symm
        simp [lk, ← this]
      refine ⟨LK ++ [⟨(ι' id).b, (ι' id).o + off * sz, (ι' id).n⟩], ⟨by simp [ti.l1, ownId], by simp [ti.l2, ownId], fun i id' hi => ?_⟩, ?_, ?_⟩
      · simp only [ownId, Option.toList_some] at hi
        rcases Nat.lt_or_ge i ids.length with hlt | hge
        · rw [List.getElem?_append_left hlt] at hi
          obtain ⟨sz1, rs1, blk1, k1, k2, k3, k4, k5⟩ := ti.each i id' hi
          rw [old i hlt]
          exact ⟨sz1, rs1, blk1, by rw [List.getElem?_append_left (by rw [ti.l1]; exact hlt)]; exact k1, k2, k3, k4, k5⟩
        · rw [List.getElem?_append_right hge] at hi
          have hi0 : i - ids.length = 0 := by have := (List.getElem?_eq_some_iff.1 hi).1; simp at this; omega
          rw [hi0] at hi; simp at hi; subst hi
          have ei : i = K.length := by rw [ti.l1]; omega
          subst ei
          rw [new]
          refine ⟨sz, rs, _, by simp, hid, trivial, rfl, xs, e, b1, b2, fun j r a => b3 _ _ (hget j r a), ?_, fun j k r c a a' => ?_⟩
          · simp only
            have : (off + rs.length) * sz ≤ rs0.length * sz := Nat.mul_le_mul_right _ (by omega)
            rw [Nat.add_mul] at this; omega
          · obtain ⟨x, p, q⟩ := b5 _ k r c (hget j r a) a'
            obtain ⟨y, rfl⟩ := flat_lit hfl a a'
            have := lit_eq q
            subst this
            exact ⟨x, by simp only; rw [← p]; congr 1; rw [Nat.add_mul]; omega, rfl⟩
      · refine .inr ⟨K.length, len, rfl, by simp, ?_⟩
        refine .own _ _ _ _ a cap (.rows sz 0 rs) (by simp) (by simp) fun s v r e' => ?_
        cases e'
        rw [new]
        refine .inr ⟨rfl, by omega, by omega, ?_, ?_, q5, q6⟩
        · simp only [Nat.zero_add]; rw [Nat.add_mul] at q3; omega
        · simpa using q4
      · intro c cv hcc
        rcases hcc with hcc | ⟨i, n, rfl, hi, hcc⟩
        · exact .inl hcc
        · refine .inr ⟨i, n, rfl, by simp; omega, hcc.keep ⟨fun _ h => h, fun _ _ => rfl, fun id0 blk0 h0 hf0 => ?_⟩⟩
          have hlt : id0 < K.length := (List.getElem?_eq_some_iff.1 h0).1
          exact ⟨blk0, by rw [List.getElem?_append_left hlt]; exact h0, .same (old id0 (by rw [← ti.l1]; exact hlt)) _⟩
  · have h' : trC H' c K = some (c, K) := by
      cases c <;> first | rfl | exact absurd ⟨_, _, _, _, rfl⟩ ho
    rw [h'] at h
    simp only [Option.some.injEq, Prod.mk.injEq] at h
    obtain ⟨rfl, rfl⟩ := h
    have hn : noOwnC c = true := by
      cases c <;> first | (simpa [flatOwn] using hc) | exact absurd ⟨_, _, _, _, rfl⟩ ho
    have hid : ownId c = none := by cases c <;> first | rfl | exact absurd ⟨_, _, _, _, rfl⟩ ho
    refine ⟨LK, by rw [hid]; simpa using ti, .inl (noOwnC_pure _ hn hv), fun _ _ h => h⟩

theorem trC_is {c c' : V} {K K' : Heap} (h : trC H' c K = some (c', K')) : c' = c ∨ ∃ i len, c' = .own i 0 0 len := by
  by_cases ho : ∃ id ver off len, c = .own id ver off len
  · obtain ⟨id, ver, off, len, rfl⟩ := ho
    simp only [trC, Option.bind_eq_some_iff] at h
    obtain ⟨rs, hrs, h⟩ := h
    split at h
    · simp only [Option.some.injEq, Prod.mk.injEq] at h
      exact .inr ⟨_, _, h.1.symm⟩
    · cases h
  · have h' : trC H' c K = some (c, K) := by
      cases c <;> first | rfl | exact absurd ⟨_, _, _, _, rfl⟩ ho
    rw [h'] at h
    simp only [Option.some.injEq, Prod.mk.injEq] at h
    exact .inl h.1.symm

theorem trCs_sound (hs : ∀ (id : Nat) (blk : Blk), H'[id]? = some blk → BR A' ι' H' w' id blk) : ∀ {cs cs' : List V} {xs : List Value} {ids : List Nat} {K K' : Heap} {LK : List Lk}, TI ι' H' w' ids K LK →
    cs.length = xs.length → (∀ (i : Nat) (c : V) (x : Value), cs[i]? = some c → xs[i]? = some x → VR A' ι' H' w' c x) → (∀ c ∈ cs, (noOwnC c || flatOwn H' c) = true) → trCs H' cs K = some (cs', K') →
    ∃ LK', TI ι' H' w' (ids ++ cs.filterMap ownId) K' LK' ∧ cs'.length = xs.length ∧ (∀ (i : Nat) (c : V) (x : Value), cs'[i]? = some c → xs[i]? = some x → CC A' K' LK' w' c x) ∧ Grow A' w' K LK K' LK'
  | [], cs', xs, ids, K, K', LK, ti, hl, hv, hc, h => by
    simp [trCs] at h; obtain ⟨rfl, rfl⟩ := h
    exact ⟨LK, by simpa using ti, by simpa using hl, fun i c x a => by simp at a, fun _ _ h => h⟩
  | c :: cs, cs', x :: xs, ids, K, K', LK, ti, hl, hv, hc, h => by
    simp only [trCs, Option.bind_eq_some_iff, Option.map_eq_some_iff, Prod.mk.injEq] at h
    obtain ⟨⟨c1, K1⟩, h1, ⟨cs1, K2⟩, h2, rfl, rfl⟩ := h
    obtain ⟨LK1, t1, r1, g1⟩ := trC_sound hs ti (hv 0 c x (by simp) (by simp)) (hc c (by simp)) h1
    obtain ⟨LK2, t2, r2, r3, g2⟩ := trCs_sound hs (cs := cs) (xs := xs) t1 (by simpa using hl) (fun i c x a b => hv (i + 1) c x (by simpa using a) (by simpa using b)) (fun c h => hc c (by simp [h])) h2
    refine ⟨LK2, ?_, by simp [r2], fun i c' x' a b => ?_, fun _ _ h => g2 _ _ (g1 _ _ h)⟩
    · have e : ids ++ (c :: cs).filterMap ownId = ids ++ (ownId c).toList ++ cs.filterMap ownId := by
        cases hoc : ownId c <;> simp [List.filterMap_cons, hoc]
      rw [e]; exact t2
    · cases i with
      | zero => simp at a b; subst a b; exact g2 _ _ r1
      | succ i => simp at a b; exact r3 i c' x' a b
  | _ :: _, _, [], _, _, _, _, _, hl, _, _, _ => by simp at hl

theorem trA_sound (hs : ∀ (id : Nat) (blk : Blk), H'[id]? = some blk → BR A' ι' H' w' id blk) {v v' : V} {cv : Value} {ids : List Nat} {K K' : Heap} {LK : List Lk} (ti : TI ι' H' w' ids K LK)
    (hv : VR A' ι' H' w' v cv) (hc : ∀ c ∈ v.cells, (noOwnC c || flatOwn H' c) = true) (h : trA H' v K = some (v', K')) :
    ∃ LK', TI ι' H' w' (ids ++ v.cells.filterMap ownId) K' LK' ∧ CA A' K' LK' w' v' cv ∧ Grow A' w' K LK K' LK' := by
  by_cases ha : ∃ cs, v = .agg cs
  · obtain ⟨cs, rfl⟩ := ha
    simp only [trA, Option.map_eq_some_iff, Prod.mk.injEq] at h
    obtain ⟨⟨cs1, K1⟩, h1, rfl, rfl⟩ := h
    cases hv with
    | agg _ vs hl hv =>
      obtain ⟨LK', t, r1, r2, g⟩ := trCs_sound hs (xs := vs.toList) ti (by simpa using hl) (fun i c x a b => hv i c x a (by simpa using b)) hc h1
      exact ⟨LK', t, ⟨vs, rfl, by simpa using r1, fun i c x a b => r2 i c x a (by simpa using b)⟩, g⟩
  · have e1 : trA H' v K = trC H' v K := by cases v <;> first | rfl | exact absurd ⟨_, rfl⟩ ha
    have e2 : v.cells = [v] := by cases v <;> first | rfl | exact absurd ⟨_, rfl⟩ ha
    rw [e1] at h
    obtain ⟨LK', t, r1, g⟩ := trC_sound hs ti hv (hc v (by simp [e2])) h
    refine ⟨LK', ?_, ?_, g⟩
    · rw [e2]
      have : [v].filterMap ownId = (ownId v).toList := by cases hov : ownId v <;> simp [List.filterMap_cons, hov]
      rw [this]; exact t
    · have hna : ∀ cs, v' ≠ .agg cs := by
        intro cs e
        rcases trC_is h with h1 | ⟨_, _, h1⟩
        · exact ha ⟨cs, h1.symm.trans e⟩
        · rw [e] at h1; cases h1
      cases v' <;> first | exact r1 | exact absurd rfl (hna _)

theorem trAs_sound (hs : ∀ (id : Nat) (blk : Blk), H'[id]? = some blk → BR A' ι' H' w' id blk) : ∀ {cs cs' : List V} {xs : List Value} {ids : List Nat} {K K' : Heap} {LK : List Lk}, TI ι' H' w' ids K LK →
    cs.length = xs.length → (∀ (i : Nat) (c : V) (x : Value), cs[i]? = some c → xs[i]? = some x → VR A' ι' H' w' c x) → (∀ c ∈ cs.flatMap V.cells, (noOwnC c || flatOwn H' c) = true) → trAs H' cs K = some (cs', K') →
    ∃ LK', TI ι' H' w' (ids ++ (cs.flatMap V.cells).filterMap ownId) K' LK' ∧ cs'.length = xs.length ∧ (∀ (i : Nat) (c : V) (x : Value), cs'[i]? = some c → xs[i]? = some x → CA A' K' LK' w' c x) ∧ Grow A' w' K LK K' LK'
  | [], cs', xs, ids, K, K', LK, ti, hl, hv, hc, h => by
    simp [trAs] at h; obtain ⟨rfl, rfl⟩ := h
    exact ⟨LK, by simpa using ti, by simpa using hl, fun i c x a => by simp at a, fun _ _ h => h⟩
  | c :: cs, cs', x :: xs, ids, K, K', LK, ti, hl, hv, hc, h => by
    simp only [trAs, Option.bind_eq_some_iff, Option.map_eq_some_iff, Prod.mk.injEq] at h
    obtain ⟨⟨c1, K1⟩, h1, ⟨cs1, K2⟩, h2, rfl, rfl⟩ := h
    obtain ⟨LK1, t1, r1, g1⟩ := trA_sound hs ti (hv 0 c x (by simp) (by simp)) (fun d hd => hc d (by simp [hd])) h1
    obtain ⟨LK2, t2, r2, r3, g2⟩ := trAs_sound hs (cs := cs) (xs := xs) t1 (by simpa using hl) (fun i c x a b => hv (i + 1) c x (by simpa using a) (by simpa using b)) (fun d hd => hc d (by
      rw [List.flatMap_cons]; exact List.mem_append_right _ hd)) h2
    refine ⟨LK2, ?_, by simp [r2], fun i c' x' a b => ?_, fun _ _ h => g2 _ _ (g1 _ _ h)⟩
    · rw [List.flatMap_cons, List.filterMap_append, ← List.append_assoc]; exact t2
    · cases i with
      | zero => simp at a b; subst a b; exact g2.ca r1
      | succ i => simp at a b; exact r3 i c' x' a b
  | _ :: _, _, [], _, _, _, _, _, hl, _, _, _ => by simp at hl

theorem tr_sound (hs : ∀ (id : Nat) (blk : Blk), H'[id]? = some blk → BR A' ι' H' w' id blk) {v v' : V} {cv : Value} {K' : Heap}
    (hv : VR A' ι' H' w' v cv) (hc : ∀ c ∈ tops v, (noOwnC c || flatOwn H' c) = true) (h : tr H' v = some (v', K')) :
    ∃ LK', TI ι' H' w' ((tops v).filterMap ownId) K' LK' ∧ CT A' K' LK' w' v' cv := by
  have ti0 : TI ι' H' w' [] [] [] := ⟨rfl, rfl, fun i id h => by simp at h⟩
  by_cases ha : ∃ cs, v = .tup cs
  · obtain ⟨cs, rfl⟩ := ha
    simp only [tr, Option.map_eq_some_iff, Prod.mk.injEq] at h
    obtain ⟨⟨cs1, K1⟩, h1, rfl, rfl⟩ := h
    cases hv with
    | tup _ vs hl hv =>
      obtain ⟨LK', t, r1, r2, g⟩ := trAs_sound hs (xs := vs.toList) ti0 (by simpa using hl) (fun i c x a b => hv i c x a (by simpa using b)) hc h1
      exact ⟨LK', by simpa [tops] using t, ⟨vs, rfl, by simpa using r1, fun i c x a b => r2 i c x a (by simpa using b)⟩⟩
  · have e1 : tr H' v = trA H' v [] := by cases v <;> first | rfl | exact absurd ⟨_, rfl⟩ ha
    have e2 : tops v = v.cells := by cases v <;> first | rfl | exact absurd ⟨_, rfl⟩ ha
    rw [e1] at h
    rw [e2] at hc ⊢
    obtain ⟨LK', t, r1, g⟩ := trA_sound hs ti0 hv hc h
    refine ⟨LK', by simpa using t, ?_⟩
    have hna : ∀ cs, v' ≠ .tup cs := by
      intro cs e
      by_cases hg : ∃ ds, v = .agg ds
      · obtain ⟨ds, rfl⟩ := hg
        simp only [trA, Option.map_eq_some_iff, Prod.mk.injEq] at h
        obtain ⟨_, _, h1, _⟩ := h
        rw [e] at h1; cases h1
      · have e3 : trA H' v [] = trC H' v [] := by cases v <;> first | rfl | exact absurd ⟨_, rfl⟩ hg
        rw [e3] at h
        rcases trC_is h with h1 | ⟨_, _, h1⟩
        · exact ha ⟨cs, h1.symm.trans e⟩
        · rw [e] at h1; cases h1
    cases v' <;> first | exact r1 | exact absurd rfl (hna _)

/-- A frozen value, as one that is handed back. -/
theorem CT.frozen {A : Nat → Prop} {w : World} {v : V} {cv : Value} (h : VR A (lk []) [] w v cv) : CT A [] [] w v cv := by
  have ca : ∀ v cv, VR A (lk []) [] w v cv → CA A [] [] w v cv := by
    intro v cv h
    cases h with
    | agg cs vs hl hv => exact ⟨vs, rfl, hl, fun i c x a b => .inl (hv i c x a b)⟩
    | lit _ => exact .inl (.lit _)
    | nilA p => exact .inl (.nilA p)
    | arr rows b o cap sz hA hcap hsz hc hv => exact .inl (.arr rows b o cap sz hA hcap hsz hc hv)
    | row cells b o hA hc hv => exact .inl (.row cells b o hA hc hv)
    | fn f cs vs hl hv => exact .inl (.fn f cs vs hl hv)
    | tup cs vs hl hv => exact .inl (.tup cs vs hl hv)
    | own _ _ _ _ _ _ _ hid => simp at hid
    | ptr _ _ _ _ _ _ hid => simp at hid
    | yld _ _ hid => simp at hid
    | mp _ _ hid => simp at hid
    | it _ _ hid => simp at hid
  by_cases ht : ∃ cs, v = .tup cs
  · obtain ⟨cs, rfl⟩ := ht
    cases h with
    | tup _ vs hl hv => exact ⟨vs, rfl, hl, fun i c x a b => ca _ _ (hv i c x a b)⟩
  · have := ca v cv h
    cases v <;> first | exact this | exact absurd ⟨_, rfl⟩ ht
end
end Go.Proofs.YtpmdlaojndejfaaGreatDoor.E

/- A call that works on memory of its own. -/
set_option linter.unusedVariables false
set_option linter.unusedSimpArgs false
namespace Go.Proofs.YtpmdlaojndejfaaGreatDoor.E
open Go

section
variable {N A : Nat → Prop} {ι : Nat → Lk} {H H' : Heap} {w : World}

/-- What a call comes to. -/
def Res (N A : Nat → Prop) (ι : Nat → Lk) (H : Heap) (w : World) (v : V) (H' : Heap) : Ending → World → Prop :=
  fun e w' => ∃ cv N' A' ι', e = .returned cv ∧ Ext N A ι H w N' A' ι' H' w' ∧ VR A' ι' H' w' v cv

def Sound (E : Env) (call : FuncId → List V → Heap → Option (V × Heap)) : Prop :=
  ∀ (f : FuncId) (args : List V) (H : Heap) (v : V) (H' : Heap), call f args H = some (v, H') → ∀ (N A : Nat → Prop) (ι : Nat → Lk) (w : World) (cargs : Array Value),
    SR N A ι H w → GR E A ι H w → TR A ι H w args cargs → Calls E.P f cargs w (Res N A ι H w v H')

theorem CC.shifted {A1 A2 : Nat → Prop} {K : Heap} {LK : List Lk} {ι2 : Nat → Lk} {H2 : Heap} {w : World} {nid : Nat} {c : V} {cv : Value} (h : CC A1 K LK w c cv)
    (hA : (∀ b, A1 b → A2 b) ∨ noShareC c = true) (hK : ∀ i, i < K.length → H2[nid + i]? = K[i]? ∧ ι2 (nid + i) = lk LK i) : VR A2 ι2 H2 w (shiftC nid c) cv := by
  rcases h with h | ⟨i, len, rfl, hi, h⟩
  · cases h with
    | lit _ => exact .lit _
    | own _ _ _ _ _ _ _ hid => simp at hid
    | ptr _ _ _ _ _ _ hid => simp at hid
    | yld _ _ hid => simp at hid
    | mp _ _ hid => simp at hid
    | it _ _ hid => simp at hid
    | nilA p => exact .nilA p
    | arr rows b o cap sz hA' hcap hsz hc hv =>
      rcases hA with hA | hA
      · exact VR.pure hA (.arr rows b o cap sz hA' hcap hsz hc hv)
      · simp [noShareC] at hA
    | row cells b o hA' hc hv =>
      rcases hA with hA | hA
      · exact VR.pure hA (.row cells b o hA' hc hv)
      · simp [noShareC] at hA
    | fn f cs vs hl hv =>
      rcases hA with hA | hA
      · exact VR.pure hA (.fn f cs vs hl hv)
      · simp [noShareC] at hA
    | tup cs vs hl hv =>
      rcases hA with hA | hA
      · exact VR.pure hA (.tup cs vs hl hv)
      · simp [noShareC] at hA
    | agg cs vs hl hv =>
      rcases hA with hA | hA
      · exact VR.pure hA (.agg cs vs hl hv)
      · simp [noShareC] at hA
  · obtain ⟨k1, k2⟩ := hK i hi
    cases h with
    | own _ _ _ _ a cap blk hid hf hh =>
      refine .own (nid + i) 0 0 len a cap blk (by rw [k1]; exact hid) hf fun sz ver' rs e => ?_
      rw [k2]; exact hh sz ver' rs e

theorem CA.shifted {A1 A2 : Nat → Prop} {K : Heap} {LK : List Lk} {ι2 : Nat → Lk} {H2 : Heap} {w : World} {nid : Nat} {c : V} {cv : Value} (h : CA A1 K LK w c cv)
    (hA : (∀ b, A1 b → A2 b) ∨ c.cells.all noShareC = true) (hK : ∀ i, i < K.length → H2[nid + i]? = K[i]? ∧ ι2 (nid + i) = lk LK i) : VR A2 ι2 H2 w (shiftA nid c) cv := by
  by_cases ha : ∃ cs, c = .agg cs
  · obtain ⟨cs, rfl⟩ := ha
    obtain ⟨vs, rfl, hl, hv⟩ := h
    refine .agg _ _ (by simpa using hl) fun i c x a b => ?_
    simp only [List.getElem?_map, Option.map_eq_some_iff] at a
    obtain ⟨c0, a0, rfl⟩ := a
    exact (hv i c0 x a0 b).shifted (hA.imp id fun h => List.all_eq_true.1 h c0 (List.mem_of_getElem? a0)) hK
  · have e1 : shiftA nid c = shiftC nid c := by cases c <;> first | rfl | exact absurd ⟨_, rfl⟩ ha
    have e2 : c.cells = [c] := by cases c <;> first | rfl | exact absurd ⟨_, rfl⟩ ha
    have h' : CC A1 K LK w c cv := by cases c <;> first | exact h | exact absurd ⟨_, rfl⟩ ha
    rw [e1]
    exact h'.shifted (hA.imp id fun h => by rw [e2] at h; simpa using h) hK

theorem CT.shifted {A1 A2 : Nat → Prop} {K : Heap} {LK : List Lk} {ι2 : Nat → Lk} {H2 : Heap} {w : World} {nid : Nat} {c : V} {cv : Value} (h : CT A1 K LK w c cv)
    (hA : (∀ b, A1 b → A2 b) ∨ (tops c).all noShareC = true) (hK : ∀ i, i < K.length → H2[nid + i]? = K[i]? ∧ ι2 (nid + i) = lk LK i) : VR A2 ι2 H2 w (shift nid c) cv := by
  by_cases ha : ∃ cs, c = .tup cs
  · obtain ⟨cs, rfl⟩ := ha
    obtain ⟨vs, rfl, hl, hv⟩ := h
    refine .tup _ _ (by simpa using hl) fun i c x a b => ?_
    simp only [List.getElem?_map, Option.map_eq_some_iff] at a
    obtain ⟨c0, a0, rfl⟩ := a
    refine (hv i c0 x a0 b).shifted (hA.imp id fun h => ?_) hK
    simp only [tops, List.all_flatMap] at h
    exact List.all_eq_true.1 h c0 (List.mem_of_getElem? a0)
  · have e1 : shift nid c = shiftA nid c := by cases c <;> first | rfl | exact absurd ⟨_, rfl⟩ ha
    have e2 : tops c = c.cells := by cases c <;> first | rfl | exact absurd ⟨_, rfl⟩ ha
    have h' : CA A1 K LK w c cv := by cases c <;> first | exact h | exact absurd ⟨_, rfl⟩ ha
    rw [e1]
    exact h'.shifted (hA.imp id fun h => by rw [e2] at h; exact h) hK

theorem pure_sound {E : Env} {self : Self} (hself : Sound E self.call) (hs : SR N A ι H w) (hg : GR E A ι H w) {f : FuncId} {args args' : List V} {cargs : Array Value} (ht : TR A ι H w args cargs)
    {nid : Nat} {r : V × Heap} {H2 : Heap} (h1 : (if args.all noOwn then some args else freezeAll H args) = some args') (h2 : pcall self f args' = some r)
    (h3 : (args.all noOwn || (tops r.1).all noShareC) = true) (h4 : placeAll H nid r.2 = some H2) : Calls E.P f cargs w (Res N A ι H w (shift nid r.1) H2) := by
  -- the callee's view
  have hAc : ∃ Ac : Nat → Prop, (∀ b, A b → Ac b) ∧ (∀ b, Ac b → b < w.heap.size) ∧ TR Ac ι [] w args' cargs ∧ ((∀ b, Ac b → A b) ∨ (tops r.1).all noShareC = true) := by
    split at h1
    · rename_i hno
      simp only [Option.some.injEq] at h1; subst h1
      exact ⟨A, fun _ h => h, fun b hb => hs.lt b (hs.an b hb), ⟨ht.1, fun i x cv a b => noOwn_pure ι (List.all_eq_true.1 hno x (List.mem_of_getElem? a)) (ht.2 i x cv a b)⟩, .inl fun _ h => h⟩
    · rename_i hno
      have hno' : args.all noOwn = false := by simpa using hno
      rw [hno', Bool.false_or] at h3
      refine ⟨AF A ι H, fun b hb => .inl hb, fun b hb => ?_, freezeAll_sound hs ι args args' cargs h1 ht, .inr h3⟩
      rcases hb with hb | ⟨id, blk, hid, hal, rfl⟩
      · exact hs.lt b (hs.an b hb)
      · exact (hs.live id blk hid).lt hal
  obtain ⟨Ac, a1, a2, htc, a3⟩ := hAc
  have hsc : SR (fun b => b < w.heap.size) Ac ι [] w := ⟨fun id blk h => by simp at h, fun i j bi bj h => by simp at h, fun i bi h => by simp at h, a2, fun b hb => hb⟩
  have hgc : GR E Ac ι [] w := ⟨fun g cs hcs => ⟨a1 g (hg.glob g cs hcs).1, fun j c hc => by
    obtain ⟨cv, p, q⟩ := (hg.glob g cs hcs).2 j c hc
    exact ⟨cv, p, q.pure a1⟩⟩, let ⟨w0, h1, h2, h3⟩ := hg.world; ⟨w0, h1, fun b hb => a1 b (h2 b hb), h3⟩⟩
  simp only [pcall, Option.bind_eq_some_iff] at h2
  obtain ⟨⟨v, Hc⟩, hcall, h2⟩ := h2
  refine (hself f args' [] v Hc hcall _ Ac ι w cargs hsc hgc htc).mono ?_
  rintro e w' ⟨cv, N', A', ι', rfl, ex, hv⟩
  -- what is handed back
  have hres : ∃ (AX : Nat → Prop) (ids : List Nat) (LK : List Lk), TI ι' Hc w' ids r.2 LK ∧ nodup ids = true ∧ CT AX r.2 LK w' r.1 cv ∧ (∀ b, A' b → AX b) ∧
      (∀ b, AX b → A' b ∨ (ids = [] ∧ ∃ id blk, Hc[id]? = some blk ∧ blk.alive ∧ b = (ι' id).b)) := by
    split at h2
    · rename_i hc
      rw [Bool.and_eq_true] at hc
      obtain ⟨LK, t1, t2⟩ := tr_sound (v' := r.1) (K' := r.2) ex.sr.live hv (fun c hcm => List.all_eq_true.1 hc.1 c hcm) h2
      exact ⟨A', _, LK, t1, hc.2, t2, fun _ h => h, fun b hb => .inl hb⟩
    · simp only [Option.map_eq_some_iff] at h2
      obtain ⟨x, hx, rfl⟩ := h2
      have fz := (freeze_sound ex.sr (lk []) 1000).1 v x cv hx hv
      exact ⟨AF A' ι' Hc, [], [], ⟨rfl, rfl, fun i id h => by simp at h⟩, rfl, CT.frozen fz, fun b hb => .inl hb, fun b hb => hb.imp id fun h => ⟨rfl, h⟩⟩
  obtain ⟨AX, ids, LK, ti, hnd, hct, x1, x2⟩ := hres
  have hfresh : ∀ (id : Nat) (blk : Blk), Hc[id]? = some blk → blk.alive → w.heap.size ≤ (ι' id).b := by
    intro id blk hid hal
    rcases Nat.lt_or_ge (ι' id).b w.heap.size with h | h
    · exact absurd (ex.nn _ h).1 (ex.sr.apart id blk hid hal)
    · exact h
  have hAX : ∀ b, AX b → Ac b ∨ w.heap.size ≤ b := by
    intro b hb
    rcases x2 b hb with h | ⟨_, id, blk, hid, hal, rfl⟩
    · exact ex.aa b h
    · exact .inr (hfresh id blk hid hal)
  obtain ⟨pl1, pl2⟩ := placeAll_get h4
  let A2 : Nat → Prop := fun b => A b ∨ (w.heap.size ≤ b ∧ AX b)
  let N2 : Nat → Prop := fun b => N b ∨ (w.heap.size ≤ b ∧ AX b)
  let ι2 : Nat → Lk := fun i => if nid ≤ i ∧ i < nid + r.2.length then lk LK (i - nid) else ι i
  have hin : ∀ i, i < r.2.length → ι2 (nid + i) = lk LK i := by
    intro i hi
    simp only [ι2]
    rw [if_pos ⟨by omega, by omega⟩]; congr 1; omega
  have hout : ∀ (j : Nat) (blk : Blk), H[j]? = some blk → blk ≠ .free → ι2 j = ι j ∧ H2[j]? = some blk := by
    intro j blk hj hf
    have hno : ¬ (nid ≤ j ∧ j < nid + r.2.length) := by
      intro ⟨g1, g2⟩
      have := (pl1 (j - nid) (by omega)).2
      rw [show nid + (j - nid) = j by omega, hj] at this
      rcases this with h | h
      · cases h
      · cases h; exact hf rfl
    refine ⟨by simp only [ι2]; rw [if_neg hno], ?_⟩
    rw [pl2 j (by omega)]; exact hj
  have ww : ∀ b, b < w.heap.size → w'.heap[b]? = w.heap[b]? := fun b hb => (ex.nn b hb).2
  have keeps : Keeps A A2 ι ι2 H H2 w w' := ⟨fun b hb => .inl hb, fun b hb => ww b (hs.lt b (hs.an b hb)), fun id blk hid hf =>
    ⟨blk, (hout id blk hid hf).2, .same (hout id blk hid hf).1 blk⟩⟩
  have keep : ∀ v cv, VR A ι H w v cv → VR A2 ι2 H2 w' v cv := fun v cv x => x.keep keeps
  have alf : ∀ b : Blk, b.alive → b ≠ .free := fun b ha e => by subst e; exact ha
  -- a block of the new memory: an old one, or one that was handed back
  have cas : ∀ (id : Nat) (blk : Blk), H2[id]? = some blk → (∃ i, i < r.2.length ∧ id = nid + i ∧ r.2[i]? = some blk) ∨ (¬ (nid ≤ id ∧ id < nid + r.2.length) ∧ H[id]? = some blk) := by
    intro id blk hid
    by_cases g : nid ≤ id ∧ id < nid + r.2.length
    · refine .inl ⟨id - nid, by omega, by omega, ?_⟩
      rw [← (pl1 (id - nid) (by omega)).1, show nid + (id - nid) = id by omega]; exact hid
    · exact .inr ⟨g, by rw [← pl2 id (by omega)]; exact hid⟩
  have tid : ∀ i, i < r.2.length → ∃ id, ids[i]? = some id := fun i hi => ⟨ids[i]'(by rw [← ti.l1]; exact hi), by simp⟩
  refine ⟨cv, N2, A2, ι2, rfl, ⟨⟨?_, ?_, ?_, ?_, ?_⟩, keep, fun b hb => ⟨.inl hb, ww b (hs.lt b hb)⟩, fun b hb => hb.imp id And.left, fun b hb => .inl hb, ex.size, ex.os, ex.tape, ex.output⟩, ?_⟩
  · intro id blk hid
    rcases cas id blk hid with ⟨i, hi, rfl, hki⟩ | ⟨g, hid0⟩
    · obtain ⟨id0, hid0⟩ := tid i hi
      obtain ⟨sz, rs, blk0, k1, k2, k3, k4, cs, e, m1, m2, m3, m4, m5⟩ := ti.each i id0 hid0
      rw [k1] at hki; cases hki
      refine ⟨cs, e, by rw [hin i hi]; exact m1, by rw [hin i hi]; exact m2, m3, by rw [hin i hi]; exact m4, fun j k rr c a b => ?_, .zero (Nat.zero_div _)⟩
      rw [hin i hi]
      obtain ⟨x, p, rfl⟩ := m5 j k rr c a b
      exact ⟨x, p, .lit x⟩
    · have hi2 : ι2 id = ι id := by simp only [ι2]; rw [if_neg g]
      exact BR.keep keep hi2 (fun ha => ww _ ((hs.live id blk hid0).lt ha)) (hs.live id blk hid0)
  · intro i j bi bj hi hj ai aj e
    rcases cas i bi hi with ⟨i', hi', rfl, _⟩ | ⟨gi, hi0⟩ <;> rcases cas j bj hj with ⟨j', hj', rfl, _⟩ | ⟨gj, hj0⟩
    · rw [hin i' hi', hin j' hj'] at e
      obtain ⟨d1, hd1⟩ := tid i' hi'
      obtain ⟨d2, hd2⟩ := tid j' hj'
      obtain ⟨_, _, b1, _, k2, k3, k4, _⟩ := ti.each i' d1 hd1
      obtain ⟨_, _, b2, _, l2, l3, l4, _⟩ := ti.each j' d2 hd2
      have e3 : d1 = d2 := ex.sr.inj d1 d2 b1 b2 k2 l2 k3 l3 (by rw [← k4, ← l4]; exact e)
      subst e3
      rw [nodup_spec hnd i' j' d1 hd1 hd2]
    · rw [hin i' hi'] at e
      have hj2 : ι2 j = ι j := by simp only [ι2]; rw [if_neg gj]
      rw [hj2] at e
      obtain ⟨d1, hd1⟩ := tid i' hi'
      obtain ⟨_, _, b1, _, k2, k3, k4, _⟩ := ti.each i' d1 hd1
      have h5 := hfresh d1 b1 k2 k3
      have h6 := (hs.live j bj hj0).lt aj
      omega
    · rw [hin j' hj'] at e
      have hi2 : ι2 i = ι i := by simp only [ι2]; rw [if_neg gi]
      rw [hi2] at e
      obtain ⟨d1, hd1⟩ := tid j' hj'
      obtain ⟨_, _, b1, _, k2, k3, k4, _⟩ := ti.each j' d1 hd1
      have h5 := hfresh d1 b1 k2 k3
      have h6 := (hs.live i bi hi0).lt ai
      omega
    · have hi2 : ι2 i = ι i := by simp only [ι2]; rw [if_neg gi]
      have hj2 : ι2 j = ι j := by simp only [ι2]; rw [if_neg gj]
      rw [hi2, hj2] at e
      exact hs.inj i j bi bj hi0 hj0 ai aj e
  · intro i bi hi ai hn
    rcases cas i bi hi with ⟨i', hi', rfl, _⟩ | ⟨gi, hi0⟩
    · rw [hin i' hi'] at hn
      obtain ⟨d1, hd1⟩ := tid i' hi'
      obtain ⟨_, _, b1, _, k2, k3, k4, _⟩ := ti.each i' d1 hd1
      have h5 := hfresh d1 b1 k2 k3
      rcases hn with hn | ⟨_, hn⟩
      · have := hs.lt _ hn; omega
      · rcases x2 _ hn with h | ⟨h, _⟩
        · rw [k4] at h; exact ex.sr.apart d1 b1 k2 k3 (ex.sr.an _ h)
        · rw [h] at hd1; simp at hd1
    · have hi2 : ι2 i = ι i := by simp only [ι2]; rw [if_neg gi]
      rw [hi2] at hn
      have h6 := (hs.live i bi hi0).lt ai
      rcases hn with hn | ⟨hn, _⟩
      · exact hs.apart i bi hi0 ai hn
      · omega
  · intro b hb; exact hb.imp (hs.an b) id
  · intro b hb
    rcases hb with hb | ⟨_, hb⟩
    · exact Nat.lt_of_lt_of_le (hs.lt b hb) ex.size
    · rcases x2 b hb with h | ⟨_, id, blk, hid, hal, rfl⟩
      · exact ex.sr.lt b (ex.sr.an b h)
      · exact (ex.sr.live id blk hid).lt hal
  · refine hct.shifted ?_ fun i hi => ⟨(pl1 i hi).1, hin i hi⟩
    rcases a3 with a3 | a3
    · refine .inl fun b hb => ?_
      rcases hAX b hb with h | h
      · exact .inl (a3 b h)
      · exact .inr ⟨h, hb⟩
    · exact .inr a3
end
end Go.Proofs.YtpmdlaojndejfaaGreatDoor.E

/- The evaluator's steps against the machine's: calls, rounds of loops over functions, regions. -/
set_option linter.unusedVariables false
set_option linter.unusedSimpArgs false
namespace Go.Proofs.YtpmdlaojndejfaaGreatDoor.E
open Go

abbrev W (cro : Option Nat) : Fence := { Fence.wide with round := cro }
theorem calls_W {cro : Option Nat} {n : Nat} {P : Program} {f : FuncId} {args : Array Value} {w : World} {R : Ending → World → Prop} (h : Calls P f args w R) : CallsIn (W cro) n P f args w R := by
  have h1 : CallsIn Fence.wide n P f args w R := callsIn_wide.2 h
  cases cro with
  | none => exact h1
  | some l => exact CallsIn.inRound l h1
theorem round_W {cro : Option Nat} {n : Nat} {P : Program} {l : Nat} {f : FuncId} {tmps : Array Value} {asg body : Code} {w : World} {R : Ending → World → Prop} (h : RoundIn Fence.wide n P l f tmps asg body w R) :
    RoundIn (W cro) n P l f tmps asg body w R := by
  cases cro with
  | none => exact h
  | some l => exact h

/-- A loop's body, walked from where the loop has begun. -/
def LoopWp (F : Fence) (n : Nat) (P : Program) (c : Code) (Q : Exit → Act → World → Prop) (a : Act) (w : World) : Prop :=
  ∀ (b : Frame) (k : List Item) (cs : List Frame), b.roundOf = F.round → F.fn b.fn → F.room (cs.length + 1 + n) →
    ∃ e a' w', Q e a' w' ∧ ArrivesIn (Machine.fenced P F) P (lone (b.atR a (.code c :: .inLoop c :: k)) cs w) b k cs e a' w'
theorem LoopWp.wp {F : Fence} {n : Nat} {P : Program} {c : Code} {Q : Exit → Act → World → Prop} {a : Act} {w : World} (h : LoopWp F n P c Q a w) : (Code.loop c).wpIn F n P Q a w := by
  intro b k cs hro hb hr
  obtain ⟨e, a', w', hq, harr⟩ := h b k cs hro hb hr
  exact ⟨e, a', w', hq, .of_steps (.one (fenced_calm hb hr rfl) stepR_loop) harr⟩
theorem LoopWp.mono {F : Fence} {n : Nat} {P : Program} {c : Code} {Q Q' : Exit → Act → World → Prop} {a : Act} {w : World} (h : LoopWp F n P c Q a w) (hq : ∀ e a w, Q e a w → Q' e a w) : LoopWp F n P c Q' a w :=
  fun b k cs hro hb hr => let ⟨e, a', w', q, r⟩ := h b k cs hro hb hr; ⟨e, a', w', hq _ _ _ q, r⟩
theorem LoopWp.of {F : Fence} {n : Nat} {P : Program} {c : Code} {Q : Exit → Act → World → Prop} {a : Act} {w : World} (h : c.wpIn F n P (Exit.then (LoopWp F n P c Q) Q) a w) : LoopWp F n P c Q a w := by
  intro b k cs hro hb hr
  obtain ⟨e, a₁, w₁, hq, harr⟩ := h b (.inLoop c :: k) cs hro hb hr
  cases e with
  | normal =>
    obtain ⟨e₂, a₂, w₂, hq₂, harr₂⟩ := hq b k cs hro hb hr
    exact ⟨e₂, a₂, w₂, hq₂, .of_steps (StepsIn.trans harr (.one (fenced_calm hb hr rfl) stepR_inLoop)) harr₂⟩
  | exit id => exact ⟨_, a₁, w₁, hq, .pass (x := .inLoop c) rfl (fun _ _ => .inl (by simp)) harr⟩
  | goto l => exact ⟨_, a₁, w₁, hq, .pass (x := .inLoop c) rfl (fun _ _ => .inl (by simp)) harr⟩
  | ret => exact ⟨_, a₁, w₁, hq, .pass (x := .inLoop c) rfl (fun _ _ => .inl (by simp)) harr⟩
  | panic ch => exact ⟨_, a₁, w₁, hq, .pass (x := .inLoop c) rfl (fun _ _ => .inl (by simp)) harr⟩
  | outgrown => exact ⟨_, a₁, w₁, hq, .pass (x := .inLoop c) rfl (fun _ _ => .inl (by simp)) harr⟩

def CW (F : Fence) (n : Nat) (P : Program) (c : Code) (Q : Exit → Act → World → Prop) (a : Act) (w : World) : Prop :=
  match c with
  | .loop b => LoopWp F n P b Q a w
  | c => c.wpIn F n P Q a w
theorem CW.wp {F : Fence} {n : Nat} {P : Program} {c : Code} {Q : Exit → Act → World → Prop} {a : Act} {w : World} (h : CW F n P c Q a w) : c.wpIn F n P Q a w := by
  cases c <;> first | exact h | exact LoopWp.wp h

section
variable {N A : Nat → Prop} {ι : Nat → Lk} {H H' : Heap} {w : World}

/-- One deferred call, or the mark of a loop. -/
def DR1 (A : Nat → Prop) (ι : Nat → Lk) (H : Heap) (w : World) : Dr → Deferred → Prop
  | .mark d, D => ∃ b, D = { target := .collected b, args := #[] } ∧ VR A ι H w (.mp d) (.map (some b))
  | .fn f args, D => ∃ cap dargs, D = { target := .fn (.func f) cap, args := dargs } ∧ TR A ι H w args (dargs ++ cap)
theorem DR1.keep {A' : Nat → Prop} {ι' : Nat → Lk} {H' : Heap} {w' : World} (k : ∀ v cv, VR A ι H w v cv → VR A' ι' H' w' v cv) {d : Dr} {D : Deferred} (h : DR1 A ι H w d D) : DR1 A' ι' H' w' d D := by
  cases d with
  | mark d => obtain ⟨b, p, q⟩ := h; exact ⟨b, p, k _ _ q⟩
  | fn f args => obtain ⟨c, a, p, q⟩ := h; exact ⟨c, a, p, q.keep k⟩
def DR (A : Nat → Prop) (ι : Nat → Lk) (H : Heap) (w : World) (ds : List Dr) (dl : List Deferred) : Prop :=
  ds.length = dl.length ∧ ∀ (i : Nat) (d : Dr) (D : Deferred), ds[i]? = some d → dl[i]? = some D → DR1 A ι H w d D
theorem DR.keep {A' : Nat → Prop} {ι' : Nat → Lk} {H' : Heap} {w' : World} (k : ∀ v cv, VR A ι H w v cv → VR A' ι' H' w' v cv) {ds : List Dr} {dl : List Deferred} (h : DR A ι H w ds dl) : DR A' ι' H' w' ds dl :=
  ⟨h.1, fun i d D a b => (h.2 i d D a b).keep k⟩
theorem DR.cons {d : Dr} {D : Deferred} {ds : List Dr} {dl : List Deferred} (h1 : DR1 A ι H w d D) (h : DR A ι H w ds dl) : DR A ι H w (d :: ds) (D :: dl) := by
  refine ⟨by simp [h.1], fun i d' D' a b => ?_⟩
  cases i with
  | zero => simp only [List.getElem?_cons_zero, Option.some.injEq] at a b; rw [← a, ← b]; exact h1
  | succ i => exact h.2 i d' D' (by simpa using a) (by simpa using b)
theorem DR.nil : DR A ι H w [] [] := ⟨rfl, fun i d D a => by simp at a⟩

def RoR (A : Nat → Prop) (ι : Nat → Lk) (H : Heap) (w : World) : Option Nat → Option Nat → Prop
  | none, none => True
  | some id, some b => VR A ι H w (.yld id) (.func (.yield b) #[] #[])
  | _, _ => False
theorem RoR.keep {A' : Nat → Prop} {ι' : Nat → Lk} {H' : Heap} {w' : World} (k : ∀ v cv, VR A ι H w v cv → VR A' ι' H' w' v cv) {r c : Option Nat} (h : RoR A ι H w r c) : RoR A' ι' H' w' r c := by
  cases r <;> cases c <;> first | exact h | exact k _ _ h

def XR : X → Exit → Prop
  | .normal, .normal => True
  | .exit id, .exit id' => id = id'
  | .ret, .ret => True
  | .pan x, .panic chain => chain = [{ v := x, recovered := false }]
  | _, _ => False

/-- What code comes to. -/
def XQ (N A : Nat → Prop) (ι : Nat → Lk) (H : Heap) (w : World) (x : X) (s' : St) : Exit → Act → World → Prop :=
  fun e a' w' => XR x e ∧ ∃ N' A' ι', Ext N A ι H w N' A' ι' s'.H w' ∧ TR A' ι' s'.H w' s'.tmps a'.tmps ∧ DR A' ι' s'.H w' s'.ds a'.defers

def CodeSound (E : Env) (code : Option Nat → Code → St → Option (X × St)) : Prop :=
  ∀ (ro : Option Nat) (c : Code) (s : St) (x : X) (s' : St), code ro c s = some (x, s') → ∀ (N A : Nat → Prop) (ι : Nat → Lk) (w : World) (cro : Option Nat) (a : Act) (n : Nat),
    SR N A ι s.H w → GR E A ι s.H w → TR A ι s.H w s.tmps a.tmps → RoR A ι s.H w ro cro → DR A ι s.H w s.ds a.defers → CW (W cro) n E.P c (XQ N A ι s.H w x s') a w

/-- What a call comes to. -/
def ResX (N A : Nat → Prop) (ι : Nat → Lk) (H : Heap) (w : World) (o : Oc) (H' : Heap) : Ending → World → Prop :=
  match o with
  | .ret v => Res N A ι H w v H'
  | .pan x => fun e w' => ∃ N' A' ι', e = .panicked [{ v := x, recovered := false }] ∧ Ext N A ι H w N' A' ι' H' w'
def SoundX (E : Env) (call : FuncId → List V → Heap → Option (Oc × Heap)) : Prop :=
  ∀ (f : FuncId) (args : List V) (H : Heap) (o : Oc) (H' : Heap), call f args H = some (o, H') → ∀ (N A : Nat → Prop) (ι : Nat → Lk) (w : World) (cargs : Array Value),
    SR N A ι H w → GR E A ι H w → TR A ι H w args cargs → Calls E.P f cargs w (ResX N A ι H w o H')
theorem SoundX.call {E : Env} {self : Self} (h : SoundX E self.callX) : Sound E self.call :=
  fun f args H v H' hr N A ι w cargs hs hg ht => h f args H (.ret v) H' (call_some hr) N A ι w cargs hs hg ht

/-- What is told of library functions. -/
def PrimSound (E : Env) : Prop :=
  ∀ (f : FuncId) (p : List V → Heap → Option (V × Heap)), E.prim f = some p → Sound E (fun g args H => if g = f then p args H else none)

def StepOut (P : Program) (N A : Nat → Prop) (ι : Nat → Lk) (H : Heap) (w : World) (s : Sem Next) (v : V) (H' : Heap) : Prop :=
  OpOut P N A ι H w s v H' ∨ (∃ f cargs, s.run P w = .ok (.enter f cargs) w ∧ Calls P f cargs w (Res N A ι H w v H')) ∨
  ∃ l f tmps asg body, s.run P w = .ok (.round l f tmps asg body) w ∧ ∀ n, RoundIn Fence.wide n P l f tmps asg body w (Res N A ι H w v H')

theorem run_callFunc {P : Program} {f : FuncId} (h1 : goodFn P f = true) (h2 : bodyless P f = false) (args : Array Value) (w : World) : (callFunc f args).run P w = .ok (.enter f args) w := by
  unfold goodFn at h1
  unfold bodyless at h2
  cases hf : P.funcs[f]? with
  | none => rw [hf] at h1; cases h1
  | some fn =>
    rw [hf] at h1 h2
    simp only [Bool.not_eq_true'] at h1
    have h1' : ¬ (fn.name = "runtime.NumGoroutine") := fun e => by rw [e] at h1; simp at h1
    have h2' : ¬ (fn.body = none) := fun e => by simp [e] at h2
    simp [callFunc, hf, h1', h2']

theorem values_eq : ∀ {args : List V} {xs : List Value} {cargs : Array Value}, valuesOf args = some xs → TR A ι H w args cargs → cargs = xs.toArray := by
  have key : ∀ (args : List V) (xs : List Value), valuesOf args = some xs → xs.length = args.length ∧ ∀ (i : Nat) (v : V) (x : Value), args[i]? = some v → xs[i]? = some x → toValue? v = some x := by
    intro args
    induction args with
    | nil => intro xs h; simp [valuesOf] at h; subst h; exact ⟨rfl, fun i v x a => by simp at a⟩
    | cons v vs ih =>
      intro xs h
      simp only [valuesOf, Option.bind_eq_some_iff, Option.map_eq_some_iff] at h
      obtain ⟨x, hx, ys, hys, rfl⟩ := h
      obtain ⟨q1, q2⟩ := ih ys hys
      refine ⟨by simp [q1], fun i v' x' a b => ?_⟩
      cases i with
      | zero => simp at a b; subst a b; exact hx
      | succ i => simp at a b; exact q2 i v' x' a b
  intro args xs cargs h ht
  obtain ⟨q1, q2⟩ := key args xs h
  apply Array.ext_getElem?
  intro i
  rcases Nat.lt_or_ge i args.length with hi | hi
  · have hi' : i < cargs.size := ht.1 ▸ hi
    have e1 : args[i]? = some args[i] := by simp [hi]
    have e2 : cargs[i]? = some cargs[i] := by simp [hi']
    have e3 : xs[i]? = some (xs[i]'(q1 ▸ hi)) := by simp
    rw [e2, toValue_eq (q2 i _ _ e1 e3) (ht.2 i _ _ e1 e2)]
    simp [q1 ▸ hi]
  · rw [Array.getElem?_eq_none (ht.1 ▸ hi), Array.getElem?_eq_none (by simp; omega)]

theorem callE_sound {E : Env} {self : Self} (hself : Sound E self.call) (hprim : PrimSound E) (hs : SR N A ι H w) (hg : GR E A ι H w) {f : FuncId} {args : List V} {cargs : Array Value} (ht : TR A ι H w args cargs) {nid : Nat} {v : V}
    (h : callE E self f args nid H = some (v, H')) : StepOut E.P N A ι H w (callFunc f cargs) v H' := by
  unfold callE at h
  split at h
  · cases h
  rename_i hgood
  have hgood : goodFn E.P f = true := by simpa using hgood
  split at h
  · rename_i p hp
    split at h
    · cases h
    rename_i hb
    have hb : bodyless E.P f = false := by simpa using hb
    exact .inr (.inl ⟨f, cargs, run_callFunc hgood hb cargs w, hprim f p hp f args H v H' (by simpa using h) N A ι w cargs hs hg ht⟩)
  · split at h
    · simp only [Option.bind_eq_some_iff] at h
      obtain ⟨xs, hxs, h⟩ := h
      split at h
      · rename_i y hy
        simp only [Option.some.injEq, Prod.mk.injEq] at h
        obtain ⟨rfl, rfl⟩ := h
        rw [values_eq hxs ht]
        exact .inl (.still hs (run_of_pure E.P _ _ hy w) (.ofValue y))
      · cases h
    rename_i hb
    have hb : bodyless E.P f = false := by simpa using hb
    split at h
    · exact .inr (.inl ⟨f, cargs, run_callFunc hgood hb cargs w, hself f args H v H' h N A ι w cargs hs hg ht⟩)
    · simp only [Option.bind_eq_some_iff] at h
      obtain ⟨args', h1, r, h2, h⟩ := h
      split at h
      · rename_i h3
        rw [Bool.and_eq_true] at h3
        obtain ⟨h3, _⟩ := h3
        simp only [Option.map_eq_some_iff, Prod.mk.injEq] at h
        obtain ⟨H2, h4, rfl, rfl⟩ := h
        exact .inr (.inl ⟨f, cargs, run_callFunc hgood hb cargs w, pure_sound hself hs hg ht h1 h2 h3 h4⟩)
      · cases h

theorem setAll_sound : ∀ {ps : List Tmp} {vs : List V} {xs : List Value} {ts : List V} {tx : Array Value}, TR A ι H w ts tx → vs.length = xs.length →
    (∀ (i : Nat) (v : V) (x : Value), vs[i]? = some v → xs[i]? = some x → VR A ι H w v x) →
    TR A ι H w (setAll ts ps vs) ((ps.zip xs).foldl (fun t (p : Tmp × Value) => t.setIfInBounds p.1 p.2) tx)
  | [], vs, xs, ts, tx, ht, hl, hv => by cases vs <;> exact ht
  | p :: ps, [], xs, ts, tx, ht, hl, hv => by
    have : xs = [] := List.length_eq_zero_iff.1 (by simpa using hl.symm)
    subst this; exact ht
  | p :: ps, v :: vs, [], ts, tx, ht, hl, hv => by simp at hl
  | p :: ps, v :: vs, x :: xs, ts, tx, ht, hl, hv => by
    simp only [setAll, List.zip_cons_cons, List.foldl_cons]
    refine setAll_sound ?_ (by simpa using hl) fun i v x a b => hv (i + 1) v x (by simpa using a) (by simpa using b)
    exact TR.put (ds := []) ht (hv 0 v x (by simp) (by simp)) (some p)

theorem run_getLoop {P : Program} {b : Nat} {L : Loop} (h : w.heap[b]? = some (.loop L)) : (Instr.getLoop b).run P w = .ok L w := by
  simp [Instr.getLoop, run_getObj h (fun _ _ _ e => by cases e)]

/-- A loop's record is turned. -/
theorem loopAt_sound {P : Program} (hs : SR N A ι H w) {l : Nat} {old ready : Bool} {pend : Option Code} (h : loopAt H l old ready pend = some H') {L : Loop} (hL : w.heap[(ι l).b]? = some (.loop L)) :
    L.state = (if old then .ready else .busy) ∧ L.pending = none ∧ ∀ st, st = (if ready then LoopState.ready else match pend with | none => .busy | some _ => .done) →
      ∃ ι', (setObj (ι l).b (.loop { L with state := st, pending := pend })).run P w = .ok () { w with heap := w.heap.setIfInBounds (ι l).b (.loop { L with state := st, pending := pend }) } ∧
        Ext N A ι H w N A ι' H' { w with heap := w.heap.setIfInBounds (ι l).b (.loop { L with state := st, pending := pend }) } := by
  unfold loopAt at h
  split at h
  case h_2 => cases h
  rename_i r tmps ps asg body hid
  split at h
  case isFalse => cases h
  rename_i hr
  subst hr
  simp only [Option.some.injEq] at h; subst h
  obtain ⟨L', l1, l2, l3, l4, l5, l6, l7, l8⟩ := hs.live l _ hid
  rw [l1] at hL
  cases hL
  have hlt : (ι l).b < w.heap.size := (Array.getElem?_eq_some_iff.1 l1).1
  refine ⟨l2, l3, fun st hst => ⟨upd ι l (ι l), run_setObj l1 (fun _ _ _ e => by cases e), ?_⟩⟩
  refine Ext.turn hs hid trivial (L := ι l) (.inl rfl) (fun k _ hk => by simp [Array.getElem?_setIfInBounds_ne (Ne.symm hk)]) (by simp) rfl rfl rfl (by simp [Later, upd_same]) fun keep => ?_
  exact ⟨{ L with state := st, pending := pend }, by rw [upd_same]; simp [hlt], hst, rfl, l4, l5, l6, l7, fun i x cv a b => keep _ _ (l8 i x cv a b)⟩

theorem yieldE_sound {E : Env} {self : Self} (hcode : CodeSound E self.code) (hs : SR N A ι H w) (hg : GR E A ι H w) {l b : Nat} (hl : VR A ι H w (.yld l) (.func (.yield b) #[] #[])) {args : List V} {cargs : Array Value}
    (ht : TR A ι H w args cargs) {v : V} (h : yieldE self l args H = some (v, H')) :
    ∃ L : Loop, (Instr.yield b cargs).run E.P w = .ok (.round b L.fn ((L.params.zip cargs).foldl (fun tmps (t, a) => tmps.setIfInBounds t a) L.tmps) L.assign L.body) w ∧
      ∀ n, RoundIn Fence.wide n E.P b L.fn ((L.params.zip cargs).foldl (fun tmps (t, a) => tmps.setIfInBounds t a) L.tmps) L.assign L.body w (Res N A ι H w v H') := by
  have hb : b = (ι l).b := by cases hl; rfl
  subst hb
  unfold yieldE at h
  split at h
  case h_2 => cases h
  rename_i tmps ps asg body hid
  split at h
  case isFalse => cases h
  rename_i hlen
  obtain ⟨L, l1, l2, l3, l4, l5, l6, l7, l8⟩ := hs.live l _ hid
  refine ⟨L, ?_, fun n => roundIn_of_wpIn trivial ?_⟩
  · have : cargs.size = L.params.size := by rw [l4, ← ht.1, hlen]; simp
    simp [Instr.yield, run_getLoop l1, this]
  simp only [Option.bind_eq_some_iff] at h
  obtain ⟨⟨x1, s1⟩, h1, h⟩ := h
  cases x1 with
  | exit id => cases h
  | ret => cases h
  | pan x => cases h
  | normal =>
  simp only at h
  split at h
  · cases h
  rename_i hds
  have hds : s1.ds = [] := by simpa using hds
  simp only [Option.bind_eq_some_iff] at h
  obtain ⟨H1, hH1, ⟨x2, s2⟩, h2, h⟩ := h
  have t0 : TR A ι H w (setAll tmps ps args) ((L.params.zip cargs).foldl (fun tmps (t, a) => tmps.setIfInBounds t a) L.tmps) := by
    have := setAll_sound (ps := ps) (xs := cargs.toList) (⟨l7.symm, l8⟩ : TR A ι H w tmps L.tmps) (by simpa using ht.1) (fun i v x a b => ht.2 i v x a (by simpa using b))
    rw [l4]
    rw [← Array.foldl_toList]
    simpa [Array.toList_zip] using this
  have c1 := (hcode (some l) asg _ _ _ h1 N A ι w (some (ι l).b) { tmps := (L.params.zip cargs).foldl (fun tmps (t, a) => tmps.setIfInBounds t a) L.tmps, defers := [] } n hs hg t0 hl DR.nil).wp
  rw [l5, l6]
  refine wpIn_mono c1 fun e a1 w1 hq => ?_
  obtain ⟨hx, N1, A1, ι1, e1, t1, d1⟩ := hq
  cases e with
  | normal =>
    -- the round begins
    have hl1 := e1.keep _ _ hl
    have hb1 : (ι1 l).b = (ι l).b := by
      generalize (ι l).b = b0 at hl1
      cases hl1; rfl
    have hk1 : ∃ L1 : Loop, w1.heap[(ι1 l).b]? = some (.loop L1) := by
      unfold loopAt at hH1
      split at hH1
      case h_2 => cases hH1
      rename_i hid1
      obtain ⟨L1, q1, _⟩ := e1.sr.live l _ hid1
      exact ⟨L1, q1⟩
    obtain ⟨L1, k1⟩ := hk1
    obtain ⟨m1, m2, m3⟩ := loopAt_sound (P := E.P) e1.sr hH1 k1
    obtain ⟨ι2, m4, m5⟩ := m3 .busy rfl
    rw [hb1] at k1 m4 m5
    have hL1 : { L1 with state := LoopState.busy, pending := none } = { L1 with state := LoopState.busy } := by rw [← m2]
    rw [hL1] at m4 m5
    refine ⟨_, by simp [Instr.beginRound, run_getLoop k1, m4, show L1.state = .ready from m1]; rfl, ?_⟩
    have e2 := e1.trans m5
    have hd1 : a1.defers = [] := by
      have := d1.1; rw [hds] at this; exact List.length_eq_zero_iff.1 this.symm
    have c2 := (hcode (some l) body _ _ _ h2 N1 A1 ι2 _ (some (ι l).b) a1 n m5.sr (GR.keep e1.sr (GR.keep hs hg e1) m5) (t1.keep m5.keep) (e2.keep _ _ hl) (by rw [hd1]; exact DR.nil)).wp
    refine wpIn_mono c2 fun ex a2 w2 hq => ?_
    obtain ⟨hx2, N2, A2, ι3, e3, t2, d2⟩ := hq
    have e4 := e2.trans e3
    have hl3 := e4.keep _ _ hl
    have hb3 : (ι3 l).b = (ι l).b := by
      generalize (ι l).b = b0 at hl3
      cases hl3; rfl
    -- the round ends
    have fin : ∀ (old ready : Bool) (pend : Option Code) (H3 : Heap), loopAt s2.H l false ready pend = some H3 → ready = pend.isNone → 
        ∃ w3, (Instr.endRound (ι l).b pend).run E.P w2 = .ok (.bool pend.isNone) w3 ∧ Res N A ι H w (.lit (.bool ready)) H3 (.returned (.bool pend.isNone)) w3 := by
      intro old ready pend H3 hla hre
      have hk3 : ∃ L3 : Loop, w2.heap[(ι3 l).b]? = some (.loop L3) := by
        unfold loopAt at hla
        split at hla
        case h_2 => cases hla
        rename_i hid1
        obtain ⟨L1, q1, _⟩ := e3.sr.live l _ hid1
        exact ⟨L1, q1⟩
      obtain ⟨L3, k3⟩ := hk3
      obtain ⟨_, _, q3⟩ := loopAt_sound (P := E.P) e3.sr hla k3
      cases pend with
      | none =>
        obtain ⟨ι4, q4, q5⟩ := q3 .ready (by subst hre; rfl)
        rw [hb3] at k3 q4 q5
        refine ⟨_, by simp [Instr.endRound, run_getLoop k3, q4], .bool true, N2, A2, ι4, rfl, e4.trans q5, ?_⟩
        rw [hre]; exact .lit _
      | some c =>
        obtain ⟨ι4, q4, q5⟩ := q3 .done (by subst hre; rfl)
        rw [hb3] at k3 q4 q5
        refine ⟨_, by simp [Instr.endRound, run_getLoop k3, q4], .bool false, N2, A2, ι4, rfl, e4.trans q5, ?_⟩
        rw [hre]; exact .lit _
    cases x2 with
    | normal =>
      cases ex <;> simp [XR] at hx2
      simp only [Option.map_eq_some_iff, Prod.mk.injEq] at h
      obtain ⟨H3, hla, rfl, rfl⟩ := h
      obtain ⟨w3, r1, r2⟩ := fin false true none H3 hla rfl
      exact ⟨_, w3, r1, r2⟩
    | ret =>
      cases ex <;> simp [XR] at hx2
      simp only [Option.map_eq_some_iff, Prod.mk.injEq] at h
      obtain ⟨H3, hla, rfl, rfl⟩ := h
      obtain ⟨w3, r1, r2⟩ := fin false false (some .ret) H3 hla rfl
      exact ⟨_, w3, r1, r2⟩
    | exit id =>
      cases ex <;> simp [XR] at hx2
      subst hx2
      simp only [Option.map_eq_some_iff, Prod.mk.injEq] at h
      obtain ⟨H3, hla, rfl, rfl⟩ := h
      obtain ⟨w3, r1, r2⟩ := fin false false (some (.exit id)) H3 hla rfl
      exact ⟨_, w3, r1, r2⟩
    | pan x => cases h
  | _ => exact hx.elim
end
end Go.Proofs.YtpmdlaojndejfaaGreatDoor.E
