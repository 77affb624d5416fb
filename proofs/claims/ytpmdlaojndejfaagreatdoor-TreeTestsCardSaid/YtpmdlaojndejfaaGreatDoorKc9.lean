/- Parts of names; how many code points. -/
import Derived.Test.YtpmdlaojndejfaaGreatDoorKc8
import Derived.Lib.TrimU
import Derived.Laws.Strings
import Derived.ProofKit
import Derived.Lib.IndexLaws
set_option linter.unusedVariables false
set_option linter.unusedSimpArgs false
set_option maxRecDepth 100000
namespace Go.Proofs.YtpmdlaojndejfaaGreatDoor.E
open Go

theorem hasPrefix_does (m : Int) (s p : ByteArray) : ∃ H', (Lw m).callX 94 [.lit (.string s), .lit (.string p)] [] = some (.ret (.lit (.bool (prefixB s p))), H') := by
  obtain ⟨v, H', h, rfl⟩ := c_hasPrefix m s p (con1_ok m) (fun v => v = .lit (.bool (prefixB s p))) (by simp only [r_hasPrefix]; split <;> simp_all)
  exact ⟨H', h⟩
theorem hasSuffix_does (m : Int) (s p : ByteArray) (hs : s.size ≤ 1099511627776) : ∃ H', (Lw m).callX 70 [.lit (.string s), .lit (.string p)] [] = some (.ret (.lit (.bool (suffixB s p))), H') := by
  obtain ⟨v, H', h, rfl⟩ := c_hasSuffix m s p (con1_ok m) (fun v => v = .lit (.bool (suffixB s p))) (by simp only [r_hasSuffix, hs, decide_true, if_true]; split <;> simp_all)
  exact ⟨H', h⟩

theorem namePart_loop (m : Int) (s : ByteArray) : ∀ (f pos : Nat) (st : St), s.size ≤ pos + f → Fr st 40 [.iter s pos] [(0, .lit (.string s)), (6, .it 0)] →
    ∃ x st', codeE (env m) (Lw m) none (.loop (atC [1, 0, 1, 0, 0] (bodyOf (env m).P 97))) st = some (x, st') ∧
      ((HPure.isNamePartFrom s f pos = true ∧ x = .exit 0 ∧ ∃ p', Fr st' 40 [.iter s p'] [(0, .lit (.string s))]) ∨
       (HPure.isNamePartFrom s f pos = false ∧ x = .ret ∧ st'.ds = [] ∧ st'.tmps.getD 2 un = .lit (.bool false)))
  | f, pos, st, hf, hs => by
    obtain ⟨x, s1, v0, v2, v6, H1, h1, h2, h3⟩ := e_namePart2 m s pos (ro := none) (con1_ok m) hs
      (fun x v0 v2 v6 H => v0 = .lit (.string s) ∧ v6 = .it 0 ∧ ((¬ pos < s.size ∧ x = .exit 0 ∧ H = [.iter s pos]) ∨
        (pos < s.size ∧ HPure.inPart (pos == 0) (Utf8.decode s pos).1 = true ∧ x = .normal ∧ H = [.iter s (pos + (Utf8.decode s pos).2)]) ∨
        (pos < s.size ∧ HPure.inPart (pos == 0) (Utf8.decode s pos).1 = false ∧ x = .ret ∧ v2 = .lit (.bool false)))) (by
        simp only [r_namePart2, toI]
        repeat' split
        all_goals simp_all [HPure.inPart]
        all_goals omega)
    obtain ⟨rfl, rfl, h3⟩ := h3
    rcases h3 with ⟨hp, rfl, rfl⟩ | ⟨hp, hi, rfl, rfl⟩ | ⟨hp, hi, rfl, rfl⟩
    · exact ⟨_, s1, loop_out h1 (by simp), .inl ⟨HPure.isNamePartFrom_end s f pos hp, rfl, pos, h2.sub (by simp)⟩⟩
    · cases f with
      | zero => omega
      | succ f =>
        have hw := Go.Lib.width_pos s pos
        obtain ⟨x, st', g1, g2⟩ := namePart_loop m s f (pos + (Utf8.decode s pos).2) s1 (by omega) (h2.sub (by simp))
        refine ⟨x, st', loop_more h1 g1, ?_⟩
        simpa [HPure.isNamePartFrom, hp, hi] using g2
    · cases f with
      | zero => omega
      | succ f => exact ⟨_, s1, loop_out h1 (by simp), .inr ⟨by simp [HPure.isNamePartFrom, hp, hi], rfl, h2.ds, h2.get 2 (by simp)⟩⟩

theorem namePart_does (m : Int) (s : ByteArray) : ∃ H', (Lw m).callX 97 [.lit (.string s)] [] = some (.ret (.lit (.bool (HPure.isNamePart s))), H') := by
  obtain ⟨x0, s0, v0, H0, a1, a2, a3⟩ := e_namePart0 m s (ro := none) (con1_ok m) (Fr.entry (E := env m) (f := 97) (args := [.lit (.string s)]) (by kernel_rfl) (by simp) (by simp))
    (fun x v0 H => x = .normal ∧ v0 = .lit (.string s) ∧ H = []) ⟨rfl, rfl, rfl⟩
  obtain ⟨rfl, rfl, rfl⟩ := a3
  obtain ⟨x1, s1, v0, v6, H1, b1, b2, b3⟩ := e_namePart1 m s (ro := none) (con1_ok m) a2 (fun x v0 v6 H => x = .normal ∧ v0 = .lit (.string s) ∧ v6 = .it 0 ∧ H = [.iter s 0]) ⟨rfl, rfl, rfl, rfl⟩
  obtain ⟨rfl, rfl, rfl, rfl⟩ := b3
  obtain ⟨x2, s2, g1, g2⟩ := namePart_loop m s s.size 0 s1 (by omega) b2
  rcases g2 with ⟨hv, rfl, p', hp⟩ | ⟨hv, rfl, hd, ht⟩
  · obtain ⟨x3, s3, c1, c2, c3⟩ := e_namePart3 m s p' (ro := none) (con1_ok m) hp (fun v => v = .lit (.bool (HPure.isNamePart s))) (by
      have hz : (s.toList == []) = decide (s.size = 0) := by
        rw [ByteArray.toList_eq]
        cases h : s.data.toList with
        | nil =>
          have : s.size = 0 := by have := congrArg List.length h; simpa using this
          simp [this]
        | cons x l =>
          have : s.size ≠ 0 := by have := congrArg List.length h; simp at this; omega
          simp [this]
      simp only [r_namePart3, hz, HPure.isNamePart, hv, Bool.true_and]
      split <;> simp_all)
    exact L_ans (by kernel_rfl) rfl (by rw [b_chars_isNamePart]; exact seq_n a1 (seq_n (seq_n b1 (block_exit g1)) c1)) c2 c3
  · exact L_ans (by kernel_rfl) rfl (by rw [b_chars_isNamePart]; exact seq_n a1 (seq_x (seq_n b1 (block_ret g1)) (by simp))) hd (fin_tmp (by kernel_rfl) (.inl rfl) ht (by simp [HPure.isNamePart, hv]))

theorem runeCount_loop (m : Int) (s : ByteArray) (hs : s.size ≤ 1099511627776) : ∀ (f pos : Nat) (n : Nat) (st : St), s.size ≤ pos + f → n ≤ pos → Fr st 10 [.iter s pos] [(2, .lit (.int .i64 n)), (4, .it 0)] →
    ∃ st' p', codeE (env m) (Lw m) none (.loop (atC [1, 0, 1, 0, 0] (bodyOf (env m).P 95))) st = some (.exit 0, st') ∧ Fr st' 10 [.iter s p'] [(2, .lit (.int .i64 ((n + (HPure.pointsFrom s f pos).length : Nat) : Int)))]
  | f, pos, n, st, hf, hn, hst => by
    obtain ⟨x, s1, v2, v4, H1, h1, h2, h3⟩ := e_runeCount2 m s pos n (ro := none) (con1_ok m) hst
      (fun x v2 v4 H => v4 = .it 0 ∧ ((¬ pos < s.size ∧ x = .exit 0 ∧ v2 = .lit (.int .i64 n) ∧ H = [.iter s pos]) ∨ (pos < s.size ∧ x = .normal ∧ v2 = .lit (.int .i64 ((n + 1 : Nat) : Int)) ∧ H = [.iter s (pos + (Utf8.decode s pos).2)]))) (by
        simp only [r_runeCount2]
        split
        · rename_i hp
          rw [w64_id (by omega) (by omega)]
          simp [hp]
        · rename_i hp; simp [hp])
    obtain ⟨rfl, h3⟩ := h3
    rcases h3 with ⟨hp, rfl, rfl, rfl⟩ | ⟨hp, rfl, rfl, rfl⟩
    · refine ⟨s1, pos, loop_out h1 (by simp), ?_⟩
      rw [HPure.pointsFrom_end s f pos hp]; exact h2.sub (by simp)
    · cases f with
      | zero => omega
      | succ f =>
        have hw := Go.Lib.width_pos s pos
        obtain ⟨st', p', g1, g2⟩ := runeCount_loop m s hs f (pos + (Utf8.decode s pos).2) (n + 1) s1 (by omega) (by omega) h2
        refine ⟨st', p', loop_more h1 g1, ?_⟩
        have : n + (HPure.pointsFrom s (f + 1) pos).length = n + 1 + (HPure.pointsFrom s f (pos + (Utf8.decode s pos).2)).length := by simp [HPure.pointsFrom, hp]; omega
        rw [this]; exact g2
theorem runeCount_does (m : Int) (s : ByteArray) (hs : s.size ≤ 1099511627776) : ∃ H', (Lw m).callX 95 [.lit (.string s)] [] = some (.ret (.lit (.int .i64 ((HPure.points s).length : Int))), H') := by
  obtain ⟨x0, s0, v0, v2, H0, a1, a2, a3⟩ := e_runeCount0 m s (ro := none) (con1_ok m) (Fr.entry (E := env m) (f := 95) (args := [.lit (.string s)]) (by kernel_rfl) (by simp) (by simp))
    (fun x v0 v2 H => x = .normal ∧ v0 = .lit (.string s) ∧ v2 = .lit (.int .i64 0) ∧ H = []) ⟨rfl, rfl, rfl, rfl⟩
  obtain ⟨rfl, rfl, rfl, rfl⟩ := a3
  obtain ⟨x1, s1, v2, v4, H1, b1, b2, b3⟩ := e_runeCount1 m s 0 (ro := none) (con1_ok m) a2 (fun x v2 v4 H => x = .normal ∧ v2 = .lit (.int .i64 0) ∧ v4 = .it 0 ∧ H = [.iter s 0]) ⟨rfl, rfl, rfl, rfl⟩
  obtain ⟨rfl, rfl, rfl, rfl⟩ := b3
  obtain ⟨s2, p', g1, g2⟩ := runeCount_loop m s hs s.size 0 0 s1 (by omega) (by omega) b2
  obtain ⟨x3, s3, c1, c2, c3⟩ := e_runeCount3 m s p' _ (ro := none) (con1_ok m) g2 (fun v => v = .lit (.int .i64 ((HPure.points s).length : Int))) (by
    simp only [r_runeCount3, Nat.zero_add]; rfl)
  obtain ⟨v, H', k1, rfl⟩ := L_fin (tab := tabW) (f := 95) (by kernel_rfl) (fun _ => rfl) (x := x3) (s := s3) (by rw [b_utf8_RuneCountInString]; exact seq_n a1 (seq_n (seq_n b1 (block_exit g1)) c1)) c2 c3
  exact ⟨H', k1⟩
/-- Second: prefixes, suffixes, parts of names, counts. -/
noncomputable def con2 : Con := addP 94 (strS2 (fun _ _ => true) fun s p => .bool (prefixB s p)) (addP 70 (strS2 (fun s _ => decide (s.size ≤ 1099511627776)) fun s p => .bool (suffixB s p))
  (addP 97 (strS1 (fun _ => true) fun s => .bool (HPure.isNamePart s)) (addP 95 (strS1 (fun s => decide (s.size ≤ 1099511627776)) fun s => .int .i64 ((HPure.points s).length : Int))
  (addE 141 indexByteE (addE 149 indexByteE (addE 69 containsE (addE 71 lowerE con1)))))))
theorem con2_ok (m : Int) : ConOK (env m) (Lw m) con2 :=
  strS2_ok (strS2_ok (strS1_ok (strS1_ok (addE_ok (E := env m) (addE_ok (E := env m) (addE_ok (E := env m) (addE_ok (E := env m) (con1_ok m) (by rfl) (by kernel_rfl) (by kernel_rfl)) (by rfl) (by kernel_rfl) (by kernel_rfl)) (by rfl) (by kernel_rfl) (by kernel_rfl)) (by rfl) (by kernel_rfl) (by kernel_rfl)) (by kernel_rfl) fun s h => runeCount_does m s (by simpa using h)) (by kernel_rfl) fun s _ => namePart_does m s) (by kernel_rfl) fun s p h => hasSuffix_does m s p (by simpa using h)) (by kernel_rfl) fun s p _ => hasPrefix_does m s p
end Go.Proofs.YtpmdlaojndejfaaGreatDoor.E

/- Printed by sw.py: what the program's code asks and does, piece by piece. -/
namespace Go.Proofs.YtpmdlaojndejfaaGreatDoor.E
open Go
set_option linter.unusedVariables false
set_option maxRecDepth 1000000
def r_isText0 (s : ByteArray) (q : X → V → Heap → Prop) : Prop :=
    q (X.normal) (V.lit (Value.string s)) ([])
theorem w_isText0 (m : Int) (s : ByteArray) (x1 x2 x3 x4 x5 x6 x7 x8 x9 x10 x11 x12 x13 x14 x15 x16 x17 x18 x19 x20 x21 x22 x23 x24 : V) (q : X → V → Heap → Prop) :
    codeW (env m) (con2) 0 (atC [0] (bodyOf (env m).P 67)) ⟨[.lit (.string s), x1, x2, x3, x4, x5, x6, x7, x8, x9, x10, x11, x12, x13, x14, x15, x16, x17, x18, x19, x20, x21, x22, x23, x24], [], []⟩ (fun x s => q x (s.tmps.getD 0 un) s.H) =
    r_isText0 s q := by kernel_rfl
theorem e_isText0 (m : Int) (s : ByteArray) {ro : Option Nat} (hc : ConOK (env m) (Lw m) (con2)) {st : St} (h : Fr st 25 ([]) [(0, .lit (.string s))]) (q : X → V → Heap → Prop) (hr : r_isText0 s q) :
    ∃ x s' v0 H', codeE (env m) (Lw m) ro (atC [0] (bodyOf (env m).P 67)) st = some (x, s') ∧ Fr s' 25 H' [(0, v0)] ∧ q x v0 H' := by
  have e := h.eq
  simp only [List.range, List.range.loop, List.map_cons, List.map_nil, h.get 0 (v := .lit (.string s)) (by simp)] at e
  obtain ⟨x, s', h1, h2, h3, h4⟩ := codeW_ok hc L_up (ro := ro) (u := 0) _ st _ (by rw [e]; exact (Eq.mpr (w_isText0 m s _ _ _ _ _ _ _ _ _ _ _ _ _ _ _ _ _ _ _ _ _ _ _ _ _) hr))
  exact ⟨x, s', _, _, h1, ⟨h2.trans h.len, rfl, h3.trans h.ds, by simp⟩, h4⟩
def r_isText1 (s : ByteArray) (q : X → V → V → Heap → Prop) : Prop :=
    q (X.normal) (V.lit (Value.string s)) (V.it 0) ([Blk.iter s 0])
theorem w_isText1 (m : Int) (s : ByteArray) (x1 x2 x3 x4 x5 x6 x7 x8 x9 x10 x11 x12 x13 x14 x15 x16 x17 x18 x19 x20 x21 x22 x23 x24 : V) (q : X → V → V → Heap → Prop) :
    codeW (env m) (con2) 0 (atC [1, 0, 0] (bodyOf (env m).P 67)) ⟨[.lit (.string s), x1, x2, x3, x4, x5, x6, x7, x8, x9, x10, x11, x12, x13, x14, x15, x16, x17, x18, x19, x20, x21, x22, x23, x24], [], []⟩ (fun x s => q x (s.tmps.getD 0 un) (s.tmps.getD 6 un) s.H) =
    r_isText1 s q := by kernel_rfl
theorem e_isText1 (m : Int) (s : ByteArray) {ro : Option Nat} (hc : ConOK (env m) (Lw m) (con2)) {st : St} (h : Fr st 25 ([]) [(0, .lit (.string s))]) (q : X → V → V → Heap → Prop) (hr : r_isText1 s q) :
    ∃ x s' v0 v6 H', codeE (env m) (Lw m) ro (atC [1, 0, 0] (bodyOf (env m).P 67)) st = some (x, s') ∧ Fr s' 25 H' [(0, v0), (6, v6)] ∧ q x v0 v6 H' := by
  have e := h.eq
  simp only [List.range, List.range.loop, List.map_cons, List.map_nil, h.get 0 (v := .lit (.string s)) (by simp)] at e
  obtain ⟨x, s', h1, h2, h3, h4⟩ := codeW_ok hc L_up (ro := ro) (u := 0) _ st _ (by rw [e]; exact (Eq.mpr (w_isText1 m s _ _ _ _ _ _ _ _ _ _ _ _ _ _ _ _ _ _ _ _ _ _ _ _ _) hr))
  exact ⟨x, s', _, _, _, h1, ⟨h2.trans h.len, rfl, h3.trans h.ds, by simp⟩, h4⟩
def r_isText2 (s : ByteArray) (pos : Nat) (x2 : V) (q : X → V → V → V → Heap → Prop) : Prop :=
    (if pos < ByteArray.size s then (if HPure.isChar (toI (Prod.fst (Utf8.decode s pos))) = true then (if (toI (Prod.fst (Utf8.decode s pos)) == 65533) = true then (if Int.toNat (toI pos) ≤ ByteArray.size s then (if prefixB (ByteArray.extract s (Int.toNat (toI pos)) (ByteArray.size s)) { data := #[239, 191, 189] } = true then q (X.normal) (V.lit (Value.string s)) (x2) (V.it 0) ([Blk.iter s (pos + Prod.snd (Utf8.decode s pos))]) else q (X.ret) (V.lit (Value.string s)) (V.lit (Value.bool false)) (V.it 0) ([Blk.iter s (pos + Prod.snd (Utf8.decode s pos))])) else False) else q (X.normal) (V.lit (Value.string s)) (x2) (V.it 0) ([Blk.iter s (pos + Prod.snd (Utf8.decode s pos))])) else q (X.ret) (V.lit (Value.string s)) (V.lit (Value.bool false)) (V.it 0) ([Blk.iter s (pos + Prod.snd (Utf8.decode s pos))])) else q (X.exit 0) (V.lit (Value.string s)) (x2) (V.it 0) ([Blk.iter s pos]))
theorem w_isText2 (m : Int) (s : ByteArray) (pos : Nat) (x1 x2 x3 x4 x5 x7 x8 x9 x10 x11 x12 x13 x14 x15 x16 x17 x18 x19 x20 x21 x22 x23 x24 : V) (q : X → V → V → V → Heap → Prop) :
    codeW (env m) (con2) 0 (atC [1, 0, 1, 0, 0] (bodyOf (env m).P 67)) ⟨[.lit (.string s), x1, x2, x3, x4, x5, .it 0, x7, x8, x9, x10, x11, x12, x13, x14, x15, x16, x17, x18, x19, x20, x21, x22, x23, x24], [.iter s pos], []⟩ (fun x s => q x (s.tmps.getD 0 un) (s.tmps.getD 2 un) (s.tmps.getD 6 un) s.H) =
    r_isText2 s pos x2 q := by kernel_rfl
theorem e_isText2 (m : Int) (s : ByteArray) (pos : Nat) {ro : Option Nat} (hc : ConOK (env m) (Lw m) (con2)) {st : St} (h : Fr st 25 ([.iter s pos]) [(0, .lit (.string s)), (6, .it 0)]) (q : X → V → V → V → Heap → Prop) (hr : r_isText2 s pos (st.tmps.getD 2 un) q) :
    ∃ x s' v0 v2 v6 H', codeE (env m) (Lw m) ro (atC [1, 0, 1, 0, 0] (bodyOf (env m).P 67)) st = some (x, s') ∧ Fr s' 25 H' [(0, v0), (2, v2), (6, v6)] ∧ q x v0 v2 v6 H' := by
  have e := h.eq
  simp only [List.range, List.range.loop, List.map_cons, List.map_nil, h.get 0 (v := .lit (.string s)) (by simp), h.get 6 (v := .it 0) (by simp)] at e
  obtain ⟨x, s', h1, h2, h3, h4⟩ := codeW_ok hc L_up (ro := ro) (u := 0) _ st _ (by rw [e]; exact (Eq.mpr (w_isText2 m s pos _ _ _ _ _ _ _ _ _ _ _ _ _ _ _ _ _ _ _ _ _ _ _ _) hr))
  exact ⟨x, s', _, _, _, _, h1, ⟨h2.trans h.len, rfl, h3.trans h.ds, by simp⟩, h4⟩
def r_isText3 (q : V → Prop) : Prop :=
    q (V.lit (Value.bool true))
theorem w_isText3 (m : Int) (s : ByteArray) (pos : Nat) (x1 x2 x3 x4 x5 x6 x7 x8 x9 x10 x11 x12 x13 x14 x15 x16 x17 x18 x19 x20 x21 x22 x23 x24 : V) (q : V → Prop) :
    codeW (env m) (con2) 0 (atC [1, 1] (bodyOf (env m).P 67)) ⟨[.lit (.string s), x1, x2, x3, x4, x5, x6, x7, x8, x9, x10, x11, x12, x13, x14, x15, x16, x17, x18, x19, x20, x21, x22, x23, x24], [.iter s pos], []⟩ (finW (env m) (resOf (env m).P 67) (fun v _ => q v)) =
    r_isText3 q := by kernel_rfl
theorem e_isText3 (m : Int) (s : ByteArray) (pos : Nat) {ro : Option Nat} (hc : ConOK (env m) (Lw m) (con2)) {st : St} (h : Fr st 25 ([.iter s pos]) [(0, .lit (.string s))]) (q : V → Prop) (hr : r_isText3 q) :
    ∃ x s', codeE (env m) (Lw m) ro (atC [1, 1] (bodyOf (env m).P 67)) st = some (x, s') ∧ s'.ds = [] ∧ finW (env m) (resOf (env m).P 67) (fun v _ => q v) x s' := by
  have e := h.eq
  simp only [List.range, List.range.loop, List.map_cons, List.map_nil, h.get 0 (v := .lit (.string s)) (by simp)] at e
  obtain ⟨x, s', h1, h2, h3, h4⟩ := codeW_ok hc L_up (ro := ro) (u := 0) _ st _ (by rw [e]; exact (Eq.mpr (w_isText3 m s pos _ _ _ _ _ _ _ _ _ _ _ _ _ _ _ _ _ _ _ _ _ _ _ _ _) hr))
  exact ⟨x, s', h1, h3.trans h.ds, h4⟩
def r_index58 (s : ByteArray) (q : V → Prop) : Prop :=
    (if ([58] == ByteArray.toList s) = true then q (V.lit (Value.int IntKind.i64 0)) else q (V.lit (Value.int IntKind.i64 (Lib.indexByte (Array.toList (ByteArray.data s)) (Nat.toUInt8 58)))))
theorem w_index58 (m : Int) (s : ByteArray) (q : V → Prop) :
    codeW (env m) (con2) 0 (atC [] (bodyOf (env m).P 117)) ⟨[.lit (.string s), .lit (.string ⟨#[58]⟩), un, un, un, un, un, un, un, un, un, un, un, un, un, un, un, un, un, un, un, un, un, un, un, un, un, un, un, un, un, un, un, un, un, un, un, un, un, un, un, un, un, un, un, un, un, un, un, un, un, un, un, un, un, un, un, un, un, un, un, un, un, un, un, un, un, un, un, un, un, un, un, un, un, un, un, un, un, un, un, un, un, un, un, un, un, un, un, un, un, un, un, un, un, un, un, un, un, un, un, un, un, un, un, un, un, un, un, un, un, un, un, un, un, un, un, un, un, un, un, un, un, un, un, un, un, un, un, un, un, un, un, un, un, un, un, un, un, un, un, un, un], [], []⟩ (finW (env m) (resOf (env m).P 117) (fun v _ => q v)) =
    r_index58 s q := by kernel_rfl
theorem c_index58 (m : Int) (s : ByteArray) (hc : ConOK (env m) (Lw m) (con2)) (q : V → Prop) (hr : r_index58 s q) :
    ∃ v H', (Lw m).callX 117 [.lit (.string s), .lit (.string ⟨#[58]⟩)] [] = some (.ret v, H') ∧ q v := by
  refine L_finW hc (u := 0) (q := fun v _ => q v) (by kernel_rfl) (fun _ => rfl) ?_
  rw [show ntmpsOf (env m).P 117 = 143 from by kernel_rfl]
  exact Eq.mpr (w_index58 m s _) hr
def r_rnext (s : ByteArray) (i : Int) (q : V → Prop) : Prop :=
    (if 0 ≤ i then (if Int.toNat i < ByteArray.size s then (if decide (IntKind.wrap IntKind.i64 (toI (UInt8.toNat (List.getD (Array.toList (ByteArray.data s)) (Int.toNat i) 0))) < 128) = true then q (V.tup [V.lit (Value.int IntKind.i64 (IntKind.wrap IntKind.i64 (toI (UInt8.toNat (List.getD (Array.toList (ByteArray.data s)) (Int.toNat i) 0))))), V.lit (Value.int IntKind.i64 1)]) else (if decide (IntKind.wrap IntKind.i64 (toI (UInt8.toNat (List.getD (Array.toList (ByteArray.data s)) (Int.toNat i) 0))) ≥ 192) = true then (if decide (IntKind.wrap IntKind.i64 (toI (UInt8.toNat (List.getD (Array.toList (ByteArray.data s)) (Int.toNat i) 0))) < 224) = true then (if decide (IntKind.wrap IntKind.i64 (i + 2) > toI (ByteArray.size s)) = true then q (V.tup [V.lit (Value.int IntKind.i64 0), V.lit (Value.int IntKind.i64 0)]) else (if 0 ≤ IntKind.wrap IntKind.i64 (i + 1) then (if Int.toNat (IntKind.wrap IntKind.i64 (i + 1)) < ByteArray.size s then (if decide (IntKind.wrap IntKind.i64 (toI (UInt8.toNat (List.getD (Array.toList (ByteArray.data s)) (Int.toNat (IntKind.wrap IntKind.i64 (i + 1))) 0))) < 128) = true then q (V.tup [V.lit (Value.int IntKind.i64 0), V.lit (Value.int IntKind.i64 0)]) else (if decide (IntKind.wrap IntKind.i64 (toI (UInt8.toNat (List.getD (Array.toList (ByteArray.data s)) (Int.toNat (IntKind.wrap IntKind.i64 (i + 1))) 0))) ≥ 192) = true then q (V.tup [V.lit (Value.int IntKind.i64 0), V.lit (Value.int IntKind.i64 0)]) else (if decide (IntKind.wrap IntKind.i64 (IntKind.wrap IntKind.i64 (IntKind.wrap IntKind.i64 (IntKind.wrap IntKind.i64 (IntKind.wrap IntKind.i64 (toI (UInt8.toNat (List.getD (Array.toList (ByteArray.data s)) (Int.toNat i) 0))) - 192) * 64) + IntKind.wrap IntKind.i64 (toI (UInt8.toNat (List.getD (Array.toList (ByteArray.data s)) (Int.toNat (IntKind.wrap IntKind.i64 (i + 1))) 0)))) - 128) < 128) = true then q (V.tup [V.lit (Value.int IntKind.i64 0), V.lit (Value.int IntKind.i64 0)]) else q (V.tup [V.lit (Value.int IntKind.i64 (IntKind.wrap IntKind.i64 (IntKind.wrap IntKind.i64 (IntKind.wrap IntKind.i64 (IntKind.wrap IntKind.i64 (IntKind.wrap IntKind.i64 (toI (UInt8.toNat (List.getD (Array.toList (ByteArray.data s)) (Int.toNat i) 0))) - 192) * 64) + IntKind.wrap IntKind.i64 (toI (UInt8.toNat (List.getD (Array.toList (ByteArray.data s)) (Int.toNat (IntKind.wrap IntKind.i64 (i + 1))) 0)))) - 128))), V.lit (Value.int IntKind.i64 2)])))) else False) else False)) else (if decide (IntKind.wrap IntKind.i64 (toI (UInt8.toNat (List.getD (Array.toList (ByteArray.data s)) (Int.toNat i) 0))) ≥ 224) = true then (if decide (IntKind.wrap IntKind.i64 (toI (UInt8.toNat (List.getD (Array.toList (ByteArray.data s)) (Int.toNat i) 0))) < 240) = true then (if decide (IntKind.wrap IntKind.i64 (i + 3) > toI (ByteArray.size s)) = true then q (V.tup [V.lit (Value.int IntKind.i64 0), V.lit (Value.int IntKind.i64 0)]) else (if 0 ≤ IntKind.wrap IntKind.i64 (i + 1) then (if Int.toNat (IntKind.wrap IntKind.i64 (i + 1)) < ByteArray.size s then (if decide (IntKind.wrap IntKind.i64 (toI (UInt8.toNat (List.getD (Array.toList (ByteArray.data s)) (Int.toNat (IntKind.wrap IntKind.i64 (i + 1))) 0))) < 128) = true then q (V.tup [V.lit (Value.int IntKind.i64 0), V.lit (Value.int IntKind.i64 0)]) else (if decide (IntKind.wrap IntKind.i64 (toI (UInt8.toNat (List.getD (Array.toList (ByteArray.data s)) (Int.toNat (IntKind.wrap IntKind.i64 (i + 1))) 0))) ≥ 192) = true then q (V.tup [V.lit (Value.int IntKind.i64 0), V.lit (Value.int IntKind.i64 0)]) else (if 0 ≤ IntKind.wrap IntKind.i64 (i + 2) then (if Int.toNat (IntKind.wrap IntKind.i64 (i + 2)) < ByteArray.size s then (if decide (IntKind.wrap IntKind.i64 (toI (UInt8.toNat (List.getD (Array.toList (ByteArray.data s)) (Int.toNat (IntKind.wrap IntKind.i64 (i + 2))) 0))) < 128) = true then q (V.tup [V.lit (Value.int IntKind.i64 0), V.lit (Value.int IntKind.i64 0)]) else (if decide (IntKind.wrap IntKind.i64 (toI (UInt8.toNat (List.getD (Array.toList (ByteArray.data s)) (Int.toNat (IntKind.wrap IntKind.i64 (i + 2))) 0))) ≥ 192) = true then q (V.tup [V.lit (Value.int IntKind.i64 0), V.lit (Value.int IntKind.i64 0)]) else (if decide (IntKind.wrap IntKind.i64 (IntKind.wrap IntKind.i64 (IntKind.wrap IntKind.i64 (IntKind.wrap IntKind.i64 (IntKind.wrap IntKind.i64 (IntKind.wrap IntKind.i64 (IntKind.wrap IntKind.i64 (IntKind.wrap IntKind.i64 (toI (UInt8.toNat (List.getD (Array.toList (ByteArray.data s)) (Int.toNat i) 0))) - 224) * 64) + IntKind.wrap IntKind.i64 (toI (UInt8.toNat (List.getD (Array.toList (ByteArray.data s)) (Int.toNat (IntKind.wrap IntKind.i64 (i + 1))) 0)))) - 128) * 64) + IntKind.wrap IntKind.i64 (toI (UInt8.toNat (List.getD (Array.toList (ByteArray.data s)) (Int.toNat (IntKind.wrap IntKind.i64 (i + 2))) 0)))) - 128) < 2048) = true then q (V.tup [V.lit (Value.int IntKind.i64 0), V.lit (Value.int IntKind.i64 0)]) else q (V.tup [V.lit (Value.int IntKind.i64 (IntKind.wrap IntKind.i64 (IntKind.wrap IntKind.i64 (IntKind.wrap IntKind.i64 (IntKind.wrap IntKind.i64 (IntKind.wrap IntKind.i64 (IntKind.wrap IntKind.i64 (IntKind.wrap IntKind.i64 (IntKind.wrap IntKind.i64 (toI (UInt8.toNat (List.getD (Array.toList (ByteArray.data s)) (Int.toNat i) 0))) - 224) * 64) + IntKind.wrap IntKind.i64 (toI (UInt8.toNat (List.getD (Array.toList (ByteArray.data s)) (Int.toNat (IntKind.wrap IntKind.i64 (i + 1))) 0)))) - 128) * 64) + IntKind.wrap IntKind.i64 (toI (UInt8.toNat (List.getD (Array.toList (ByteArray.data s)) (Int.toNat (IntKind.wrap IntKind.i64 (i + 2))) 0)))) - 128))), V.lit (Value.int IntKind.i64 3)])))) else False) else False))) else False) else False)) else (if decide (IntKind.wrap IntKind.i64 (toI (UInt8.toNat (List.getD (Array.toList (ByteArray.data s)) (Int.toNat i) 0))) ≥ 240) = true then (if decide (IntKind.wrap IntKind.i64 (toI (UInt8.toNat (List.getD (Array.toList (ByteArray.data s)) (Int.toNat i) 0))) < 248) = true then (if decide (IntKind.wrap IntKind.i64 (i + 4) > toI (ByteArray.size s)) = true then q (V.tup [V.lit (Value.int IntKind.i64 0), V.lit (Value.int IntKind.i64 0)]) else (if 0 ≤ IntKind.wrap IntKind.i64 (i + 1) then (if Int.toNat (IntKind.wrap IntKind.i64 (i + 1)) < ByteArray.size s then (if decide (IntKind.wrap IntKind.i64 (toI (UInt8.toNat (List.getD (Array.toList (ByteArray.data s)) (Int.toNat (IntKind.wrap IntKind.i64 (i + 1))) 0))) < 128) = true then q (V.tup [V.lit (Value.int IntKind.i64 0), V.lit (Value.int IntKind.i64 0)]) else (if decide (IntKind.wrap IntKind.i64 (toI (UInt8.toNat (List.getD (Array.toList (ByteArray.data s)) (Int.toNat (IntKind.wrap IntKind.i64 (i + 1))) 0))) ≥ 192) = true then q (V.tup [V.lit (Value.int IntKind.i64 0), V.lit (Value.int IntKind.i64 0)]) else (if 0 ≤ IntKind.wrap IntKind.i64 (i + 2) then (if Int.toNat (IntKind.wrap IntKind.i64 (i + 2)) < ByteArray.size s then (if decide (IntKind.wrap IntKind.i64 (toI (UInt8.toNat (List.getD (Array.toList (ByteArray.data s)) (Int.toNat (IntKind.wrap IntKind.i64 (i + 2))) 0))) < 128) = true then q (V.tup [V.lit (Value.int IntKind.i64 0), V.lit (Value.int IntKind.i64 0)]) else (if decide (IntKind.wrap IntKind.i64 (toI (UInt8.toNat (List.getD (Array.toList (ByteArray.data s)) (Int.toNat (IntKind.wrap IntKind.i64 (i + 2))) 0))) ≥ 192) = true then q (V.tup [V.lit (Value.int IntKind.i64 0), V.lit (Value.int IntKind.i64 0)]) else (if 0 ≤ IntKind.wrap IntKind.i64 (i + 3) then (if Int.toNat (IntKind.wrap IntKind.i64 (i + 3)) < ByteArray.size s then (if decide (IntKind.wrap IntKind.i64 (toI (UInt8.toNat (List.getD (Array.toList (ByteArray.data s)) (Int.toNat (IntKind.wrap IntKind.i64 (i + 3))) 0))) < 128) = true then q (V.tup [V.lit (Value.int IntKind.i64 0), V.lit (Value.int IntKind.i64 0)]) else (if decide (IntKind.wrap IntKind.i64 (toI (UInt8.toNat (List.getD (Array.toList (ByteArray.data s)) (Int.toNat (IntKind.wrap IntKind.i64 (i + 3))) 0))) ≥ 192) = true then q (V.tup [V.lit (Value.int IntKind.i64 0), V.lit (Value.int IntKind.i64 0)]) else (if decide (IntKind.wrap IntKind.i64 (IntKind.wrap IntKind.i64 (IntKind.wrap IntKind.i64 (IntKind.wrap IntKind.i64 (IntKind.wrap IntKind.i64 (IntKind.wrap IntKind.i64 (IntKind.wrap IntKind.i64 (IntKind.wrap IntKind.i64 (IntKind.wrap IntKind.i64 (IntKind.wrap IntKind.i64 (IntKind.wrap IntKind.i64 (toI (UInt8.toNat (List.getD (Array.toList (ByteArray.data s)) (Int.toNat i) 0))) - 240) * 64) + IntKind.wrap IntKind.i64 (toI (UInt8.toNat (List.getD (Array.toList (ByteArray.data s)) (Int.toNat (IntKind.wrap IntKind.i64 (i + 1))) 0)))) - 128) * 64) + IntKind.wrap IntKind.i64 (toI (UInt8.toNat (List.getD (Array.toList (ByteArray.data s)) (Int.toNat (IntKind.wrap IntKind.i64 (i + 2))) 0)))) - 128) * 64) + IntKind.wrap IntKind.i64 (toI (UInt8.toNat (List.getD (Array.toList (ByteArray.data s)) (Int.toNat (IntKind.wrap IntKind.i64 (i + 3))) 0)))) - 128) < 65536) = true then q (V.tup [V.lit (Value.int IntKind.i64 0), V.lit (Value.int IntKind.i64 0)]) else q (V.tup [V.lit (Value.int IntKind.i64 (IntKind.wrap IntKind.i64 (IntKind.wrap IntKind.i64 (IntKind.wrap IntKind.i64 (IntKind.wrap IntKind.i64 (IntKind.wrap IntKind.i64 (IntKind.wrap IntKind.i64 (IntKind.wrap IntKind.i64 (IntKind.wrap IntKind.i64 (IntKind.wrap IntKind.i64 (IntKind.wrap IntKind.i64 (IntKind.wrap IntKind.i64 (toI (UInt8.toNat (List.getD (Array.toList (ByteArray.data s)) (Int.toNat i) 0))) - 240) * 64) + IntKind.wrap IntKind.i64 (toI (UInt8.toNat (List.getD (Array.toList (ByteArray.data s)) (Int.toNat (IntKind.wrap IntKind.i64 (i + 1))) 0)))) - 128) * 64) + IntKind.wrap IntKind.i64 (toI (UInt8.toNat (List.getD (Array.toList (ByteArray.data s)) (Int.toNat (IntKind.wrap IntKind.i64 (i + 2))) 0)))) - 128) * 64) + IntKind.wrap IntKind.i64 (toI (UInt8.toNat (List.getD (Array.toList (ByteArray.data s)) (Int.toNat (IntKind.wrap IntKind.i64 (i + 3))) 0)))) - 128))), V.lit (Value.int IntKind.i64 4)])))) else False) else False))) else False) else False))) else False) else False)) else q (V.tup [V.lit (Value.int IntKind.i64 0), V.lit (Value.int IntKind.i64 0)])) else q (V.tup [V.lit (Value.int IntKind.i64 0), V.lit (Value.int IntKind.i64 0)]))) else (if decide (IntKind.wrap IntKind.i64 (toI (UInt8.toNat (List.getD (Array.toList (ByteArray.data s)) (Int.toNat i) 0))) ≥ 240) = true then (if decide (IntKind.wrap IntKind.i64 (toI (UInt8.toNat (List.getD (Array.toList (ByteArray.data s)) (Int.toNat i) 0))) < 248) = true then (if decide (IntKind.wrap IntKind.i64 (i + 4) > toI (ByteArray.size s)) = true then q (V.tup [V.lit (Value.int IntKind.i64 0), V.lit (Value.int IntKind.i64 0)]) else (if 0 ≤ IntKind.wrap IntKind.i64 (i + 1) then (if Int.toNat (IntKind.wrap IntKind.i64 (i + 1)) < ByteArray.size s then (if decide (IntKind.wrap IntKind.i64 (toI (UInt8.toNat (List.getD (Array.toList (ByteArray.data s)) (Int.toNat (IntKind.wrap IntKind.i64 (i + 1))) 0))) < 128) = true then q (V.tup [V.lit (Value.int IntKind.i64 0), V.lit (Value.int IntKind.i64 0)]) else (if decide (IntKind.wrap IntKind.i64 (toI (UInt8.toNat (List.getD (Array.toList (ByteArray.data s)) (Int.toNat (IntKind.wrap IntKind.i64 (i + 1))) 0))) ≥ 192) = true then q (V.tup [V.lit (Value.int IntKind.i64 0), V.lit (Value.int IntKind.i64 0)]) else (if 0 ≤ IntKind.wrap IntKind.i64 (i + 2) then (if Int.toNat (IntKind.wrap IntKind.i64 (i + 2)) < ByteArray.size s then (if decide (IntKind.wrap IntKind.i64 (toI (UInt8.toNat (List.getD (Array.toList (ByteArray.data s)) (Int.toNat (IntKind.wrap IntKind.i64 (i + 2))) 0))) < 128) = true then q (V.tup [V.lit (Value.int IntKind.i64 0), V.lit (Value.int IntKind.i64 0)]) else (if decide (IntKind.wrap IntKind.i64 (toI (UInt8.toNat (List.getD (Array.toList (ByteArray.data s)) (Int.toNat (IntKind.wrap IntKind.i64 (i + 2))) 0))) ≥ 192) = true then q (V.tup [V.lit (Value.int IntKind.i64 0), V.lit (Value.int IntKind.i64 0)]) else (if 0 ≤ IntKind.wrap IntKind.i64 (i + 3) then (if Int.toNat (IntKind.wrap IntKind.i64 (i + 3)) < ByteArray.size s then (if decide (IntKind.wrap IntKind.i64 (toI (UInt8.toNat (List.getD (Array.toList (ByteArray.data s)) (Int.toNat (IntKind.wrap IntKind.i64 (i + 3))) 0))) < 128) = true then q (V.tup [V.lit (Value.int IntKind.i64 0), V.lit (Value.int IntKind.i64 0)]) else (if decide (IntKind.wrap IntKind.i64 (toI (UInt8.toNat (List.getD (Array.toList (ByteArray.data s)) (Int.toNat (IntKind.wrap IntKind.i64 (i + 3))) 0))) ≥ 192) = true then q (V.tup [V.lit (Value.int IntKind.i64 0), V.lit (Value.int IntKind.i64 0)]) else (if decide (IntKind.wrap IntKind.i64 (IntKind.wrap IntKind.i64 (IntKind.wrap IntKind.i64 (IntKind.wrap IntKind.i64 (IntKind.wrap IntKind.i64 (IntKind.wrap IntKind.i64 (IntKind.wrap IntKind.i64 (IntKind.wrap IntKind.i64 (IntKind.wrap IntKind.i64 (IntKind.wrap IntKind.i64 (IntKind.wrap IntKind.i64 (toI (UInt8.toNat (List.getD (Array.toList (ByteArray.data s)) (Int.toNat i) 0))) - 240) * 64) + IntKind.wrap IntKind.i64 (toI (UInt8.toNat (List.getD (Array.toList (ByteArray.data s)) (Int.toNat (IntKind.wrap IntKind.i64 (i + 1))) 0)))) - 128) * 64) + IntKind.wrap IntKind.i64 (toI (UInt8.toNat (List.getD (Array.toList (ByteArray.data s)) (Int.toNat (IntKind.wrap IntKind.i64 (i + 2))) 0)))) - 128) * 64) + IntKind.wrap IntKind.i64 (toI (UInt8.toNat (List.getD (Array.toList (ByteArray.data s)) (Int.toNat (IntKind.wrap IntKind.i64 (i + 3))) 0)))) - 128) < 65536) = true then q (V.tup [V.lit (Value.int IntKind.i64 0), V.lit (Value.int IntKind.i64 0)]) else q (V.tup [V.lit (Value.int IntKind.i64 (IntKind.wrap IntKind.i64 (IntKind.wrap IntKind.i64 (IntKind.wrap IntKind.i64 (IntKind.wrap IntKind.i64 (IntKind.wrap IntKind.i64 (IntKind.wrap IntKind.i64 (IntKind.wrap IntKind.i64 (IntKind.wrap IntKind.i64 (IntKind.wrap IntKind.i64 (IntKind.wrap IntKind.i64 (IntKind.wrap IntKind.i64 (toI (UInt8.toNat (List.getD (Array.toList (ByteArray.data s)) (Int.toNat i) 0))) - 240) * 64) + IntKind.wrap IntKind.i64 (toI (UInt8.toNat (List.getD (Array.toList (ByteArray.data s)) (Int.toNat (IntKind.wrap IntKind.i64 (i + 1))) 0)))) - 128) * 64) + IntKind.wrap IntKind.i64 (toI (UInt8.toNat (List.getD (Array.toList (ByteArray.data s)) (Int.toNat (IntKind.wrap IntKind.i64 (i + 2))) 0)))) - 128) * 64) + IntKind.wrap IntKind.i64 (toI (UInt8.toNat (List.getD (Array.toList (ByteArray.data s)) (Int.toNat (IntKind.wrap IntKind.i64 (i + 3))) 0)))) - 128))), V.lit (Value.int IntKind.i64 4)])))) else False) else False))) else False) else False))) else False) else False)) else q (V.tup [V.lit (Value.int IntKind.i64 0), V.lit (Value.int IntKind.i64 0)])) else q (V.tup [V.lit (Value.int IntKind.i64 0), V.lit (Value.int IntKind.i64 0)])))) else (if decide (IntKind.wrap IntKind.i64 (toI (UInt8.toNat (List.getD (Array.toList (ByteArray.data s)) (Int.toNat i) 0))) ≥ 224) = true then (if decide (IntKind.wrap IntKind.i64 (toI (UInt8.toNat (List.getD (Array.toList (ByteArray.data s)) (Int.toNat i) 0))) < 240) = true then (if decide (IntKind.wrap IntKind.i64 (i + 3) > toI (ByteArray.size s)) = true then q (V.tup [V.lit (Value.int IntKind.i64 0), V.lit (Value.int IntKind.i64 0)]) else (if 0 ≤ IntKind.wrap IntKind.i64 (i + 1) then (if Int.toNat (IntKind.wrap IntKind.i64 (i + 1)) < ByteArray.size s then (if decide (IntKind.wrap IntKind.i64 (toI (UInt8.toNat (List.getD (Array.toList (ByteArray.data s)) (Int.toNat (IntKind.wrap IntKind.i64 (i + 1))) 0))) < 128) = true then q (V.tup [V.lit (Value.int IntKind.i64 0), V.lit (Value.int IntKind.i64 0)]) else (if decide (IntKind.wrap IntKind.i64 (toI (UInt8.toNat (List.getD (Array.toList (ByteArray.data s)) (Int.toNat (IntKind.wrap IntKind.i64 (i + 1))) 0))) ≥ 192) = true then q (V.tup [V.lit (Value.int IntKind.i64 0), V.lit (Value.int IntKind.i64 0)]) else (if 0 ≤ IntKind.wrap IntKind.i64 (i + 2) then (if Int.toNat (IntKind.wrap IntKind.i64 (i + 2)) < ByteArray.size s then (if decide (IntKind.wrap IntKind.i64 (toI (UInt8.toNat (List.getD (Array.toList (ByteArray.data s)) (Int.toNat (IntKind.wrap IntKind.i64 (i + 2))) 0))) < 128) = true then q (V.tup [V.lit (Value.int IntKind.i64 0), V.lit (Value.int IntKind.i64 0)]) else (if decide (IntKind.wrap IntKind.i64 (toI (UInt8.toNat (List.getD (Array.toList (ByteArray.data s)) (Int.toNat (IntKind.wrap IntKind.i64 (i + 2))) 0))) ≥ 192) = true then q (V.tup [V.lit (Value.int IntKind.i64 0), V.lit (Value.int IntKind.i64 0)]) else (if decide (IntKind.wrap IntKind.i64 (IntKind.wrap IntKind.i64 (IntKind.wrap IntKind.i64 (IntKind.wrap IntKind.i64 (IntKind.wrap IntKind.i64 (IntKind.wrap IntKind.i64 (IntKind.wrap IntKind.i64 (IntKind.wrap IntKind.i64 (toI (UInt8.toNat (List.getD (Array.toList (ByteArray.data s)) (Int.toNat i) 0))) - 224) * 64) + IntKind.wrap IntKind.i64 (toI (UInt8.toNat (List.getD (Array.toList (ByteArray.data s)) (Int.toNat (IntKind.wrap IntKind.i64 (i + 1))) 0)))) - 128) * 64) + IntKind.wrap IntKind.i64 (toI (UInt8.toNat (List.getD (Array.toList (ByteArray.data s)) (Int.toNat (IntKind.wrap IntKind.i64 (i + 2))) 0)))) - 128) < 2048) = true then q (V.tup [V.lit (Value.int IntKind.i64 0), V.lit (Value.int IntKind.i64 0)]) else q (V.tup [V.lit (Value.int IntKind.i64 (IntKind.wrap IntKind.i64 (IntKind.wrap IntKind.i64 (IntKind.wrap IntKind.i64 (IntKind.wrap IntKind.i64 (IntKind.wrap IntKind.i64 (IntKind.wrap IntKind.i64 (IntKind.wrap IntKind.i64 (IntKind.wrap IntKind.i64 (toI (UInt8.toNat (List.getD (Array.toList (ByteArray.data s)) (Int.toNat i) 0))) - 224) * 64) + IntKind.wrap IntKind.i64 (toI (UInt8.toNat (List.getD (Array.toList (ByteArray.data s)) (Int.toNat (IntKind.wrap IntKind.i64 (i + 1))) 0)))) - 128) * 64) + IntKind.wrap IntKind.i64 (toI (UInt8.toNat (List.getD (Array.toList (ByteArray.data s)) (Int.toNat (IntKind.wrap IntKind.i64 (i + 2))) 0)))) - 128))), V.lit (Value.int IntKind.i64 3)])))) else False) else False))) else False) else False)) else (if decide (IntKind.wrap IntKind.i64 (toI (UInt8.toNat (List.getD (Array.toList (ByteArray.data s)) (Int.toNat i) 0))) ≥ 240) = true then (if decide (IntKind.wrap IntKind.i64 (toI (UInt8.toNat (List.getD (Array.toList (ByteArray.data s)) (Int.toNat i) 0))) < 248) = true then (if decide (IntKind.wrap IntKind.i64 (i + 4) > toI (ByteArray.size s)) = true then q (V.tup [V.lit (Value.int IntKind.i64 0), V.lit (Value.int IntKind.i64 0)]) else (if 0 ≤ IntKind.wrap IntKind.i64 (i + 1) then (if Int.toNat (IntKind.wrap IntKind.i64 (i + 1)) < ByteArray.size s then (if decide (IntKind.wrap IntKind.i64 (toI (UInt8.toNat (List.getD (Array.toList (ByteArray.data s)) (Int.toNat (IntKind.wrap IntKind.i64 (i + 1))) 0))) < 128) = true then q (V.tup [V.lit (Value.int IntKind.i64 0), V.lit (Value.int IntKind.i64 0)]) else (if decide (IntKind.wrap IntKind.i64 (toI (UInt8.toNat (List.getD (Array.toList (ByteArray.data s)) (Int.toNat (IntKind.wrap IntKind.i64 (i + 1))) 0))) ≥ 192) = true then q (V.tup [V.lit (Value.int IntKind.i64 0), V.lit (Value.int IntKind.i64 0)]) else (if 0 ≤ IntKind.wrap IntKind.i64 (i + 2) then (if Int.toNat (IntKind.wrap IntKind.i64 (i + 2)) < ByteArray.size s then (if decide (IntKind.wrap IntKind.i64 (toI (UInt8.toNat (List.getD (Array.toList (ByteArray.data s)) (Int.toNat (IntKind.wrap IntKind.i64 (i + 2))) 0))) < 128) = true then q (V.tup [V.lit (Value.int IntKind.i64 0), V.lit (Value.int IntKind.i64 0)]) else (if decide (IntKind.wrap IntKind.i64 (toI (UInt8.toNat (List.getD (Array.toList (ByteArray.data s)) (Int.toNat (IntKind.wrap IntKind.i64 (i + 2))) 0))) ≥ 192) = true then q (V.tup [V.lit (Value.int IntKind.i64 0), V.lit (Value.int IntKind.i64 0)]) else (if 0 ≤ IntKind.wrap IntKind.i64 (i + 3) then (if Int.toNat (IntKind.wrap IntKind.i64 (i + 3)) < ByteArray.size s then (if decide (IntKind.wrap IntKind.i64 (toI (UInt8.toNat (List.getD (Array.toList (ByteArray.data s)) (Int.toNat (IntKind.wrap IntKind.i64 (i + 3))) 0))) < 128) = true then q (V.tup [V.lit (Value.int IntKind.i64 0), V.lit (Value.int IntKind.i64 0)]) else (if decide (IntKind.wrap IntKind.i64 (toI (UInt8.toNat (List.getD (Array.toList (ByteArray.data s)) (Int.toNat (IntKind.wrap IntKind.i64 (i + 3))) 0))) ≥ 192) = true then q (V.tup [V.lit (Value.int IntKind.i64 0), V.lit (Value.int IntKind.i64 0)]) else (if decide (IntKind.wrap IntKind.i64 (IntKind.wrap IntKind.i64 (IntKind.wrap IntKind.i64 (IntKind.wrap IntKind.i64 (IntKind.wrap IntKind.i64 (IntKind.wrap IntKind.i64 (IntKind.wrap IntKind.i64 (IntKind.wrap IntKind.i64 (IntKind.wrap IntKind.i64 (IntKind.wrap IntKind.i64 (IntKind.wrap IntKind.i64 (toI (UInt8.toNat (List.getD (Array.toList (ByteArray.data s)) (Int.toNat i) 0))) - 240) * 64) + IntKind.wrap IntKind.i64 (toI (UInt8.toNat (List.getD (Array.toList (ByteArray.data s)) (Int.toNat (IntKind.wrap IntKind.i64 (i + 1))) 0)))) - 128) * 64) + IntKind.wrap IntKind.i64 (toI (UInt8.toNat (List.getD (Array.toList (ByteArray.data s)) (Int.toNat (IntKind.wrap IntKind.i64 (i + 2))) 0)))) - 128) * 64) + IntKind.wrap IntKind.i64 (toI (UInt8.toNat (List.getD (Array.toList (ByteArray.data s)) (Int.toNat (IntKind.wrap IntKind.i64 (i + 3))) 0)))) - 128) < 65536) = true then q (V.tup [V.lit (Value.int IntKind.i64 0), V.lit (Value.int IntKind.i64 0)]) else q (V.tup [V.lit (Value.int IntKind.i64 (IntKind.wrap IntKind.i64 (IntKind.wrap IntKind.i64 (IntKind.wrap IntKind.i64 (IntKind.wrap IntKind.i64 (IntKind.wrap IntKind.i64 (IntKind.wrap IntKind.i64 (IntKind.wrap IntKind.i64 (IntKind.wrap IntKind.i64 (IntKind.wrap IntKind.i64 (IntKind.wrap IntKind.i64 (IntKind.wrap IntKind.i64 (toI (UInt8.toNat (List.getD (Array.toList (ByteArray.data s)) (Int.toNat i) 0))) - 240) * 64) + IntKind.wrap IntKind.i64 (toI (UInt8.toNat (List.getD (Array.toList (ByteArray.data s)) (Int.toNat (IntKind.wrap IntKind.i64 (i + 1))) 0)))) - 128) * 64) + IntKind.wrap IntKind.i64 (toI (UInt8.toNat (List.getD (Array.toList (ByteArray.data s)) (Int.toNat (IntKind.wrap IntKind.i64 (i + 2))) 0)))) - 128) * 64) + IntKind.wrap IntKind.i64 (toI (UInt8.toNat (List.getD (Array.toList (ByteArray.data s)) (Int.toNat (IntKind.wrap IntKind.i64 (i + 3))) 0)))) - 128))), V.lit (Value.int IntKind.i64 4)])))) else False) else False))) else False) else False))) else False) else False)) else q (V.tup [V.lit (Value.int IntKind.i64 0), V.lit (Value.int IntKind.i64 0)])) else q (V.tup [V.lit (Value.int IntKind.i64 0), V.lit (Value.int IntKind.i64 0)]))) else (if decide (IntKind.wrap IntKind.i64 (toI (UInt8.toNat (List.getD (Array.toList (ByteArray.data s)) (Int.toNat i) 0))) ≥ 240) = true then (if decide (IntKind.wrap IntKind.i64 (toI (UInt8.toNat (List.getD (Array.toList (ByteArray.data s)) (Int.toNat i) 0))) < 248) = true then (if decide (IntKind.wrap IntKind.i64 (i + 4) > toI (ByteArray.size s)) = true then q (V.tup [V.lit (Value.int IntKind.i64 0), V.lit (Value.int IntKind.i64 0)]) else (if 0 ≤ IntKind.wrap IntKind.i64 (i + 1) then (if Int.toNat (IntKind.wrap IntKind.i64 (i + 1)) < ByteArray.size s then (if decide (IntKind.wrap IntKind.i64 (toI (UInt8.toNat (List.getD (Array.toList (ByteArray.data s)) (Int.toNat (IntKind.wrap IntKind.i64 (i + 1))) 0))) < 128) = true then q (V.tup [V.lit (Value.int IntKind.i64 0), V.lit (Value.int IntKind.i64 0)]) else (if decide (IntKind.wrap IntKind.i64 (toI (UInt8.toNat (List.getD (Array.toList (ByteArray.data s)) (Int.toNat (IntKind.wrap IntKind.i64 (i + 1))) 0))) ≥ 192) = true then q (V.tup [V.lit (Value.int IntKind.i64 0), V.lit (Value.int IntKind.i64 0)]) else (if 0 ≤ IntKind.wrap IntKind.i64 (i + 2) then (if Int.toNat (IntKind.wrap IntKind.i64 (i + 2)) < ByteArray.size s then (if decide (IntKind.wrap IntKind.i64 (toI (UInt8.toNat (List.getD (Array.toList (ByteArray.data s)) (Int.toNat (IntKind.wrap IntKind.i64 (i + 2))) 0))) < 128) = true then q (V.tup [V.lit (Value.int IntKind.i64 0), V.lit (Value.int IntKind.i64 0)]) else (if decide (IntKind.wrap IntKind.i64 (toI (UInt8.toNat (List.getD (Array.toList (ByteArray.data s)) (Int.toNat (IntKind.wrap IntKind.i64 (i + 2))) 0))) ≥ 192) = true then q (V.tup [V.lit (Value.int IntKind.i64 0), V.lit (Value.int IntKind.i64 0)]) else (if 0 ≤ IntKind.wrap IntKind.i64 (i + 3) then (if Int.toNat (IntKind.wrap IntKind.i64 (i + 3)) < ByteArray.size s then (if decide (IntKind.wrap IntKind.i64 (toI (UInt8.toNat (List.getD (Array.toList (ByteArray.data s)) (Int.toNat (IntKind.wrap IntKind.i64 (i + 3))) 0))) < 128) = true then q (V.tup [V.lit (Value.int IntKind.i64 0), V.lit (Value.int IntKind.i64 0)]) else (if decide (IntKind.wrap IntKind.i64 (toI (UInt8.toNat (List.getD (Array.toList (ByteArray.data s)) (Int.toNat (IntKind.wrap IntKind.i64 (i + 3))) 0))) ≥ 192) = true then q (V.tup [V.lit (Value.int IntKind.i64 0), V.lit (Value.int IntKind.i64 0)]) else (if decide (IntKind.wrap IntKind.i64 (IntKind.wrap IntKind.i64 (IntKind.wrap IntKind.i64 (IntKind.wrap IntKind.i64 (IntKind.wrap IntKind.i64 (IntKind.wrap IntKind.i64 (IntKind.wrap IntKind.i64 (IntKind.wrap IntKind.i64 (IntKind.wrap IntKind.i64 (IntKind.wrap IntKind.i64 (IntKind.wrap IntKind.i64 (toI (UInt8.toNat (List.getD (Array.toList (ByteArray.data s)) (Int.toNat i) 0))) - 240) * 64) + IntKind.wrap IntKind.i64 (toI (UInt8.toNat (List.getD (Array.toList (ByteArray.data s)) (Int.toNat (IntKind.wrap IntKind.i64 (i + 1))) 0)))) - 128) * 64) + IntKind.wrap IntKind.i64 (toI (UInt8.toNat (List.getD (Array.toList (ByteArray.data s)) (Int.toNat (IntKind.wrap IntKind.i64 (i + 2))) 0)))) - 128) * 64) + IntKind.wrap IntKind.i64 (toI (UInt8.toNat (List.getD (Array.toList (ByteArray.data s)) (Int.toNat (IntKind.wrap IntKind.i64 (i + 3))) 0)))) - 128) < 65536) = true then q (V.tup [V.lit (Value.int IntKind.i64 0), V.lit (Value.int IntKind.i64 0)]) else q (V.tup [V.lit (Value.int IntKind.i64 (IntKind.wrap IntKind.i64 (IntKind.wrap IntKind.i64 (IntKind.wrap IntKind.i64 (IntKind.wrap IntKind.i64 (IntKind.wrap IntKind.i64 (IntKind.wrap IntKind.i64 (IntKind.wrap IntKind.i64 (IntKind.wrap IntKind.i64 (IntKind.wrap IntKind.i64 (IntKind.wrap IntKind.i64 (IntKind.wrap IntKind.i64 (toI (UInt8.toNat (List.getD (Array.toList (ByteArray.data s)) (Int.toNat i) 0))) - 240) * 64) + IntKind.wrap IntKind.i64 (toI (UInt8.toNat (List.getD (Array.toList (ByteArray.data s)) (Int.toNat (IntKind.wrap IntKind.i64 (i + 1))) 0)))) - 128) * 64) + IntKind.wrap IntKind.i64 (toI (UInt8.toNat (List.getD (Array.toList (ByteArray.data s)) (Int.toNat (IntKind.wrap IntKind.i64 (i + 2))) 0)))) - 128) * 64) + IntKind.wrap IntKind.i64 (toI (UInt8.toNat (List.getD (Array.toList (ByteArray.data s)) (Int.toNat (IntKind.wrap IntKind.i64 (i + 3))) 0)))) - 128))), V.lit (Value.int IntKind.i64 4)])))) else False) else False))) else False) else False))) else False) else False)) else q (V.tup [V.lit (Value.int IntKind.i64 0), V.lit (Value.int IntKind.i64 0)])) else q (V.tup [V.lit (Value.int IntKind.i64 0), V.lit (Value.int IntKind.i64 0)]))))) else False) else False)
theorem w_rnext (m : Int) (s : ByteArray) (i : Int) (q : V → Prop) :
    codeW (env m) (con2) 4 (atC [] (bodyOf (env m).P 139)) ⟨[.lit (.string s), .lit (.int .i64 i), un, un, un, un, un, un, un, un, un, un, un, un, un, un, un, un, un, un, un, un, un, un, un, un, un, un, un, un, un, un, un, un, un, un, un, un, un, un, un, un, un, un, un, un, un, un, un, un, un, un, un, un, un, un, un, un, un, un, un, un, un, un, un, un, un, un, un, un, un, un, un, un, un], [], []⟩ (finW (env m) (resOf (env m).P 139) (fun v _ => q v)) =
    r_rnext s i q := by kernel_rfl
theorem c_rnext (m : Int) (s : ByteArray) (i : Int) (hc : ConOK (env m) (Lw m) (con2)) (q : V → Prop) (hr : r_rnext s i q) :
    ∃ v H', (Lw m).callX 139 [.lit (.string s), .lit (.int .i64 i)] [] = some (.ret v, H') ∧ q v := by
  refine L_finW hc (u := 4) (q := fun v _ => q v) (by kernel_rfl) (fun _ => rfl) ?_
  rw [show ntmpsOf (env m).P 139 = 75 from by kernel_rfl]
  exact Eq.mpr (w_rnext m s i _) hr
def r_has0 (s x : ByteArray) (q : X → V → V → Heap → Prop) : Prop :=
    q (X.normal) (V.lit (Value.string s)) (V.lit (Value.string x)) ([])
theorem w_has0 (m : Int) (s x : ByteArray) (x2 x3 x4 x5 x6 x7 x8 x9 x10 x11 x12 x13 x14 x15 x16 x17 x18 x19 x20 x21 x22 x23 : V) (q : X → V → V → Heap → Prop) :
    codeW (env m) (con2) 0 (atC [0] (bodyOf (env m).P 82)) ⟨[.lit (.string s), .lit (.string x), x2, x3, x4, x5, x6, x7, x8, x9, x10, x11, x12, x13, x14, x15, x16, x17, x18, x19, x20, x21, x22, x23], [], []⟩ (fun x s => q x (s.tmps.getD 0 un) (s.tmps.getD 1 un) s.H) =
    r_has0 s x q := by kernel_rfl
theorem e_has0 (m : Int) (s x : ByteArray) {ro : Option Nat} (hc : ConOK (env m) (Lw m) (con2)) {st : St} (h : Fr st 24 ([]) [(0, .lit (.string s)), (1, .lit (.string x))]) (q : X → V → V → Heap → Prop) (hr : r_has0 s x q) :
    ∃ x s' v0 v1 H', codeE (env m) (Lw m) ro (atC [0] (bodyOf (env m).P 82)) st = some (x, s') ∧ Fr s' 24 H' [(0, v0), (1, v1)] ∧ q x v0 v1 H' := by
  have e := h.eq
  simp only [List.range, List.range.loop, List.map_cons, List.map_nil, h.get 0 (v := .lit (.string s)) (by simp), h.get 1 (v := .lit (.string x)) (by simp)] at e
  obtain ⟨x, s', h1, h2, h3, h4⟩ := codeW_ok hc L_up (ro := ro) (u := 0) _ st _ (by rw [e]; exact (Eq.mpr (w_has0 m s x _ _ _ _ _ _ _ _ _ _ _ _ _ _ _ _ _ _ _ _ _ _ _) hr))
  exact ⟨x, s', _, _, _, h1, ⟨h2.trans h.len, rfl, h3.trans h.ds, by simp⟩, h4⟩
theorem b_chars_IsText (m : Int) : (bodyOf (env m).P 67) =
    (.seq (atC [0] (bodyOf (env m).P 67)) (.seq (.seq (atC [1, 0, 0] (bodyOf (env m).P 67)) (.block 0 (.loop (atC [1, 0, 1, 0, 0] (bodyOf (env m).P 67))))) (atC [1, 1] (bodyOf (env m).P 67)))) := by kernel_rfl
end Go.Proofs.YtpmdlaojndejfaaGreatDoor.E

/- Texts; the colon of a name. -/
set_option linter.unusedVariables false
set_option linter.unusedSimpArgs false
set_option maxRecDepth 100000
namespace Go.Proofs.YtpmdlaojndejfaaGreatDoor.E
open Go

theorem bad_prefix (s : ByteArray) (pos : Nat) (h : pos ≤ s.size) : prefixB (s.extract pos s.size) ⟨#[239, 191, 189]⟩ = HPure.isBad s pos := by
  unfold prefixB HPure.isBad
  have hsz : (s.extract pos s.size).size = s.size - pos := by simp
  have e0 : decide ((⟨#[239, 191, 189]⟩ : ByteArray).size ≤ (s.extract pos s.size).size) = decide (pos + 3 ≤ s.size) := by
    apply decide_eq_decide.2
    rw [hsz]
    show 3 ≤ s.size - pos ↔ _
    omega
  rw [e0]
  by_cases h3 : pos + 3 ≤ s.size
  · have g : ∀ k, k < 3 → s.data.toList[pos + k]? = some (s.get! (pos + k)) := fun k hk => by
      have hlt : pos + k < s.data.toList.length := by simp; omega
      rw [List.getElem?_eq_getElem hlt]
      congr 1
      have hlt' : pos + k < s.size := by omega
      simp only [ByteArray.get!, Array.getElem_toList]
      exact (getElem!_pos s.data (pos + k) hlt').symm
    have e1 : (((s.extract pos s.size).extract 0 (⟨#[239, 191, 189]⟩ : ByteArray).size).toList) = [s.get! pos, s.get! (pos + 1), s.get! (pos + 2)] := by
      rw [ByteArray.toList_eq]
      apply List.ext_getElem?
      intro i
      have : (((s.extract pos s.size).extract 0 (⟨#[239, 191, 189]⟩ : ByteArray).size).data.toList) = (s.data.toList.drop pos).take 3 := by
        show ((s.extract pos s.size).extract 0 3).data.toList = _
        have hm : min (min (pos + 3) s.size - pos) (s.size - pos) = min 3 (s.size - pos) := by omega
        simp [ByteArray.data_extract, List.extract, hm]
      rw [this]
      match i with
      | 0 => simpa using g 0 (by omega)
      | 1 => simpa using g 1 (by omega)
      | 2 => simpa using g 2 (by omega)
      | i + 3 => simp; omega
    rw [e1]
    have e2 : (⟨#[239, 191, 189]⟩ : ByteArray).toList = [239, 191, 189] := by decide +kernel
    rw [e2]
    simp [Bool.and_assoc]
  · simp [h3]
theorem isText_loop (m : Int) (s : ByteArray) : ∀ (f pos : Nat) (st : St), s.size ≤ pos + f → Fr st 25 [.iter s pos] [(0, .lit (.string s)), (6, .it 0)] →
    ∃ x st', codeE (env m) (Lw m) none (.loop (atC [1, 0, 1, 0, 0] (bodyOf (env m).P 67))) st = some (x, st') ∧
      ((HPure.isTextFrom s f pos = true ∧ x = .exit 0 ∧ ∃ p', Fr st' 25 [.iter s p'] [(0, .lit (.string s))]) ∨
       (HPure.isTextFrom s f pos = false ∧ x = .ret ∧ st'.ds = [] ∧ st'.tmps.getD 2 un = .lit (.bool false)))
  | f, pos, st, hf, hs => by
    obtain ⟨x, s1, v0, v2, v6, H1, h1, h2, h3⟩ := e_isText2 m s pos (ro := none) (con2_ok m) hs
      (fun x v0 v2 v6 H => v0 = .lit (.string s) ∧ v6 = .it 0 ∧ ((¬ pos < s.size ∧ x = .exit 0 ∧ H = [.iter s pos]) ∨
        (pos < s.size ∧ (!HPure.isChar (Utf8.decode s pos).1 || ((Utf8.decode s pos).1 == 65533 && !HPure.isBad s pos)) = false ∧ x = .normal ∧ H = [.iter s (pos + (Utf8.decode s pos).2)]) ∨
        (pos < s.size ∧ (!HPure.isChar (Utf8.decode s pos).1 || ((Utf8.decode s pos).1 == 65533 && !HPure.isBad s pos)) = true ∧ x = .ret ∧ v2 = .lit (.bool false)))) (by
        simp only [r_isText2, toI, Int.toNat_natCast]
        by_cases hp : pos < s.size
        · have hb := bad_prefix s pos (by omega)
          rw [if_pos hp]
          split
          · rename_i hc
            split
            · rename_i he
              have he' : (Utf8.decode s pos).1 = 65533 := by
                have h1 : (((Utf8.decode s pos).1 : Nat) : Int) = 65533 := by simpa using he
                omega
              rw [if_pos (by omega), hb]
              split <;> simp_all
            · rename_i he
              have he' : ¬ (Utf8.decode s pos).1 = 65533 := by intro e; simp [e] at he
              simp_all
          · rename_i hc
            simp_all
        · simp [hp])
    obtain ⟨rfl, rfl, h3⟩ := h3
    rcases h3 with ⟨hp, rfl, rfl⟩ | ⟨hp, hi, rfl, rfl⟩ | ⟨hp, hi, rfl, rfl⟩
    · exact ⟨_, s1, loop_out h1 (by simp), .inl ⟨HPure.isTextFrom_end s f pos hp, rfl, pos, h2.sub (by simp)⟩⟩
    · cases f with
      | zero => omega
      | succ f =>
        have hw := Go.Lib.width_pos s pos
        obtain ⟨x, st', g1, g2⟩ := isText_loop m s f (pos + (Utf8.decode s pos).2) s1 (by omega) (h2.sub (by simp))
        refine ⟨x, st', loop_more h1 g1, ?_⟩
        simpa only [HPure.isTextFrom, hp, hi, if_true, Bool.false_eq_true, if_false] using g2
    · cases f with
      | zero => omega
      | succ f => exact ⟨_, s1, loop_out h1 (by simp), .inr ⟨by simp only [HPure.isTextFrom, hp, hi, if_true], rfl, h2.ds, h2.get 2 (by simp)⟩⟩
theorem isText_does (m : Int) (s : ByteArray) : ∃ H', (Lw m).callX 67 [.lit (.string s)] [] = some (.ret (.lit (.bool (HPure.isText s))), H') := by
  obtain ⟨x0, s0, v0, H0, a1, a2, a3⟩ := e_isText0 m s (ro := none) (con2_ok m) (Fr.entry (E := env m) (f := 67) (args := [.lit (.string s)]) (by kernel_rfl) (by simp) (by simp))
    (fun x v0 H => x = .normal ∧ v0 = .lit (.string s) ∧ H = []) ⟨rfl, rfl, rfl⟩
  obtain ⟨rfl, rfl, rfl⟩ := a3
  obtain ⟨x1, s1, v0, v6, H1, b1, b2, b3⟩ := e_isText1 m s (ro := none) (con2_ok m) a2 (fun x v0 v6 H => x = .normal ∧ v0 = .lit (.string s) ∧ v6 = .it 0 ∧ H = [.iter s 0]) ⟨rfl, rfl, rfl, rfl⟩
  obtain ⟨rfl, rfl, rfl, rfl⟩ := b3
  obtain ⟨x2, s2, g1, g2⟩ := isText_loop m s s.size 0 s1 (by omega) b2
  rcases g2 with ⟨hv, rfl, p', hp⟩ | ⟨hv, rfl, hd, ht⟩
  · obtain ⟨x3, s3, c1, c2, c3⟩ := e_isText3 m s p' (ro := none) (con2_ok m) hp (fun v => v = .lit (.bool (HPure.isText s))) (by
      simp [r_isText3, HPure.isText, hv])
    exact L_ans (by kernel_rfl) rfl (by rw [b_chars_IsText]; exact seq_n a1 (seq_n (seq_n b1 (block_exit g1)) c1)) c2 c3
  · exact L_ans (by kernel_rfl) rfl (by rw [b_chars_IsText]; exact seq_n a1 (seq_x (seq_n b1 (block_ret g1)) (by simp))) hd (fin_tmp (by kernel_rfl) (.inl rfl) ht (by simp [HPure.isText, hv]))
theorem index58_does (m : Int) (s : ByteArray) : ∃ H', (Lw m).callX 117 [.lit (.string s), .lit (.string ⟨#[58]⟩)] [] = some (.ret (.lit (.int .i64 (Lib.indexByte s.data.toList 58))), H') := by
  obtain ⟨v, H', h, rfl⟩ := c_index58 m s (con2_ok m) (fun v => v = .lit (.int .i64 (Lib.indexByte s.data.toList 58))) (by
    simp only [r_index58]
    split
    · rename_i h
      rw [ByteArray.toList_eq] at h
      have h' : s.data.toList = [58] := (by simpa using h : [58] = s.data.toList).symm
      rw [h']; rfl
    · rfl)
  exact ⟨H', h⟩
/-- Third: texts; where the colon is. -/
noncomputable def con3 : Con := addP 67 (strS1 (fun _ => true) fun s => .bool (HPure.isText s)) (addP 117 (strS2 (fun _ x => decide (x.data.toList = [58])) fun s _ => .int .i64 (Lib.indexByte s.data.toList 58)) con2)
theorem con3_ok (m : Int) : ConOK (env m) (Lw m) con3 :=
  strS1_ok (strS2_ok (con2_ok m) (by kernel_rfl) fun s x h => by
    have hx : x = ⟨#[58]⟩ := by
      have h1 : x.data.toList = [58] := by simpa using h
      rw [← Plain.mk_data x, h1]; rfl
    rw [hx]; exact index58_does m s) (by kernel_rfl) fun s _ => isText_does m s
end Go.Proofs.YtpmdlaojndejfaaGreatDoor.E

/- Printed by sw.py: what the program's code asks and does, piece by piece. -/
namespace Go.Proofs.YtpmdlaojndejfaaGreatDoor.E
open Go
set_option linter.unusedVariables false
set_option maxRecDepth 1000000
def r_slCut (s : ByteArray) (q : V → Prop) : Prop :=
    (if decide (Lib.indexByte (Array.toList (ByteArray.data s)) 58 ≥ 0) = true then (if 0 ≤ Lib.indexByte (Array.toList (ByteArray.data s)) 58 then (if Int.toNat (Lib.indexByte (Array.toList (ByteArray.data s)) 58) ≤ ByteArray.size s then (if 0 ≤ IntKind.wrap IntKind.i64 (Lib.indexByte (Array.toList (ByteArray.data s)) 58 + 1) then (if Int.toNat (IntKind.wrap IntKind.i64 (Lib.indexByte (Array.toList (ByteArray.data s)) 58 + 1)) ≤ ByteArray.size s then q (V.tup [V.lit (Value.string (ByteArray.extract s 0 (Int.toNat (Lib.indexByte (Array.toList (ByteArray.data s)) 58)))), V.lit (Value.string (ByteArray.extract s (Int.toNat (IntKind.wrap IntKind.i64 (Lib.indexByte (Array.toList (ByteArray.data s)) 58 + 1))) (ByteArray.size s))), V.lit (Value.bool true)]) else False) else False) else False) else False) else q (V.tup [V.lit (Value.string s), V.lit (Value.string { data := #[] }), V.lit (Value.bool false)]))
theorem w_slCut (m : Int) (s : ByteArray) (q : V → Prop) :
    codeW (env m) (con3) 0 (atC [] (bodyOf (env m).P 115)) ⟨[.lit (.string s), .lit (.string ⟨#[58]⟩), un, un, un, un, un, un, un, un, un, un, un, un, un, un, un, un, un, un, un, un, un], [], []⟩ (finW (env m) (resOf (env m).P 115) (fun v _ => q v)) =
    r_slCut s q := by kernel_rfl
theorem c_slCut (m : Int) (s : ByteArray) (hc : ConOK (env m) (Lw m) (con3)) (q : V → Prop) (hr : r_slCut s q) :
    ∃ v H', (Lw m).callX 115 [.lit (.string s), .lit (.string ⟨#[58]⟩)] [] = some (.ret v, H') ∧ q v := by
  refine L_finW hc (u := 0) (q := fun v _ => q v) (by kernel_rfl) (fun _ => rfl) ?_
  rw [show ntmpsOf (env m).P 115 = 23 from by kernel_rfl]
  exact Eq.mpr (w_slCut m s _) hr
end Go.Proofs.YtpmdlaojndejfaaGreatDoor.E

/- The cut at the colon. -/
set_option linter.unusedVariables false
set_option linter.unusedSimpArgs false
set_option maxRecDepth 100000
namespace Go.Proofs.YtpmdlaojndejfaaGreatDoor.E
open Go

def ix58 (s : ByteArray) : Int := Lib.indexByte s.data.toList 58
def cutA (s : ByteArray) : ByteArray := if 0 ≤ ix58 s then s.extract 0 (ix58 s).toNat else s
def cutZ (s : ByteArray) : ByteArray := if 0 ≤ ix58 s then s.extract ((ix58 s).toNat + 1) s.size else ⟨#[]⟩
def cutV (s : ByteArray) : V := .tup [.lit (.string (cutA s)), .lit (.string (cutZ s)), .lit (.bool (decide (0 ≤ ix58 s)))]
theorem ix58_lt (s : ByteArray) (h : 0 ≤ ix58 s) : (ix58 s).toNat < s.size := by
  have h2 : Lib.indexByte s.data.toList 58 = ((ix58 s).toNat : Int) := by unfold ix58 at h ⊢; omega
  have h3 := (Lib.indexByte_some h2).1
  have := (List.getElem?_eq_some_iff.1 h3).1
  simpa using this
theorem slCut_does (m : Int) (s : ByteArray) (hs : s.size ≤ 1099511627776) : ∃ H', (Lw m).callX 115 [.lit (.string s), .lit (.string ⟨#[58]⟩)] [] = some (.ret (cutV s), H') := by
  obtain ⟨v, H', h, rfl⟩ := c_slCut m s (con3_ok m) (fun v => v = cutV s) (by
    simp only [r_slCut]
    by_cases h : 0 ≤ ix58 s
    · have hl := ix58_lt s h
      have hw : IntKind.wrap .i64 (ix58 s + 1) = ((ix58 s).toNat + 1 : Nat) := by rw [w64_id (by omega) (by omega)]; omega
      have e1 : Lib.indexByte (Array.toList (ByteArray.data s)) 58 = ix58 s := rfl
      rw [e1, hw, if_pos (by simpa using h), if_pos h, if_pos (by omega), if_pos (by omega), if_pos (by omega)]
      simp only [cutV, cutA, cutZ, if_pos h, decide_eq_true h]
      rfl
    · have e1 : Lib.indexByte (Array.toList (ByteArray.data s)) 58 = ix58 s := rfl
      rw [e1, if_neg (by simpa using h)]
      simp only [cutV, cutA, cutZ, if_neg h, decide_eq_false h])
  exact ⟨H', h⟩
def isColon (x : ByteArray) : Bool := x.data.toList == [58]
/-- A cut at the colon, where the string is not too long. -/
def cutS : PSpec
  | [.lit (.string s), .lit (.string x)] => some (isColon x && decide (s.size ≤ 1099511627776), cutV s)
  | _ => none
theorem cutS_ok {m : Int} {f0 : FuncId} {con : Con} (h : ConOK (env m) (Lw m) con) (hp : isPure (env m) f0 = true)
    (hd : ∀ s, s.size ≤ 1099511627776 → ∃ H', (Lw m).callX f0 [.lit (.string s), .lit (.string ⟨#[58]⟩)] [] = some (.ret (cutV s), H')) : ConOK (env m) (Lw m) (addP f0 cutS con) :=
  addP_ok h hp fun args v hs => by
    unfold cutS at hs
    split at hs
    · rename_i s x
      simp only [Option.some.injEq, Prod.mk.injEq, Bool.and_eq_true, isColon, decide_eq_true_eq, beq_iff_eq] at hs
      obtain ⟨⟨h1, h2⟩, rfl⟩ := hs
      have hx : x = ⟨#[58]⟩ := by rw [← Plain.mk_data x, h1]; rfl
      rw [hx]
      exact ⟨rfl, rfl, hd s h2⟩
    · cases hs
noncomputable def con4 : Con := addP 115 cutS con3
theorem con4_ok (m : Int) : ConOK (env m) (Lw m) con4 := cutS_ok (con3_ok m) (by kernel_rfl) (slCut_does m)
end Go.Proofs.YtpmdlaojndejfaaGreatDoor.E

/- Printed by sw.py: what the program's code asks and does, piece by piece. -/
namespace Go.Proofs.YtpmdlaojndejfaaGreatDoor.E
open Go
set_option linter.unusedVariables false
set_option maxRecDepth 1000000
def r_cut58 (s : ByteArray) (q : V → Prop) : Prop :=
    (if (true && decide (ByteArray.size s ≤ 1099511627776)) = true then (if decide (0 ≤ ix58 s) = true then q (V.tup [V.lit (Value.string (cutA s)), V.lit (Value.string (cutZ s)), V.lit (Value.bool true)]) else q (V.tup [V.lit (Value.string (cutA s)), V.lit (Value.string (cutZ s)), V.lit (Value.bool false)])) else False)
theorem w_cut58 (m : Int) (s : ByteArray) (q : V → Prop) :
    codeW (env m) (con4) 0 (atC [] (bodyOf (env m).P 96)) ⟨[.lit (.string s), .lit (.string ⟨#[58]⟩), un, un, un, un, un, un, un, un, un, un, un], [], []⟩ (finW (env m) (resOf (env m).P 96) (fun v _ => q v)) =
    r_cut58 s q := by kernel_rfl
theorem c_cut58 (m : Int) (s : ByteArray) (hc : ConOK (env m) (Lw m) (con4)) (q : V → Prop) (hr : r_cut58 s q) :
    ∃ v H', (Lw m).callX 96 [.lit (.string s), .lit (.string ⟨#[58]⟩)] [] = some (.ret v, H') ∧ q v := by
  refine L_finW hc (u := 0) (q := fun v _ => q v) (by kernel_rfl) (fun _ => rfl) ?_
  rw [show ntmpsOf (env m).P 96 = 13 from by kernel_rfl]
  exact Eq.mpr (w_cut58 m s _) hr
end Go.Proofs.YtpmdlaojndejfaaGreatDoor.E

/- strings.Cut at the colon. -/
set_option linter.unusedVariables false
set_option linter.unusedSimpArgs false
set_option maxRecDepth 100000
namespace Go.Proofs.YtpmdlaojndejfaaGreatDoor.E
open Go
theorem cut58_does (m : Int) (s : ByteArray) (hs : s.size ≤ 1099511627776) : ∃ H', (Lw m).callX 96 [.lit (.string s), .lit (.string ⟨#[58]⟩)] [] = some (.ret (cutV s), H') := by
  obtain ⟨v, H', h, rfl⟩ := c_cut58 m s (con4_ok m) (fun v => v = cutV s) (by
    have hc : isColon ⟨#[58]⟩ = true := rfl
    simp only [r_cut58, hs, hc, Bool.and_self, decide_true, if_true, cutV]
    split <;> simp_all)
  exact ⟨H', h⟩
noncomputable def con5 : Con := addP 96 cutS con4
theorem con5_ok (m : Int) : ConOK (env m) (Lw m) con5 := cutS_ok (con4_ok m) (by kernel_rfl) (cut58_does m)
end Go.Proofs.YtpmdlaojndejfaaGreatDoor.E

/- Printed by sw.py: what the program's code asks and does, piece by piece. -/
namespace Go.Proofs.YtpmdlaojndejfaaGreatDoor.E
open Go
set_option linter.unusedVariables false
set_option maxRecDepth 1000000
def r_isName (s : ByteArray) (q : V → Prop) : Prop :=
    (if HPure.isText s = true then (if decide (ByteArray.size s ≤ 1099511627776) = true then (if decide (toI (List.length (HPure.points s)) > 100) = true then q (V.lit (Value.bool false)) else (if (true && decide (ByteArray.size s ≤ 1099511627776)) = true then (if decide (0 ≤ ix58 s) = true then (if HPure.isNamePart (cutA s) = true then (if HPure.isNamePart (cutZ s) = true then q (V.lit (Value.bool true)) else q (V.lit (Value.bool false))) else q (V.lit (Value.bool false))) else (if HPure.isNamePart (cutA s) = true then q (V.lit (Value.bool true)) else q (V.lit (Value.bool false)))) else False)) else False) else q (V.lit (Value.bool false)))
theorem w_isName (m : Int) (s : ByteArray) (q : V → Prop) :
    codeW (env m) (con5) 0 (atC [] (bodyOf (env m).P 68)) ⟨[.lit (.string s), un, un, un, un, un, un, un, un, un, un, un, un, un, un, un, un, un, un, un, un, un, un, un, un, un, un, un, un, un], [], []⟩ (finW (env m) (resOf (env m).P 68) (fun v _ => q v)) =
    r_isName s q := by kernel_rfl
theorem c_isName (m : Int) (s : ByteArray) (hc : ConOK (env m) (Lw m) (con5)) (q : V → Prop) (hr : r_isName s q) :
    ∃ v H', (Lw m).callX 68 [.lit (.string s)] [] = some (.ret v, H') ∧ q v := by
  refine L_finW hc (u := 0) (q := fun v _ => q v) (by kernel_rfl) (fun _ => rfl) ?_
  rw [show ntmpsOf (env m).P 68 = 30 from by kernel_rfl]
  exact Eq.mpr (w_isName m s _) hr
end Go.Proofs.YtpmdlaojndejfaaGreatDoor.E

/- Names. -/
set_option linter.unusedVariables false
set_option linter.unusedSimpArgs false
set_option maxRecDepth 100000
namespace Go.Proofs.YtpmdlaojndejfaaGreatDoor.E
open Go
open HPure Plain in
theorem extract_mk (L : List UInt8) (i j : Nat) : (mk L).extract i j = mk ((L.drop i).take (j - i)) := by
  apply ByteArray.ext
  apply Array.toList_inj.1
  have hm : ∀ a b : List UInt8, a = b → a = b := fun _ _ h => h
  simp [mk, ByteArray.data_extract, List.extract]
open HPure Plain in
theorem name_cut (s : ByteArray) (ht : isText s = true) : (isNamePart (cutA s) && (!decide (0 ≤ ix58 s) || isNamePart (cutZ s))) = nameL (points s) := by
  have hc := chars_of_text s ht
  have hidx := index_colon (points s) hc.1
  have hflat : s.data.toList = flat (points s) := by
    have := congrArg (fun x => x.data.toList) hc.2
    simp only [encode_flat, data_mk] at this
    exact this.symm
  rw [← hflat] at hidx
  have hix : ix58 s = match (points s).dropWhile noColon with | [] => -1 | _ :: _ => ((flat ((points s).takeWhile noColon)).length : Int) := hidx
  unfold cutA cutZ
  generalize hp : points s = p at *
  have hsp : s = encode p := hc.2.symm
  unfold nameL
  have htd := List.takeWhile_append_dropWhile (p := noColon) (l := p)
  have ha : (p.takeWhile noColon).all isChar = true := by
    rw [List.all_eq_true]; intro x hx; exact List.all_eq_true.1 hc.1 x ((List.takeWhile_sublist noColon).mem hx)
  have hb : (p.dropWhile noColon).all isChar = true := by
    rw [List.all_eq_true]; intro x hx; exact List.all_eq_true.1 hc.1 x ((List.dropWhile_sublist noColon).mem hx)
  cases hd : p.dropWhile noColon with
  | nil =>
    rw [hd] at hix
    simp only at hix
    rw [if_neg (by omega), decide_eq_false (by omega), hsp, part_enc p hc.1]
    simp
  | cons c b =>
    rw [hd] at hix htd hb
    simp only at hix
    rw [List.all_cons, Bool.and_eq_true] at hb
    have hc58 : c = 58 := by
      have := List.head_dropWhile_not noColon (l := p) (by rw [hd]; simp)
      simp only [hd, List.head_cons] at this
      unfold noColon at this
      simpa using this
    subst hc58
    have hcut : flat p = flat (p.takeWhile noColon) ++ (58 :: flat b) := by
      conv => lhs; rw [← htd]
      rw [flat_append]
      rfl
    have hlen : s.size = (flat (p.takeWhile noColon)).length + 1 + (flat b).length := by
      rw [hsp, encode_flat, mk_size, hcut]; simp; omega
    have e1 : s.extract 0 (flat (p.takeWhile noColon)).length = encode (p.takeWhile noColon) := by
      rw [hsp, encode_flat, extract_mk, encode_flat, hcut, List.drop_zero, Nat.sub_zero, List.take_left]
    have e2 : s.extract ((flat (p.takeWhile noColon)).length + 1) s.size = encode b := by
      conv => lhs; rw [hlen]
      rw [hsp, encode_flat, extract_mk, encode_flat, hcut]
      congr 1
      rw [← List.drop_drop, List.drop_left]
      simp
    rw [hix, if_pos (by omega), if_pos (by omega), decide_eq_true (by omega), Int.toNat_natCast, e1, e2, part_enc _ ha, part_enc _ hb.2]
    simp
def nameB (s : ByteArray) : Bool := HPure.isText s && (decide ((HPure.points s).length ≤ 100) && Plain.nameL (HPure.points s))
theorem isName_does (m : Int) (s : ByteArray) (hs : s.size ≤ 1099511627776) : ∃ H', (Lw m).callX 68 [.lit (.string s)] [] = some (.ret (.lit (.bool (nameB s))), H') := by
  obtain ⟨v, H', h, rfl⟩ := c_isName m s (con5_ok m) (fun v => v = .lit (.bool (nameB s))) (by
    simp only [r_isName, nameB]
    cases ht : HPure.isText s
    · simp
    · have hn := name_cut s ht
      simp only [hs, decide_true, if_true, Bool.and_self, Bool.true_and]
      by_cases hl : (HPure.points s).length ≤ 100
      · have hl' : decide (toI (HPure.points s).length > 100) = false := by simp [toI]; omega
        rw [hl', ← hn, decide_eq_true hl]
        simp only [Bool.false_eq_true, if_false, Bool.true_and]
        repeat' split
        all_goals simp_all
      · have hl' : decide (toI (HPure.points s).length > 100) = true := by simp [toI]; omega
        rw [hl', decide_eq_false hl]
        simp)
  exact ⟨H', h⟩
end Go.Proofs.YtpmdlaojndejfaaGreatDoor.E

/- The reference's reading of a code point. -/
set_option linter.unusedVariables false
set_option linter.unusedSimpArgs false
set_option maxRecDepth 100000
namespace Go.Proofs.YtpmdlaojndejfaaGreatDoor.E
open Go
def byteAt (s : ByteArray) (i : Nat) : Nat := (s.data.toList.getD i 0).toNat
theorem byteAt_lt (s : ByteArray) (i : Nat) : byteAt s i < 256 := UInt8.toNat_lt _
def nextAt (s : ByteArray) (pos : Nat) : Nat × Nat := Plain.nextN (s.size - pos) (byteAt s pos) (byteAt s (pos + 1)) (byteAt s (pos + 2)) (byteAt s (pos + 3))
def nextV (s : ByteArray) (pos : Nat) : V := .tup [.lit (.int .i64 (nextAt s pos).1), .lit (.int .i64 (nextAt s pos).2)]
theorem wrap_byte (s : ByteArray) (i : Nat) : IntKind.wrap .i64 (toI (UInt8.toNat (List.getD (Array.toList (ByteArray.data s)) i 0))) = (byteAt s i : Int) := by
  have := byteAt_lt s i
  unfold byteAt at this ⊢
  exact w64_id (by simp only [toI]; omega) (by simp only [toI]; omega)
theorem ite_of {c : Prop} [Decidable c] {a b : Prop} (h1 : c → a) (h2 : ¬c → b) : if c then a else b := by
  by_cases h : c
  · rw [if_pos h]; exact h1 h
  · rw [if_neg h]; exact h2 h
theorem wrap2 (c0 c1 : Nat) (k : Int) (h0 : c0 < 256) (h1 : c1 < 256) (hk : 0 ≤ k) (hk2 : k < 256) :
    IntKind.wrap .i64 (IntKind.wrap .i64 (IntKind.wrap .i64 (IntKind.wrap .i64 ((c0 : Int) - k) * 64) + (c1 : Int)) - 128) = ((c0 : Int) - k) * 64 + c1 - 128 := by
  rw [w64_id (x := (c0 : Int) - k) (by omega) (by omega), w64_id (x := ((c0 : Int) - k) * 64) (by omega) (by omega), w64_id (x := ((c0 : Int) - k) * 64 + c1) (by omega) (by omega), w64_id (by omega) (by omega)]
theorem wrap3 (a : Int) (c : Nat) (ha : -100000000000 ≤ a) (ha2 : a < 100000000000) (h1 : c < 256) :
    IntKind.wrap .i64 (IntKind.wrap .i64 (IntKind.wrap .i64 (a * 64) + (c : Int)) - 128) = a * 64 + c - 128 := by
  rw [w64_id (x := a * 64) (by omega) (by omega), w64_id (x := a * 64 + c) (by omega) (by omega), w64_id (by omega) (by omega)]
open Plain in
set_option maxHeartbeats 4000000 in
theorem rnext_does (m : Int) (s : ByteArray) (hs : s.size ≤ 1099511627776) (pos : Nat) (hp : pos < s.size) : ∃ H', (Lw m).callX 139 [.lit (.string s), .lit (.int .i64 (pos : Int))] [] = some (.ret (nextV s pos), H') := by
  obtain ⟨v, H', h, rfl⟩ := c_rnext m s (pos : Int) (con2_ok m) (fun v => v = nextV s pos) (by
    have w1 : IntKind.wrap .i64 ((pos : Int) + 1) = ((pos + 1 : Nat) : Int) := by rw [w64_id (by omega) (by omega)]; omega
    have w2 : IntKind.wrap .i64 ((pos : Int) + 2) = ((pos + 2 : Nat) : Int) := by rw [w64_id (by omega) (by omega)]; omega
    have w3 : IntKind.wrap .i64 ((pos : Int) + 3) = ((pos + 3 : Nat) : Int) := by rw [w64_id (by omega) (by omega)]; omega
    have w4 : IntKind.wrap .i64 ((pos : Int) + 4) = ((pos + 4 : Nat) : Int) := by rw [w64_id (by omega) (by omega)]; omega
    have b0 := byteAt_lt s pos
    have b1 := byteAt_lt s (pos + 1)
    have b2 := byteAt_lt s (pos + 2)
    have b3 := byteAt_lt s (pos + 3)
    simp only [r_rnext, w1, w2, w3, w4, Int.toNat_natCast, wrap_byte, nextV, nextAt]
    generalize byteAt s pos = c0 at *
    generalize byteAt s (pos + 1) = c1 at *
    generalize byteAt s (pos + 2) = c2 at *
    generalize byteAt s (pos + 3) = c3 at *
    clear w1 w2 w3 w4
    have e1 := wrap2 c0 c1 192 b0 b1 (by omega) (by omega)
    have e2 := wrap2 c0 c1 224 b0 b1 (by omega) (by omega)
    have e3 := wrap2 c0 c1 240 b0 b1 (by omega) (by omega)
    have e4 := wrap3 (((c0 : Int) - 224) * 64 + c1 - 128) c2 (by omega) (by omega) b2
    have e5 := wrap3 (((c0 : Int) - 240) * 64 + c1 - 128) c2 (by omega) (by omega) b2
    have e6 := wrap3 ((((c0 : Int) - 240) * 64 + c1 - 128) * 64 + c2 - 128) c3 (by omega) (by omega) b3
    simp only [e1, e2, e3, e4, e5, e6, decide_eq_true_eq, toI, V.tup.injEq, List.cons.injEq, V.lit.injEq, Value.int.injEq, and_true, true_and]
    clear e1 e2 e3 e4 e5 e6
    generalize hn : s.size - pos = n
    generalize s.size = z at *
    repeat' (refine ite_of (fun h => ?_) (fun h => ?_))
    all_goals first
      | omega
      | (unfold nextN
         simp only [cont_iff]
         (repeat (first | rw [if_pos (by omega)] | rw [if_neg (by omega)]))
         dsimp only
         omega))
  exact ⟨H', h⟩
end Go.Proofs.YtpmdlaojndejfaaGreatDoor.E
