/- Texts of the claim: Qx17. -/
import Derived.Test.YtmpenkinheneoaaDoorLQx0
import Derived.Test.YtmpenkinheneoaaDoorLQx5
import Derived.Test.YtmpenkinheneoaaDoorLQx10
import Derived.Test.YtmpenkinheneoaaDoorLQx15
namespace Go.Proofs.YtmpenkinheneoaaDoor.Q
open Go.RowKit Go.Proofs.YtmpenkinheneoaaDoorW.PrintWords Go.Proofs.YtmpenkinheneoaaDoorW.PrintLast Go.Proofs.YtmpenkinheneoaaDoorW.PrintMore
attribute [local go_sem] max2_int min2_int max_two min_two max_three min_three max_four min_four   -- for this text's walks alone
set_option linter.unusedVariables false
set_option linter.unusedSimpArgs false
-- HAND: function 43, by this session's own text
def lex_reader_name.l0 : Nat → Nat → ByteArray → Int → Int → Nat → Nat → Int → Option (Option (Int × Nat × Int))
  | 0, _, _, _, _, _, _, _ => none
  | f + 1, k, t, z, p, pos, n, c => if pos < t.size then
      (if n = 0 then ((lex_starts.f k ((Utf8.decode t pos).1 : Int)).bind fun b => if b = true then lex_reader_name.l0 f k t z p (pos + (Utf8.decode t pos).2) (n + 1) c else some none)
       else ((lex_continues.f k ((Utf8.decode t pos).1 : Int)).bind fun b1 =>
         (if b1 = true ∧ c ≠ (n : Int) - 1 then some true else if c = (n : Int) - 1 then lex_starts.f k ((Utf8.decode t pos).1 : Int) else some false).bind fun b2 =>
           if b2 = true then lex_reader_name.l0 f k t z p (pos + (Utf8.decode t pos).2) (n + 1) c
           else if ((Utf8.decode t pos).1 : Int) = 58 ∧ c < 0 then lex_reader_name.l0 f k t z p (pos + (Utf8.decode t pos).2) (n + 1) (n : Int)
           else some (some (p + pos, n, c))))
    else some (if n = 0 then none else some (z, n, c))
def lex_reader_name.fin (p : Int) : Option (Int × Nat × Int) → Except Int (Bool × Int)
  | none => .ok (false, p)
  | some (x, n, c) => if (if c = (n : Int) - 1 then (n : Int) - 1 else (n : Int)) ≤ 100 then .ok (true, if c = (n : Int) - 1 then x - 1 else x) else .error p
def lex_reader_name.f (k : Nat) (s : ByteArray) (p : Int) : Option (Except Int (Bool × Int)) := if 0 ≤ p then (if p ≤ (s.size : Int) then (if s.size ≤ 1000000000 then (lex_reader_name.l0 (s.size + 1) k (s.extract p.toNat s.size) (s.size : Int) p 0 0 (-1)).bind fun x => some (lex_reader_name.fin p x) else none) else none) else none
set_option maxHeartbeats 8000000 in
set_option maxRecDepth 100000 in
theorem lex_reader_name.calls (k g : Nat) (s : ByteArray) (p : Int) (r : Except Int (Bool × Int)) (w0 w : World) (hI : IsS50 w0 w g s p) (hB : Below w0.heap.size w0 w) (h : lex_reader_name.f k s p = some r) :
    Calls Tryd.prog 43 #[.pointer (some ⟨g, 0, none⟩)] w fun e w' => Below w0.heap.size w0 w' ∧ KeepBut w w' g none ∧ HLex.outcome r (fun x => e = .returned (.bool x.1) ∧ IsS50 w0 w' g s x.2) (fun q => e = .panicked [wrongW q 2]) := by
  have HW0 := Aside0.mk hB.size
  have HG0 := Aside0.mk (IsS50.lt hI)
  have HI0 := Aside0.mk hI
  have HK := Aside0.mk (KeepBut.refl w g none)
  clear hI
  have HB := Aside0.mk hB
  clear hB
  unfold lex_reader_name.f at h
  by_cases c0 : 0 ≤ p
  · replace h := (if_pos c0).symm.trans h
    by_cases c1 : p ≤ (s.size : Int)
    · replace h := (if_pos c1).symm.trans h
      by_cases c2 : s.size ≤ 1000000000
      · replace h := (if_pos c2).symm.trans h
        obtain ⟨y, hy, h⟩ := Option.bind_eq_some_iff.mp h
        obtain rfl := Option.some.inj h
        clear h
        obtain ⟨t, ht⟩ : ∃ t, t = s.extract p.toNat s.size := ⟨_, rfl⟩
        rw [← ht] at hy
        have H' := Aside0.mk hy
        clear hy
        have hzt : t.size ≤ 1000000000 := by rw [ht, ByteArray.size_extract]; omega
        have HTT := Aside0.mk ht
        clear ht
        have c0d : decide (0 ≤ p) = true := decide_eq_true c0
        have c1d : decide (p ≤ (s.size : Int)) = true := decide_eq_true c1
        have p0 := eq_true c0
        have p1 := eq_true c1
        obtain ⟨HG, hg⟩ := HI0.out; have hc0 := cellS50_0 HG; have hc1 := cellS50_1 HG; have hf0 := blk_frozen HG 0; have hf1 := blk_frozen HG 1; clear HG hg
        have HI00 := HI0
        have HB00 := HB
        go_enter Tryd.func43, Tryd.ntmps43
        go_wp2
        go_loopg [4, 5] (s.size + 1) (fun kq v4 v5 w' => ∃ (pos n : Nat) (c : Int), v4 = .int .i64 (n : Int) ∧ v5 = .int .i64 c ∧ Aside0 (w'.heap[w.heap.size]? = some (.stringIter t pos)) ∧ Aside0 (lex_reader_name.l0 kq k t (s.size : Int) p pos n c = some y) ∧ n ≤ pos ∧ n ≤ 1000000000 ∧ -1 ≤ c ∧ c ≤ (n : Int) - 1 ∧ Aside0 (Below w.heap.size w w'))
        case atStart => exact ⟨0, 0, -1, rfl, rfl, ⟨by rw [HTT.out]; exact World.iter_heap w _ 0⟩, H', Nat.le_refl _, by omega, by omega, by omega, ⟨(Below.refl _ w).alloc (Nat.le_refl _) _⟩⟩
        case round =>
          clear H' HI0 HK HB hc0 hc1 hf0 hf1
          obtain ⟨pos, n, c, rfl, rfl, HIT, HA, hn, hnb, hcl, hcu, HBW⟩ := hrel
          cases gk with
          | zero => exact absurd HA.out (by simp [lex_reader_name.l0])
          | succ k1 =>
            have H := HA.out
            clear HA
            simp only [lex_reader_name.l0] at H
            by_cases hp : pos < t.size
            · replace H := (if_pos hp).symm.trans H
              have hnx : ∀ ty, (Instr.next (.pointer (some ⟨w.heap.size, 0, none⟩)) true ty).run Tryd.prog wr = _ := fun ty => Lib.run_next_any_at wr w.heap.size t pos ty HIT.out hp
              have hwd := Lib.decode_width_pos t pos hp
              have hit2 := Lib.iterAt_heap wr w.heap.size t pos (pos + (Utf8.decode t pos).2) HIT.out
              have hbw2 := Lib.below_iterAt HBW.out (k := w.heap.size) (Nat.le_refl _) t (pos + (Utf8.decode t pos).2)
              clear HIT HBW
              have HIT := Aside0.mk hit2
              have HBW := Aside0.mk hbw2
              clear hit2 hbw2
              generalize hch : (Utf8.decode t pos).1 = ch at H hnx
              generalize hd : (Utf8.decode t pos).2 = d at H hnx hwd HIT HBW
              clear hch hd
              generalize hW : wr.iterAt w.heap.size t (pos + d) = W at hnx HIT HBW
              clear hW
              by_cases hn0 : n = 0
              · replace H := (if_pos hn0).symm.trans H
                have e0 : ((n : Int) == 0) = true := by rw [beq_iff_eq]; omega
                obtain ⟨b, hb, H⟩ := Option.bind_eq_some_iff.mp H
                have AS := Aside0.mk hb
                clear hb
                have hn1 : (n : Int) ≤ 0 := by omega
                clear hn0
                cases b
                · replace H := (if_neg (by simp)).symm.trans H
                  obtain rfl := Option.some.inj H
                  clear H
                  go_wp2_with (first | (go_at_call 59; (with_reducible refine (lex_starts.calls k _ false _ AS.out).mono ?_); rintro e w2 ⟨rfl, b2⟩; have n1_ := Aside0.mk ((fun h => HW.iter_below h b2) HIT.out); have n2_ := Aside0.mk (Below.trans (by repeat (first | (with_reducible first | exact HBW.out | apply pw_below_drewN | apply below_drew1) | exact HBW.out)) (Below.mono b2 (Below.size (by repeat (first | (with_reducible first | exact HBW.out | apply pw_below_drewN | apply below_drew1) | exact HBW.out))))); clear HIT HBW b2; have HIT := n1_; have HBW := n2_; clear n1_ n2_))
                  go_ret
                  exact ⟨(HLex.below_more HB00.out HW0.out (by repeat (first | (with_reducible first | exact HBW.out | apply pw_below_drewN | apply below_drew1) | exact HBW.out))), (HLex.keep_more (KeepBut.refl w g none) (by repeat (first | (with_reducible first | exact HBW.out | apply pw_below_drewN | apply below_drew1) | exact HBW.out))), rfl, (reader_more HI00.out (by repeat (first | (with_reducible first | exact HBW.out | apply pw_below_drewN | apply below_drew1) | exact HBW.out)) HG0.out)⟩
                · replace H := (if_pos rfl).symm.trans H
                  have H' := Aside0.mk H
                  clear H
                  go_wp2_with (first | (go_at_call 59; (with_reducible refine (lex_starts.calls k _ true _ AS.out).mono ?_); rintro e w2 ⟨rfl, b2⟩; have n1_ := Aside0.mk ((fun h => HW.iter_below h b2) HIT.out); have n2_ := Aside0.mk (Below.trans (by repeat (first | (with_reducible first | exact HBW.out | apply pw_below_drewN | apply below_drew1) | exact HBW.out)) (Below.mono b2 (Below.size (by repeat (first | (with_reducible first | exact HBW.out | apply pw_below_drewN | apply below_drew1) | exact HBW.out))))); clear HIT HBW b2; have HIT := n1_; have HBW := n2_; clear n1_ n2_))
                  go_roundg k1
                  case measure => omega
                  case rel => exact ⟨pos + d, n + 1, c, (by first | rfl | go_num), (by first | rfl | go_num), ⟨HIT.out⟩, H', by omega, by omega, by omega, by omega, ⟨(by repeat (first | (with_reducible first | exact HBW.out | apply pw_below_drewN | apply below_drew1) | exact HBW.out))⟩⟩
              · replace H := (if_neg hn0).symm.trans H
                have e0 : ((n : Int) == 0) = false := by rw [beq_eq_false_iff_ne]; omega
                have hn1 : 1 ≤ (n : Int) := by omega
                clear hn0
                obtain ⟨b1, hb, H⟩ := Option.bind_eq_some_iff.mp H
                have AC := Aside0.mk hb
                clear hb
                obtain ⟨v2, hv, H⟩ := Option.bind_eq_some_iff.mp H
                by_cases hcn : c = (n : Int) - 1
                · have ecn : (c == (n : Int) - 1) = true := beq_iff_eq.2 hcn
                  have ecd : (c != (n : Int) - 1) = false := by rw [hcn]; simp
                  replace hv := (if_neg (fun h => h.2 hcn)).symm.trans hv
                  replace hv := (if_pos hcn).symm.trans hv
                  clear hcn
                  have AS := Aside0.mk hv
                  clear hv
                  cases b1
                  · cases v2
                    · replace H := (if_neg (by simp)).symm.trans H
                      by_cases h58 : ((ch : Nat) : Int) = 58
                      · have e58 : (((ch : Nat) : Int) == 58) = true := beq_iff_eq.2 h58
                        by_cases hneg : c < 0
                        · replace H := (if_pos ⟨h58, hneg⟩).symm.trans H
                          have eneg : decide (c < 0) = true := decide_eq_true hneg
                          clear h58 hneg
                          have H' := Aside0.mk H
                          clear H
                          go_wp2_with (first | (go_at_call 60; (with_reducible refine (lex_continues.calls k _ false _ AC.out).mono ?_); rintro e w2 ⟨rfl, b2⟩; have n1_ := Aside0.mk ((fun h => HW.iter_below h b2) HIT.out); have n2_ := Aside0.mk (Below.trans (by repeat (first | (with_reducible first | exact HBW.out | apply pw_below_drewN | apply below_drew1) | exact HBW.out)) (Below.mono b2 (Below.size (by repeat (first | (with_reducible first | exact HBW.out | apply pw_below_drewN | apply below_drew1) | exact HBW.out))))); clear HIT HBW b2; have HIT := n1_; have HBW := n2_; clear n1_ n2_) | (go_at_call 59; (with_reducible refine (lex_starts.calls k _ false _ AS.out).mono ?_); rintro e w2 ⟨rfl, b2⟩; have n1_ := Aside0.mk ((fun h => HW.iter_below h b2) HIT.out); have n2_ := Aside0.mk (Below.trans (by repeat (first | (with_reducible first | exact HBW.out | apply pw_below_drewN | apply below_drew1) | exact HBW.out)) (Below.mono b2 (Below.size (by repeat (first | (with_reducible first | exact HBW.out | apply pw_below_drewN | apply below_drew1) | exact HBW.out))))); clear HIT HBW b2; have HIT := n1_; have HBW := n2_; clear n1_ n2_))
                          go_roundg k1
                          case measure => omega
                          case rel => exact ⟨pos + d, n + 1, (n : Int), (by first | rfl | go_num), (by first | rfl | go_num), ⟨HIT.out⟩, H', by omega, by omega, by omega, by omega, ⟨(by repeat (first | (with_reducible first | exact HBW.out | apply pw_below_drewN | apply below_drew1) | exact HBW.out))⟩⟩
                        · replace H := (if_neg (fun h => hneg h.2)).symm.trans H
                          have eneg : decide (c < 0) = false := decide_eq_false hneg
                          clear h58 hneg
                          obtain rfl := Option.some.inj H
                          clear H
                          by_cases hL : (if c = (n : Int) - 1 then (n : Int) - 1 else (n : Int)) ≤ 100
                          · have HL := Aside0.mk hL
                            clear hL
                            go_wp2_with (first | (go_at_call 60; (with_reducible refine (lex_continues.calls k _ false _ AC.out).mono ?_); rintro e w2 ⟨rfl, b2⟩; have n1_ := Aside0.mk ((fun h => HW.iter_below h b2) HIT.out); have n2_ := Aside0.mk (Below.trans (by repeat (first | (with_reducible first | exact HBW.out | apply pw_below_drewN | apply below_drew1) | exact HBW.out)) (Below.mono b2 (Below.size (by repeat (first | (with_reducible first | exact HBW.out | apply pw_below_drewN | apply below_drew1) | exact HBW.out))))); clear HIT HBW b2; have HIT := n1_; have HBW := n2_; clear n1_ n2_) | (go_at_call 59; (with_reducible refine (lex_starts.calls k _ false _ AS.out).mono ?_); rintro e w2 ⟨rfl, b2⟩; have n1_ := Aside0.mk ((fun h => HW.iter_below h b2) HIT.out); have n2_ := Aside0.mk (Below.trans (by repeat (first | (with_reducible first | exact HBW.out | apply pw_below_drewN | apply below_drew1) | exact HBW.out)) (Below.mono b2 (Below.size (by repeat (first | (with_reducible first | exact HBW.out | apply pw_below_drewN | apply below_drew1) | exact HBW.out))))); clear HIT HBW b2; have HIT := n1_; have HBW := n2_; clear n1_ n2_) | (go_at_call 61; (with_reducible refine (lex_reader_end.calls_ok g s p (p + (pos : Int)) (n : Int) c _ _ w0 _ (reader_more HI00.out (by repeat (first | (with_reducible first | exact HBW.out | apply pw_below_drewN | apply below_drew1) | exact HBW.out)) HG0.out) (HLex.below_more HB00.out HW0.out (by repeat (first | (with_reducible first | exact HBW.out | apply pw_below_drewN | apply below_drew1) | exact HBW.out))) (by omega) (by omega) (by omega) (by omega) rfl rfl HL.out).mono ?_); rintro e w3 ⟨rfl, hI1, hB1, hK1⟩; have HIE := Aside0.mk hI1; have HBE := Aside0.mk hB1; have HKE := Aside0.mk (KeepBut.trans (HLex.keep_more (KeepBut.refl w g none) (by repeat (first | (with_reducible first | exact HBW.out | apply pw_below_drewN | apply below_drew1) | exact HBW.out))) hK1 (by simp)); clear hI1 hB1 hK1))
                            go_ret
                            exact ⟨by repeat (first | exact HBE.out | apply pw_below_drewN | apply below_drew1), by repeat (first | exact HKE.out | apply keep_drewN | apply keep_drew), (by rw [show lex_reader_name.fin p (some (_, n, c)) = _ from if_pos HL.out]; exact ⟨rfl, by repeat (first | exact HIE.out | apply IsS50.drewN | apply IsS50.drew)⟩)⟩
                          · have HN := Aside0.mk hL
                            have HL : Aside0 (100 < (if c = (n : Int) - 1 then (n : Int) - 1 else (n : Int))) := ⟨by omega⟩
                            clear hL
                            go_wp2_with (first | (go_at_call 60; (with_reducible refine (lex_continues.calls k _ false _ AC.out).mono ?_); rintro e w2 ⟨rfl, b2⟩; have n1_ := Aside0.mk ((fun h => HW.iter_below h b2) HIT.out); have n2_ := Aside0.mk (Below.trans (by repeat (first | (with_reducible first | exact HBW.out | apply pw_below_drewN | apply below_drew1) | exact HBW.out)) (Below.mono b2 (Below.size (by repeat (first | (with_reducible first | exact HBW.out | apply pw_below_drewN | apply below_drew1) | exact HBW.out))))); clear HIT HBW b2; have HIT := n1_; have HBW := n2_; clear n1_ n2_) | (go_at_call 59; (with_reducible refine (lex_starts.calls k _ false _ AS.out).mono ?_); rintro e w2 ⟨rfl, b2⟩; have n1_ := Aside0.mk ((fun h => HW.iter_below h b2) HIT.out); have n2_ := Aside0.mk (Below.trans (by repeat (first | (with_reducible first | exact HBW.out | apply pw_below_drewN | apply below_drew1) | exact HBW.out)) (Below.mono b2 (Below.size (by repeat (first | (with_reducible first | exact HBW.out | apply pw_below_drewN | apply below_drew1) | exact HBW.out))))); clear HIT HBW b2; have HIT := n1_; have HBW := n2_; clear n1_ n2_) | (go_at_call 61; (with_reducible refine (lex_reader_end.calls_no g s p (p + (pos : Int)) (n : Int) c _ w0 _ (reader_more HI00.out (by repeat (first | (with_reducible first | exact HBW.out | apply pw_below_drewN | apply below_drew1) | exact HBW.out)) HG0.out) (HLex.below_more HB00.out HW0.out (by repeat (first | (with_reducible first | exact HBW.out | apply pw_below_drewN | apply below_drew1) | exact HBW.out))) (by omega) (by omega) (by omega) (by omega) rfl HL.out).mono ?_); rintro e w3 ⟨rfl, hB1, hK1⟩; have HBE := Aside0.mk hB1; have HKE := Aside0.mk (KeepBut.trans (HLex.keep_more (KeepBut.refl w g none) (by repeat (first | (with_reducible first | exact HBW.out | apply pw_below_drewN | apply below_drew1) | exact HBW.out))) hK1 (by simp)); clear hB1 hK1))
                            exact ⟨rfl, by repeat (first | exact HBE.out | apply pw_below_drewN | apply below_drew1), by repeat (first | exact HKE.out | apply keep_drewN | apply keep_drew), (by rw [show lex_reader_name.fin p (some (_, n, c)) = _ from if_neg (Int.not_le.mpr HL.out)]; rfl)⟩
                      · have e58 : (((ch : Nat) : Int) == 58) = false := beq_eq_false_iff_ne.2 h58
                        replace H := (if_neg (fun h => h58 h.1)).symm.trans H
                        clear h58
                        obtain rfl := Option.some.inj H
                        clear H
                        by_cases hL : (if c = (n : Int) - 1 then (n : Int) - 1 else (n : Int)) ≤ 100
                        · have HL := Aside0.mk hL
                          clear hL
                          go_wp2_with (first | (go_at_call 60; (with_reducible refine (lex_continues.calls k _ false _ AC.out).mono ?_); rintro e w2 ⟨rfl, b2⟩; have n1_ := Aside0.mk ((fun h => HW.iter_below h b2) HIT.out); have n2_ := Aside0.mk (Below.trans (by repeat (first | (with_reducible first | exact HBW.out | apply pw_below_drewN | apply below_drew1) | exact HBW.out)) (Below.mono b2 (Below.size (by repeat (first | (with_reducible first | exact HBW.out | apply pw_below_drewN | apply below_drew1) | exact HBW.out))))); clear HIT HBW b2; have HIT := n1_; have HBW := n2_; clear n1_ n2_) | (go_at_call 59; (with_reducible refine (lex_starts.calls k _ false _ AS.out).mono ?_); rintro e w2 ⟨rfl, b2⟩; have n1_ := Aside0.mk ((fun h => HW.iter_below h b2) HIT.out); have n2_ := Aside0.mk (Below.trans (by repeat (first | (with_reducible first | exact HBW.out | apply pw_below_drewN | apply below_drew1) | exact HBW.out)) (Below.mono b2 (Below.size (by repeat (first | (with_reducible first | exact HBW.out | apply pw_below_drewN | apply below_drew1) | exact HBW.out))))); clear HIT HBW b2; have HIT := n1_; have HBW := n2_; clear n1_ n2_) | (go_at_call 61; (with_reducible refine (lex_reader_end.calls_ok g s p (p + (pos : Int)) (n : Int) c _ _ w0 _ (reader_more HI00.out (by repeat (first | (with_reducible first | exact HBW.out | apply pw_below_drewN | apply below_drew1) | exact HBW.out)) HG0.out) (HLex.below_more HB00.out HW0.out (by repeat (first | (with_reducible first | exact HBW.out | apply pw_below_drewN | apply below_drew1) | exact HBW.out))) (by omega) (by omega) (by omega) (by omega) rfl rfl HL.out).mono ?_); rintro e w3 ⟨rfl, hI1, hB1, hK1⟩; have HIE := Aside0.mk hI1; have HBE := Aside0.mk hB1; have HKE := Aside0.mk (KeepBut.trans (HLex.keep_more (KeepBut.refl w g none) (by repeat (first | (with_reducible first | exact HBW.out | apply pw_below_drewN | apply below_drew1) | exact HBW.out))) hK1 (by simp)); clear hI1 hB1 hK1))
                          go_ret
                          exact ⟨by repeat (first | exact HBE.out | apply pw_below_drewN | apply below_drew1), by repeat (first | exact HKE.out | apply keep_drewN | apply keep_drew), (by rw [show lex_reader_name.fin p (some (_, n, c)) = _ from if_pos HL.out]; exact ⟨rfl, by repeat (first | exact HIE.out | apply IsS50.drewN | apply IsS50.drew)⟩)⟩
                        · have HN := Aside0.mk hL
                          have HL : Aside0 (100 < (if c = (n : Int) - 1 then (n : Int) - 1 else (n : Int))) := ⟨by omega⟩
                          clear hL
                          go_wp2_with (first | (go_at_call 60; (with_reducible refine (lex_continues.calls k _ false _ AC.out).mono ?_); rintro e w2 ⟨rfl, b2⟩; have n1_ := Aside0.mk ((fun h => HW.iter_below h b2) HIT.out); have n2_ := Aside0.mk (Below.trans (by repeat (first | (with_reducible first | exact HBW.out | apply pw_below_drewN | apply below_drew1) | exact HBW.out)) (Below.mono b2 (Below.size (by repeat (first | (with_reducible first | exact HBW.out | apply pw_below_drewN | apply below_drew1) | exact HBW.out))))); clear HIT HBW b2; have HIT := n1_; have HBW := n2_; clear n1_ n2_) | (go_at_call 59; (with_reducible refine (lex_starts.calls k _ false _ AS.out).mono ?_); rintro e w2 ⟨rfl, b2⟩; have n1_ := Aside0.mk ((fun h => HW.iter_below h b2) HIT.out); have n2_ := Aside0.mk (Below.trans (by repeat (first | (with_reducible first | exact HBW.out | apply pw_below_drewN | apply below_drew1) | exact HBW.out)) (Below.mono b2 (Below.size (by repeat (first | (with_reducible first | exact HBW.out | apply pw_below_drewN | apply below_drew1) | exact HBW.out))))); clear HIT HBW b2; have HIT := n1_; have HBW := n2_; clear n1_ n2_) | (go_at_call 61; (with_reducible refine (lex_reader_end.calls_no g s p (p + (pos : Int)) (n : Int) c _ w0 _ (reader_more HI00.out (by repeat (first | (with_reducible first | exact HBW.out | apply pw_below_drewN | apply below_drew1) | exact HBW.out)) HG0.out) (HLex.below_more HB00.out HW0.out (by repeat (first | (with_reducible first | exact HBW.out | apply pw_below_drewN | apply below_drew1) | exact HBW.out))) (by omega) (by omega) (by omega) (by omega) rfl HL.out).mono ?_); rintro e w3 ⟨rfl, hB1, hK1⟩; have HBE := Aside0.mk hB1; have HKE := Aside0.mk (KeepBut.trans (HLex.keep_more (KeepBut.refl w g none) (by repeat (first | (with_reducible first | exact HBW.out | apply pw_below_drewN | apply below_drew1) | exact HBW.out))) hK1 (by simp)); clear hB1 hK1))
                          exact ⟨rfl, by repeat (first | exact HBE.out | apply pw_below_drewN | apply below_drew1), by repeat (first | exact HKE.out | apply keep_drewN | apply keep_drew), (by rw [show lex_reader_name.fin p (some (_, n, c)) = _ from if_neg (Int.not_le.mpr HL.out)]; rfl)⟩
                    · replace H := (if_pos rfl).symm.trans H
                      have H' := Aside0.mk H
                      clear H
                      go_wp2_with (first | (go_at_call 60; (with_reducible refine (lex_continues.calls k _ false _ AC.out).mono ?_); rintro e w2 ⟨rfl, b2⟩; have n1_ := Aside0.mk ((fun h => HW.iter_below h b2) HIT.out); have n2_ := Aside0.mk (Below.trans (by repeat (first | (with_reducible first | exact HBW.out | apply pw_below_drewN | apply below_drew1) | exact HBW.out)) (Below.mono b2 (Below.size (by repeat (first | (with_reducible first | exact HBW.out | apply pw_below_drewN | apply below_drew1) | exact HBW.out))))); clear HIT HBW b2; have HIT := n1_; have HBW := n2_; clear n1_ n2_) | (go_at_call 59; (with_reducible refine (lex_starts.calls k _ true _ AS.out).mono ?_); rintro e w2 ⟨rfl, b2⟩; have n1_ := Aside0.mk ((fun h => HW.iter_below h b2) HIT.out); have n2_ := Aside0.mk (Below.trans (by repeat (first | (with_reducible first | exact HBW.out | apply pw_below_drewN | apply below_drew1) | exact HBW.out)) (Below.mono b2 (Below.size (by repeat (first | (with_reducible first | exact HBW.out | apply pw_below_drewN | apply below_drew1) | exact HBW.out))))); clear HIT HBW b2; have HIT := n1_; have HBW := n2_; clear n1_ n2_))
                      go_roundg k1
                      case measure => omega
                      case rel => exact ⟨pos + d, n + 1, c, (by first | rfl | go_num), (by first | rfl | go_num), ⟨HIT.out⟩, H', by omega, by omega, by omega, by omega, ⟨(by repeat (first | (with_reducible first | exact HBW.out | apply pw_below_drewN | apply below_drew1) | exact HBW.out))⟩⟩
                  · cases v2
                    · replace H := (if_neg (by simp)).symm.trans H
                      by_cases h58 : ((ch : Nat) : Int) = 58
                      · have e58 : (((ch : Nat) : Int) == 58) = true := beq_iff_eq.2 h58
                        by_cases hneg : c < 0
                        · replace H := (if_pos ⟨h58, hneg⟩).symm.trans H
                          have eneg : decide (c < 0) = true := decide_eq_true hneg
                          clear h58 hneg
                          have H' := Aside0.mk H
                          clear H
                          go_wp2_with (first | (go_at_call 60; (with_reducible refine (lex_continues.calls k _ true _ AC.out).mono ?_); rintro e w2 ⟨rfl, b2⟩; have n1_ := Aside0.mk ((fun h => HW.iter_below h b2) HIT.out); have n2_ := Aside0.mk (Below.trans (by repeat (first | (with_reducible first | exact HBW.out | apply pw_below_drewN | apply below_drew1) | exact HBW.out)) (Below.mono b2 (Below.size (by repeat (first | (with_reducible first | exact HBW.out | apply pw_below_drewN | apply below_drew1) | exact HBW.out))))); clear HIT HBW b2; have HIT := n1_; have HBW := n2_; clear n1_ n2_) | (go_at_call 59; (with_reducible refine (lex_starts.calls k _ false _ AS.out).mono ?_); rintro e w2 ⟨rfl, b2⟩; have n1_ := Aside0.mk ((fun h => HW.iter_below h b2) HIT.out); have n2_ := Aside0.mk (Below.trans (by repeat (first | (with_reducible first | exact HBW.out | apply pw_below_drewN | apply below_drew1) | exact HBW.out)) (Below.mono b2 (Below.size (by repeat (first | (with_reducible first | exact HBW.out | apply pw_below_drewN | apply below_drew1) | exact HBW.out))))); clear HIT HBW b2; have HIT := n1_; have HBW := n2_; clear n1_ n2_))
                          go_roundg k1
                          case measure => omega
                          case rel => exact ⟨pos + d, n + 1, (n : Int), (by first | rfl | go_num), (by first | rfl | go_num), ⟨HIT.out⟩, H', by omega, by omega, by omega, by omega, ⟨(by repeat (first | (with_reducible first | exact HBW.out | apply pw_below_drewN | apply below_drew1) | exact HBW.out))⟩⟩
                        · replace H := (if_neg (fun h => hneg h.2)).symm.trans H
                          have eneg : decide (c < 0) = false := decide_eq_false hneg
                          clear h58 hneg
                          obtain rfl := Option.some.inj H
                          clear H
                          by_cases hL : (if c = (n : Int) - 1 then (n : Int) - 1 else (n : Int)) ≤ 100
                          · have HL := Aside0.mk hL
                            clear hL
                            go_wp2_with (first | (go_at_call 60; (with_reducible refine (lex_continues.calls k _ true _ AC.out).mono ?_); rintro e w2 ⟨rfl, b2⟩; have n1_ := Aside0.mk ((fun h => HW.iter_below h b2) HIT.out); have n2_ := Aside0.mk (Below.trans (by repeat (first | (with_reducible first | exact HBW.out | apply pw_below_drewN | apply below_drew1) | exact HBW.out)) (Below.mono b2 (Below.size (by repeat (first | (with_reducible first | exact HBW.out | apply pw_below_drewN | apply below_drew1) | exact HBW.out))))); clear HIT HBW b2; have HIT := n1_; have HBW := n2_; clear n1_ n2_) | (go_at_call 59; (with_reducible refine (lex_starts.calls k _ false _ AS.out).mono ?_); rintro e w2 ⟨rfl, b2⟩; have n1_ := Aside0.mk ((fun h => HW.iter_below h b2) HIT.out); have n2_ := Aside0.mk (Below.trans (by repeat (first | (with_reducible first | exact HBW.out | apply pw_below_drewN | apply below_drew1) | exact HBW.out)) (Below.mono b2 (Below.size (by repeat (first | (with_reducible first | exact HBW.out | apply pw_below_drewN | apply below_drew1) | exact HBW.out))))); clear HIT HBW b2; have HIT := n1_; have HBW := n2_; clear n1_ n2_) | (go_at_call 61; (with_reducible refine (lex_reader_end.calls_ok g s p (p + (pos : Int)) (n : Int) c _ _ w0 _ (reader_more HI00.out (by repeat (first | (with_reducible first | exact HBW.out | apply pw_below_drewN | apply below_drew1) | exact HBW.out)) HG0.out) (HLex.below_more HB00.out HW0.out (by repeat (first | (with_reducible first | exact HBW.out | apply pw_below_drewN | apply below_drew1) | exact HBW.out))) (by omega) (by omega) (by omega) (by omega) rfl rfl HL.out).mono ?_); rintro e w3 ⟨rfl, hI1, hB1, hK1⟩; have HIE := Aside0.mk hI1; have HBE := Aside0.mk hB1; have HKE := Aside0.mk (KeepBut.trans (HLex.keep_more (KeepBut.refl w g none) (by repeat (first | (with_reducible first | exact HBW.out | apply pw_below_drewN | apply below_drew1) | exact HBW.out))) hK1 (by simp)); clear hI1 hB1 hK1))
                            go_ret
                            exact ⟨by repeat (first | exact HBE.out | apply pw_below_drewN | apply below_drew1), by repeat (first | exact HKE.out | apply keep_drewN | apply keep_drew), (by rw [show lex_reader_name.fin p (some (_, n, c)) = _ from if_pos HL.out]; exact ⟨rfl, by repeat (first | exact HIE.out | apply IsS50.drewN | apply IsS50.drew)⟩)⟩
                          · have HN := Aside0.mk hL
                            have HL : Aside0 (100 < (if c = (n : Int) - 1 then (n : Int) - 1 else (n : Int))) := ⟨by omega⟩
                            clear hL
                            go_wp2_with (first | (go_at_call 60; (with_reducible refine (lex_continues.calls k _ true _ AC.out).mono ?_); rintro e w2 ⟨rfl, b2⟩; have n1_ := Aside0.mk ((fun h => HW.iter_below h b2) HIT.out); have n2_ := Aside0.mk (Below.trans (by repeat (first | (with_reducible first | exact HBW.out | apply pw_below_drewN | apply below_drew1) | exact HBW.out)) (Below.mono b2 (Below.size (by repeat (first | (with_reducible first | exact HBW.out | apply pw_below_drewN | apply below_drew1) | exact HBW.out))))); clear HIT HBW b2; have HIT := n1_; have HBW := n2_; clear n1_ n2_) | (go_at_call 59; (with_reducible refine (lex_starts.calls k _ false _ AS.out).mono ?_); rintro e w2 ⟨rfl, b2⟩; have n1_ := Aside0.mk ((fun h => HW.iter_below h b2) HIT.out); have n2_ := Aside0.mk (Below.trans (by repeat (first | (with_reducible first | exact HBW.out | apply pw_below_drewN | apply below_drew1) | exact HBW.out)) (Below.mono b2 (Below.size (by repeat (first | (with_reducible first | exact HBW.out | apply pw_below_drewN | apply below_drew1) | exact HBW.out))))); clear HIT HBW b2; have HIT := n1_; have HBW := n2_; clear n1_ n2_) | (go_at_call 61; (with_reducible refine (lex_reader_end.calls_no g s p (p + (pos : Int)) (n : Int) c _ w0 _ (reader_more HI00.out (by repeat (first | (with_reducible first | exact HBW.out | apply pw_below_drewN | apply below_drew1) | exact HBW.out)) HG0.out) (HLex.below_more HB00.out HW0.out (by repeat (first | (with_reducible first | exact HBW.out | apply pw_below_drewN | apply below_drew1) | exact HBW.out))) (by omega) (by omega) (by omega) (by omega) rfl HL.out).mono ?_); rintro e w3 ⟨rfl, hB1, hK1⟩; have HBE := Aside0.mk hB1; have HKE := Aside0.mk (KeepBut.trans (HLex.keep_more (KeepBut.refl w g none) (by repeat (first | (with_reducible first | exact HBW.out | apply pw_below_drewN | apply below_drew1) | exact HBW.out))) hK1 (by simp)); clear hB1 hK1))
                            exact ⟨rfl, by repeat (first | exact HBE.out | apply pw_below_drewN | apply below_drew1), by repeat (first | exact HKE.out | apply keep_drewN | apply keep_drew), (by rw [show lex_reader_name.fin p (some (_, n, c)) = _ from if_neg (Int.not_le.mpr HL.out)]; rfl)⟩
                      · have e58 : (((ch : Nat) : Int) == 58) = false := beq_eq_false_iff_ne.2 h58
                        replace H := (if_neg (fun h => h58 h.1)).symm.trans H
                        clear h58
                        obtain rfl := Option.some.inj H
                        clear H
                        by_cases hL : (if c = (n : Int) - 1 then (n : Int) - 1 else (n : Int)) ≤ 100
                        · have HL := Aside0.mk hL
                          clear hL
                          go_wp2_with (first | (go_at_call 60; (with_reducible refine (lex_continues.calls k _ true _ AC.out).mono ?_); rintro e w2 ⟨rfl, b2⟩; have n1_ := Aside0.mk ((fun h => HW.iter_below h b2) HIT.out); have n2_ := Aside0.mk (Below.trans (by repeat (first | (with_reducible first | exact HBW.out | apply pw_below_drewN | apply below_drew1) | exact HBW.out)) (Below.mono b2 (Below.size (by repeat (first | (with_reducible first | exact HBW.out | apply pw_below_drewN | apply below_drew1) | exact HBW.out))))); clear HIT HBW b2; have HIT := n1_; have HBW := n2_; clear n1_ n2_) | (go_at_call 59; (with_reducible refine (lex_starts.calls k _ false _ AS.out).mono ?_); rintro e w2 ⟨rfl, b2⟩; have n1_ := Aside0.mk ((fun h => HW.iter_below h b2) HIT.out); have n2_ := Aside0.mk (Below.trans (by repeat (first | (with_reducible first | exact HBW.out | apply pw_below_drewN | apply below_drew1) | exact HBW.out)) (Below.mono b2 (Below.size (by repeat (first | (with_reducible first | exact HBW.out | apply pw_below_drewN | apply below_drew1) | exact HBW.out))))); clear HIT HBW b2; have HIT := n1_; have HBW := n2_; clear n1_ n2_) | (go_at_call 61; (with_reducible refine (lex_reader_end.calls_ok g s p (p + (pos : Int)) (n : Int) c _ _ w0 _ (reader_more HI00.out (by repeat (first | (with_reducible first | exact HBW.out | apply pw_below_drewN | apply below_drew1) | exact HBW.out)) HG0.out) (HLex.below_more HB00.out HW0.out (by repeat (first | (with_reducible first | exact HBW.out | apply pw_below_drewN | apply below_drew1) | exact HBW.out))) (by omega) (by omega) (by omega) (by omega) rfl rfl HL.out).mono ?_); rintro e w3 ⟨rfl, hI1, hB1, hK1⟩; have HIE := Aside0.mk hI1; have HBE := Aside0.mk hB1; have HKE := Aside0.mk (KeepBut.trans (HLex.keep_more (KeepBut.refl w g none) (by repeat (first | (with_reducible first | exact HBW.out | apply pw_below_drewN | apply below_drew1) | exact HBW.out))) hK1 (by simp)); clear hI1 hB1 hK1))
                          go_ret
                          exact ⟨by repeat (first | exact HBE.out | apply pw_below_drewN | apply below_drew1), by repeat (first | exact HKE.out | apply keep_drewN | apply keep_drew), (by rw [show lex_reader_name.fin p (some (_, n, c)) = _ from if_pos HL.out]; exact ⟨rfl, by repeat (first | exact HIE.out | apply IsS50.drewN | apply IsS50.drew)⟩)⟩
                        · have HN := Aside0.mk hL
                          have HL : Aside0 (100 < (if c = (n : Int) - 1 then (n : Int) - 1 else (n : Int))) := ⟨by omega⟩
                          clear hL
                          go_wp2_with (first | (go_at_call 60; (with_reducible refine (lex_continues.calls k _ true _ AC.out).mono ?_); rintro e w2 ⟨rfl, b2⟩; have n1_ := Aside0.mk ((fun h => HW.iter_below h b2) HIT.out); have n2_ := Aside0.mk (Below.trans (by repeat (first | (with_reducible first | exact HBW.out | apply pw_below_drewN | apply below_drew1) | exact HBW.out)) (Below.mono b2 (Below.size (by repeat (first | (with_reducible first | exact HBW.out | apply pw_below_drewN | apply below_drew1) | exact HBW.out))))); clear HIT HBW b2; have HIT := n1_; have HBW := n2_; clear n1_ n2_) | (go_at_call 59; (with_reducible refine (lex_starts.calls k _ false _ AS.out).mono ?_); rintro e w2 ⟨rfl, b2⟩; have n1_ := Aside0.mk ((fun h => HW.iter_below h b2) HIT.out); have n2_ := Aside0.mk (Below.trans (by repeat (first | (with_reducible first | exact HBW.out | apply pw_below_drewN | apply below_drew1) | exact HBW.out)) (Below.mono b2 (Below.size (by repeat (first | (with_reducible first | exact HBW.out | apply pw_below_drewN | apply below_drew1) | exact HBW.out))))); clear HIT HBW b2; have HIT := n1_; have HBW := n2_; clear n1_ n2_) | (go_at_call 61; (with_reducible refine (lex_reader_end.calls_no g s p (p + (pos : Int)) (n : Int) c _ w0 _ (reader_more HI00.out (by repeat (first | (with_reducible first | exact HBW.out | apply pw_below_drewN | apply below_drew1) | exact HBW.out)) HG0.out) (HLex.below_more HB00.out HW0.out (by repeat (first | (with_reducible first | exact HBW.out | apply pw_below_drewN | apply below_drew1) | exact HBW.out))) (by omega) (by omega) (by omega) (by omega) rfl HL.out).mono ?_); rintro e w3 ⟨rfl, hB1, hK1⟩; have HBE := Aside0.mk hB1; have HKE := Aside0.mk (KeepBut.trans (HLex.keep_more (KeepBut.refl w g none) (by repeat (first | (with_reducible first | exact HBW.out | apply pw_below_drewN | apply below_drew1) | exact HBW.out))) hK1 (by simp)); clear hB1 hK1))
                          exact ⟨rfl, by repeat (first | exact HBE.out | apply pw_below_drewN | apply below_drew1), by repeat (first | exact HKE.out | apply keep_drewN | apply keep_drew), (by rw [show lex_reader_name.fin p (some (_, n, c)) = _ from if_neg (Int.not_le.mpr HL.out)]; rfl)⟩
                    · replace H := (if_pos rfl).symm.trans H
                      have H' := Aside0.mk H
                      clear H
                      go_wp2_with (first | (go_at_call 60; (with_reducible refine (lex_continues.calls k _ true _ AC.out).mono ?_); rintro e w2 ⟨rfl, b2⟩; have n1_ := Aside0.mk ((fun h => HW.iter_below h b2) HIT.out); have n2_ := Aside0.mk (Below.trans (by repeat (first | (with_reducible first | exact HBW.out | apply pw_below_drewN | apply below_drew1) | exact HBW.out)) (Below.mono b2 (Below.size (by repeat (first | (with_reducible first | exact HBW.out | apply pw_below_drewN | apply below_drew1) | exact HBW.out))))); clear HIT HBW b2; have HIT := n1_; have HBW := n2_; clear n1_ n2_) | (go_at_call 59; (with_reducible refine (lex_starts.calls k _ true _ AS.out).mono ?_); rintro e w2 ⟨rfl, b2⟩; have n1_ := Aside0.mk ((fun h => HW.iter_below h b2) HIT.out); have n2_ := Aside0.mk (Below.trans (by repeat (first | (with_reducible first | exact HBW.out | apply pw_below_drewN | apply below_drew1) | exact HBW.out)) (Below.mono b2 (Below.size (by repeat (first | (with_reducible first | exact HBW.out | apply pw_below_drewN | apply below_drew1) | exact HBW.out))))); clear HIT HBW b2; have HIT := n1_; have HBW := n2_; clear n1_ n2_))
                      go_roundg k1
                      case measure => omega
                      case rel => exact ⟨pos + d, n + 1, c, (by first | rfl | go_num), (by first | rfl | go_num), ⟨HIT.out⟩, H', by omega, by omega, by omega, by omega, ⟨(by repeat (first | (with_reducible first | exact HBW.out | apply pw_below_drewN | apply below_drew1) | exact HBW.out))⟩⟩
                · have ecn : (c == (n : Int) - 1) = false := beq_eq_false_iff_ne.2 hcn
                  have ecd : (c != (n : Int) - 1) = true := bne_iff_ne.2 hcn
                  cases b1
                  · replace hv := (if_neg (by simp)).symm.trans hv
                    replace hv := (if_neg hcn).symm.trans hv
                    clear hcn
                    obtain rfl := Option.some.inj hv
                    clear hv
                    replace H := (if_neg (by simp)).symm.trans H
                    by_cases h58 : ((ch : Nat) : Int) = 58
                    · have e58 : (((ch : Nat) : Int) == 58) = true := beq_iff_eq.2 h58
                      by_cases hneg : c < 0
                      · replace H := (if_pos ⟨h58, hneg⟩).symm.trans H
                        have eneg : decide (c < 0) = true := decide_eq_true hneg
                        clear h58 hneg
                        have H' := Aside0.mk H
                        clear H
                        go_wp2_with (first | (go_at_call 60; (with_reducible refine (lex_continues.calls k _ false _ AC.out).mono ?_); rintro e w2 ⟨rfl, b2⟩; have n1_ := Aside0.mk ((fun h => HW.iter_below h b2) HIT.out); have n2_ := Aside0.mk (Below.trans (by repeat (first | (with_reducible first | exact HBW.out | apply pw_below_drewN | apply below_drew1) | exact HBW.out)) (Below.mono b2 (Below.size (by repeat (first | (with_reducible first | exact HBW.out | apply pw_below_drewN | apply below_drew1) | exact HBW.out))))); clear HIT HBW b2; have HIT := n1_; have HBW := n2_; clear n1_ n2_))
                        go_roundg k1
                        case measure => omega
                        case rel => exact ⟨pos + d, n + 1, (n : Int), (by first | rfl | go_num), (by first | rfl | go_num), ⟨HIT.out⟩, H', by omega, by omega, by omega, by omega, ⟨(by repeat (first | (with_reducible first | exact HBW.out | apply pw_below_drewN | apply below_drew1) | exact HBW.out))⟩⟩
                      · replace H := (if_neg (fun h => hneg h.2)).symm.trans H
                        have eneg : decide (c < 0) = false := decide_eq_false hneg
                        clear h58 hneg
                        obtain rfl := Option.some.inj H
                        clear H
                        by_cases hL : (if c = (n : Int) - 1 then (n : Int) - 1 else (n : Int)) ≤ 100
                        · have HL := Aside0.mk hL
                          clear hL
                          go_wp2_with (first | (go_at_call 60; (with_reducible refine (lex_continues.calls k _ false _ AC.out).mono ?_); rintro e w2 ⟨rfl, b2⟩; have n1_ := Aside0.mk ((fun h => HW.iter_below h b2) HIT.out); have n2_ := Aside0.mk (Below.trans (by repeat (first | (with_reducible first | exact HBW.out | apply pw_below_drewN | apply below_drew1) | exact HBW.out)) (Below.mono b2 (Below.size (by repeat (first | (with_reducible first | exact HBW.out | apply pw_below_drewN | apply below_drew1) | exact HBW.out))))); clear HIT HBW b2; have HIT := n1_; have HBW := n2_; clear n1_ n2_) | (go_at_call 61; (with_reducible refine (lex_reader_end.calls_ok g s p (p + (pos : Int)) (n : Int) c _ _ w0 _ (reader_more HI00.out (by repeat (first | (with_reducible first | exact HBW.out | apply pw_below_drewN | apply below_drew1) | exact HBW.out)) HG0.out) (HLex.below_more HB00.out HW0.out (by repeat (first | (with_reducible first | exact HBW.out | apply pw_below_drewN | apply below_drew1) | exact HBW.out))) (by omega) (by omega) (by omega) (by omega) rfl rfl HL.out).mono ?_); rintro e w3 ⟨rfl, hI1, hB1, hK1⟩; have HIE := Aside0.mk hI1; have HBE := Aside0.mk hB1; have HKE := Aside0.mk (KeepBut.trans (HLex.keep_more (KeepBut.refl w g none) (by repeat (first | (with_reducible first | exact HBW.out | apply pw_below_drewN | apply below_drew1) | exact HBW.out))) hK1 (by simp)); clear hI1 hB1 hK1))
                          go_ret
                          exact ⟨by repeat (first | exact HBE.out | apply pw_below_drewN | apply below_drew1), by repeat (first | exact HKE.out | apply keep_drewN | apply keep_drew), (by rw [show lex_reader_name.fin p (some (_, n, c)) = _ from if_pos HL.out]; exact ⟨rfl, by repeat (first | exact HIE.out | apply IsS50.drewN | apply IsS50.drew)⟩)⟩
                        · have HN := Aside0.mk hL
                          have HL : Aside0 (100 < (if c = (n : Int) - 1 then (n : Int) - 1 else (n : Int))) := ⟨by omega⟩
                          clear hL
                          go_wp2_with (first | (go_at_call 60; (with_reducible refine (lex_continues.calls k _ false _ AC.out).mono ?_); rintro e w2 ⟨rfl, b2⟩; have n1_ := Aside0.mk ((fun h => HW.iter_below h b2) HIT.out); have n2_ := Aside0.mk (Below.trans (by repeat (first | (with_reducible first | exact HBW.out | apply pw_below_drewN | apply below_drew1) | exact HBW.out)) (Below.mono b2 (Below.size (by repeat (first | (with_reducible first | exact HBW.out | apply pw_below_drewN | apply below_drew1) | exact HBW.out))))); clear HIT HBW b2; have HIT := n1_; have HBW := n2_; clear n1_ n2_) | (go_at_call 61; (with_reducible refine (lex_reader_end.calls_no g s p (p + (pos : Int)) (n : Int) c _ w0 _ (reader_more HI00.out (by repeat (first | (with_reducible first | exact HBW.out | apply pw_below_drewN | apply below_drew1) | exact HBW.out)) HG0.out) (HLex.below_more HB00.out HW0.out (by repeat (first | (with_reducible first | exact HBW.out | apply pw_below_drewN | apply below_drew1) | exact HBW.out))) (by omega) (by omega) (by omega) (by omega) rfl HL.out).mono ?_); rintro e w3 ⟨rfl, hB1, hK1⟩; have HBE := Aside0.mk hB1; have HKE := Aside0.mk (KeepBut.trans (HLex.keep_more (KeepBut.refl w g none) (by repeat (first | (with_reducible first | exact HBW.out | apply pw_below_drewN | apply below_drew1) | exact HBW.out))) hK1 (by simp)); clear hB1 hK1))
                          exact ⟨rfl, by repeat (first | exact HBE.out | apply pw_below_drewN | apply below_drew1), by repeat (first | exact HKE.out | apply keep_drewN | apply keep_drew), (by rw [show lex_reader_name.fin p (some (_, n, c)) = _ from if_neg (Int.not_le.mpr HL.out)]; rfl)⟩
                    · have e58 : (((ch : Nat) : Int) == 58) = false := beq_eq_false_iff_ne.2 h58
                      replace H := (if_neg (fun h => h58 h.1)).symm.trans H
                      clear h58
                      obtain rfl := Option.some.inj H
                      clear H
                      by_cases hL : (if c = (n : Int) - 1 then (n : Int) - 1 else (n : Int)) ≤ 100
                      · have HL := Aside0.mk hL
                        clear hL
                        go_wp2_with (first | (go_at_call 60; (with_reducible refine (lex_continues.calls k _ false _ AC.out).mono ?_); rintro e w2 ⟨rfl, b2⟩; have n1_ := Aside0.mk ((fun h => HW.iter_below h b2) HIT.out); have n2_ := Aside0.mk (Below.trans (by repeat (first | (with_reducible first | exact HBW.out | apply pw_below_drewN | apply below_drew1) | exact HBW.out)) (Below.mono b2 (Below.size (by repeat (first | (with_reducible first | exact HBW.out | apply pw_below_drewN | apply below_drew1) | exact HBW.out))))); clear HIT HBW b2; have HIT := n1_; have HBW := n2_; clear n1_ n2_) | (go_at_call 61; (with_reducible refine (lex_reader_end.calls_ok g s p (p + (pos : Int)) (n : Int) c _ _ w0 _ (reader_more HI00.out (by repeat (first | (with_reducible first | exact HBW.out | apply pw_below_drewN | apply below_drew1) | exact HBW.out)) HG0.out) (HLex.below_more HB00.out HW0.out (by repeat (first | (with_reducible first | exact HBW.out | apply pw_below_drewN | apply below_drew1) | exact HBW.out))) (by omega) (by omega) (by omega) (by omega) rfl rfl HL.out).mono ?_); rintro e w3 ⟨rfl, hI1, hB1, hK1⟩; have HIE := Aside0.mk hI1; have HBE := Aside0.mk hB1; have HKE := Aside0.mk (KeepBut.trans (HLex.keep_more (KeepBut.refl w g none) (by repeat (first | (with_reducible first | exact HBW.out | apply pw_below_drewN | apply below_drew1) | exact HBW.out))) hK1 (by simp)); clear hI1 hB1 hK1))
                        go_ret
                        exact ⟨by repeat (first | exact HBE.out | apply pw_below_drewN | apply below_drew1), by repeat (first | exact HKE.out | apply keep_drewN | apply keep_drew), (by rw [show lex_reader_name.fin p (some (_, n, c)) = _ from if_pos HL.out]; exact ⟨rfl, by repeat (first | exact HIE.out | apply IsS50.drewN | apply IsS50.drew)⟩)⟩
                      · have HN := Aside0.mk hL
                        have HL : Aside0 (100 < (if c = (n : Int) - 1 then (n : Int) - 1 else (n : Int))) := ⟨by omega⟩
                        clear hL
                        go_wp2_with (first | (go_at_call 60; (with_reducible refine (lex_continues.calls k _ false _ AC.out).mono ?_); rintro e w2 ⟨rfl, b2⟩; have n1_ := Aside0.mk ((fun h => HW.iter_below h b2) HIT.out); have n2_ := Aside0.mk (Below.trans (by repeat (first | (with_reducible first | exact HBW.out | apply pw_below_drewN | apply below_drew1) | exact HBW.out)) (Below.mono b2 (Below.size (by repeat (first | (with_reducible first | exact HBW.out | apply pw_below_drewN | apply below_drew1) | exact HBW.out))))); clear HIT HBW b2; have HIT := n1_; have HBW := n2_; clear n1_ n2_) | (go_at_call 61; (with_reducible refine (lex_reader_end.calls_no g s p (p + (pos : Int)) (n : Int) c _ w0 _ (reader_more HI00.out (by repeat (first | (with_reducible first | exact HBW.out | apply pw_below_drewN | apply below_drew1) | exact HBW.out)) HG0.out) (HLex.below_more HB00.out HW0.out (by repeat (first | (with_reducible first | exact HBW.out | apply pw_below_drewN | apply below_drew1) | exact HBW.out))) (by omega) (by omega) (by omega) (by omega) rfl HL.out).mono ?_); rintro e w3 ⟨rfl, hB1, hK1⟩; have HBE := Aside0.mk hB1; have HKE := Aside0.mk (KeepBut.trans (HLex.keep_more (KeepBut.refl w g none) (by repeat (first | (with_reducible first | exact HBW.out | apply pw_below_drewN | apply below_drew1) | exact HBW.out))) hK1 (by simp)); clear hB1 hK1))
                        exact ⟨rfl, by repeat (first | exact HBE.out | apply pw_below_drewN | apply below_drew1), by repeat (first | exact HKE.out | apply keep_drewN | apply keep_drew), (by rw [show lex_reader_name.fin p (some (_, n, c)) = _ from if_neg (Int.not_le.mpr HL.out)]; rfl)⟩
                  · replace hv := (if_pos ⟨rfl, hcn⟩).symm.trans hv
                    clear hcn
                    obtain rfl := Option.some.inj hv
                    clear hv
                    replace H := (if_pos rfl).symm.trans H
                    have H' := Aside0.mk H
                    clear H
                    go_wp2_with (first | (go_at_call 60; (with_reducible refine (lex_continues.calls k _ true _ AC.out).mono ?_); rintro e w2 ⟨rfl, b2⟩; have n1_ := Aside0.mk ((fun h => HW.iter_below h b2) HIT.out); have n2_ := Aside0.mk (Below.trans (by repeat (first | (with_reducible first | exact HBW.out | apply pw_below_drewN | apply below_drew1) | exact HBW.out)) (Below.mono b2 (Below.size (by repeat (first | (with_reducible first | exact HBW.out | apply pw_below_drewN | apply below_drew1) | exact HBW.out))))); clear HIT HBW b2; have HIT := n1_; have HBW := n2_; clear n1_ n2_))
                    go_roundg k1
                    case measure => omega
                    case rel => exact ⟨pos + d, n + 1, c, (by first | rfl | go_num), (by first | rfl | go_num), ⟨HIT.out⟩, H', by omega, by omega, by omega, by omega, ⟨(by repeat (first | (with_reducible first | exact HBW.out | apply pw_below_drewN | apply below_drew1) | exact HBW.out))⟩⟩
            · replace H := (if_neg hp).symm.trans H
              have hnx : ∀ ty, (Instr.next (.pointer (some ⟨w.heap.size, 0, none⟩)) true ty).run Tryd.prog wr = _ := fun ty => Lib.run_next_end_at wr w.heap.size t pos ty HIT.out hp
              have HI0 := Aside0.mk (reader_more HI00.out HBW.out HG0.out)
              obtain ⟨HG, hg⟩ := HI0.out; have hc0 := cellS50_0 HG; have hc1 := cellS50_1 HG; have hf0 := blk_frozen HG 0; have hf1 := blk_frozen HG 1; clear HG hg
              by_cases hn0 : n = 0
              · replace H := Option.some.inj H
                replace H := (if_pos hn0).symm.trans H
                have e0 : decide (0 < (n : Int)) = false := by simp; omega
                have e1 : decide ((n : Int) > 0) = false := by simp; omega
                have e2 : decide (0 < n) = false := by simp; omega
                have hn1 : (n : Int) ≤ 0 := by omega
                clear hn0
                obtain rfl := H
                go_wp2
                go_ret
                exact ⟨(HLex.below_more HB00.out HW0.out (by repeat (first | (with_reducible first | exact HBW.out | apply pw_below_drewN | apply below_drew1) | exact HBW.out))), (HLex.keep_more (KeepBut.refl w g none) (by repeat (first | (with_reducible first | exact HBW.out | apply pw_below_drewN | apply below_drew1) | exact HBW.out))), rfl, (reader_more HI00.out (by repeat (first | (with_reducible first | exact HBW.out | apply pw_below_drewN | apply below_drew1) | exact HBW.out)) HG0.out)⟩
              · replace H := (if_neg hn0).symm.trans (Option.some.inj H)
                have e0 : decide (0 < (n : Int)) = true := by simp; omega
                have e1 : decide ((n : Int) > 0) = true := by simp; omega
                have hn1 : 1 ≤ (n : Int) := by omega
                clear hn0
                replace H := congrArg some H
                obtain rfl := Option.some.inj H
                clear H
                by_cases hL : (if c = (n : Int) - 1 then (n : Int) - 1 else (n : Int)) ≤ 100
                · have HL := Aside0.mk hL
                  clear hL
                  go_wp2_with (first | (go_at_call 61; (with_reducible refine (lex_reader_end.calls_ok g s p (s.size : Int) (n : Int) c _ _ w0 _ (reader_more HI00.out (by repeat (first | (with_reducible first | exact HBW.out | apply pw_below_drewN | apply below_drew1) | exact HBW.out)) HG0.out) (HLex.below_more HB00.out HW0.out (by repeat (first | (with_reducible first | exact HBW.out | apply pw_below_drewN | apply below_drew1) | exact HBW.out))) (by omega) (by omega) (by omega) (by omega) rfl rfl HL.out).mono ?_); rintro e w3 ⟨rfl, hI1, hB1, hK1⟩; have HIE := Aside0.mk hI1; have HBE := Aside0.mk hB1; have HKE := Aside0.mk (KeepBut.trans (HLex.keep_more (KeepBut.refl w g none) (by repeat (first | (with_reducible first | exact HBW.out | apply pw_below_drewN | apply below_drew1) | exact HBW.out))) hK1 (by simp)); clear hI1 hB1 hK1))
                  go_ret
                  exact ⟨by repeat (first | exact HBE.out | apply pw_below_drewN | apply below_drew1), by repeat (first | exact HKE.out | apply keep_drewN | apply keep_drew), (by rw [show lex_reader_name.fin p (some (_, n, c)) = _ from if_pos HL.out]; exact ⟨rfl, by repeat (first | exact HIE.out | apply IsS50.drewN | apply IsS50.drew)⟩)⟩
                · have HN := Aside0.mk hL
                  have HL : Aside0 (100 < (if c = (n : Int) - 1 then (n : Int) - 1 else (n : Int))) := ⟨by omega⟩
                  clear hL
                  go_wp2_with (first | (go_at_call 61; (with_reducible refine (lex_reader_end.calls_no g s p (s.size : Int) (n : Int) c _ w0 _ (reader_more HI00.out (by repeat (first | (with_reducible first | exact HBW.out | apply pw_below_drewN | apply below_drew1) | exact HBW.out)) HG0.out) (HLex.below_more HB00.out HW0.out (by repeat (first | (with_reducible first | exact HBW.out | apply pw_below_drewN | apply below_drew1) | exact HBW.out))) (by omega) (by omega) (by omega) (by omega) rfl HL.out).mono ?_); rintro e w3 ⟨rfl, hB1, hK1⟩; have HBE := Aside0.mk hB1; have HKE := Aside0.mk (KeepBut.trans (HLex.keep_more (KeepBut.refl w g none) (by repeat (first | (with_reducible first | exact HBW.out | apply pw_below_drewN | apply below_drew1) | exact HBW.out))) hK1 (by simp)); clear hB1 hK1))
                  exact ⟨rfl, by repeat (first | exact HBE.out | apply pw_below_drewN | apply below_drew1), by repeat (first | exact HKE.out | apply keep_drewN | apply keep_drew), (by rw [show lex_reader_name.fin p (some (_, n, c)) = _ from if_neg (Int.not_le.mpr HL.out)]; rfl)⟩
      · exact absurd ((if_neg c2).symm.trans h) (by simp)
    · exact absurd ((if_neg c1).symm.trans h) (by simp)
  · exact absurd ((if_neg c0).symm.trans h) (by simp)
end Go.Proofs.YtmpenkinheneoaaDoor.Q
