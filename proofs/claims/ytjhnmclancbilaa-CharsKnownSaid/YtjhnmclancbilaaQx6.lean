/- Walks of functions, each against a plain Lean function: written by this session's program wip/hand.py, which runs the kit's print with this session's own contracts put in. -/
import Derived.Test.YtjhnmclancbilaaQx0
import Derived.Test.YtjhnmclancbilaaQx5
namespace Go.Proofs.Ytjhnmclancbilaa.Q
open Go.RowKit Go.Proofs.YtjhnmclancbilaaW.PrintWords Go.Proofs.YtjhnmclancbilaaW.PrintLast Go.Proofs.YtjhnmclancbilaaW.PrintMore
attribute [local go_sem] max2_int min2_int max_two min_two max_three min_three max_four min_four   -- for this text's walks alone
set_option linter.unusedVariables false
set_option linter.unusedSimpArgs false

-- HAND: function 16, by this session's own text
theorem own_iterAt_h {w : World} {B e size n : Nat} {v : Value} {xs : List Value} {k : Nat} {s : ByteArray} {pos : Nat} (h : w.ownsRow B e size v n xs) (hk : w.heap[k]? = some (.stringIter s pos)) (pos' : Nat) : (w.iterAt k s pos').ownsRow B e size v n xs := by
  refine ⟨h.1, ?_⟩
  rcases h.2 with h0 | ⟨g, cap, cur, hv, hb, hg, rest⟩
  · exact .inl h0
  · refine .inr ⟨g, cap, cur, hv, hb, ?_, rest⟩
    rw [Lib.iterAt_other _ _ _ _ _ (fun e => by subst e; rw [hk] at hg; cases hg)]
    exact hg
theorem iter_grown {w W1 : World} {B e size n : Nat} {v : Value} {xs : List Value} {k : Nat} {s : ByteArray} {pos : Nat} (h : w.ownsRow B e size v n xs) (hk : w.heap[k]? = some (.stringIter s pos)) (hg : w.grownBy W1 v.ownBlock) : W1.heap[k]? = some (.stringIter s pos) := by
  rw [hg.block k (Array.getElem?_eq_some_iff.1 hk).1 ?_]
  · exact hk
  · rcases h.2 with ⟨rfl, _⟩ | ⟨g, cap, cur, rfl, hb, hh, rest⟩
    · simp [Value.ownBlock]
    · intro e
      simp only [Value.ownBlock, Option.some.injEq] at e
      subst e
      rw [hk] at hh
      cases hh
def chars_Points.f (a0 : ByteArray) : Option (List Int × Int) := if a0.size ≤ 8796093022208 then (if HPure.isText a0 = true then some (HPure.points a0, 0) else some ([], 10)) else none
set_option maxHeartbeats 400000 in
set_option maxRecDepth 1000000 in
theorem chars_Points.walk (s : ByteArray) (w : World) (hs : s.size ≤ 8796093022208) (ht : chars_IsText.f s = some true) :
    Calls Try.prog 16 #[.string s] w fun e w' => ∃ v0_ : Value, e = .returned (.tuple #[v0_, .int .i64 0]) ∧ w'.ownsRow w.heap.size 3 1 v0_ (HPure.points s).length (nums .i64 (HPure.points s)) ∧ Below w.heap.size w w' := by
  have HT := Aside0.mk ht
  clear ht
  go_enter Try.func16, Try.ntmps16
  go_wp2_with (go_at_call 28; refine (chars_IsText.calls _ _ _ HT.out).mono ?_; rintro e w1 ⟨rfl, hb1⟩)
  have HB1 := Aside0.mk hb1
  clear hb1
  go_loopw [4] (fun v4 wr => ∃ (pos fuel : Nat) (acc : List Int), wr.heap[w1.heap.size]? = some (.stringIter s pos) ∧ Below w.heap.size w wr ∧ Aside0 (acc ++ HPure.pointsFrom s fuel pos = HPure.points s) ∧ s.size ≤ pos + fuel ∧ acc.length ≤ pos ∧ pos ≤ s.size ∧ wr.ownsRow w.heap.size 3 1 v4 acc.length (nums .i64 acc)) (fun _ wr => s.size - wr.iterPos w1.heap.size)
  case atStart =>
    exact ⟨0, s.size, [], World.iter_heap w1 s 0, HB1.out.alloc HB1.out.size _, ⟨rfl⟩, by omega, Nat.le_refl _, Nat.zero_le _, own_nil _ _ _ _⟩
  case round =>
    obtain ⟨pos, fuel, acc, hit, hbw, hfr, hfu, hal, hps, hown⟩ := hrel
    have hsz : w1.heap.size < wr.heap.size := (Array.getElem?_eq_some_iff.1 hit).1
    by_cases hp : pos < s.size
    · have hnx : ∀ ty, (Instr.next (.pointer (some ⟨w1.heap.size, 0, none⟩)) true ty).run Try.prog wr = _ := fun ty => Lib.run_next_any_at wr w1.heap.size s pos ty hit hp
      have hwd := Lib.decode_width_pos s pos hp
      have hd1 := decode_le s pos
      have hwn : pos + (Utf8.decode s pos).2 ≤ s.size := by
        have := Lib.decodeN_le_n' (s.size - pos) (s.get! pos).toNat (s.get! (pos + 1)).toNat (s.get! (pos + 2)).toNat (s.get! (pos + 3)).toNat (by omega)
        rw [← Lib.decode_at] at this
        omega
      have hle := Lib.rune_le s pos
      have hit2 := Lib.iterAt_heap wr w1.heap.size s pos (pos + (Utf8.decode s pos).2) hit
      have hbw2 := Lib.below_iterAt hbw (k := w1.heap.size) HB1.out.size s (pos + (Utf8.decode s pos).2)
      have hown2 := own_iterAt_h hown hit (pos + (Utf8.decode s pos).2)
      obtain ⟨f, rfl⟩ : ∃ f, fuel = f + 1 := ⟨fuel - 1, by omega⟩
      have hfr' := hfr.out
      have HI := Aside0.mk hit
      clear hfr hit hbw hown
      simp only [HPure.pointsFrom, if_pos hp] at hfr'
      generalize hc : (Utf8.decode s pos).1 = c at hfr' hnx hle
      generalize hd : (Utf8.decode s pos).2 = d at hfr' hnx hwd hit2 hbw2 hown2 hwn hd1
      clear hc hd
      have HF : Aside0 ((acc ++ [(c : Int)]) ++ HPure.pointsFrom s f (pos + d) = HPure.points s) := ⟨by rw [← hfr']; simp⟩
      clear hfr'
      generalize hW : wr.iterAt w1.heap.size s (pos + d) = W at hnx hit2 hbw2 hown2
      clear hW
      go_wp2_with (((with_reducible refine gate_builtin (b := .append) (xs := #[.tmp 15, .tmp 18]) rfl ?_); at_builtin; refine print_append_num (w0 := w) w.heap.size rfl (.tmp 15) (.tmp 18) 25 3 .i64 8 rfl Try.underlying25 (by kernel_rfl) (by decide) u4 acc (c : Int) rfl rfl ?aO ?aB ?aS ?aL ?_; (case aO => exact hown2); (case aB => exact hbw2); (case aS => exact hbw2.size); (case aL => omega); intro v1 w3 ho hb hg hat))
      have hit3 := iter_grown hown2 hit2 hg
      clear hat hg
      go_roundw
      case rel => exact ⟨pos + d, f, acc ++ [(c : Int)], hit3, hb, HF, by omega, by simp; omega, hwn, ho⟩
      case measure => rw [HW.iterPos_at hit3, HW.iterPos_at HI.out]; omega
    · have hnx : ∀ ty, (Instr.next (.pointer (some ⟨w1.heap.size, 0, none⟩)) true ty).run Try.prog wr = _ := fun ty => Lib.run_next_end_at wr w1.heap.size s pos ty hit hp
      have hfin : acc = HPure.points s := by rw [← hfr.out, HPure.pointsFrom_end s fuel pos hp, List.append_nil]
      clear hfr
      rw [hfin] at hown
      clear hfin
      go_wp2
      go_ret2
      exact ⟨_, by simp, hown, hbw⟩
set_option maxHeartbeats 400000 in
theorem chars_Points.walk_no (s : ByteArray) (w : World) (ht : chars_IsText.f s = some false) :
    Calls Try.prog 16 #[.string s] w fun e w' => ∃ v0_ : Value, e = .returned (.tuple #[v0_, .int .i64 10]) ∧ Kd.R (Kd.int .i64) 3 w' w.heap.size (fun _ => True) v0_ [] ∧ Below w.heap.size w w' := by
  have HT := Aside0.mk ht
  clear ht
  go_enter Try.func16, Try.ntmps16
  go_wp2_with (go_at_call 28; refine (chars_IsText.calls _ _ _ HT.out).mono ?_; rintro e w1 ⟨rfl, hb1⟩)
  go_ret2
  exact ⟨.slice none 0 0, by simp, Kd.R_nil _ _ _ _ _, hb1⟩
theorem chars_Points.calls (a0 : ByteArray) (r1 : List Int) (r2 : Int) (w : World) (h : chars_Points.f a0 = some (r1, r2)) :
    Calls Try.prog 16 #[.string a0] w fun e w' => ∃ v0_ : Value, e = .returned (.tuple #[v0_, .int .i64 r2]) ∧ Kd.R (Kd.int .i64) 3 w' w.heap.size (fun _ => True) v0_ r1 ∧ Below w.heap.size w w' := by
  unfold chars_Points.f at h
  split at h
  · rename_i hs
    have e : chars_IsText.f a0 = some (HPure.isText a0) := by unfold chars_IsText.f; rw [if_pos (by omega)]
    split at h
    · rename_i ht
      rw [ht] at e
      simp only [Option.some.injEq, Prod.mk.injEq] at h
      obtain ⟨rfl, rfl⟩ := h
      refine (chars_Points.walk a0 w hs e).mono ?_
      rintro e w' ⟨v, he, ho, hb⟩
      exact ⟨v, he, Kd.R_of_own ho (fun _ _ => trivial), hb⟩
    · rename_i ht
      rw [Bool.eq_false_iff.2 ht] at e
      simp only [Option.some.injEq, Prod.mk.injEq] at h
      obtain ⟨rfl, rfl⟩ := h
      exact chars_Points.walk_no a0 w e
  · cases h


end Go.Proofs.Ytjhnmclancbilaa.Q
