/- Texts of the claim: Qx5, Qx7, Qx8, Qx9. -/
import Derived.Test.YtmpenkinheneoaaDoorKQx0
namespace Go.Proofs.YtmpenkinheneoaaDoor.Q
open Go.RowKit Go.Proofs.YtmpenkinheneoaaDoorW.PrintWords Go.Proofs.YtmpenkinheneoaaDoorW.PrintLast Go.Proofs.YtmpenkinheneoaaDoorW.PrintMore
attribute [local go_sem] max2_int min2_int max_two min_two max_three min_three max_four min_four   -- for this text's walks alone
set_option linter.unusedVariables false
set_option linter.unusedSimpArgs false
-- HAND: function 24, by this session's own text
def lex_reader_comment.l0 : Nat → ByteArray → Int → Int → Option (Option Int)
 | 0, _, _, _ => none
 | k + 1, s, p, d => if p < (s.size : Int) then ((lex_reader_has.f s p (⟨#[40, 58]⟩ : ByteArray)).bind fun t => if t.1 = true then lex_reader_comment.l0 k s (wrap64 (p + 2)) (wrap64 (d + 1)) else (lex_reader_has.f s p (⟨#[58, 41]⟩ : ByteArray)).bind fun t2 => if t2.1 = true then (if wrap64 (d - 1) = 0 then some (some (wrap64 (p + 2))) else lex_reader_comment.l0 k s (wrap64 (p + 2)) (wrap64 (d - 1))) else lex_reader_comment.l0 k s (wrap64 (p + 1)) d) else some none
def lex_reader_comment.f (k : Nat) (s : ByteArray) (p : Int) : Option (Option Int) := lex_reader_comment.l0 k s p 0
set_option maxHeartbeats 8000000 in
set_option maxRecDepth 100000 in
theorem lex_reader_comment.calls (k g : Nat) (s : ByteArray) (p : Int) (r : Option Int) (w0 w : World) (hI : IsS50 w0 w g s p) (hB : Below w0.heap.size w0 w) (h : lex_reader_comment.f k s p = some r) :
  Calls Tryd.prog 24 #[.pointer (some ⟨g, 0, none⟩)] w fun e w' => Below w0.heap.size w0 w' ∧ KeepBut w w' g none ∧ HLex.either r (fun q => e = .returned (.tuple #[]) ∧ IsS50 w0 w' g s q) (e = .panicked [wrongW p 5]) := by
 have HI0 := Aside0.mk hI
 have HK := Aside0.mk (KeepBut.refl w g none)
 clear hI
 have HB := Aside0.mk hB
 clear hB
 have H' : Aside0 (lex_reader_comment.l0 k s p 0 = some r) := ⟨h⟩
 clear h
 obtain ⟨HG, hg⟩ := HI0.out; have hc0 := cellS50_0 HG; have hc1 := cellS50_1 HG; have hf0 := blk_frozen HG 0; have hf1 := blk_frozen HG 1; clear HG hg
 go_enter Tryd.func24, Tryd.ntmps24
 go_wp2
 go_loopg [3] k (fun kq v3 w' => ∃ (p1 d1 : Int), v3 = .int .i64 d1 ∧ Aside0 (lex_reader_comment.l0 kq s p1 d1 = some r) ∧ Aside0 (kq ≤ k) ∧ Aside0 (IsS50 w0 w' g s p1) ∧ Aside0 (KeepBut w w' g none) ∧ Aside0 (Below w0.heap.size w0 w'))
 case atStart => exact ⟨p, 0, (by first | rfl | (simp; done) | (simp [*]; done)), H', ⟨Nat.le_refl _⟩, ⟨by repeat (first | (with_reducible first | exact HI0.out | apply IsS50.alloc | apply IsS50.drewN | apply IsS50.drew | apply IsS50.set_0 | apply IsS50.set_1) | exact HI0.out)⟩, ⟨by repeat (first | (with_reducible first | exact HK.out | apply KeepBut.set_ | apply keep_drewN | apply keep_drew | apply keep_alloc) | exact HK.out)⟩, ⟨by repeat (first | (with_reducible first | exact HB.out | apply below_alloc | apply pw_below_drewN | apply below_drew1 | refine below_set ?_ (IsS50.ge HI0.out)) | exact HB.out)⟩⟩
 case round =>
  clear H'
  clear hc0 hc1 hf0 hf1
  obtain ⟨p1, d1, rfl, HA, HK1, HI0, HK, HB⟩ := hrel
  cases gk with
  | zero => exact absurd HA.out (by simp [lex_reader_comment.l0])
  | succ k1 =>
   have H := HA.out
   clear HA
   simp only [lex_reader_comment.l0] at H
   obtain ⟨HG, hg⟩ := HI0.out; have hc0 := cellS50_0 HG; have hc1 := cellS50_1 HG; have hf0 := blk_frozen HG 0; have hf1 := blk_frozen HG 1; clear HG hg
   by_cases c1 : p1 < (s.size : Int)
   ·rw [if_pos c1] at H
    have c1b : decide (p1 < (s.size : Int)) = true := decide_eq_true c1
    clear c1
    obtain ⟨⟨b, s', p'⟩, A0, H⟩ := Option.bind_eq_some_iff.mp H
    obtain ⟨rfl, rfl⟩ := has_same A0
    have A1 := Aside0.mk A0
    clear A0
    cases b
    ·replace H := (if_neg (by simp)).symm.trans H
     obtain ⟨⟨b2, s2, p2⟩, A0, H⟩ := Option.bind_eq_some_iff.mp H
     obtain ⟨rfl, rfl⟩ := has_same A0
     have A2 := Aside0.mk A0
     clear A0
     cases b2
     ·have H' : Aside0 (lex_reader_comment.l0 k1 s2 (wrap64 (p2 + 1)) d1 = some r) := ⟨H⟩
      clear H
      go_wp2_with (first | (go_at_call 23; (with_reducible refine (lex_reader_has.calls g s2 p2 (⟨#[40, 58]⟩ : ByteArray) false s2 p2 w0 _ (by repeat (first | (with_reducible first | exact HI0.out | apply IsS50.alloc | apply IsS50.drewN | apply IsS50.drew | apply IsS50.set_0 | apply IsS50.set_1) | exact HI0.out)) (by repeat (first | (with_reducible first | exact HB.out | apply below_alloc | apply pw_below_drewN | apply below_drew1 | refine below_set ?_ (IsS50.ge HI0.out)) | exact HB.out)) A1.out).mono ?_); rintro e w1 ⟨rfl, hI1, hB1, hK1⟩; have n1_ := Aside0.mk hI1; have n2_ := Aside0.mk hB1; have n3_ := Aside0.mk (KeepBut.trans (by repeat (first | (with_reducible first | exact HK.out | apply KeepBut.set_ | apply keep_drewN | apply keep_drew | apply keep_alloc) | exact HK.out)) hK1 (by simp)); clear HI0 HB HK hI1 hB1 hK1 hc0 hc1 hf0 hf1; have HI0 := n1_; have HB := n2_; have HK := n3_; clear n1_ n2_ n3_; obtain ⟨HG, hg⟩ := HI0.out; have hc0 := cellS50_0 HG; have hc1 := cellS50_1 HG; have hf0 := blk_frozen HG 0; have hf1 := blk_frozen HG 1; clear HG hg) | (go_at_call 23; (with_reducible refine (lex_reader_has.calls g s2 p2 (⟨#[58, 41]⟩ : ByteArray) false s2 p2 w0 _ (by repeat (first | (with_reducible first | exact HI0.out | apply IsS50.alloc | apply IsS50.drewN | apply IsS50.drew | apply IsS50.set_0 | apply IsS50.set_1) | exact HI0.out)) (by repeat (first | (with_reducible first | exact HB.out | apply below_alloc | apply pw_below_drewN | apply below_drew1 | refine below_set ?_ (IsS50.ge HI0.out)) | exact HB.out)) A2.out).mono ?_); rintro e w1 ⟨rfl, hI1, hB1, hK1⟩; have n1_ := Aside0.mk hI1; have n2_ := Aside0.mk hB1; have n3_ := Aside0.mk (KeepBut.trans (by repeat (first | (with_reducible first | exact HK.out | apply KeepBut.set_ | apply keep_drewN | apply keep_drew | apply keep_alloc) | exact HK.out)) hK1 (by simp)); clear HI0 HB HK hI1 hB1 hK1 hc0 hc1 hf0 hf1; have HI0 := n1_; have HB := n2_; have HK := n3_; clear n1_ n2_ n3_; obtain ⟨HG, hg⟩ := HI0.out; have hc0 := cellS50_0 HG; have hc1 := cellS50_1 HG; have hf0 := blk_frozen HG 0; have hf1 := blk_frozen HG 1; clear HG hg))
      repeat (go_quiet (first | (go_at_call 23; (with_reducible refine (lex_reader_has.calls g s2 p2 (⟨#[40, 58]⟩ : ByteArray) false s2 p2 w0 _ (by repeat (first | (with_reducible first | exact HI0.out | apply IsS50.alloc | apply IsS50.drewN | apply IsS50.drew | apply IsS50.set_0 | apply IsS50.set_1) | exact HI0.out)) (by repeat (first | (with_reducible first | exact HB.out | apply below_alloc | apply pw_below_drewN | apply below_drew1 | refine below_set ?_ (IsS50.ge HI0.out)) | exact HB.out)) A1.out).mono ?_); rintro e w1 ⟨rfl, hI1, hB1, hK1⟩; have n1_ := Aside0.mk hI1; have n2_ := Aside0.mk hB1; have n3_ := Aside0.mk (KeepBut.trans (by repeat (first | (with_reducible first | exact HK.out | apply KeepBut.set_ | apply keep_drewN | apply keep_drew | apply keep_alloc) | exact HK.out)) hK1 (by simp)); clear HI0 HB HK hI1 hB1 hK1 hc0 hc1 hf0 hf1; have HI0 := n1_; have HB := n2_; have HK := n3_; clear n1_ n2_ n3_; obtain ⟨HG, hg⟩ := HI0.out; have hc0 := cellS50_0 HG; have hc1 := cellS50_1 HG; have hf0 := blk_frozen HG 0; have hf1 := blk_frozen HG 1; clear HG hg) | (go_at_call 23; (with_reducible refine (lex_reader_has.calls g s2 p2 (⟨#[58, 41]⟩ : ByteArray) false s2 p2 w0 _ (by repeat (first | (with_reducible first | exact HI0.out | apply IsS50.alloc | apply IsS50.drewN | apply IsS50.drew | apply IsS50.set_0 | apply IsS50.set_1) | exact HI0.out)) (by repeat (first | (with_reducible first | exact HB.out | apply below_alloc | apply pw_below_drewN | apply below_drew1 | refine below_set ?_ (IsS50.ge HI0.out)) | exact HB.out)) A2.out).mono ?_); rintro e w1 ⟨rfl, hI1, hB1, hK1⟩; have n1_ := Aside0.mk hI1; have n2_ := Aside0.mk hB1; have n3_ := Aside0.mk (KeepBut.trans (by repeat (first | (with_reducible first | exact HK.out | apply KeepBut.set_ | apply keep_drewN | apply keep_drew | apply keep_alloc) | exact HK.out)) hK1 (by simp)); clear HI0 HB HK hI1 hB1 hK1 hc0 hc1 hf0 hf1; have HI0 := n1_; have HB := n2_; have HK := n3_; clear n1_ n2_ n3_; obtain ⟨HG, hg⟩ := HI0.out; have hc0 := cellS50_0 HG; have hc1 := cellS50_1 HG; have hf0 := blk_frozen HG 0; have hf1 := blk_frozen HG 1; clear HG hg)); try go_wp2_with (first | (go_at_call 23; (with_reducible refine (lex_reader_has.calls g s2 p2 (⟨#[40, 58]⟩ : ByteArray) false s2 p2 w0 _ (by repeat (first | (with_reducible first | exact HI0.out | apply IsS50.alloc | apply IsS50.drewN | apply IsS50.drew | apply IsS50.set_0 | apply IsS50.set_1) | exact HI0.out)) (by repeat (first | (with_reducible first | exact HB.out | apply below_alloc | apply pw_below_drewN | apply below_drew1 | refine below_set ?_ (IsS50.ge HI0.out)) | exact HB.out)) A1.out).mono ?_); rintro e w1 ⟨rfl, hI1, hB1, hK1⟩; have n1_ := Aside0.mk hI1; have n2_ := Aside0.mk hB1; have n3_ := Aside0.mk (KeepBut.trans (by repeat (first | (with_reducible first | exact HK.out | apply KeepBut.set_ | apply keep_drewN | apply keep_drew | apply keep_alloc) | exact HK.out)) hK1 (by simp)); clear HI0 HB HK hI1 hB1 hK1 hc0 hc1 hf0 hf1; have HI0 := n1_; have HB := n2_; have HK := n3_; clear n1_ n2_ n3_; obtain ⟨HG, hg⟩ := HI0.out; have hc0 := cellS50_0 HG; have hc1 := cellS50_1 HG; have hf0 := blk_frozen HG 0; have hf1 := blk_frozen HG 1; clear HG hg) | (go_at_call 23; (with_reducible refine (lex_reader_has.calls g s2 p2 (⟨#[58, 41]⟩ : ByteArray) false s2 p2 w0 _ (by repeat (first | (with_reducible first | exact HI0.out | apply IsS50.alloc | apply IsS50.drewN | apply IsS50.drew | apply IsS50.set_0 | apply IsS50.set_1) | exact HI0.out)) (by repeat (first | (with_reducible first | exact HB.out | apply below_alloc | apply pw_below_drewN | apply below_drew1 | refine below_set ?_ (IsS50.ge HI0.out)) | exact HB.out)) A2.out).mono ?_); rintro e w1 ⟨rfl, hI1, hB1, hK1⟩; have n1_ := Aside0.mk hI1; have n2_ := Aside0.mk hB1; have n3_ := Aside0.mk (KeepBut.trans (by repeat (first | (with_reducible first | exact HK.out | apply KeepBut.set_ | apply keep_drewN | apply keep_drew | apply keep_alloc) | exact HK.out)) hK1 (by simp)); clear HI0 HB HK hI1 hB1 hK1 hc0 hc1 hf0 hf1; have HI0 := n1_; have HB := n2_; have HK := n3_; clear n1_ n2_ n3_; obtain ⟨HG, hg⟩ := HI0.out; have hc0 := cellS50_0 HG; have hc1 := cellS50_1 HG; have hf0 := blk_frozen HG 0; have hf1 := blk_frozen HG 1; clear HG hg)))
      go_roundg k1
      case measure => have := HK1.out; omega
      case rel => exact ⟨(wrap64 (p2 + 1)), d1, (by first | rfl | (simp; done) | (simp [*]; done)), H', ⟨by have := HK1.out; omega⟩, ⟨by repeat (first | (with_reducible first | exact HI0.out | apply IsS50.alloc | apply IsS50.drewN | apply IsS50.drew | apply IsS50.set_0 | apply IsS50.set_1) | exact HI0.out)⟩, ⟨by repeat (first | (with_reducible first | exact HK.out | apply KeepBut.set_ | apply keep_drewN | apply keep_drew | apply keep_alloc) | exact HK.out)⟩, ⟨by repeat (first | (with_reducible first | exact HB.out | apply below_alloc | apply pw_below_drewN | apply below_drew1 | refine below_set ?_ (IsS50.ge HI0.out)) | exact HB.out)⟩⟩
     ·by_cases c2 : wrap64 (d1 - 1) = 0
      ·replace H := (if_pos c2).symm.trans H
       have c2b : (wrap64 (d1 - 1) == 0) = true := beq_iff_eq.2 c2
       clear c2
       obtain rfl := Option.some.inj H
       clear H
       go_wp2_with (first | (go_at_call 23; (with_reducible refine (lex_reader_has.calls g s2 p2 (⟨#[40, 58]⟩ : ByteArray) false s2 p2 w0 _ (by repeat (first | (with_reducible first | exact HI0.out | apply IsS50.alloc | apply IsS50.drewN | apply IsS50.drew | apply IsS50.set_0 | apply IsS50.set_1) | exact HI0.out)) (by repeat (first | (with_reducible first | exact HB.out | apply below_alloc | apply pw_below_drewN | apply below_drew1 | refine below_set ?_ (IsS50.ge HI0.out)) | exact HB.out)) A1.out).mono ?_); rintro e w1 ⟨rfl, hI1, hB1, hK1⟩; have n1_ := Aside0.mk hI1; have n2_ := Aside0.mk hB1; have n3_ := Aside0.mk (KeepBut.trans (by repeat (first | (with_reducible first | exact HK.out | apply KeepBut.set_ | apply keep_drewN | apply keep_drew | apply keep_alloc) | exact HK.out)) hK1 (by simp)); clear HI0 HB HK hI1 hB1 hK1 hc0 hc1 hf0 hf1; have HI0 := n1_; have HB := n2_; have HK := n3_; clear n1_ n2_ n3_; obtain ⟨HG, hg⟩ := HI0.out; have hc0 := cellS50_0 HG; have hc1 := cellS50_1 HG; have hf0 := blk_frozen HG 0; have hf1 := blk_frozen HG 1; clear HG hg) | (go_at_call 23; (with_reducible refine (lex_reader_has.calls g s2 p2 (⟨#[58, 41]⟩ : ByteArray) true s2 p2 w0 _ (by repeat (first | (with_reducible first | exact HI0.out | apply IsS50.alloc | apply IsS50.drewN | apply IsS50.drew | apply IsS50.set_0 | apply IsS50.set_1) | exact HI0.out)) (by repeat (first | (with_reducible first | exact HB.out | apply below_alloc | apply pw_below_drewN | apply below_drew1 | refine below_set ?_ (IsS50.ge HI0.out)) | exact HB.out)) A2.out).mono ?_); rintro e w1 ⟨rfl, hI1, hB1, hK1⟩; have n1_ := Aside0.mk hI1; have n2_ := Aside0.mk hB1; have n3_ := Aside0.mk (KeepBut.trans (by repeat (first | (with_reducible first | exact HK.out | apply KeepBut.set_ | apply keep_drewN | apply keep_drew | apply keep_alloc) | exact HK.out)) hK1 (by simp)); clear HI0 HB HK hI1 hB1 hK1 hc0 hc1 hf0 hf1; have HI0 := n1_; have HB := n2_; have HK := n3_; clear n1_ n2_ n3_; obtain ⟨HG, hg⟩ := HI0.out; have hc0 := cellS50_0 HG; have hc1 := cellS50_1 HG; have hf0 := blk_frozen HG 0; have hf1 := blk_frozen HG 1; clear HG hg))
       repeat (go_quiet (first | (go_at_call 23; (with_reducible refine (lex_reader_has.calls g s2 p2 (⟨#[40, 58]⟩ : ByteArray) false s2 p2 w0 _ (by repeat (first | (with_reducible first | exact HI0.out | apply IsS50.alloc | apply IsS50.drewN | apply IsS50.drew | apply IsS50.set_0 | apply IsS50.set_1) | exact HI0.out)) (by repeat (first | (with_reducible first | exact HB.out | apply below_alloc | apply pw_below_drewN | apply below_drew1 | refine below_set ?_ (IsS50.ge HI0.out)) | exact HB.out)) A1.out).mono ?_); rintro e w1 ⟨rfl, hI1, hB1, hK1⟩; have n1_ := Aside0.mk hI1; have n2_ := Aside0.mk hB1; have n3_ := Aside0.mk (KeepBut.trans (by repeat (first | (with_reducible first | exact HK.out | apply KeepBut.set_ | apply keep_drewN | apply keep_drew | apply keep_alloc) | exact HK.out)) hK1 (by simp)); clear HI0 HB HK hI1 hB1 hK1 hc0 hc1 hf0 hf1; have HI0 := n1_; have HB := n2_; have HK := n3_; clear n1_ n2_ n3_; obtain ⟨HG, hg⟩ := HI0.out; have hc0 := cellS50_0 HG; have hc1 := cellS50_1 HG; have hf0 := blk_frozen HG 0; have hf1 := blk_frozen HG 1; clear HG hg) | (go_at_call 23; (with_reducible refine (lex_reader_has.calls g s2 p2 (⟨#[58, 41]⟩ : ByteArray) true s2 p2 w0 _ (by repeat (first | (with_reducible first | exact HI0.out | apply IsS50.alloc | apply IsS50.drewN | apply IsS50.drew | apply IsS50.set_0 | apply IsS50.set_1) | exact HI0.out)) (by repeat (first | (with_reducible first | exact HB.out | apply below_alloc | apply pw_below_drewN | apply below_drew1 | refine below_set ?_ (IsS50.ge HI0.out)) | exact HB.out)) A2.out).mono ?_); rintro e w1 ⟨rfl, hI1, hB1, hK1⟩; have n1_ := Aside0.mk hI1; have n2_ := Aside0.mk hB1; have n3_ := Aside0.mk (KeepBut.trans (by repeat (first | (with_reducible first | exact HK.out | apply KeepBut.set_ | apply keep_drewN | apply keep_drew | apply keep_alloc) | exact HK.out)) hK1 (by simp)); clear HI0 HB HK hI1 hB1 hK1 hc0 hc1 hf0 hf1; have HI0 := n1_; have HB := n2_; have HK := n3_; clear n1_ n2_ n3_; obtain ⟨HG, hg⟩ := HI0.out; have hc0 := cellS50_0 HG; have hc1 := cellS50_1 HG; have hf0 := blk_frozen HG 0; have hf1 := blk_frozen HG 1; clear HG hg)); try go_wp2_with (first | (go_at_call 23; (with_reducible refine (lex_reader_has.calls g s2 p2 (⟨#[40, 58]⟩ : ByteArray) false s2 p2 w0 _ (by repeat (first | (with_reducible first | exact HI0.out | apply IsS50.alloc | apply IsS50.drewN | apply IsS50.drew | apply IsS50.set_0 | apply IsS50.set_1) | exact HI0.out)) (by repeat (first | (with_reducible first | exact HB.out | apply below_alloc | apply pw_below_drewN | apply below_drew1 | refine below_set ?_ (IsS50.ge HI0.out)) | exact HB.out)) A1.out).mono ?_); rintro e w1 ⟨rfl, hI1, hB1, hK1⟩; have n1_ := Aside0.mk hI1; have n2_ := Aside0.mk hB1; have n3_ := Aside0.mk (KeepBut.trans (by repeat (first | (with_reducible first | exact HK.out | apply KeepBut.set_ | apply keep_drewN | apply keep_drew | apply keep_alloc) | exact HK.out)) hK1 (by simp)); clear HI0 HB HK hI1 hB1 hK1 hc0 hc1 hf0 hf1; have HI0 := n1_; have HB := n2_; have HK := n3_; clear n1_ n2_ n3_; obtain ⟨HG, hg⟩ := HI0.out; have hc0 := cellS50_0 HG; have hc1 := cellS50_1 HG; have hf0 := blk_frozen HG 0; have hf1 := blk_frozen HG 1; clear HG hg) | (go_at_call 23; (with_reducible refine (lex_reader_has.calls g s2 p2 (⟨#[58, 41]⟩ : ByteArray) true s2 p2 w0 _ (by repeat (first | (with_reducible first | exact HI0.out | apply IsS50.alloc | apply IsS50.drewN | apply IsS50.drew | apply IsS50.set_0 | apply IsS50.set_1) | exact HI0.out)) (by repeat (first | (with_reducible first | exact HB.out | apply below_alloc | apply pw_below_drewN | apply below_drew1 | refine below_set ?_ (IsS50.ge HI0.out)) | exact HB.out)) A2.out).mono ?_); rintro e w1 ⟨rfl, hI1, hB1, hK1⟩; have n1_ := Aside0.mk hI1; have n2_ := Aside0.mk hB1; have n3_ := Aside0.mk (KeepBut.trans (by repeat (first | (with_reducible first | exact HK.out | apply KeepBut.set_ | apply keep_drewN | apply keep_drew | apply keep_alloc) | exact HK.out)) hK1 (by simp)); clear HI0 HB HK hI1 hB1 hK1 hc0 hc1 hf0 hf1; have HI0 := n1_; have HB := n2_; have HK := n3_; clear n1_ n2_ n3_; obtain ⟨HG, hg⟩ := HI0.out; have hc0 := cellS50_0 HG; have hc1 := cellS50_1 HG; have hf0 := blk_frozen HG 0; have hf1 := blk_frozen HG 1; clear HG hg)))
       refine bodyPost_ret (results_none rfl _ _ _) rfl ?_
       exact ⟨by repeat (first | (with_reducible first | exact HB.out | apply below_alloc | apply pw_below_drewN | apply below_drew1 | refine below_set ?_ (IsS50.ge HI0.out)) | exact HB.out), by repeat (first | (with_reducible first | exact HK.out | apply KeepBut.set_ | apply keep_drewN | apply keep_drew | apply keep_alloc) | exact HK.out), rfl, by repeat (first | (with_reducible first | exact HI0.out | apply IsS50.alloc | apply IsS50.drewN | apply IsS50.drew | apply IsS50.set_0 | apply IsS50.set_1) | exact HI0.out)⟩
      ·replace H := (if_neg c2).symm.trans H
       have c2b : (wrap64 (d1 - 1) == 0) = false := beq_eq_false_iff_ne.2 c2
       clear c2
       have H' : Aside0 (lex_reader_comment.l0 k1 s2 (wrap64 (p2 + 2)) (wrap64 (d1 - 1)) = some r) := ⟨H⟩
       clear H
       go_wp2_with (first | (go_at_call 23; (with_reducible refine (lex_reader_has.calls g s2 p2 (⟨#[40, 58]⟩ : ByteArray) false s2 p2 w0 _ (by repeat (first | (with_reducible first | exact HI0.out | apply IsS50.alloc | apply IsS50.drewN | apply IsS50.drew | apply IsS50.set_0 | apply IsS50.set_1) | exact HI0.out)) (by repeat (first | (with_reducible first | exact HB.out | apply below_alloc | apply pw_below_drewN | apply below_drew1 | refine below_set ?_ (IsS50.ge HI0.out)) | exact HB.out)) A1.out).mono ?_); rintro e w1 ⟨rfl, hI1, hB1, hK1⟩; have n1_ := Aside0.mk hI1; have n2_ := Aside0.mk hB1; have n3_ := Aside0.mk (KeepBut.trans (by repeat (first | (with_reducible first | exact HK.out | apply KeepBut.set_ | apply keep_drewN | apply keep_drew | apply keep_alloc) | exact HK.out)) hK1 (by simp)); clear HI0 HB HK hI1 hB1 hK1 hc0 hc1 hf0 hf1; have HI0 := n1_; have HB := n2_; have HK := n3_; clear n1_ n2_ n3_; obtain ⟨HG, hg⟩ := HI0.out; have hc0 := cellS50_0 HG; have hc1 := cellS50_1 HG; have hf0 := blk_frozen HG 0; have hf1 := blk_frozen HG 1; clear HG hg) | (go_at_call 23; (with_reducible refine (lex_reader_has.calls g s2 p2 (⟨#[58, 41]⟩ : ByteArray) true s2 p2 w0 _ (by repeat (first | (with_reducible first | exact HI0.out | apply IsS50.alloc | apply IsS50.drewN | apply IsS50.drew | apply IsS50.set_0 | apply IsS50.set_1) | exact HI0.out)) (by repeat (first | (with_reducible first | exact HB.out | apply below_alloc | apply pw_below_drewN | apply below_drew1 | refine below_set ?_ (IsS50.ge HI0.out)) | exact HB.out)) A2.out).mono ?_); rintro e w1 ⟨rfl, hI1, hB1, hK1⟩; have n1_ := Aside0.mk hI1; have n2_ := Aside0.mk hB1; have n3_ := Aside0.mk (KeepBut.trans (by repeat (first | (with_reducible first | exact HK.out | apply KeepBut.set_ | apply keep_drewN | apply keep_drew | apply keep_alloc) | exact HK.out)) hK1 (by simp)); clear HI0 HB HK hI1 hB1 hK1 hc0 hc1 hf0 hf1; have HI0 := n1_; have HB := n2_; have HK := n3_; clear n1_ n2_ n3_; obtain ⟨HG, hg⟩ := HI0.out; have hc0 := cellS50_0 HG; have hc1 := cellS50_1 HG; have hf0 := blk_frozen HG 0; have hf1 := blk_frozen HG 1; clear HG hg))
       repeat (go_quiet (first | (go_at_call 23; (with_reducible refine (lex_reader_has.calls g s2 p2 (⟨#[40, 58]⟩ : ByteArray) false s2 p2 w0 _ (by repeat (first | (with_reducible first | exact HI0.out | apply IsS50.alloc | apply IsS50.drewN | apply IsS50.drew | apply IsS50.set_0 | apply IsS50.set_1) | exact HI0.out)) (by repeat (first | (with_reducible first | exact HB.out | apply below_alloc | apply pw_below_drewN | apply below_drew1 | refine below_set ?_ (IsS50.ge HI0.out)) | exact HB.out)) A1.out).mono ?_); rintro e w1 ⟨rfl, hI1, hB1, hK1⟩; have n1_ := Aside0.mk hI1; have n2_ := Aside0.mk hB1; have n3_ := Aside0.mk (KeepBut.trans (by repeat (first | (with_reducible first | exact HK.out | apply KeepBut.set_ | apply keep_drewN | apply keep_drew | apply keep_alloc) | exact HK.out)) hK1 (by simp)); clear HI0 HB HK hI1 hB1 hK1 hc0 hc1 hf0 hf1; have HI0 := n1_; have HB := n2_; have HK := n3_; clear n1_ n2_ n3_; obtain ⟨HG, hg⟩ := HI0.out; have hc0 := cellS50_0 HG; have hc1 := cellS50_1 HG; have hf0 := blk_frozen HG 0; have hf1 := blk_frozen HG 1; clear HG hg) | (go_at_call 23; (with_reducible refine (lex_reader_has.calls g s2 p2 (⟨#[58, 41]⟩ : ByteArray) true s2 p2 w0 _ (by repeat (first | (with_reducible first | exact HI0.out | apply IsS50.alloc | apply IsS50.drewN | apply IsS50.drew | apply IsS50.set_0 | apply IsS50.set_1) | exact HI0.out)) (by repeat (first | (with_reducible first | exact HB.out | apply below_alloc | apply pw_below_drewN | apply below_drew1 | refine below_set ?_ (IsS50.ge HI0.out)) | exact HB.out)) A2.out).mono ?_); rintro e w1 ⟨rfl, hI1, hB1, hK1⟩; have n1_ := Aside0.mk hI1; have n2_ := Aside0.mk hB1; have n3_ := Aside0.mk (KeepBut.trans (by repeat (first | (with_reducible first | exact HK.out | apply KeepBut.set_ | apply keep_drewN | apply keep_drew | apply keep_alloc) | exact HK.out)) hK1 (by simp)); clear HI0 HB HK hI1 hB1 hK1 hc0 hc1 hf0 hf1; have HI0 := n1_; have HB := n2_; have HK := n3_; clear n1_ n2_ n3_; obtain ⟨HG, hg⟩ := HI0.out; have hc0 := cellS50_0 HG; have hc1 := cellS50_1 HG; have hf0 := blk_frozen HG 0; have hf1 := blk_frozen HG 1; clear HG hg)); try go_wp2_with (first | (go_at_call 23; (with_reducible refine (lex_reader_has.calls g s2 p2 (⟨#[40, 58]⟩ : ByteArray) false s2 p2 w0 _ (by repeat (first | (with_reducible first | exact HI0.out | apply IsS50.alloc | apply IsS50.drewN | apply IsS50.drew | apply IsS50.set_0 | apply IsS50.set_1) | exact HI0.out)) (by repeat (first | (with_reducible first | exact HB.out | apply below_alloc | apply pw_below_drewN | apply below_drew1 | refine below_set ?_ (IsS50.ge HI0.out)) | exact HB.out)) A1.out).mono ?_); rintro e w1 ⟨rfl, hI1, hB1, hK1⟩; have n1_ := Aside0.mk hI1; have n2_ := Aside0.mk hB1; have n3_ := Aside0.mk (KeepBut.trans (by repeat (first | (with_reducible first | exact HK.out | apply KeepBut.set_ | apply keep_drewN | apply keep_drew | apply keep_alloc) | exact HK.out)) hK1 (by simp)); clear HI0 HB HK hI1 hB1 hK1 hc0 hc1 hf0 hf1; have HI0 := n1_; have HB := n2_; have HK := n3_; clear n1_ n2_ n3_; obtain ⟨HG, hg⟩ := HI0.out; have hc0 := cellS50_0 HG; have hc1 := cellS50_1 HG; have hf0 := blk_frozen HG 0; have hf1 := blk_frozen HG 1; clear HG hg) | (go_at_call 23; (with_reducible refine (lex_reader_has.calls g s2 p2 (⟨#[58, 41]⟩ : ByteArray) true s2 p2 w0 _ (by repeat (first | (with_reducible first | exact HI0.out | apply IsS50.alloc | apply IsS50.drewN | apply IsS50.drew | apply IsS50.set_0 | apply IsS50.set_1) | exact HI0.out)) (by repeat (first | (with_reducible first | exact HB.out | apply below_alloc | apply pw_below_drewN | apply below_drew1 | refine below_set ?_ (IsS50.ge HI0.out)) | exact HB.out)) A2.out).mono ?_); rintro e w1 ⟨rfl, hI1, hB1, hK1⟩; have n1_ := Aside0.mk hI1; have n2_ := Aside0.mk hB1; have n3_ := Aside0.mk (KeepBut.trans (by repeat (first | (with_reducible first | exact HK.out | apply KeepBut.set_ | apply keep_drewN | apply keep_drew | apply keep_alloc) | exact HK.out)) hK1 (by simp)); clear HI0 HB HK hI1 hB1 hK1 hc0 hc1 hf0 hf1; have HI0 := n1_; have HB := n2_; have HK := n3_; clear n1_ n2_ n3_; obtain ⟨HG, hg⟩ := HI0.out; have hc0 := cellS50_0 HG; have hc1 := cellS50_1 HG; have hf0 := blk_frozen HG 0; have hf1 := blk_frozen HG 1; clear HG hg)))
       go_roundg k1
       case measure => have := HK1.out; omega
       case rel => exact ⟨(wrap64 (p2 + 2)), (wrap64 (d1 - 1)), (by first | rfl | (simp; done) | (simp [*]; done)), H', ⟨by have := HK1.out; omega⟩, ⟨by repeat (first | (with_reducible first | exact HI0.out | apply IsS50.alloc | apply IsS50.drewN | apply IsS50.drew | apply IsS50.set_0 | apply IsS50.set_1) | exact HI0.out)⟩, ⟨by repeat (first | (with_reducible first | exact HK.out | apply KeepBut.set_ | apply keep_drewN | apply keep_drew | apply keep_alloc) | exact HK.out)⟩, ⟨by repeat (first | (with_reducible first | exact HB.out | apply below_alloc | apply pw_below_drewN | apply below_drew1 | refine below_set ?_ (IsS50.ge HI0.out)) | exact HB.out)⟩⟩
    ·have H' : Aside0 (lex_reader_comment.l0 k1 s' (wrap64 (p' + 2)) (wrap64 (d1 + 1)) = some r) := ⟨H⟩
     clear H
     go_wp2_with (first | (go_at_call 23; (with_reducible refine (lex_reader_has.calls g s' p' (⟨#[40, 58]⟩ : ByteArray) true s' p' w0 _ (by repeat (first | (with_reducible first | exact HI0.out | apply IsS50.alloc | apply IsS50.drewN | apply IsS50.drew | apply IsS50.set_0 | apply IsS50.set_1) | exact HI0.out)) (by repeat (first | (with_reducible first | exact HB.out | apply below_alloc | apply pw_below_drewN | apply below_drew1 | refine below_set ?_ (IsS50.ge HI0.out)) | exact HB.out)) A1.out).mono ?_); rintro e w1 ⟨rfl, hI1, hB1, hK1⟩; have n1_ := Aside0.mk hI1; have n2_ := Aside0.mk hB1; have n3_ := Aside0.mk (KeepBut.trans (by repeat (first | (with_reducible first | exact HK.out | apply KeepBut.set_ | apply keep_drewN | apply keep_drew | apply keep_alloc) | exact HK.out)) hK1 (by simp)); clear HI0 HB HK hI1 hB1 hK1 hc0 hc1 hf0 hf1; have HI0 := n1_; have HB := n2_; have HK := n3_; clear n1_ n2_ n3_; obtain ⟨HG, hg⟩ := HI0.out; have hc0 := cellS50_0 HG; have hc1 := cellS50_1 HG; have hf0 := blk_frozen HG 0; have hf1 := blk_frozen HG 1; clear HG hg))
     repeat (go_quiet (first | (go_at_call 23; (with_reducible refine (lex_reader_has.calls g s' p' (⟨#[40, 58]⟩ : ByteArray) true s' p' w0 _ (by repeat (first | (with_reducible first | exact HI0.out | apply IsS50.alloc | apply IsS50.drewN | apply IsS50.drew | apply IsS50.set_0 | apply IsS50.set_1) | exact HI0.out)) (by repeat (first | (with_reducible first | exact HB.out | apply below_alloc | apply pw_below_drewN | apply below_drew1 | refine below_set ?_ (IsS50.ge HI0.out)) | exact HB.out)) A1.out).mono ?_); rintro e w1 ⟨rfl, hI1, hB1, hK1⟩; have n1_ := Aside0.mk hI1; have n2_ := Aside0.mk hB1; have n3_ := Aside0.mk (KeepBut.trans (by repeat (first | (with_reducible first | exact HK.out | apply KeepBut.set_ | apply keep_drewN | apply keep_drew | apply keep_alloc) | exact HK.out)) hK1 (by simp)); clear HI0 HB HK hI1 hB1 hK1 hc0 hc1 hf0 hf1; have HI0 := n1_; have HB := n2_; have HK := n3_; clear n1_ n2_ n3_; obtain ⟨HG, hg⟩ := HI0.out; have hc0 := cellS50_0 HG; have hc1 := cellS50_1 HG; have hf0 := blk_frozen HG 0; have hf1 := blk_frozen HG 1; clear HG hg)); try go_wp2_with (first | (go_at_call 23; (with_reducible refine (lex_reader_has.calls g s' p' (⟨#[40, 58]⟩ : ByteArray) true s' p' w0 _ (by repeat (first | (with_reducible first | exact HI0.out | apply IsS50.alloc | apply IsS50.drewN | apply IsS50.drew | apply IsS50.set_0 | apply IsS50.set_1) | exact HI0.out)) (by repeat (first | (with_reducible first | exact HB.out | apply below_alloc | apply pw_below_drewN | apply below_drew1 | refine below_set ?_ (IsS50.ge HI0.out)) | exact HB.out)) A1.out).mono ?_); rintro e w1 ⟨rfl, hI1, hB1, hK1⟩; have n1_ := Aside0.mk hI1; have n2_ := Aside0.mk hB1; have n3_ := Aside0.mk (KeepBut.trans (by repeat (first | (with_reducible first | exact HK.out | apply KeepBut.set_ | apply keep_drewN | apply keep_drew | apply keep_alloc) | exact HK.out)) hK1 (by simp)); clear HI0 HB HK hI1 hB1 hK1 hc0 hc1 hf0 hf1; have HI0 := n1_; have HB := n2_; have HK := n3_; clear n1_ n2_ n3_; obtain ⟨HG, hg⟩ := HI0.out; have hc0 := cellS50_0 HG; have hc1 := cellS50_1 HG; have hf0 := blk_frozen HG 0; have hf1 := blk_frozen HG 1; clear HG hg)))
     go_roundg k1
     case measure => have := HK1.out; omega
     case rel => exact ⟨(wrap64 (p' + 2)), (wrap64 (d1 + 1)), (by first | rfl | (simp; done) | (simp [*]; done)), H', ⟨by have := HK1.out; omega⟩, ⟨by repeat (first | (with_reducible first | exact HI0.out | apply IsS50.alloc | apply IsS50.drewN | apply IsS50.drew | apply IsS50.set_0 | apply IsS50.set_1) | exact HI0.out)⟩, ⟨by repeat (first | (with_reducible first | exact HK.out | apply KeepBut.set_ | apply keep_drewN | apply keep_drew | apply keep_alloc) | exact HK.out)⟩, ⟨by repeat (first | (with_reducible first | exact HB.out | apply below_alloc | apply pw_below_drewN | apply below_drew1 | refine below_set ?_ (IsS50.ge HI0.out)) | exact HB.out)⟩⟩
   ·rw [if_neg c1] at H
    have c1b : decide (p1 < (s.size : Int)) = false := decide_eq_false c1
    clear c1
    obtain rfl := Option.some.inj H
    go_wp2
    repeat (go_quiet (fail); try go_wp2)
    exact ⟨rfl, by repeat (first | (with_reducible first | exact HB.out | apply below_alloc | apply pw_below_drewN | apply below_drew1 | refine below_set ?_ (IsS50.ge HI0.out)) | exact HB.out), by repeat (first | (with_reducible first | exact HK.out | apply KeepBut.set_ | apply keep_drewN | apply keep_drew | apply keep_alloc) | exact HK.out), rfl⟩
end Go.Proofs.YtmpenkinheneoaaDoor.Q
namespace Go.Proofs.YtmpenkinheneoaaDoor.Q
open Go.RowKit Go.Proofs.YtmpenkinheneoaaDoorW.PrintWords Go.Proofs.YtmpenkinheneoaaDoorW.PrintLast Go.Proofs.YtmpenkinheneoaaDoorW.PrintMore
attribute [local go_sem] max2_int min2_int max_two min_two max_three min_three max_four min_four   -- for this text's walks alone
set_option linter.unusedVariables false
set_option linter.unusedSimpArgs false
-- HAND: function 41, by this session's own text
theorem reader_more {w0 w w1 w2 : World} {g : Nat} {s : ByteArray} {p : Int} (h : IsS50 w0 w1 g s p) (hb : Below w.heap.size w1 w2) (hg : g < w.heap.size) : IsS50 w0 w2 g s p := ⟨(hb.block g hg).trans h.1, h.2⟩
def lex_reader_quoted.l0 : Nat → ByteArray → Int → Int → List UInt8 → Option (Option (List UInt8 × Int))
 | 0, _, _, _, _ => none
 | k + 1, s, m, p, acc => if p < (s.size : Int) then (if 0 ≤ p then (if acc.length < 70368744177664 then (if bt s p = m then (if wrap64 (p + 1) = (s.size : Int) then some (some (acc, wrap64 (p + 1))) else (if 0 ≤ wrap64 (p + 1) then (if wrap64 (p + 1) < (s.size : Int) then (if bt s (wrap64 (p + 1)) = m then lex_reader_quoted.l0 k s m (wrap64 (wrap64 (p + 1) + 1)) (acc ++ [HLex.byteAt s (wrap64 (p + 1))]) else some (some (acc, wrap64 (p + 1)))) else none) else none)) else lex_reader_quoted.l0 k s m (wrap64 (p + 1)) (acc ++ [HLex.byteAt s p])) else none) else none) else some none
def lex_reader_quoted.f (k : Nat) (s : ByteArray) (p : Int) : Option (Option (List UInt8 × Int)) := if 0 ≤ p then (if p < (s.size : Int) then lex_reader_quoted.l0 k s (bt s p) (wrap64 (p + 1)) [] else none) else none
set_option maxHeartbeats 8000000 in
set_option maxRecDepth 100000 in
theorem lex_reader_quoted.calls (k g : Nat) (s : ByteArray) (p : Int) (r : Option (List UInt8 × Int)) (w0 w : World) (hI : IsS50 w0 w g s p) (hB : Below w0.heap.size w0 w) (h : lex_reader_quoted.f k s p = some r) :
  Calls Tryd.prog 41 #[.pointer (some ⟨g, 0, none⟩)] w fun e w' => Below w0.heap.size w0 w' ∧ KeepBut w w' g none ∧ HLex.either r (fun x => e = .returned (.string ⟨x.1.toArray⟩) ∧ IsS50 w0 w' g s x.2) (e = .panicked [wrongW p 5]) := by
 have HW0 := Aside0.mk hB.size
 have HG0 := Aside0.mk (IsS50.lt hI)
 have HI0 := Aside0.mk hI
 have HK := Aside0.mk (KeepBut.refl w g none)
 clear hI
 have HB := Aside0.mk hB
 clear hB
 unfold lex_reader_quoted.f at h
 by_cases c0 : 0 ≤ p
 ·rw [if_pos c0] at h
  by_cases c1 : p < (s.size : Int)
  ·rw [if_pos c1] at h
   have c0b : decide (0 ≤ p) = true := decide_eq_true c0
   have c1b : decide (p < (s.size : Int)) = true := decide_eq_true c1
   have p0 := eq_true c0
   have q0 := eq_true c1
   have hx0 := bt_at s p
   clear c0 c1
   obtain ⟨m, hm⟩ : ∃ m, m = bt s p := ⟨_, rfl⟩
   rw [← hm] at h
   have H' : Aside0 (lex_reader_quoted.l0 k s m (wrap64 (p + 1)) [] = some r) := ⟨h⟩
   clear h
   have HM := Aside0.mk hm
   rw [← hm] at hx0
   clear hm
   have HU := Aside0.mk (Lib.IsBuilderF.of (Lib.fresh_isBuilder 64 5 w))
   obtain ⟨HG, hg⟩ := HI0.out; have hc0 := cellS50_0 HG; have hc1 := cellS50_1 HG; have hf0 := blk_frozen HG 0; have hf1 := blk_frozen HG 1; clear HG hg
   have hd0 : ∀ o, (w.alloc o).cell? ⟨g, 0, none⟩ = some (.string s) := fun o => cellS50_0 (IsS50.alloc HI0.out o).1
   have hd1 : ∀ o, (w.alloc o).cell? ⟨g, 1, none⟩ = some (.int .i64 p) := fun o => cellS50_1 (IsS50.alloc HI0.out o).1
   have hz1 : ∀ o, (w.alloc o).frozen? ⟨g, 1, none⟩ = false := fun o => blk_frozen (IsS50.alloc HI0.out o).1 1
   go_enter Tryd.func41, Tryd.ntmps41
   go_wp2
   repeat (go_quiet (fail); try go_wp2)
   go_loopg [] k (fun kq w' => ∃ (p1 : Int) (acc1 : List UInt8), Aside0 (lex_reader_quoted.l0 kq s m p1 acc1 = some r) ∧ Aside0 (kq ≤ k) ∧ Aside0 (IsS50 w0 w' g s p1) ∧ Aside0 (KeepBut w w' g none) ∧ Aside0 (Below w0.heap.size w0 w') ∧ Aside0 (Lib.IsBuilderF 64 5 w.heap.size w.heap.size (Lib.byteCells acc1) w'))
   case atStart => exact ⟨(wrap64 (p + 1)), [], H', ⟨Nat.le_refl _⟩, ⟨by repeat (first | (with_reducible first | exact HI0.out | apply IsS50.alloc | apply IsS50.drewN | apply IsS50.drew | apply IsS50.set_0 | apply IsS50.set_1) | exact HI0.out)⟩, ⟨by repeat (first | (with_reducible first | exact HK.out | apply KeepBut.set_ | apply keep_drewN | apply keep_drew | apply keep_alloc) | exact HK.out)⟩, ⟨by repeat (first | (with_reducible first | exact HB.out | apply below_alloc | apply pw_below_drewN | apply below_drew1 | refine below_set ?_ (IsS50.ge HI0.out)) | exact HB.out)⟩, ⟨by repeat (first | (with_reducible first | exact HU.out | apply HLex.builder_drewN | apply HLex.builder_drew | refine HLex.builder_put ?_ HG0.out _) | exact HU.out)⟩⟩
   case round =>
    clear H' HU
    clear hc0 hc1 hf0 hf1 hd0 hd1 hz1
    clear p0 q0 hx0 c0b c1b
    obtain ⟨p1, acc1, HA, HK1, HI0, HK, HB, HU⟩ := hrel
    cases gk with
    | zero => exact absurd HA.out (by simp [lex_reader_quoted.l0])
    | succ k1 =>
     have H := HA.out
     clear HA
     simp only [lex_reader_quoted.l0] at H
     obtain ⟨HG, hg⟩ := HI0.out; have hc0 := cellS50_0 HG; have hc1 := cellS50_1 HG; have hf0 := blk_frozen HG 0; have hf1 := blk_frozen HG 1; clear HG hg
     by_cases c1 : p1 < (s.size : Int)
     ·replace H := (if_pos c1).symm.trans H
      have c1b : decide (p1 < (s.size : Int)) = true := decide_eq_true c1
      clear c1
      by_cases c2 : 0 ≤ p1
      ·replace H := (if_pos c2).symm.trans H
       have c2b : decide (0 ≤ p1) = true := decide_eq_true c2
       clear c2
       by_cases c3 : acc1.length < 70368744177664
       ·replace H := (if_pos c3).symm.trans H
        have HN : Aside0 ((Lib.byteCells acc1).length + 1 ≤ 140737488355328) := ⟨by rw [Lib.byteCells_length]; omega⟩
        clear c3
        have pp1 := eq_true (show 0 ≤ p1 from of_decide_eq_true (by assumption))
        have qq1 := eq_true (show p1 < (s.size : Int) from of_decide_eq_true (by assumption))
        have hx1 := bt_at s (p1)
        by_cases c4 : bt s p1 = m
        ·replace H := (if_pos c4).symm.trans H
         have c4b : (bt s p1 == m) = true := beq_iff_eq.2 c4
         clear c4
         by_cases c5 : wrap64 (p1 + 1) = (s.size : Int)
         ·replace H := (if_pos c5).symm.trans H
          have c5b : (wrap64 (p1 + 1) == (s.size : Int)) = true := beq_iff_eq.2 c5
          clear c5
          obtain rfl := Option.some.inj H
          clear H
          go_wp2_with (first | (go_at_call 38; refine (Tryd.Builder_String_any_k w.heap.size w.heap.size acc1 _ (by repeat (first | (with_reducible first | exact HU.out | apply HLex.builder_drewN | apply HLex.builder_drew | refine HLex.builder_put ?_ HG0.out _) | exact HU.out)) (HLex.keep_size (g := g) (by repeat (first | (with_reducible first | exact HK.out | apply KeepBut.set_ | apply keep_drewN | apply keep_drew | apply keep_alloc) | exact HK.out)))).mono ?_; rintro e w2 ⟨rfl, _, b1, _⟩; have n1_ := Aside0.mk (reader_more (by repeat (first | (with_reducible first | exact HI0.out | apply IsS50.alloc | apply IsS50.drewN | apply IsS50.drew | apply IsS50.set_0 | apply IsS50.set_1) | exact HI0.out)) b1 HG0.out); have n2_ := Aside0.mk (HLex.below_more (by repeat (first | (with_reducible first | exact HB.out | apply below_alloc | apply pw_below_drewN | apply below_drew1 | refine below_set ?_ (IsS50.ge HI0.out)) | exact HB.out)) HW0.out b1); have n3_ := Aside0.mk (HLex.keep_more (by repeat (first | (with_reducible first | exact HK.out | apply KeepBut.set_ | apply keep_drewN | apply keep_drew | apply keep_alloc) | exact HK.out)) b1); clear HI0 HB HK b1 hc0 hc1 hf0 hf1; have HI0 := n1_; have HB := n2_; have HK := n3_; clear n1_ n2_ n3_; obtain ⟨HG, hg⟩ := HI0.out; have hc0 := cellS50_0 HG; have hc1 := cellS50_1 HG; have hf0 := blk_frozen HG 0; have hf1 := blk_frozen HG 1; clear HG hg))
          repeat (go_quiet (first | (go_at_call 38; refine (Tryd.Builder_String_any_k w.heap.size w.heap.size acc1 _ (by repeat (first | (with_reducible first | exact HU.out | apply HLex.builder_drewN | apply HLex.builder_drew | refine HLex.builder_put ?_ HG0.out _) | exact HU.out)) (HLex.keep_size (g := g) (by repeat (first | (with_reducible first | exact HK.out | apply KeepBut.set_ | apply keep_drewN | apply keep_drew | apply keep_alloc) | exact HK.out)))).mono ?_; rintro e w2 ⟨rfl, _, b1, _⟩; have n1_ := Aside0.mk (reader_more (by repeat (first | (with_reducible first | exact HI0.out | apply IsS50.alloc | apply IsS50.drewN | apply IsS50.drew | apply IsS50.set_0 | apply IsS50.set_1) | exact HI0.out)) b1 HG0.out); have n2_ := Aside0.mk (HLex.below_more (by repeat (first | (with_reducible first | exact HB.out | apply below_alloc | apply pw_below_drewN | apply below_drew1 | refine below_set ?_ (IsS50.ge HI0.out)) | exact HB.out)) HW0.out b1); have n3_ := Aside0.mk (HLex.keep_more (by repeat (first | (with_reducible first | exact HK.out | apply KeepBut.set_ | apply keep_drewN | apply keep_drew | apply keep_alloc) | exact HK.out)) b1); clear HI0 HB HK b1 hc0 hc1 hf0 hf1; have HI0 := n1_; have HB := n2_; have HK := n3_; clear n1_ n2_ n3_; obtain ⟨HG, hg⟩ := HI0.out; have hc0 := cellS50_0 HG; have hc1 := cellS50_1 HG; have hf0 := blk_frozen HG 0; have hf1 := blk_frozen HG 1; clear HG hg)); try go_wp2_with (first | (go_at_call 38; refine (Tryd.Builder_String_any_k w.heap.size w.heap.size acc1 _ (by repeat (first | (with_reducible first | exact HU.out | apply HLex.builder_drewN | apply HLex.builder_drew | refine HLex.builder_put ?_ HG0.out _) | exact HU.out)) (HLex.keep_size (g := g) (by repeat (first | (with_reducible first | exact HK.out | apply KeepBut.set_ | apply keep_drewN | apply keep_drew | apply keep_alloc) | exact HK.out)))).mono ?_; rintro e w2 ⟨rfl, _, b1, _⟩; have n1_ := Aside0.mk (reader_more (by repeat (first | (with_reducible first | exact HI0.out | apply IsS50.alloc | apply IsS50.drewN | apply IsS50.drew | apply IsS50.set_0 | apply IsS50.set_1) | exact HI0.out)) b1 HG0.out); have n2_ := Aside0.mk (HLex.below_more (by repeat (first | (with_reducible first | exact HB.out | apply below_alloc | apply pw_below_drewN | apply below_drew1 | refine below_set ?_ (IsS50.ge HI0.out)) | exact HB.out)) HW0.out b1); have n3_ := Aside0.mk (HLex.keep_more (by repeat (first | (with_reducible first | exact HK.out | apply KeepBut.set_ | apply keep_drewN | apply keep_drew | apply keep_alloc) | exact HK.out)) b1); clear HI0 HB HK b1 hc0 hc1 hf0 hf1; have HI0 := n1_; have HB := n2_; have HK := n3_; clear n1_ n2_ n3_; obtain ⟨HG, hg⟩ := HI0.out; have hc0 := cellS50_0 HG; have hc1 := cellS50_1 HG; have hf0 := blk_frozen HG 0; have hf1 := blk_frozen HG 1; clear HG hg)))
          go_ret
          exact ⟨by repeat (first | (with_reducible first | exact HB.out | apply below_alloc | apply pw_below_drewN | apply below_drew1 | refine below_set ?_ (IsS50.ge HI0.out)) | exact HB.out), by repeat (first | (with_reducible first | exact HK.out | apply KeepBut.set_ | apply keep_drewN | apply keep_drew | apply keep_alloc) | exact HK.out), rfl, by repeat (first | (with_reducible first | exact HI0.out | apply IsS50.alloc | apply IsS50.drewN | apply IsS50.drew | apply IsS50.set_0 | apply IsS50.set_1) | exact HI0.out)⟩
         ·replace H := (if_neg c5).symm.trans H
          have c5b : (wrap64 (p1 + 1) == (s.size : Int)) = false := beq_eq_false_iff_ne.2 c5
          clear c5
          by_cases c6 : 0 ≤ wrap64 (p1 + 1)
          ·replace H := (if_pos c6).symm.trans H
           have c6b : decide (0 ≤ wrap64 (p1 + 1)) = true := decide_eq_true c6
           clear c6
           by_cases c7 : wrap64 (p1 + 1) < (s.size : Int)
           ·replace H := (if_pos c7).symm.trans H
            have c7b : decide (wrap64 (p1 + 1) < (s.size : Int)) = true := decide_eq_true c7
            clear c7
            have pp2 := eq_true (show 0 ≤ wrap64 (p1 + 1) from of_decide_eq_true (by assumption))
            have qq2 := eq_true (show wrap64 (p1 + 1) < (s.size : Int) from of_decide_eq_true (by assumption))
            have hx2 := bt_at s (wrap64 (p1 + 1))
            by_cases c8 : bt s (wrap64 (p1 + 1)) = m
            ·replace H := (if_pos c8).symm.trans H
             have c8b : (bt s (wrap64 (p1 + 1)) != m) = false := by simpa using c8
             clear c8
             have H' : Aside0 (lex_reader_quoted.l0 k1 s m (wrap64 (wrap64 (p1 + 1) + 1)) (acc1 ++ [HLex.byteAt s (wrap64 (p1 + 1))]) = some r) := ⟨H⟩
             clear H
             go_wp2
             repeat (go_quiet (fail); try go_wp2)
             refine HLex.at_world fun wq hq => ?_
             have n1_ : Aside0 (IsS50 w0 wq g s (wrap64 (p1 + 1))) := ⟨by rw [hq]; (repeat (first | (with_reducible first | exact HI0.out | apply IsS50.alloc | apply IsS50.drewN | apply IsS50.drew | apply IsS50.set_0 | apply IsS50.set_1) | exact HI0.out))⟩
             have n2_ : Aside0 (Below w0.heap.size w0 wq) := ⟨by rw [hq]; (repeat (first | (with_reducible first | exact HB.out | apply below_alloc | apply pw_below_drewN | apply below_drew1 | refine below_set ?_ (IsS50.ge HI0.out)) | exact HB.out))⟩
             have n3_ : Aside0 (KeepBut w wq g none) := ⟨by rw [hq]; (repeat (first | (with_reducible first | exact HK.out | apply KeepBut.set_ | apply keep_drewN | apply keep_drew | apply keep_alloc) | exact HK.out))⟩
             have nu_ : Aside0 (Lib.IsBuilderF 64 5 w.heap.size w.heap.size (Lib.byteCells acc1) wq) := ⟨by rw [hq]; (repeat (first | (with_reducible first | exact HU.out | apply HLex.builder_drewN | apply HLex.builder_drew | refine HLex.builder_put ?_ HG0.out _) | exact HU.out))⟩
             clear HI0 HB HK HU hc0 hc1 hf0 hf1 hq
             have HI0 := n1_
             have HB := n2_
             have HK := n3_
             have HU := nu_
             clear n1_ n2_ n3_ nu_
             have hc0 : ∀ w' : World, w'.heap = wq.heap → w'.cell? ⟨g, 0, none⟩ = some (.string s) := fun w' e => cellS50_0 (by rw [e]; exact HI0.out.1)
             have hc1 : ∀ w' : World, w'.heap = wq.heap → w'.cell? ⟨g, 1, none⟩ = some (.int .i64 (wrap64 (p1 + 1))) := fun w' e => cellS50_1 (by rw [e]; exact HI0.out.1)
             have hf0 := trivial
             have hf1 := trivial
             go_still_tail 9, (by kernel_rfl)
             change wpList _ _ _ _ _ wq.drew
             go_wp2_with (first | (go_at_call 56; refine (Tryd.Builder_WriteByte_k w.heap.size w.heap.size (Lib.byteCells acc1) (bt s (wrap64 (p1 + 1))) _ (by repeat (first | (with_reducible first | exact HU.out | apply HLex.builder_drewN | apply HLex.builder_drew | refine HLex.builder_put ?_ HG0.out _) | exact HU.out)) (HN.out) (HLex.keep_size (g := g) (by repeat (first | (with_reducible first | exact HK.out | apply KeepBut.set_ | apply keep_drewN | apply keep_drew | apply keep_alloc) | exact HK.out)))).mono ?_; rintro e w2 ⟨rfl, h1, b1, k1⟩; clear k1; have nu_ := Aside0.mk (show Lib.IsBuilderF 64 5 w.heap.size w.heap.size (Lib.byteCells (acc1 ++ [HLex.byteAt s (wrap64 (p1 + 1))])) w2 by rw [← HLex.byteAt_cells]; exact Or.inr h1); clear HU h1; have HU := nu_; clear nu_; have n1_ := Aside0.mk (reader_more (by repeat (first | (with_reducible first | exact HI0.out | apply IsS50.alloc | apply IsS50.drewN | apply IsS50.drew | apply IsS50.set_0 | apply IsS50.set_1) | exact HI0.out)) b1 HG0.out); have n2_ := Aside0.mk (HLex.below_more (by repeat (first | (with_reducible first | exact HB.out | apply below_alloc | apply pw_below_drewN | apply below_drew1 | refine below_set ?_ (IsS50.ge HI0.out)) | exact HB.out)) HW0.out b1); have n3_ := Aside0.mk (HLex.keep_more (by repeat (first | (with_reducible first | exact HK.out | apply KeepBut.set_ | apply keep_drewN | apply keep_drew | apply keep_alloc) | exact HK.out)) b1); clear HI0 HB HK b1 hc0 hc1 hf0 hf1; have HI0 := n1_; have HB := n2_; have HK := n3_; clear n1_ n2_ n3_; obtain ⟨HG, hg⟩ := HI0.out; have hc0 := cellS50_0 HG; have hc1 := cellS50_1 HG; have hf0 := blk_frozen HG 0; have hf1 := blk_frozen HG 1; clear HG hg))
             repeat (go_quiet (fail); try go_wp2)
             go_roundg k1
             case measure => have := HK1.out; omega
             case rel => exact ⟨_, _, H', ⟨by have := HK1.out; omega⟩, ⟨by repeat (first | (with_reducible first | exact HI0.out | apply IsS50.alloc | apply IsS50.drewN | apply IsS50.drew | apply IsS50.set_0 | apply IsS50.set_1) | exact HI0.out)⟩, ⟨by repeat (first | (with_reducible first | exact HK.out | apply KeepBut.set_ | apply keep_drewN | apply keep_drew | apply keep_alloc) | exact HK.out)⟩, ⟨by repeat (first | (with_reducible first | exact HB.out | apply below_alloc | apply pw_below_drewN | apply below_drew1 | refine below_set ?_ (IsS50.ge HI0.out)) | exact HB.out)⟩, ⟨by repeat (first | (with_reducible first | exact HU.out | apply HLex.builder_drewN | apply HLex.builder_drew | refine HLex.builder_put ?_ HG0.out _) | exact HU.out)⟩⟩
            ·replace H := (if_neg c8).symm.trans H
             have c8b : (bt s (wrap64 (p1 + 1)) != m) = true := by simpa using c8
             clear c8
             obtain rfl := Option.some.inj H
             clear H
             go_wp2_with (first | (go_at_call 38; refine (Tryd.Builder_String_any_k w.heap.size w.heap.size acc1 _ (by repeat (first | (with_reducible first | exact HU.out | apply HLex.builder_drewN | apply HLex.builder_drew | refine HLex.builder_put ?_ HG0.out _) | exact HU.out)) (HLex.keep_size (g := g) (by repeat (first | (with_reducible first | exact HK.out | apply KeepBut.set_ | apply keep_drewN | apply keep_drew | apply keep_alloc) | exact HK.out)))).mono ?_; rintro e w2 ⟨rfl, _, b1, _⟩; have n1_ := Aside0.mk (reader_more (by repeat (first | (with_reducible first | exact HI0.out | apply IsS50.alloc | apply IsS50.drewN | apply IsS50.drew | apply IsS50.set_0 | apply IsS50.set_1) | exact HI0.out)) b1 HG0.out); have n2_ := Aside0.mk (HLex.below_more (by repeat (first | (with_reducible first | exact HB.out | apply below_alloc | apply pw_below_drewN | apply below_drew1 | refine below_set ?_ (IsS50.ge HI0.out)) | exact HB.out)) HW0.out b1); have n3_ := Aside0.mk (HLex.keep_more (by repeat (first | (with_reducible first | exact HK.out | apply KeepBut.set_ | apply keep_drewN | apply keep_drew | apply keep_alloc) | exact HK.out)) b1); clear HI0 HB HK b1 hc0 hc1 hf0 hf1; have HI0 := n1_; have HB := n2_; have HK := n3_; clear n1_ n2_ n3_; obtain ⟨HG, hg⟩ := HI0.out; have hc0 := cellS50_0 HG; have hc1 := cellS50_1 HG; have hf0 := blk_frozen HG 0; have hf1 := blk_frozen HG 1; clear HG hg))
             repeat (go_quiet (first | (go_at_call 38; refine (Tryd.Builder_String_any_k w.heap.size w.heap.size acc1 _ (by repeat (first | (with_reducible first | exact HU.out | apply HLex.builder_drewN | apply HLex.builder_drew | refine HLex.builder_put ?_ HG0.out _) | exact HU.out)) (HLex.keep_size (g := g) (by repeat (first | (with_reducible first | exact HK.out | apply KeepBut.set_ | apply keep_drewN | apply keep_drew | apply keep_alloc) | exact HK.out)))).mono ?_; rintro e w2 ⟨rfl, _, b1, _⟩; have n1_ := Aside0.mk (reader_more (by repeat (first | (with_reducible first | exact HI0.out | apply IsS50.alloc | apply IsS50.drewN | apply IsS50.drew | apply IsS50.set_0 | apply IsS50.set_1) | exact HI0.out)) b1 HG0.out); have n2_ := Aside0.mk (HLex.below_more (by repeat (first | (with_reducible first | exact HB.out | apply below_alloc | apply pw_below_drewN | apply below_drew1 | refine below_set ?_ (IsS50.ge HI0.out)) | exact HB.out)) HW0.out b1); have n3_ := Aside0.mk (HLex.keep_more (by repeat (first | (with_reducible first | exact HK.out | apply KeepBut.set_ | apply keep_drewN | apply keep_drew | apply keep_alloc) | exact HK.out)) b1); clear HI0 HB HK b1 hc0 hc1 hf0 hf1; have HI0 := n1_; have HB := n2_; have HK := n3_; clear n1_ n2_ n3_; obtain ⟨HG, hg⟩ := HI0.out; have hc0 := cellS50_0 HG; have hc1 := cellS50_1 HG; have hf0 := blk_frozen HG 0; have hf1 := blk_frozen HG 1; clear HG hg)); try go_wp2_with (first | (go_at_call 38; refine (Tryd.Builder_String_any_k w.heap.size w.heap.size acc1 _ (by repeat (first | (with_reducible first | exact HU.out | apply HLex.builder_drewN | apply HLex.builder_drew | refine HLex.builder_put ?_ HG0.out _) | exact HU.out)) (HLex.keep_size (g := g) (by repeat (first | (with_reducible first | exact HK.out | apply KeepBut.set_ | apply keep_drewN | apply keep_drew | apply keep_alloc) | exact HK.out)))).mono ?_; rintro e w2 ⟨rfl, _, b1, _⟩; have n1_ := Aside0.mk (reader_more (by repeat (first | (with_reducible first | exact HI0.out | apply IsS50.alloc | apply IsS50.drewN | apply IsS50.drew | apply IsS50.set_0 | apply IsS50.set_1) | exact HI0.out)) b1 HG0.out); have n2_ := Aside0.mk (HLex.below_more (by repeat (first | (with_reducible first | exact HB.out | apply below_alloc | apply pw_below_drewN | apply below_drew1 | refine below_set ?_ (IsS50.ge HI0.out)) | exact HB.out)) HW0.out b1); have n3_ := Aside0.mk (HLex.keep_more (by repeat (first | (with_reducible first | exact HK.out | apply KeepBut.set_ | apply keep_drewN | apply keep_drew | apply keep_alloc) | exact HK.out)) b1); clear HI0 HB HK b1 hc0 hc1 hf0 hf1; have HI0 := n1_; have HB := n2_; have HK := n3_; clear n1_ n2_ n3_; obtain ⟨HG, hg⟩ := HI0.out; have hc0 := cellS50_0 HG; have hc1 := cellS50_1 HG; have hf0 := blk_frozen HG 0; have hf1 := blk_frozen HG 1; clear HG hg)))
             go_ret
             exact ⟨by repeat (first | (with_reducible first | exact HB.out | apply below_alloc | apply pw_below_drewN | apply below_drew1 | refine below_set ?_ (IsS50.ge HI0.out)) | exact HB.out), by repeat (first | (with_reducible first | exact HK.out | apply KeepBut.set_ | apply keep_drewN | apply keep_drew | apply keep_alloc) | exact HK.out), rfl, by repeat (first | (with_reducible first | exact HI0.out | apply IsS50.alloc | apply IsS50.drewN | apply IsS50.drew | apply IsS50.set_0 | apply IsS50.set_1) | exact HI0.out)⟩
           ·exact absurd ((if_neg c7).symm.trans H) (by simp)
          ·exact absurd ((if_neg c6).symm.trans H) (by simp)
        ·replace H := (if_neg c4).symm.trans H
         have c4b : (bt s p1 == m) = false := beq_eq_false_iff_ne.2 c4
         clear c4
         have H' : Aside0 (lex_reader_quoted.l0 k1 s m (wrap64 (p1 + 1)) (acc1 ++ [HLex.byteAt s p1]) = some r) := ⟨H⟩
         clear H
         go_wp2
         repeat (go_quiet (fail); try go_wp2)
         refine HLex.at_world fun wq hq => ?_
         have n1_ : Aside0 (IsS50 w0 wq g s p1) := ⟨by rw [hq]; (repeat (first | (with_reducible first | exact HI0.out | apply IsS50.alloc | apply IsS50.drewN | apply IsS50.drew | apply IsS50.set_0 | apply IsS50.set_1) | exact HI0.out))⟩
         have n2_ : Aside0 (Below w0.heap.size w0 wq) := ⟨by rw [hq]; (repeat (first | (with_reducible first | exact HB.out | apply below_alloc | apply pw_below_drewN | apply below_drew1 | refine below_set ?_ (IsS50.ge HI0.out)) | exact HB.out))⟩
         have n3_ : Aside0 (KeepBut w wq g none) := ⟨by rw [hq]; (repeat (first | (with_reducible first | exact HK.out | apply KeepBut.set_ | apply keep_drewN | apply keep_drew | apply keep_alloc) | exact HK.out))⟩
         have nu_ : Aside0 (Lib.IsBuilderF 64 5 w.heap.size w.heap.size (Lib.byteCells acc1) wq) := ⟨by rw [hq]; (repeat (first | (with_reducible first | exact HU.out | apply HLex.builder_drewN | apply HLex.builder_drew | refine HLex.builder_put ?_ HG0.out _) | exact HU.out))⟩
         clear HI0 HB HK HU hc0 hc1 hf0 hf1 hq
         have HI0 := n1_
         have HB := n2_
         have HK := n3_
         have HU := nu_
         clear n1_ n2_ n3_ nu_
         have hc0 : ∀ w' : World, w'.heap = wq.heap → w'.cell? ⟨g, 0, none⟩ = some (.string s) := fun w' e => cellS50_0 (by rw [e]; exact HI0.out.1)
         have hc1 : ∀ w' : World, w'.heap = wq.heap → w'.cell? ⟨g, 1, none⟩ = some (.int .i64 p1) := fun w' e => cellS50_1 (by rw [e]; exact HI0.out.1)
         have hf0 := trivial
         have hf1 := trivial
         go_still_tail 9, (by kernel_rfl)
         change wpList _ _ _ _ _ wq.drew
         go_wp2_with (first | (go_at_call 56; refine (Tryd.Builder_WriteByte_k w.heap.size w.heap.size (Lib.byteCells acc1) (bt s p1) _ (by repeat (first | (with_reducible first | exact HU.out | apply HLex.builder_drewN | apply HLex.builder_drew | refine HLex.builder_put ?_ HG0.out _) | exact HU.out)) (HN.out) (HLex.keep_size (g := g) (by repeat (first | (with_reducible first | exact HK.out | apply KeepBut.set_ | apply keep_drewN | apply keep_drew | apply keep_alloc) | exact HK.out)))).mono ?_; rintro e w2 ⟨rfl, h1, b1, k1⟩; clear k1; have nu_ := Aside0.mk (show Lib.IsBuilderF 64 5 w.heap.size w.heap.size (Lib.byteCells (acc1 ++ [HLex.byteAt s p1])) w2 by rw [← HLex.byteAt_cells]; exact Or.inr h1); clear HU h1; have HU := nu_; clear nu_; have n1_ := Aside0.mk (reader_more (by repeat (first | (with_reducible first | exact HI0.out | apply IsS50.alloc | apply IsS50.drewN | apply IsS50.drew | apply IsS50.set_0 | apply IsS50.set_1) | exact HI0.out)) b1 HG0.out); have n2_ := Aside0.mk (HLex.below_more (by repeat (first | (with_reducible first | exact HB.out | apply below_alloc | apply pw_below_drewN | apply below_drew1 | refine below_set ?_ (IsS50.ge HI0.out)) | exact HB.out)) HW0.out b1); have n3_ := Aside0.mk (HLex.keep_more (by repeat (first | (with_reducible first | exact HK.out | apply KeepBut.set_ | apply keep_drewN | apply keep_drew | apply keep_alloc) | exact HK.out)) b1); clear HI0 HB HK b1 hc0 hc1 hf0 hf1; have HI0 := n1_; have HB := n2_; have HK := n3_; clear n1_ n2_ n3_; obtain ⟨HG, hg⟩ := HI0.out; have hc0 := cellS50_0 HG; have hc1 := cellS50_1 HG; have hf0 := blk_frozen HG 0; have hf1 := blk_frozen HG 1; clear HG hg))
         repeat (go_quiet (fail); try go_wp2)
         go_roundg k1
         case measure => have := HK1.out; omega
         case rel => exact ⟨_, _, H', ⟨by have := HK1.out; omega⟩, ⟨by repeat (first | (with_reducible first | exact HI0.out | apply IsS50.alloc | apply IsS50.drewN | apply IsS50.drew | apply IsS50.set_0 | apply IsS50.set_1) | exact HI0.out)⟩, ⟨by repeat (first | (with_reducible first | exact HK.out | apply KeepBut.set_ | apply keep_drewN | apply keep_drew | apply keep_alloc) | exact HK.out)⟩, ⟨by repeat (first | (with_reducible first | exact HB.out | apply below_alloc | apply pw_below_drewN | apply below_drew1 | refine below_set ?_ (IsS50.ge HI0.out)) | exact HB.out)⟩, ⟨by repeat (first | (with_reducible first | exact HU.out | apply HLex.builder_drewN | apply HLex.builder_drew | refine HLex.builder_put ?_ HG0.out _) | exact HU.out)⟩⟩
       ·exact absurd ((if_neg c3).symm.trans H) (by simp)
      ·exact absurd ((if_neg c2).symm.trans H) (by simp)
     ·replace H := (if_neg c1).symm.trans H
      have c1b : decide (p1 < (s.size : Int)) = false := decide_eq_false c1
      clear c1
      obtain rfl := Option.some.inj H
      go_wp2
      repeat (go_quiet (fail); try go_wp2)
      exact ⟨rfl, by repeat (first | (with_reducible first | exact HB.out | apply below_alloc | apply pw_below_drewN | apply below_drew1 | refine below_set ?_ (IsS50.ge HI0.out)) | exact HB.out), by repeat (first | (with_reducible first | exact HK.out | apply KeepBut.set_ | apply keep_drewN | apply keep_drew | apply keep_alloc) | exact HK.out), rfl⟩
  ·rw [if_neg c1] at h; cases h
 ·rw [if_neg c0] at h; cases h
end Go.Proofs.YtmpenkinheneoaaDoor.Q
namespace Go.Proofs.YtmpenkinheneoaaDoor.Q
open Go.RowKit Go.Proofs.YtmpenkinheneoaaDoorW.PrintWords Go.Proofs.YtmpenkinheneoaaDoorW.PrintLast Go.Proofs.YtmpenkinheneoaaDoorW.PrintMore
attribute [local go_sem] max2_int min2_int max_two min_two max_three min_three max_four min_four   -- for this text's walks alone
set_option linter.unusedVariables false
set_option linter.unusedSimpArgs false
def lex_reader_digits.l0 : Nat → Int → ByteArray → Int → Option (Bool × ByteArray × Int)
 | 0, _, _, _ => none
 | k + 1, x3, x1000, x1001 => if x1001 < (x1000.size : Int) then (if 0 ≤ x1001 then (if (bt x1000 x1001) ≥ 48 then (if (bt x1000 x1001) ≤ 57 then (lex_reader_digits.l0 k x3 x1000 (wrap64 (x1001 + 1))) else (some (decide (x1001 > x3), x1000, x1001))) else (some (decide (x1001 > x3), x1000, x1001))) else (none)) else (some (decide (x1001 > x3), x1000, x1001))
def lex_reader_digits.f (k : Nat) (s0_0 : ByteArray) (s0_1 : Int) : Option (Bool × ByteArray × Int) := lex_reader_digits.l0 k s0_1 s0_0 s0_1
theorem lex_reader_digits.mono_l : ∀ k, (∀ y0 y1 y2, LeO (lex_reader_digits.l0 k y0 y1 y2) (lex_reader_digits.l0 (k + 1) y0 y1 y2))
 | 0 => fun _ _ _ r h => by simp [lex_reader_digits.l0] at h
 | k + 1 => by
  have ih0 := lex_reader_digits.mono_l k
  ·intro y0 y1 y2
   unfold lex_reader_digits.l0
   repeat' first
   | (with_reducible exact ih0 _ _ _)
   | (with_reducible exact LeO.refl _)
   | (with_reducible exact LeO.none _)
   | (with_reducible refine LeO.ite ?_ ?_)
   | (with_reducible refine LeO.bind ?_ (fun _ => ?_))
   | exact ih0 _ _ _
   | exact LeO.none _
   | refine LeO.ite ?_ ?_
   | refine LeO.bind ?_ (fun _ => ?_)
theorem lex_reader_digits.mono : ∀ a0 a1 k, LeO (lex_reader_digits.f k a0 a1) (lex_reader_digits.f (k + 1) a0 a1) := by
 intro a0 a1 k; have ih0 := lex_reader_digits.mono_l k; unfold lex_reader_digits.f
 repeat' first
   | (with_reducible exact ih0 _ _ _)
   | (with_reducible exact LeO.refl _)
   | (with_reducible exact LeO.none _)
   | (with_reducible refine LeO.ite ?_ ?_)
   | (with_reducible refine LeO.bind ?_ (fun _ => ?_))
   | exact ih0 _ _ _
   | exact LeO.none _
   | refine LeO.ite ?_ ?_
   | refine LeO.bind ?_ (fun _ => ?_)
set_option maxHeartbeats 8000000 in
set_option maxRecDepth 100000 in
theorem lex_reader_digits.calls (k : Nat) (g : Nat) (s0_0 : ByteArray) (s0_1 : Int) (r1 : Bool) (r2 : ByteArray) (r3 : Int) (w0 w : World) (hI : IsS50 w0 w g s0_0 s0_1) (hB : Below w0.heap.size w0 w) (h : lex_reader_digits.f k s0_0 s0_1 = some (r1, r2, r3)) :
  Calls Tryd.prog 57 #[.pointer (some ⟨g, 0, none⟩)] w fun e w' => e = .returned (.bool r1) ∧ IsS50 w0 w' g r2 r3 ∧ Below w0.heap.size w0 w' ∧ KeepBut w w' g none := by
 have HI0 := Aside0.mk hI; have HK := Aside0.mk (KeepBut.refl w g none); have HL := Aside0.mk hB.size; clear hI; have HW0 := Aside0.mk hB.size; have HB := Aside0.mk hB; clear hB; have H : (lex_reader_digits.l0 k s0_1 s0_0 s0_1) = some (r1, r2, r3) := h; clear h; have H' := Aside0.mk H; clear H; obtain ⟨HGz2, hgz2⟩ := HI0.out; have hcz2_0 := cellS50_0 HGz2; have hcz2_1 := cellS50_1 HGz2; have hfz2_0 := blk_frozen HGz2 0; have hfz2_1 := blk_frozen HGz2 1; clear HGz2 hgz2; (go_enter Tryd.func57, Tryd.ntmps57); (go_wp2); (repeat (go_quiet (fail); try go_wp2)); (go_loopg [] k (fun kq w' => ∃ (x1001_1 : Int), Aside0 (lex_reader_digits.l0 kq s0_1 s0_0 x1001_1 = some (r1, r2, r3)) ∧ Aside0 (kq ≤ k) ∧ Aside0 (IsS50 w0 w' g s0_0 x1001_1) ∧ Aside0 (KeepBut w w' g none) ∧ Aside0 (Below w0.heap.size w0 w')))
 case atStart => exact ⟨(s0_1), H', ⟨Nat.le_refl _⟩, ⟨by repeat (first | (with_reducible first | exact HI0.out | apply IsS50.alloc | apply IsS50.drewN | apply IsS50.drew | apply IsS50.set_0 | apply IsS50.set_1) | exact HI0.out)⟩, ⟨by repeat (first | (with_reducible first | exact HK.out | apply KeepBut.set_ | apply keep_drewN | apply keep_drew | apply keep_alloc) | exact HK.out)⟩, ⟨by repeat (first | (with_reducible first | exact HB.out | apply below_alloc | apply pw_below_drewN | apply below_drew1 | refine below_set ?_ (IsS50.ge HI0.out)) | exact HB.out)⟩⟩
 case round =>
  clear H'; ((try clear p2); (try clear hcz2_0); (try clear hcz2_1); (try clear hfz2_0); (try clear hfz2_1)); obtain ⟨x1001_1, HA, HK1, HI0, HK, HB⟩ := hrel
  cases gk with
  | zero => exact absurd HA.out (by simp [lex_reader_digits.l0])
  | succ k1 =>
   have H := HA.out; clear HA; simp only [lex_reader_digits.l0] at H; by_cases c3 : x1001_1 < (s0_0.size : Int)
   ·rw [if_pos c3] at H; have c3b0 : decide (x1001_1 < (s0_0.size : Int)) = true := decide_eq_true c3; clear c3; by_cases c4 : 0 ≤ x1001_1
    ·rw [if_pos c4] at H; have c4b0 : decide (0 ≤ x1001_1) = true := decide_eq_true c4; clear c4; by_cases c6 : (bt s0_0 x1001_1) ≥ 48
     ·rw [if_pos c6] at H; have c6b0 : decide (48 ≤ (bt s0_0 x1001_1)) = true := decide_eq_true c6; clear c6; by_cases c8 : (bt s0_0 x1001_1) ≤ 57
      ·rw [if_pos c8] at H; have c8b0 : decide ((bt s0_0 x1001_1) ≤ 57) = true := decide_eq_true c8; clear c8; have H' := Aside0.mk H; clear H; obtain ⟨HGz9, hgz9⟩ := HI0.out; have hcz9_0 := cellS50_0 HGz9; have hcz9_1 := cellS50_1 HGz9; have hfz9_0 := blk_frozen HGz9 0; have hfz9_1 := blk_frozen HGz9 1; clear HGz9 hgz9; (have p5 : 0 ≤ (x1001_1 : Int) := of_decide_eq_true (by first | (with_reducible assumption) | assumption)); (have q5 : x1001_1 < (s0_0.size : Int) := of_decide_eq_true (by first | (with_reducible assumption) | assumption)); have hx5 := bt_at s0_0 x1001_1; replace p5 := eq_true p5; replace q5 := eq_true q5; (have p7 : 0 ≤ (x1001_1 : Int) := of_decide_eq_true (by first | (with_reducible assumption) | assumption)); (have q7 : x1001_1 < (s0_0.size : Int) := of_decide_eq_true (by first | (with_reducible assumption) | assumption)); have hx7 := bt_at s0_0 x1001_1; replace p7 := eq_true p7; replace q7 := eq_true q7; (go_wp2); (repeat (go_quiet (fail); try go_wp2)); (go_roundg k1)
       case measure => have := HK1.out; omega
       case rel => exact ⟨(wrap64 (x1001_1 + 1)), H', ⟨by have := HK1.out; omega⟩, ⟨by repeat (first | (with_reducible first | exact HI0.out | apply IsS50.alloc | apply IsS50.drewN | apply IsS50.drew | apply IsS50.set_0 | apply IsS50.set_1) | exact HI0.out)⟩, ⟨by repeat (first | (with_reducible first | exact HK.out | apply KeepBut.set_ | apply keep_drewN | apply keep_drew | apply keep_alloc) | exact HK.out)⟩, ⟨by repeat (first | (with_reducible first | exact HB.out | apply below_alloc | apply pw_below_drewN | apply below_drew1 | refine below_set ?_ (IsS50.ge HI0.out)) | exact HB.out)⟩⟩
      ·rw [if_neg c8] at H; have c8b0 : decide ((bt s0_0 x1001_1) ≤ 57) = false := decide_eq_false c8; clear c8; simp only [Option.some.injEq, Prod.mk.injEq] at H; obtain ⟨rfl, rfl, rfl⟩ := H; obtain ⟨HGz10, hgz10⟩ := HI0.out; have hcz10_0 := cellS50_0 HGz10; have hcz10_1 := cellS50_1 HGz10; have hfz10_0 := blk_frozen HGz10 0; have hfz10_1 := blk_frozen HGz10 1; clear HGz10 hgz10; (have p5 : 0 ≤ (x1001_1 : Int) := of_decide_eq_true (by first | (with_reducible assumption) | assumption)); (have q5 : x1001_1 < (s0_0.size : Int) := of_decide_eq_true (by first | (with_reducible assumption) | assumption)); have hx5 := bt_at s0_0 x1001_1; replace p5 := eq_true p5; replace q5 := eq_true q5; (have p7 : 0 ≤ (x1001_1 : Int) := of_decide_eq_true (by first | (with_reducible assumption) | assumption)); (have q7 : x1001_1 < (s0_0.size : Int) := of_decide_eq_true (by first | (with_reducible assumption) | assumption)); have hx7 := bt_at s0_0 x1001_1; replace p7 := eq_true p7; replace q7 := eq_true q7; (go_wp2); (repeat (go_quiet (fail); try go_wp2)); (go_ret); (exact ⟨by first | rfl | (simp [errW_none, errW_some] <;> rfl) | (simp [*, errW_none, errW_some] <;> rfl), by repeat (first | (with_reducible first | exact HI0.out | apply IsS50.alloc | apply IsS50.drewN | apply IsS50.drew | apply IsS50.set_0 | apply IsS50.set_1) | exact HI0.out), by repeat (first | (with_reducible first | exact HB.out | apply below_alloc | apply pw_below_drewN | apply below_drew1 | refine below_set ?_ (IsS50.ge HI0.out)) | exact HB.out), by repeat (first | (with_reducible first | exact HK.out | apply KeepBut.set_ | apply keep_drewN | apply keep_drew | apply keep_alloc) | exact HK.out)⟩)
     ·rw [if_neg c6] at H; have c6b0 : decide (48 ≤ (bt s0_0 x1001_1)) = false := decide_eq_false c6; clear c6; simp only [Option.some.injEq, Prod.mk.injEq] at H; obtain ⟨rfl, rfl, rfl⟩ := H; obtain ⟨HGz11, hgz11⟩ := HI0.out; have hcz11_0 := cellS50_0 HGz11; have hcz11_1 := cellS50_1 HGz11; have hfz11_0 := blk_frozen HGz11 0; have hfz11_1 := blk_frozen HGz11 1; clear HGz11 hgz11; (have p5 : 0 ≤ (x1001_1 : Int) := of_decide_eq_true (by first | (with_reducible assumption) | assumption)); (have q5 : x1001_1 < (s0_0.size : Int) := of_decide_eq_true (by first | (with_reducible assumption) | assumption)); have hx5 := bt_at s0_0 x1001_1; replace p5 := eq_true p5; replace q5 := eq_true q5; (go_wp2); (repeat (go_quiet (fail); try go_wp2)); (go_ret); (exact ⟨by first | rfl | (simp [errW_none, errW_some] <;> rfl) | (simp [*, errW_none, errW_some] <;> rfl), by repeat (first | (with_reducible first | exact HI0.out | apply IsS50.alloc | apply IsS50.drewN | apply IsS50.drew | apply IsS50.set_0 | apply IsS50.set_1) | exact HI0.out), by repeat (first | (with_reducible first | exact HB.out | apply below_alloc | apply pw_below_drewN | apply below_drew1 | refine below_set ?_ (IsS50.ge HI0.out)) | exact HB.out), by repeat (first | (with_reducible first | exact HK.out | apply KeepBut.set_ | apply keep_drewN | apply keep_drew | apply keep_alloc) | exact HK.out)⟩)
    ·rw [if_neg c4] at H; (exact absurd H (by simp))
   ·rw [if_neg c3] at H; have c3b0 : decide (x1001_1 < (s0_0.size : Int)) = false := decide_eq_false c3; clear c3; simp only [Option.some.injEq, Prod.mk.injEq] at H; obtain ⟨rfl, rfl, rfl⟩ := H; obtain ⟨HGz12, hgz12⟩ := HI0.out; have hcz12_0 := cellS50_0 HGz12; have hcz12_1 := cellS50_1 HGz12; have hfz12_0 := blk_frozen HGz12 0; have hfz12_1 := blk_frozen HGz12 1; clear HGz12 hgz12; (go_wp2); (repeat (go_quiet (fail); try go_wp2)); (go_ret); (exact ⟨by first | rfl | (simp [errW_none, errW_some] <;> rfl) | (simp [*, errW_none, errW_some] <;> rfl), by repeat (first | (with_reducible first | exact HI0.out | apply IsS50.alloc | apply IsS50.drewN | apply IsS50.drew | apply IsS50.set_0 | apply IsS50.set_1) | exact HI0.out), by repeat (first | (with_reducible first | exact HB.out | apply below_alloc | apply pw_below_drewN | apply below_drew1 | refine below_set ?_ (IsS50.ge HI0.out)) | exact HB.out), by repeat (first | (with_reducible first | exact HK.out | apply KeepBut.set_ | apply keep_drewN | apply keep_drew | apply keep_alloc) | exact HK.out)⟩)
end Go.Proofs.YtmpenkinheneoaaDoor.Q
namespace Go.Proofs.YtmpenkinheneoaaDoor.Q
open Go.RowKit Go.Proofs.YtmpenkinheneoaaDoorW.PrintWords Go.Proofs.YtmpenkinheneoaaDoorW.PrintLast Go.Proofs.YtmpenkinheneoaaDoorW.PrintMore
attribute [local go_sem] max2_int min2_int max_two min_two max_three min_three max_four min_four   -- for this text's walks alone
set_option linter.unusedVariables false
set_option linter.unusedSimpArgs false
-- HAND: function 73, by this session's own text
def utf8_RuneCountInString.f (a0 : ByteArray) : Option (Int) := if a0.size ≤ 140737488355328 then some (Lib.runeCount a0 : Int) else none
theorem utf8_RuneCountInString.calls (a0 : ByteArray) (r : Int) (w : World) (h : utf8_RuneCountInString.f a0 = some r) :
  Calls Tryd.prog 73 #[.string a0] w fun e w' => e = .returned (.int .i64 r) ∧ Below w.heap.size w w' := by
 unfold utf8_RuneCountInString.f at h
 split at h
 ·rename_i hs
  obtain rfl := Option.some.inj h
  refine (Tryd.utf8_RuneCountInString a0 w (by omega)).mono ?_
  rintro e w' ⟨he, pos, rfl⟩
  exact ⟨he, (Below.refl _ w).alloc (Nat.le_refl _) _⟩
 ·cases h
end Go.Proofs.YtmpenkinheneoaaDoor.Q
