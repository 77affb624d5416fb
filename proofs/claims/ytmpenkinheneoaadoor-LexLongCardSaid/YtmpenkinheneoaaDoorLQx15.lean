/- Texts of the claim: Qx15, Qx16. -/
import Derived.Test.YtmpenkinheneoaaDoorLQx0
import Derived.Test.YtmpenkinheneoaaDoorLQx5
import Derived.Test.YtmpenkinheneoaaDoorLQx10
namespace Go.Proofs.YtmpenkinheneoaaDoor.Q
open Go.RowKit Go.Proofs.YtmpenkinheneoaaDoorW.PrintWords Go.Proofs.YtmpenkinheneoaaDoorW.PrintLast Go.Proofs.YtmpenkinheneoaaDoorW.PrintMore
attribute [local go_sem] max2_int min2_int max_two min_two max_three min_three max_four min_four   -- for this text's walks alone
set_option linter.unusedVariables false
set_option linter.unusedSimpArgs false
-- HAND: function 42, by this session's own text
def lex_reader_number.fEnd (k : Nat) (s : ByteArray) (p : Int) : Option Int := (lex_reader_digits.f k s p).bind fun d => (lex_reader_has.f s d.2.2 (⟨#[46]⟩ : ByteArray)).bind fun h => if h.1 = true then ((lex_reader_digits.f k s (wrap64 (d.2.2 + 1))).bind fun d2 => if d2.1 = true then some d2.2.2 else some d.2.2) else some d.2.2
def lex_reader_number.fSign (s : ByteArray) (q : Int) : Option Int := (lex_reader_has.f s q (⟨#[43]⟩ : ByteArray)).bind fun a => if a.1 = true then some (wrap64 (q + 1)) else (lex_reader_has.f s q (⟨#[45]⟩ : ByteArray)).bind fun b => if b.1 = true then some (wrap64 (q + 1)) else some q
def lex_reader_number.fExp (k : Nat) (s : ByteArray) (e : Int) : Option Int := (lex_reader_has.f s e (⟨#[101]⟩ : ByteArray)).bind fun a => (if a.1 = true then some true else (lex_reader_has.f s e (⟨#[69]⟩ : ByteArray)).bind fun b => some b.1).bind fun x => if x = true then ((lex_reader_number.fSign s (wrap64 (e + 1))).bind fun q => (lex_reader_digits.f k s q).bind fun d => if d.1 = true then some d.2.2 else some e) else some e
def lex_reader_number.f (k : Nat) (s : ByteArray) (p : Int) : Option (Except Int (Bool × Int)) := (lex_reader_number.fEnd k s p).bind fun e => if e = p then some (.ok (false, e)) else (lex_reader_number.fExp k s e).bind fun e2 => if 0 ≤ e2 then (if e2 ≤ (s.size : Int) then (if e2 < (s.size : Int) then ((lex_starts.f k ((Lib.decodeGo (s.extract e2.toNat s.size)).1 : Int)).bind fun b => if b = true then some (.error e2) else some (.ok (true, e2))) else some (.ok (true, e2))) else none) else none
theorem digits_same : ∀ (k : Nat) (x : Int) (s : ByteArray) (p : Int) {b : Bool} {s' : ByteArray} {p' : Int}, lex_reader_digits.l0 k x s p = some (b, s', p') → s' = s := by
 intro k
 induction k with
 | zero => intro x s p b s' p' h; simp [lex_reader_digits.l0] at h
 | succ k ih =>
  intro x s p b s' p' h
  simp only [lex_reader_digits.l0] at h
  repeat' split at h
  all_goals first | exact ih _ _ _ h | (simp only [Option.some.injEq, Prod.mk.injEq] at h; exact h.2.1.symm) | cases h
set_option maxHeartbeats 8000000 in
set_option maxRecDepth 100000 in
theorem lex_reader_number.calls (k g : Nat) (s : ByteArray) (p : Int) (r : Except Int (Bool × Int)) (w0 w : World) (hT : Lib.Utf8Tabs 2 3 w0) (hI : IsS50 w0 w g s p) (hB : Below w0.heap.size w0 w) (h : lex_reader_number.f k s p = some r) :
  Calls Tryd.prog 42 #[.pointer (some ⟨g, 0, none⟩)] w fun e w' => Below w0.heap.size w0 w' ∧ KeepBut w w' g none ∧ HLex.outcome r (fun x => e = .returned (.bool x.1) ∧ IsS50 w0 w' g s x.2) (fun q => e = .panicked [wrongW q 5]) := by
 have HT := Aside0.mk hT
 have HW0 := Aside0.mk hB.size
 have HG0 := Aside0.mk (IsS50.lt hI)
 have HI0 := Aside0.mk hI
 have HK := Aside0.mk (KeepBut.refl w g none)
 clear hI hT
 have HB := Aside0.mk hB
 clear hB
 unfold lex_reader_number.f at h
 obtain ⟨E, hE, h⟩ := Option.bind_eq_some_iff.mp h
 unfold lex_reader_number.fEnd at hE
 obtain ⟨⟨b0, s0, e0⟩, D0, hE⟩ := Option.bind_eq_some_iff.mp hE
 have := digits_same _ _ _ _ D0
 subst this
 have AD0 := Aside0.mk D0
 clear D0
 obtain ⟨⟨b1, s1, e1⟩, D1, hE⟩ := Option.bind_eq_some_iff.mp hE
 obtain ⟨rfl, rfl⟩ := has_same D1
 have AD1 := Aside0.mk D1
 clear D1
 have HH := Aside0.mk h
 have HE := Aside0.mk hE
 clear h hE
 obtain ⟨HG, hg⟩ := HI0.out; have hc0 := cellS50_0 HG; have hc1 := cellS50_1 HG; have hf0 := blk_frozen HG 0; have hf1 := blk_frozen HG 1; clear HG hg
 go_enter Tryd.func42, Tryd.ntmps42
 go_upto_if 18 with (first | (go_at_call 57; (with_reducible refine (lex_reader_digits.calls k g s1 p b0 s1 e1 w0 _ (by repeat (first | (with_reducible first | exact HI0.out | apply IsS50.alloc | apply IsS50.drewN | apply IsS50.drew | apply IsS50.set_0 | apply IsS50.set_1) | exact HI0.out)) (by repeat (first | (with_reducible first | exact HB.out | apply below_alloc | apply pw_below_drewN | apply below_drew1 | refine below_set ?_ (IsS50.ge HI0.out)) | exact HB.out)) AD0.out).mono ?_); rintro e w1 ⟨rfl, hI1, hB1, hK1⟩; have n1_ := Aside0.mk hI1; have n2_ := Aside0.mk hB1; have n3_ := Aside0.mk (KeepBut.trans (by repeat (first | (with_reducible first | exact HK.out | apply KeepBut.set_ | apply keep_drewN | apply keep_drew | apply keep_alloc) | exact HK.out)) hK1 (by simp)); clear HI0 HB HK hI1 hB1 hK1 hc0 hc1 hf0 hf1; have HI0 := n1_; have HB := n2_; have HK := n3_; clear n1_ n2_ n3_; obtain ⟨HG, hg⟩ := HI0.out; have hc0 := cellS50_0 HG; have hc1 := cellS50_1 HG; have hf0 := blk_frozen HG 0; have hf1 := blk_frozen HG 1; clear HG hg) | (go_at_call 23; (with_reducible refine (lex_reader_has.calls g s1 e1 (⟨#[46]⟩ : ByteArray) b1 s1 e1 w0 _ (by repeat (first | (with_reducible first | exact HI0.out | apply IsS50.alloc | apply IsS50.drewN | apply IsS50.drew | apply IsS50.set_0 | apply IsS50.set_1) | exact HI0.out)) (by repeat (first | (with_reducible first | exact HB.out | apply below_alloc | apply pw_below_drewN | apply below_drew1 | refine below_set ?_ (IsS50.ge HI0.out)) | exact HB.out)) AD1.out).mono ?_); rintro e w1 ⟨rfl, hI1, hB1, hK1⟩; have n1_ := Aside0.mk hI1; have n2_ := Aside0.mk hB1; have n3_ := Aside0.mk (KeepBut.trans (by repeat (first | (with_reducible first | exact HK.out | apply KeepBut.set_ | apply keep_drewN | apply keep_drew | apply keep_alloc) | exact HK.out)) hK1 (by simp)); clear HI0 HB HK hI1 hB1 hK1 hc0 hc1 hf0 hf1; have HI0 := n1_; have HB := n2_; have HK := n3_; clear n1_ n2_ n3_; obtain ⟨HG, hg⟩ := HI0.out; have hc0 := cellS50_0 HG; have hc1 := cellS50_1 HG; have hf0 := blk_frozen HG 0; have hf1 := blk_frozen HG 1; clear HG hg))
 go_cut [4] (fun v4 wc => ∃ q : Int, v4 = .int .i64 E ∧ Aside0 (IsS50 w0 wc g s1 q) ∧ Aside0 (KeepBut w wc g none) ∧ Aside0 (Below w0.heap.size w0 wc))
 case first =>
  have hE := HE.out
  clear HE HH
  cases b1
  ·replace hE := (if_neg (by simp)).symm.trans hE
   obtain rfl := Option.some.inj hE
   go_wp2_with (fail)
   go_meet
   case rel => exact ⟨_, rfl, ⟨by repeat (first | (with_reducible first | exact HI0.out | apply IsS50.alloc | apply IsS50.drewN | apply IsS50.drew | apply IsS50.set_0 | apply IsS50.set_1) | exact HI0.out)⟩, ⟨by repeat (first | (with_reducible first | exact HK.out | apply KeepBut.set_ | apply keep_drewN | apply keep_drew | apply keep_alloc) | exact HK.out)⟩, ⟨by repeat (first | (with_reducible first | exact HB.out | apply below_alloc | apply pw_below_drewN | apply below_drew1 | refine below_set ?_ (IsS50.ge HI0.out)) | exact HB.out)⟩⟩
  ·replace hE := (if_pos rfl).symm.trans hE
   obtain ⟨⟨b2, s2, e2⟩, D2, hE⟩ := Option.bind_eq_some_iff.mp hE
   have := digits_same _ _ _ _ D2
   subst this
   have AD2 := Aside0.mk D2
   clear D2
   cases b2
   ·replace hE := (if_neg (by simp)).symm.trans hE
    obtain rfl := Option.some.inj hE
    go_wp2_with (first | (go_at_call 57; (with_reducible refine (lex_reader_digits.calls k g s2 (wrap64 (e1 + 1)) false s2 e2 w0 _ (by repeat (first | (with_reducible first | exact HI0.out | apply IsS50.alloc | apply IsS50.drewN | apply IsS50.drew | apply IsS50.set_0 | apply IsS50.set_1) | exact HI0.out)) (by repeat (first | (with_reducible first | exact HB.out | apply below_alloc | apply pw_below_drewN | apply below_drew1 | refine below_set ?_ (IsS50.ge HI0.out)) | exact HB.out)) AD2.out).mono ?_); rintro e w1 ⟨rfl, hI1, hB1, hK1⟩; have n1_ := Aside0.mk hI1; have n2_ := Aside0.mk hB1; have n3_ := Aside0.mk (KeepBut.trans (by repeat (first | (with_reducible first | exact HK.out | apply KeepBut.set_ | apply keep_drewN | apply keep_drew | apply keep_alloc) | exact HK.out)) hK1 (by simp)); clear HI0 HB HK hI1 hB1 hK1 hc0 hc1 hf0 hf1; have HI0 := n1_; have HB := n2_; have HK := n3_; clear n1_ n2_ n3_; obtain ⟨HG, hg⟩ := HI0.out; have hc0 := cellS50_0 HG; have hc1 := cellS50_1 HG; have hf0 := blk_frozen HG 0; have hf1 := blk_frozen HG 1; clear HG hg))
    go_meet
    case rel => exact ⟨_, rfl, ⟨by repeat (first | (with_reducible first | exact HI0.out | apply IsS50.alloc | apply IsS50.drewN | apply IsS50.drew | apply IsS50.set_0 | apply IsS50.set_1) | exact HI0.out)⟩, ⟨by repeat (first | (with_reducible first | exact HK.out | apply KeepBut.set_ | apply keep_drewN | apply keep_drew | apply keep_alloc) | exact HK.out)⟩, ⟨by repeat (first | (with_reducible first | exact HB.out | apply below_alloc | apply pw_below_drewN | apply below_drew1 | refine below_set ?_ (IsS50.ge HI0.out)) | exact HB.out)⟩⟩
   ·replace hE := (if_pos rfl).symm.trans hE
    obtain rfl := Option.some.inj hE
    go_wp2_with (first | (go_at_call 57; (with_reducible refine (lex_reader_digits.calls k g s2 (wrap64 (e1 + 1)) true s2 e2 w0 _ (by repeat (first | (with_reducible first | exact HI0.out | apply IsS50.alloc | apply IsS50.drewN | apply IsS50.drew | apply IsS50.set_0 | apply IsS50.set_1) | exact HI0.out)) (by repeat (first | (with_reducible first | exact HB.out | apply below_alloc | apply pw_below_drewN | apply below_drew1 | refine below_set ?_ (IsS50.ge HI0.out)) | exact HB.out)) AD2.out).mono ?_); rintro e w1 ⟨rfl, hI1, hB1, hK1⟩; have n1_ := Aside0.mk hI1; have n2_ := Aside0.mk hB1; have n3_ := Aside0.mk (KeepBut.trans (by repeat (first | (with_reducible first | exact HK.out | apply KeepBut.set_ | apply keep_drewN | apply keep_drew | apply keep_alloc) | exact HK.out)) hK1 (by simp)); clear HI0 HB HK hI1 hB1 hK1 hc0 hc1 hf0 hf1; have HI0 := n1_; have HB := n2_; have HK := n3_; clear n1_ n2_ n3_; obtain ⟨HG, hg⟩ := HI0.out; have hc0 := cellS50_0 HG; have hc1 := cellS50_1 HG; have hf0 := blk_frozen HG 0; have hf1 := blk_frozen HG 1; clear HG hg))
    go_meet
    case rel => exact ⟨_, rfl, ⟨by repeat (first | (with_reducible first | exact HI0.out | apply IsS50.alloc | apply IsS50.drewN | apply IsS50.drew | apply IsS50.set_0 | apply IsS50.set_1) | exact HI0.out)⟩, ⟨by repeat (first | (with_reducible first | exact HK.out | apply KeepBut.set_ | apply keep_drewN | apply keep_drew | apply keep_alloc) | exact HK.out)⟩, ⟨by repeat (first | (with_reducible first | exact HB.out | apply below_alloc | apply pw_below_drewN | apply below_drew1 | refine below_set ?_ (IsS50.ge HI0.out)) | exact HB.out)⟩⟩
 case rest =>
  obtain ⟨q, rfl, HI0, HK, HB⟩ := hcut
  have h := HH.out
  clear HH HE hc0 hc1 hf0 hf1
  obtain ⟨HG, hg⟩ := HI0.out; have hc0 := cellS50_0 HG; have hc1 := cellS50_1 HG; have hf0 := blk_frozen HG 0; have hf1 := blk_frozen HG 1; clear HG hg
  by_cases c1 : E = p
  ·replace h := (if_pos c1).symm.trans h
   have c1b : (E == p) = true := beq_iff_eq.2 c1
   clear c1
   obtain rfl := Option.some.inj h
   go_wp2
   go_ret
   exact ⟨by repeat (first | (with_reducible first | exact HB.out | apply below_alloc | apply pw_below_drewN | apply below_drew1 | refine below_set ?_ (IsS50.ge HI0.out)) | exact HB.out), by repeat (first | (with_reducible first | exact HK.out | apply KeepBut.set_ | apply keep_drewN | apply keep_drew | apply keep_alloc) | exact HK.out), rfl, by repeat (first | (with_reducible first | exact HI0.out | apply IsS50.alloc | apply IsS50.drewN | apply IsS50.drew | apply IsS50.set_0 | apply IsS50.set_1) | exact HI0.out)⟩
  ·replace h := (if_neg c1).symm.trans h
   have c1b : (E == p) = false := beq_eq_false_iff_ne.2 c1
   clear c1
   obtain ⟨E2, hX, h⟩ := Option.bind_eq_some_iff.mp h
   have HH := Aside0.mk h
   clear h
   unfold lex_reader_number.fExp at hX
   obtain ⟨⟨a1, s3, p3⟩, X1, hX⟩ := Option.bind_eq_some_iff.mp hX
   obtain ⟨rfl, rfl⟩ := has_same X1
   have AX1 := Aside0.mk X1
   clear X1
   obtain ⟨x, X2, hX⟩ := Option.bind_eq_some_iff.mp hX
   have HX := Aside0.mk hX
   have AX2 := Aside0.mk X2
   clear hX X2
   go_upto_region 11 with (fail)
   go_cut [44] (fun v44 wc => v44 = .bool x ∧ Aside0 (IsS50 w0 wc g s3 p3) ∧ Aside0 (KeepBut w wc g none) ∧ Aside0 (Below w0.heap.size w0 wc))
   case first =>
    have X2 := AX2.out
    clear AX2 HX HH
    cases a1
    ·replace X2 := (if_neg (by simp)).symm.trans X2
     obtain ⟨⟨b3, s4, p4⟩, X3, X4⟩ := Option.bind_eq_some_iff.mp X2
     clear X2
     obtain ⟨rfl, rfl⟩ := has_same X3
     have AX3 := Aside0.mk X3
     clear X3
     obtain rfl := Option.some.inj X4
     go_wp2_with (first | (go_at_call 23; (with_reducible refine (lex_reader_has.calls g s4 p4 (⟨#[101]⟩ : ByteArray) false s4 p4 w0 _ (by repeat (first | (with_reducible first | exact HI0.out | apply IsS50.alloc | apply IsS50.drewN | apply IsS50.drew | apply IsS50.set_0 | apply IsS50.set_1) | exact HI0.out)) (by repeat (first | (with_reducible first | exact HB.out | apply below_alloc | apply pw_below_drewN | apply below_drew1 | refine below_set ?_ (IsS50.ge HI0.out)) | exact HB.out)) AX1.out).mono ?_); rintro e w1 ⟨rfl, hI1, hB1, hK1⟩; have n1_ := Aside0.mk hI1; have n2_ := Aside0.mk hB1; have n3_ := Aside0.mk (KeepBut.trans (by repeat (first | (with_reducible first | exact HK.out | apply KeepBut.set_ | apply keep_drewN | apply keep_drew | apply keep_alloc) | exact HK.out)) hK1 (by simp)); clear HI0 HB HK hI1 hB1 hK1 hc0 hc1 hf0 hf1; have HI0 := n1_; have HB := n2_; have HK := n3_; clear n1_ n2_ n3_; obtain ⟨HG, hg⟩ := HI0.out; have hc0 := cellS50_0 HG; have hc1 := cellS50_1 HG; have hf0 := blk_frozen HG 0; have hf1 := blk_frozen HG 1; clear HG hg) | (go_at_call 23; (with_reducible refine (lex_reader_has.calls g s4 p4 (⟨#[69]⟩ : ByteArray) b3 s4 p4 w0 _ (by repeat (first | (with_reducible first | exact HI0.out | apply IsS50.alloc | apply IsS50.drewN | apply IsS50.drew | apply IsS50.set_0 | apply IsS50.set_1) | exact HI0.out)) (by repeat (first | (with_reducible first | exact HB.out | apply below_alloc | apply pw_below_drewN | apply below_drew1 | refine below_set ?_ (IsS50.ge HI0.out)) | exact HB.out)) AX3.out).mono ?_); rintro e w1 ⟨rfl, hI1, hB1, hK1⟩; have n1_ := Aside0.mk hI1; have n2_ := Aside0.mk hB1; have n3_ := Aside0.mk (KeepBut.trans (by repeat (first | (with_reducible first | exact HK.out | apply KeepBut.set_ | apply keep_drewN | apply keep_drew | apply keep_alloc) | exact HK.out)) hK1 (by simp)); clear HI0 HB HK hI1 hB1 hK1 hc0 hc1 hf0 hf1; have HI0 := n1_; have HB := n2_; have HK := n3_; clear n1_ n2_ n3_; obtain ⟨HG, hg⟩ := HI0.out; have hc0 := cellS50_0 HG; have hc1 := cellS50_1 HG; have hf0 := blk_frozen HG 0; have hf1 := blk_frozen HG 1; clear HG hg))
     go_meet
     case rel => exact ⟨rfl, ⟨by repeat (first | (with_reducible first | exact HI0.out | apply IsS50.alloc | apply IsS50.drewN | apply IsS50.drew | apply IsS50.set_0 | apply IsS50.set_1) | exact HI0.out)⟩, ⟨by repeat (first | (with_reducible first | exact HK.out | apply KeepBut.set_ | apply keep_drewN | apply keep_drew | apply keep_alloc) | exact HK.out)⟩, ⟨by repeat (first | (with_reducible first | exact HB.out | apply below_alloc | apply pw_below_drewN | apply below_drew1 | refine below_set ?_ (IsS50.ge HI0.out)) | exact HB.out)⟩⟩
    ·replace X2 := (if_pos rfl).symm.trans X2
     obtain rfl := Option.some.inj X2
     go_wp2_with (first | (go_at_call 23; (with_reducible refine (lex_reader_has.calls g s3 p3 (⟨#[101]⟩ : ByteArray) true s3 p3 w0 _ (by repeat (first | (with_reducible first | exact HI0.out | apply IsS50.alloc | apply IsS50.drewN | apply IsS50.drew | apply IsS50.set_0 | apply IsS50.set_1) | exact HI0.out)) (by repeat (first | (with_reducible first | exact HB.out | apply below_alloc | apply pw_below_drewN | apply below_drew1 | refine below_set ?_ (IsS50.ge HI0.out)) | exact HB.out)) AX1.out).mono ?_); rintro e w1 ⟨rfl, hI1, hB1, hK1⟩; have n1_ := Aside0.mk hI1; have n2_ := Aside0.mk hB1; have n3_ := Aside0.mk (KeepBut.trans (by repeat (first | (with_reducible first | exact HK.out | apply KeepBut.set_ | apply keep_drewN | apply keep_drew | apply keep_alloc) | exact HK.out)) hK1 (by simp)); clear HI0 HB HK hI1 hB1 hK1 hc0 hc1 hf0 hf1; have HI0 := n1_; have HB := n2_; have HK := n3_; clear n1_ n2_ n3_; obtain ⟨HG, hg⟩ := HI0.out; have hc0 := cellS50_0 HG; have hc1 := cellS50_1 HG; have hf0 := blk_frozen HG 0; have hf1 := blk_frozen HG 1; clear HG hg))
     go_meet
     case rel => exact ⟨rfl, ⟨by repeat (first | (with_reducible first | exact HI0.out | apply IsS50.alloc | apply IsS50.drewN | apply IsS50.drew | apply IsS50.set_0 | apply IsS50.set_1) | exact HI0.out)⟩, ⟨by repeat (first | (with_reducible first | exact HK.out | apply KeepBut.set_ | apply keep_drewN | apply keep_drew | apply keep_alloc) | exact HK.out)⟩, ⟨by repeat (first | (with_reducible first | exact HB.out | apply below_alloc | apply pw_below_drewN | apply below_drew1 | refine below_set ?_ (IsS50.ge HI0.out)) | exact HB.out)⟩⟩
   case rest =>
    obtain ⟨rfl, HI0, HK, HB⟩ := hcut
    clear hc0 hc1 hf0 hf1 AX1 AX2
    obtain ⟨HG, hg⟩ := HI0.out; have hc0 := cellS50_0 HG; have hc1 := cellS50_1 HG; have hf0 := blk_frozen HG 0; have hf1 := blk_frozen HG 1; clear HG hg
    go_upto_if 44 with (fail)
    go_cut [4] (fun v4 wc => ∃ q : Int, v4 = .int .i64 E2 ∧ Aside0 (IsS50 w0 wc g s3 q) ∧ Aside0 (KeepBut w wc g none) ∧ Aside0 (Below w0.heap.size w0 wc))
    case first =>
     have hX := HX.out
     clear HX HH
     cases x
     ·replace hX := (if_neg (by simp)).symm.trans hX
      obtain rfl := Option.some.inj hX
      go_wp2_with (fail)
      go_meet
      case rel => exact ⟨_, rfl, ⟨by repeat (first | (with_reducible first | exact HI0.out | apply IsS50.alloc | apply IsS50.drewN | apply IsS50.drew | apply IsS50.set_0 | apply IsS50.set_1) | exact HI0.out)⟩, ⟨by repeat (first | (with_reducible first | exact HK.out | apply KeepBut.set_ | apply keep_drewN | apply keep_drew | apply keep_alloc) | exact HK.out)⟩, ⟨by repeat (first | (with_reducible first | exact HB.out | apply below_alloc | apply pw_below_drewN | apply below_drew1 | refine below_set ?_ (IsS50.ge HI0.out)) | exact HB.out)⟩⟩
     ·replace hX := (if_pos rfl).symm.trans hX
      obtain ⟨q2, Y, hX2⟩ := Option.bind_eq_some_iff.mp hX
      obtain ⟨⟨b5, s5, e5⟩, Y5, hX3⟩ := Option.bind_eq_some_iff.mp hX2
      have := digits_same _ _ _ _ Y5
      subst this
      have AY5 := Aside0.mk Y5
      unfold lex_reader_number.fSign at Y
      obtain ⟨⟨b6, s6, e6⟩, Y6, Z⟩ := Option.bind_eq_some_iff.mp Y
      obtain ⟨rfl, rfl⟩ := has_same Y6
      have AY6 := Aside0.mk Y6
      have AZ := Aside0.mk Z
      have AX := Aside0.mk hX3
      clear hX hX2 hX3 Y Y5 Y6 Z
      cases b6
      ·have Z := (if_neg (by simp)).symm.trans AZ.out
       clear AZ
       obtain ⟨⟨b7, s7, e7⟩, Y7, Z2⟩ := Option.bind_eq_some_iff.mp Z
       obtain ⟨rfl, rfl⟩ := has_same Y7
       have AY7 := Aside0.mk Y7
       clear Z Y7
       cases b7
       ·replace Z2 := (if_neg (by simp)).symm.trans Z2
        obtain rfl := Option.some.inj Z2
        cases b5
        ·have hX3 := (if_neg (by simp)).symm.trans AX.out
         clear AX
         obtain rfl := Option.some.inj hX3
         go_wp2_with (first | (go_at_call 23; (with_reducible refine (lex_reader_has.calls g s7 (wrap64 (p3 + 1)) (⟨#[43]⟩ : ByteArray) false s7 (wrap64 (p3 + 1)) w0 _ (by repeat (first | (with_reducible first | exact HI0.out | apply IsS50.alloc | apply IsS50.drewN | apply IsS50.drew | apply IsS50.set_0 | apply IsS50.set_1) | exact HI0.out)) (by repeat (first | (with_reducible first | exact HB.out | apply below_alloc | apply pw_below_drewN | apply below_drew1 | refine below_set ?_ (IsS50.ge HI0.out)) | exact HB.out)) AY6.out).mono ?_); rintro e w1 ⟨rfl, hI1, hB1, hK1⟩; have n1_ := Aside0.mk hI1; have n2_ := Aside0.mk hB1; have n3_ := Aside0.mk (KeepBut.trans (by repeat (first | (with_reducible first | exact HK.out | apply KeepBut.set_ | apply keep_drewN | apply keep_drew | apply keep_alloc) | exact HK.out)) hK1 (by simp)); clear HI0 HB HK hI1 hB1 hK1 hc0 hc1 hf0 hf1; have HI0 := n1_; have HB := n2_; have HK := n3_; clear n1_ n2_ n3_; obtain ⟨HG, hg⟩ := HI0.out; have hc0 := cellS50_0 HG; have hc1 := cellS50_1 HG; have hf0 := blk_frozen HG 0; have hf1 := blk_frozen HG 1; clear HG hg) | (go_at_call 23; (with_reducible refine (lex_reader_has.calls g s7 (wrap64 (p3 + 1)) (⟨#[45]⟩ : ByteArray) false s7 (wrap64 (p3 + 1)) w0 _ (by repeat (first | (with_reducible first | exact HI0.out | apply IsS50.alloc | apply IsS50.drewN | apply IsS50.drew | apply IsS50.set_0 | apply IsS50.set_1) | exact HI0.out)) (by repeat (first | (with_reducible first | exact HB.out | apply below_alloc | apply pw_below_drewN | apply below_drew1 | refine below_set ?_ (IsS50.ge HI0.out)) | exact HB.out)) AY7.out).mono ?_); rintro e w1 ⟨rfl, hI1, hB1, hK1⟩; have n1_ := Aside0.mk hI1; have n2_ := Aside0.mk hB1; have n3_ := Aside0.mk (KeepBut.trans (by repeat (first | (with_reducible first | exact HK.out | apply KeepBut.set_ | apply keep_drewN | apply keep_drew | apply keep_alloc) | exact HK.out)) hK1 (by simp)); clear HI0 HB HK hI1 hB1 hK1 hc0 hc1 hf0 hf1; have HI0 := n1_; have HB := n2_; have HK := n3_; clear n1_ n2_ n3_; obtain ⟨HG, hg⟩ := HI0.out; have hc0 := cellS50_0 HG; have hc1 := cellS50_1 HG; have hf0 := blk_frozen HG 0; have hf1 := blk_frozen HG 1; clear HG hg) | (go_at_call 57; (with_reducible refine (lex_reader_digits.calls k g s7 (wrap64 (p3 + 1)) false s7 e5 w0 _ (by repeat (first | (with_reducible first | exact HI0.out | apply IsS50.alloc | apply IsS50.drewN | apply IsS50.drew | apply IsS50.set_0 | apply IsS50.set_1) | exact HI0.out)) (by repeat (first | (with_reducible first | exact HB.out | apply below_alloc | apply pw_below_drewN | apply below_drew1 | refine below_set ?_ (IsS50.ge HI0.out)) | exact HB.out)) AY5.out).mono ?_); rintro e w1 ⟨rfl, hI1, hB1, hK1⟩; have n1_ := Aside0.mk hI1; have n2_ := Aside0.mk hB1; have n3_ := Aside0.mk (KeepBut.trans (by repeat (first | (with_reducible first | exact HK.out | apply KeepBut.set_ | apply keep_drewN | apply keep_drew | apply keep_alloc) | exact HK.out)) hK1 (by simp)); clear HI0 HB HK hI1 hB1 hK1 hc0 hc1 hf0 hf1; have HI0 := n1_; have HB := n2_; have HK := n3_; clear n1_ n2_ n3_; obtain ⟨HG, hg⟩ := HI0.out; have hc0 := cellS50_0 HG; have hc1 := cellS50_1 HG; have hf0 := blk_frozen HG 0; have hf1 := blk_frozen HG 1; clear HG hg))
         go_meet
         case rel => exact ⟨_, rfl, ⟨by repeat (first | (with_reducible first | exact HI0.out | apply IsS50.alloc | apply IsS50.drewN | apply IsS50.drew | apply IsS50.set_0 | apply IsS50.set_1) | exact HI0.out)⟩, ⟨by repeat (first | (with_reducible first | exact HK.out | apply KeepBut.set_ | apply keep_drewN | apply keep_drew | apply keep_alloc) | exact HK.out)⟩, ⟨by repeat (first | (with_reducible first | exact HB.out | apply below_alloc | apply pw_below_drewN | apply below_drew1 | refine below_set ?_ (IsS50.ge HI0.out)) | exact HB.out)⟩⟩
        ·have hX3 := (if_pos rfl).symm.trans AX.out
         clear AX
         obtain rfl := Option.some.inj hX3
         go_wp2_with (first | (go_at_call 23; (with_reducible refine (lex_reader_has.calls g s7 (wrap64 (p3 + 1)) (⟨#[43]⟩ : ByteArray) false s7 (wrap64 (p3 + 1)) w0 _ (by repeat (first | (with_reducible first | exact HI0.out | apply IsS50.alloc | apply IsS50.drewN | apply IsS50.drew | apply IsS50.set_0 | apply IsS50.set_1) | exact HI0.out)) (by repeat (first | (with_reducible first | exact HB.out | apply below_alloc | apply pw_below_drewN | apply below_drew1 | refine below_set ?_ (IsS50.ge HI0.out)) | exact HB.out)) AY6.out).mono ?_); rintro e w1 ⟨rfl, hI1, hB1, hK1⟩; have n1_ := Aside0.mk hI1; have n2_ := Aside0.mk hB1; have n3_ := Aside0.mk (KeepBut.trans (by repeat (first | (with_reducible first | exact HK.out | apply KeepBut.set_ | apply keep_drewN | apply keep_drew | apply keep_alloc) | exact HK.out)) hK1 (by simp)); clear HI0 HB HK hI1 hB1 hK1 hc0 hc1 hf0 hf1; have HI0 := n1_; have HB := n2_; have HK := n3_; clear n1_ n2_ n3_; obtain ⟨HG, hg⟩ := HI0.out; have hc0 := cellS50_0 HG; have hc1 := cellS50_1 HG; have hf0 := blk_frozen HG 0; have hf1 := blk_frozen HG 1; clear HG hg) | (go_at_call 23; (with_reducible refine (lex_reader_has.calls g s7 (wrap64 (p3 + 1)) (⟨#[45]⟩ : ByteArray) false s7 (wrap64 (p3 + 1)) w0 _ (by repeat (first | (with_reducible first | exact HI0.out | apply IsS50.alloc | apply IsS50.drewN | apply IsS50.drew | apply IsS50.set_0 | apply IsS50.set_1) | exact HI0.out)) (by repeat (first | (with_reducible first | exact HB.out | apply below_alloc | apply pw_below_drewN | apply below_drew1 | refine below_set ?_ (IsS50.ge HI0.out)) | exact HB.out)) AY7.out).mono ?_); rintro e w1 ⟨rfl, hI1, hB1, hK1⟩; have n1_ := Aside0.mk hI1; have n2_ := Aside0.mk hB1; have n3_ := Aside0.mk (KeepBut.trans (by repeat (first | (with_reducible first | exact HK.out | apply KeepBut.set_ | apply keep_drewN | apply keep_drew | apply keep_alloc) | exact HK.out)) hK1 (by simp)); clear HI0 HB HK hI1 hB1 hK1 hc0 hc1 hf0 hf1; have HI0 := n1_; have HB := n2_; have HK := n3_; clear n1_ n2_ n3_; obtain ⟨HG, hg⟩ := HI0.out; have hc0 := cellS50_0 HG; have hc1 := cellS50_1 HG; have hf0 := blk_frozen HG 0; have hf1 := blk_frozen HG 1; clear HG hg) | (go_at_call 57; (with_reducible refine (lex_reader_digits.calls k g s7 (wrap64 (p3 + 1)) true s7 e5 w0 _ (by repeat (first | (with_reducible first | exact HI0.out | apply IsS50.alloc | apply IsS50.drewN | apply IsS50.drew | apply IsS50.set_0 | apply IsS50.set_1) | exact HI0.out)) (by repeat (first | (with_reducible first | exact HB.out | apply below_alloc | apply pw_below_drewN | apply below_drew1 | refine below_set ?_ (IsS50.ge HI0.out)) | exact HB.out)) AY5.out).mono ?_); rintro e w1 ⟨rfl, hI1, hB1, hK1⟩; have n1_ := Aside0.mk hI1; have n2_ := Aside0.mk hB1; have n3_ := Aside0.mk (KeepBut.trans (by repeat (first | (with_reducible first | exact HK.out | apply KeepBut.set_ | apply keep_drewN | apply keep_drew | apply keep_alloc) | exact HK.out)) hK1 (by simp)); clear HI0 HB HK hI1 hB1 hK1 hc0 hc1 hf0 hf1; have HI0 := n1_; have HB := n2_; have HK := n3_; clear n1_ n2_ n3_; obtain ⟨HG, hg⟩ := HI0.out; have hc0 := cellS50_0 HG; have hc1 := cellS50_1 HG; have hf0 := blk_frozen HG 0; have hf1 := blk_frozen HG 1; clear HG hg))
         go_meet
         case rel => exact ⟨_, rfl, ⟨by repeat (first | (with_reducible first | exact HI0.out | apply IsS50.alloc | apply IsS50.drewN | apply IsS50.drew | apply IsS50.set_0 | apply IsS50.set_1) | exact HI0.out)⟩, ⟨by repeat (first | (with_reducible first | exact HK.out | apply KeepBut.set_ | apply keep_drewN | apply keep_drew | apply keep_alloc) | exact HK.out)⟩, ⟨by repeat (first | (with_reducible first | exact HB.out | apply below_alloc | apply pw_below_drewN | apply below_drew1 | refine below_set ?_ (IsS50.ge HI0.out)) | exact HB.out)⟩⟩
       ·replace Z2 := (if_pos rfl).symm.trans Z2
        obtain rfl := Option.some.inj Z2
        cases b5
        ·have hX3 := (if_neg (by simp)).symm.trans AX.out
         clear AX
         obtain rfl := Option.some.inj hX3
         go_wp2_with (first | (go_at_call 23; (with_reducible refine (lex_reader_has.calls g s7 (wrap64 (p3 + 1)) (⟨#[43]⟩ : ByteArray) false s7 (wrap64 (p3 + 1)) w0 _ (by repeat (first | (with_reducible first | exact HI0.out | apply IsS50.alloc | apply IsS50.drewN | apply IsS50.drew | apply IsS50.set_0 | apply IsS50.set_1) | exact HI0.out)) (by repeat (first | (with_reducible first | exact HB.out | apply below_alloc | apply pw_below_drewN | apply below_drew1 | refine below_set ?_ (IsS50.ge HI0.out)) | exact HB.out)) AY6.out).mono ?_); rintro e w1 ⟨rfl, hI1, hB1, hK1⟩; have n1_ := Aside0.mk hI1; have n2_ := Aside0.mk hB1; have n3_ := Aside0.mk (KeepBut.trans (by repeat (first | (with_reducible first | exact HK.out | apply KeepBut.set_ | apply keep_drewN | apply keep_drew | apply keep_alloc) | exact HK.out)) hK1 (by simp)); clear HI0 HB HK hI1 hB1 hK1 hc0 hc1 hf0 hf1; have HI0 := n1_; have HB := n2_; have HK := n3_; clear n1_ n2_ n3_; obtain ⟨HG, hg⟩ := HI0.out; have hc0 := cellS50_0 HG; have hc1 := cellS50_1 HG; have hf0 := blk_frozen HG 0; have hf1 := blk_frozen HG 1; clear HG hg) | (go_at_call 23; (with_reducible refine (lex_reader_has.calls g s7 (wrap64 (p3 + 1)) (⟨#[45]⟩ : ByteArray) true s7 (wrap64 (p3 + 1)) w0 _ (by repeat (first | (with_reducible first | exact HI0.out | apply IsS50.alloc | apply IsS50.drewN | apply IsS50.drew | apply IsS50.set_0 | apply IsS50.set_1) | exact HI0.out)) (by repeat (first | (with_reducible first | exact HB.out | apply below_alloc | apply pw_below_drewN | apply below_drew1 | refine below_set ?_ (IsS50.ge HI0.out)) | exact HB.out)) AY7.out).mono ?_); rintro e w1 ⟨rfl, hI1, hB1, hK1⟩; have n1_ := Aside0.mk hI1; have n2_ := Aside0.mk hB1; have n3_ := Aside0.mk (KeepBut.trans (by repeat (first | (with_reducible first | exact HK.out | apply KeepBut.set_ | apply keep_drewN | apply keep_drew | apply keep_alloc) | exact HK.out)) hK1 (by simp)); clear HI0 HB HK hI1 hB1 hK1 hc0 hc1 hf0 hf1; have HI0 := n1_; have HB := n2_; have HK := n3_; clear n1_ n2_ n3_; obtain ⟨HG, hg⟩ := HI0.out; have hc0 := cellS50_0 HG; have hc1 := cellS50_1 HG; have hf0 := blk_frozen HG 0; have hf1 := blk_frozen HG 1; clear HG hg) | (go_at_call 57; (with_reducible refine (lex_reader_digits.calls k g s7 (wrap64 (wrap64 (p3 + 1) + 1)) false s7 e5 w0 _ (by repeat (first | (with_reducible first | exact HI0.out | apply IsS50.alloc | apply IsS50.drewN | apply IsS50.drew | apply IsS50.set_0 | apply IsS50.set_1) | exact HI0.out)) (by repeat (first | (with_reducible first | exact HB.out | apply below_alloc | apply pw_below_drewN | apply below_drew1 | refine below_set ?_ (IsS50.ge HI0.out)) | exact HB.out)) AY5.out).mono ?_); rintro e w1 ⟨rfl, hI1, hB1, hK1⟩; have n1_ := Aside0.mk hI1; have n2_ := Aside0.mk hB1; have n3_ := Aside0.mk (KeepBut.trans (by repeat (first | (with_reducible first | exact HK.out | apply KeepBut.set_ | apply keep_drewN | apply keep_drew | apply keep_alloc) | exact HK.out)) hK1 (by simp)); clear HI0 HB HK hI1 hB1 hK1 hc0 hc1 hf0 hf1; have HI0 := n1_; have HB := n2_; have HK := n3_; clear n1_ n2_ n3_; obtain ⟨HG, hg⟩ := HI0.out; have hc0 := cellS50_0 HG; have hc1 := cellS50_1 HG; have hf0 := blk_frozen HG 0; have hf1 := blk_frozen HG 1; clear HG hg))
         go_meet
         case rel => exact ⟨_, rfl, ⟨by repeat (first | (with_reducible first | exact HI0.out | apply IsS50.alloc | apply IsS50.drewN | apply IsS50.drew | apply IsS50.set_0 | apply IsS50.set_1) | exact HI0.out)⟩, ⟨by repeat (first | (with_reducible first | exact HK.out | apply KeepBut.set_ | apply keep_drewN | apply keep_drew | apply keep_alloc) | exact HK.out)⟩, ⟨by repeat (first | (with_reducible first | exact HB.out | apply below_alloc | apply pw_below_drewN | apply below_drew1 | refine below_set ?_ (IsS50.ge HI0.out)) | exact HB.out)⟩⟩
        ·have hX3 := (if_pos rfl).symm.trans AX.out
         clear AX
         obtain rfl := Option.some.inj hX3
         go_wp2_with (first | (go_at_call 23; (with_reducible refine (lex_reader_has.calls g s7 (wrap64 (p3 + 1)) (⟨#[43]⟩ : ByteArray) false s7 (wrap64 (p3 + 1)) w0 _ (by repeat (first | (with_reducible first | exact HI0.out | apply IsS50.alloc | apply IsS50.drewN | apply IsS50.drew | apply IsS50.set_0 | apply IsS50.set_1) | exact HI0.out)) (by repeat (first | (with_reducible first | exact HB.out | apply below_alloc | apply pw_below_drewN | apply below_drew1 | refine below_set ?_ (IsS50.ge HI0.out)) | exact HB.out)) AY6.out).mono ?_); rintro e w1 ⟨rfl, hI1, hB1, hK1⟩; have n1_ := Aside0.mk hI1; have n2_ := Aside0.mk hB1; have n3_ := Aside0.mk (KeepBut.trans (by repeat (first | (with_reducible first | exact HK.out | apply KeepBut.set_ | apply keep_drewN | apply keep_drew | apply keep_alloc) | exact HK.out)) hK1 (by simp)); clear HI0 HB HK hI1 hB1 hK1 hc0 hc1 hf0 hf1; have HI0 := n1_; have HB := n2_; have HK := n3_; clear n1_ n2_ n3_; obtain ⟨HG, hg⟩ := HI0.out; have hc0 := cellS50_0 HG; have hc1 := cellS50_1 HG; have hf0 := blk_frozen HG 0; have hf1 := blk_frozen HG 1; clear HG hg) | (go_at_call 23; (with_reducible refine (lex_reader_has.calls g s7 (wrap64 (p3 + 1)) (⟨#[45]⟩ : ByteArray) true s7 (wrap64 (p3 + 1)) w0 _ (by repeat (first | (with_reducible first | exact HI0.out | apply IsS50.alloc | apply IsS50.drewN | apply IsS50.drew | apply IsS50.set_0 | apply IsS50.set_1) | exact HI0.out)) (by repeat (first | (with_reducible first | exact HB.out | apply below_alloc | apply pw_below_drewN | apply below_drew1 | refine below_set ?_ (IsS50.ge HI0.out)) | exact HB.out)) AY7.out).mono ?_); rintro e w1 ⟨rfl, hI1, hB1, hK1⟩; have n1_ := Aside0.mk hI1; have n2_ := Aside0.mk hB1; have n3_ := Aside0.mk (KeepBut.trans (by repeat (first | (with_reducible first | exact HK.out | apply KeepBut.set_ | apply keep_drewN | apply keep_drew | apply keep_alloc) | exact HK.out)) hK1 (by simp)); clear HI0 HB HK hI1 hB1 hK1 hc0 hc1 hf0 hf1; have HI0 := n1_; have HB := n2_; have HK := n3_; clear n1_ n2_ n3_; obtain ⟨HG, hg⟩ := HI0.out; have hc0 := cellS50_0 HG; have hc1 := cellS50_1 HG; have hf0 := blk_frozen HG 0; have hf1 := blk_frozen HG 1; clear HG hg) | (go_at_call 57; (with_reducible refine (lex_reader_digits.calls k g s7 (wrap64 (wrap64 (p3 + 1) + 1)) true s7 e5 w0 _ (by repeat (first | (with_reducible first | exact HI0.out | apply IsS50.alloc | apply IsS50.drewN | apply IsS50.drew | apply IsS50.set_0 | apply IsS50.set_1) | exact HI0.out)) (by repeat (first | (with_reducible first | exact HB.out | apply below_alloc | apply pw_below_drewN | apply below_drew1 | refine below_set ?_ (IsS50.ge HI0.out)) | exact HB.out)) AY5.out).mono ?_); rintro e w1 ⟨rfl, hI1, hB1, hK1⟩; have n1_ := Aside0.mk hI1; have n2_ := Aside0.mk hB1; have n3_ := Aside0.mk (KeepBut.trans (by repeat (first | (with_reducible first | exact HK.out | apply KeepBut.set_ | apply keep_drewN | apply keep_drew | apply keep_alloc) | exact HK.out)) hK1 (by simp)); clear HI0 HB HK hI1 hB1 hK1 hc0 hc1 hf0 hf1; have HI0 := n1_; have HB := n2_; have HK := n3_; clear n1_ n2_ n3_; obtain ⟨HG, hg⟩ := HI0.out; have hc0 := cellS50_0 HG; have hc1 := cellS50_1 HG; have hf0 := blk_frozen HG 0; have hf1 := blk_frozen HG 1; clear HG hg))
         go_meet
         case rel => exact ⟨_, rfl, ⟨by repeat (first | (with_reducible first | exact HI0.out | apply IsS50.alloc | apply IsS50.drewN | apply IsS50.drew | apply IsS50.set_0 | apply IsS50.set_1) | exact HI0.out)⟩, ⟨by repeat (first | (with_reducible first | exact HK.out | apply KeepBut.set_ | apply keep_drewN | apply keep_drew | apply keep_alloc) | exact HK.out)⟩, ⟨by repeat (first | (with_reducible first | exact HB.out | apply below_alloc | apply pw_below_drewN | apply below_drew1 | refine below_set ?_ (IsS50.ge HI0.out)) | exact HB.out)⟩⟩
      ·have Z := (if_pos rfl).symm.trans AZ.out
       clear AZ
       obtain rfl := Option.some.inj Z
       cases b5
       ·have hX3 := (if_neg (by simp)).symm.trans AX.out
        clear AX
        obtain rfl := Option.some.inj hX3
        go_wp2_with (first | (go_at_call 23; (with_reducible refine (lex_reader_has.calls g s6 (wrap64 (p3 + 1)) (⟨#[43]⟩ : ByteArray) true s6 (wrap64 (p3 + 1)) w0 _ (by repeat (first | (with_reducible first | exact HI0.out | apply IsS50.alloc | apply IsS50.drewN | apply IsS50.drew | apply IsS50.set_0 | apply IsS50.set_1) | exact HI0.out)) (by repeat (first | (with_reducible first | exact HB.out | apply below_alloc | apply pw_below_drewN | apply below_drew1 | refine below_set ?_ (IsS50.ge HI0.out)) | exact HB.out)) AY6.out).mono ?_); rintro e w1 ⟨rfl, hI1, hB1, hK1⟩; have n1_ := Aside0.mk hI1; have n2_ := Aside0.mk hB1; have n3_ := Aside0.mk (KeepBut.trans (by repeat (first | (with_reducible first | exact HK.out | apply KeepBut.set_ | apply keep_drewN | apply keep_drew | apply keep_alloc) | exact HK.out)) hK1 (by simp)); clear HI0 HB HK hI1 hB1 hK1 hc0 hc1 hf0 hf1; have HI0 := n1_; have HB := n2_; have HK := n3_; clear n1_ n2_ n3_; obtain ⟨HG, hg⟩ := HI0.out; have hc0 := cellS50_0 HG; have hc1 := cellS50_1 HG; have hf0 := blk_frozen HG 0; have hf1 := blk_frozen HG 1; clear HG hg) | (go_at_call 57; (with_reducible refine (lex_reader_digits.calls k g s6 (wrap64 (wrap64 (p3 + 1) + 1)) false s6 e5 w0 _ (by repeat (first | (with_reducible first | exact HI0.out | apply IsS50.alloc | apply IsS50.drewN | apply IsS50.drew | apply IsS50.set_0 | apply IsS50.set_1) | exact HI0.out)) (by repeat (first | (with_reducible first | exact HB.out | apply below_alloc | apply pw_below_drewN | apply below_drew1 | refine below_set ?_ (IsS50.ge HI0.out)) | exact HB.out)) AY5.out).mono ?_); rintro e w1 ⟨rfl, hI1, hB1, hK1⟩; have n1_ := Aside0.mk hI1; have n2_ := Aside0.mk hB1; have n3_ := Aside0.mk (KeepBut.trans (by repeat (first | (with_reducible first | exact HK.out | apply KeepBut.set_ | apply keep_drewN | apply keep_drew | apply keep_alloc) | exact HK.out)) hK1 (by simp)); clear HI0 HB HK hI1 hB1 hK1 hc0 hc1 hf0 hf1; have HI0 := n1_; have HB := n2_; have HK := n3_; clear n1_ n2_ n3_; obtain ⟨HG, hg⟩ := HI0.out; have hc0 := cellS50_0 HG; have hc1 := cellS50_1 HG; have hf0 := blk_frozen HG 0; have hf1 := blk_frozen HG 1; clear HG hg))
        go_meet
        case rel => exact ⟨_, rfl, ⟨by repeat (first | (with_reducible first | exact HI0.out | apply IsS50.alloc | apply IsS50.drewN | apply IsS50.drew | apply IsS50.set_0 | apply IsS50.set_1) | exact HI0.out)⟩, ⟨by repeat (first | (with_reducible first | exact HK.out | apply KeepBut.set_ | apply keep_drewN | apply keep_drew | apply keep_alloc) | exact HK.out)⟩, ⟨by repeat (first | (with_reducible first | exact HB.out | apply below_alloc | apply pw_below_drewN | apply below_drew1 | refine below_set ?_ (IsS50.ge HI0.out)) | exact HB.out)⟩⟩
       ·have hX3 := (if_pos rfl).symm.trans AX.out
        clear AX
        obtain rfl := Option.some.inj hX3
        go_wp2_with (first | (go_at_call 23; (with_reducible refine (lex_reader_has.calls g s6 (wrap64 (p3 + 1)) (⟨#[43]⟩ : ByteArray) true s6 (wrap64 (p3 + 1)) w0 _ (by repeat (first | (with_reducible first | exact HI0.out | apply IsS50.alloc | apply IsS50.drewN | apply IsS50.drew | apply IsS50.set_0 | apply IsS50.set_1) | exact HI0.out)) (by repeat (first | (with_reducible first | exact HB.out | apply below_alloc | apply pw_below_drewN | apply below_drew1 | refine below_set ?_ (IsS50.ge HI0.out)) | exact HB.out)) AY6.out).mono ?_); rintro e w1 ⟨rfl, hI1, hB1, hK1⟩; have n1_ := Aside0.mk hI1; have n2_ := Aside0.mk hB1; have n3_ := Aside0.mk (KeepBut.trans (by repeat (first | (with_reducible first | exact HK.out | apply KeepBut.set_ | apply keep_drewN | apply keep_drew | apply keep_alloc) | exact HK.out)) hK1 (by simp)); clear HI0 HB HK hI1 hB1 hK1 hc0 hc1 hf0 hf1; have HI0 := n1_; have HB := n2_; have HK := n3_; clear n1_ n2_ n3_; obtain ⟨HG, hg⟩ := HI0.out; have hc0 := cellS50_0 HG; have hc1 := cellS50_1 HG; have hf0 := blk_frozen HG 0; have hf1 := blk_frozen HG 1; clear HG hg) | (go_at_call 57; (with_reducible refine (lex_reader_digits.calls k g s6 (wrap64 (wrap64 (p3 + 1) + 1)) true s6 e5 w0 _ (by repeat (first | (with_reducible first | exact HI0.out | apply IsS50.alloc | apply IsS50.drewN | apply IsS50.drew | apply IsS50.set_0 | apply IsS50.set_1) | exact HI0.out)) (by repeat (first | (with_reducible first | exact HB.out | apply below_alloc | apply pw_below_drewN | apply below_drew1 | refine below_set ?_ (IsS50.ge HI0.out)) | exact HB.out)) AY5.out).mono ?_); rintro e w1 ⟨rfl, hI1, hB1, hK1⟩; have n1_ := Aside0.mk hI1; have n2_ := Aside0.mk hB1; have n3_ := Aside0.mk (KeepBut.trans (by repeat (first | (with_reducible first | exact HK.out | apply KeepBut.set_ | apply keep_drewN | apply keep_drew | apply keep_alloc) | exact HK.out)) hK1 (by simp)); clear HI0 HB HK hI1 hB1 hK1 hc0 hc1 hf0 hf1; have HI0 := n1_; have HB := n2_; have HK := n3_; clear n1_ n2_ n3_; obtain ⟨HG, hg⟩ := HI0.out; have hc0 := cellS50_0 HG; have hc1 := cellS50_1 HG; have hf0 := blk_frozen HG 0; have hf1 := blk_frozen HG 1; clear HG hg))
        go_meet
        case rel => exact ⟨_, rfl, ⟨by repeat (first | (with_reducible first | exact HI0.out | apply IsS50.alloc | apply IsS50.drewN | apply IsS50.drew | apply IsS50.set_0 | apply IsS50.set_1) | exact HI0.out)⟩, ⟨by repeat (first | (with_reducible first | exact HK.out | apply KeepBut.set_ | apply keep_drewN | apply keep_drew | apply keep_alloc) | exact HK.out)⟩, ⟨by repeat (first | (with_reducible first | exact HB.out | apply below_alloc | apply pw_below_drewN | apply below_drew1 | refine below_set ?_ (IsS50.ge HI0.out)) | exact HB.out)⟩⟩
    case rest =>
     obtain ⟨q, rfl, HI0, HK, HB⟩ := hcut
     have h := HH.out
     clear HH HX hc0 hc1 hf0 hf1
     obtain ⟨HG, hg⟩ := HI0.out; have hc0 := cellS50_0 HG; have hc1 := cellS50_1 HG; have hf0 := blk_frozen HG 0; have hf1 := blk_frozen HG 1; clear HG hg
     by_cases c2 : 0 ≤ E2
     ·replace h := (if_pos c2).symm.trans h
      by_cases c3 : E2 ≤ (s3.size : Int)
      ·replace h := (if_pos c3).symm.trans h
       have c2b := eq_true c2
       have c3b := eq_true c3
       have c2d : decide (0 ≤ E2) = true := decide_eq_true c2
       have c3d : decide (E2 ≤ (s3.size : Int)) = true := decide_eq_true c3
       clear c2 c3
       have HH := Aside0.mk h
       clear h
       go_upto_region 18 with (fail)
       refine HLex.at_world fun wq hq => ?_
       have n1_ : Aside0 (IsS50 w0 wq g s3 E2) := ⟨by rw [hq]; (repeat (first | (with_reducible first | exact HI0.out | apply IsS50.alloc | apply IsS50.drewN | apply IsS50.drew | apply IsS50.set_0 | apply IsS50.set_1) | exact HI0.out))⟩
       have n2_ : Aside0 (Below w0.heap.size w0 wq) := ⟨by rw [hq]; (repeat (first | (with_reducible first | exact HB.out | apply below_alloc | apply pw_below_drewN | apply below_drew1 | refine below_set ?_ (IsS50.ge HI0.out)) | exact HB.out))⟩
       have n3_ : Aside0 (KeepBut w wq g none) := ⟨by rw [hq]; (repeat (first | (with_reducible first | exact HK.out | apply KeepBut.set_ | apply keep_drewN | apply keep_drew | apply keep_alloc) | exact HK.out))⟩
       clear HI0 HB HK hc0 hc1 hf0 hf1 hq
       have HI0 := n1_
       have HB := n2_
       have HK := n3_
       clear n1_ n2_ n3_
       have hc0 : ∀ w' : World, w'.heap = wq.heap → w'.cell? ⟨g, 0, none⟩ = some (.string s3) := fun w' e => cellS50_0 (by rw [e]; exact HI0.out.1)
       have hc1 : ∀ w' : World, w'.heap = wq.heap → w'.cell? ⟨g, 1, none⟩ = some (.int .i64 E2) := fun w' e => cellS50_1 (by rw [e]; exact HI0.out.1)
       have hf0 := trivial
       have hf1 := trivial
       go_region_held3 (fun w' => w'.cell? ⟨g, 0, none⟩ = some (.string s3) ∧ w'.cell? ⟨g, 1, none⟩ = some (.int .i64 E2))
        (first | exact ⟨cellS50_0 HI0.out.1, cellS50_1 HI0.out.1⟩ | go_keep)
        ((go_at_call 58; refine (Tryd.utf8_DecodeRuneInString (s3.extract E2.toNat s3.size) _ (Utf8Tabs_below HT.out (by repeat (first | (with_reducible first | exact HB.out | apply below_alloc | apply pw_below_drewN | apply below_drew1 | refine below_set ?_ (IsS50.ge HI0.out)) | exact HB.out)))).mono ?_; rintro e w2 ⟨rfl, b2⟩; have b1 := Below.mono b2 (HLex.keep_size (g := g) (by repeat (first | (with_reducible first | exact HK.out | apply KeepBut.set_ | apply keep_drewN | apply keep_drew | apply keep_alloc) | exact HK.out))); clear b2; have n1_ := Aside0.mk (reader_more (by repeat (first | (with_reducible first | exact HI0.out | apply IsS50.alloc | apply IsS50.drewN | apply IsS50.drew | apply IsS50.set_0 | apply IsS50.set_1) | exact HI0.out)) b1 HG0.out); have n2_ := Aside0.mk (HLex.below_more (by repeat (first | (with_reducible first | exact HB.out | apply below_alloc | apply pw_below_drewN | apply below_drew1 | refine below_set ?_ (IsS50.ge HI0.out)) | exact HB.out)) HW0.out b1); have n3_ := Aside0.mk (HLex.keep_more (by repeat (first | (with_reducible first | exact HK.out | apply KeepBut.set_ | apply keep_drewN | apply keep_drew | apply keep_alloc) | exact HK.out)) b1); clear HI0 HB HK b1 hc0 hc1 hf0 hf1; have HI0 := n1_; have HB := n2_; have HK := n3_; clear n1_ n2_ n3_; obtain ⟨HG, hg⟩ := HI0.out; have hc0 := cellS50_0 HG; have hc1 := cellS50_1 HG; have hf0 := blk_frozen HG 0; have hf1 := blk_frozen HG 1; clear HG hg))
       have h := HH.out
       clear HH
       by_cases c4 : E2 < (s3.size : Int)
       ·replace h := (if_pos c4).symm.trans h
        have c4d : decide (E2 < (s3.size : Int)) = true := decide_eq_true c4
        clear c4
        obtain ⟨b, hb0, h⟩ := Option.bind_eq_some_iff.mp h
        have AS := Aside0.mk hb0
        clear hb0
        cases b
        ·replace h := (if_neg (by simp)).symm.trans h
         obtain rfl := Option.some.inj h
         clear h
         go_wp2
         refine HLex.at_world fun wq hq => ?_
         have n1_ : Aside0 (IsS50 w0 wq g s3 E2) := ⟨by rw [hq]; (repeat (first | (with_reducible first | exact HI0.out | apply IsS50.alloc | apply IsS50.drewN | apply IsS50.drew | apply IsS50.set_0 | apply IsS50.set_1) | exact HI0.out))⟩
         have n2_ : Aside0 (Below w0.heap.size w0 wq) := ⟨by rw [hq]; (repeat (first | (with_reducible first | exact HB.out | apply below_alloc | apply pw_below_drewN | apply below_drew1 | refine below_set ?_ (IsS50.ge HI0.out)) | exact HB.out))⟩
         have n3_ : Aside0 (KeepBut w wq g none) := ⟨by rw [hq]; (repeat (first | (with_reducible first | exact HK.out | apply KeepBut.set_ | apply keep_drewN | apply keep_drew | apply keep_alloc) | exact HK.out))⟩
         clear HI0 HB HK hc0 hc1 hf0 hf1 hq
         have HI0 := n1_
         have HB := n2_
         have HK := n3_
         clear n1_ n2_ n3_
         have hc0 : ∀ w' : World, w'.heap = wq.heap → w'.cell? ⟨g, 0, none⟩ = some (.string s3) := fun w' e => cellS50_0 (by rw [e]; exact HI0.out.1)
         have hc1 : ∀ w' : World, w'.heap = wq.heap → w'.cell? ⟨g, 1, none⟩ = some (.int .i64 E2) := fun w' e => cellS50_1 (by rw [e]; exact HI0.out.1)
         have hf0 := trivial
         have hf1 := trivial
         go_region_held3 (fun w' => w'.cell? ⟨g, 0, none⟩ = some (.string s3) ∧ w'.cell? ⟨g, 1, none⟩ = some (.int .i64 E2))
          (first | exact ⟨cellS50_0 HI0.out.1, cellS50_1 HI0.out.1⟩ | go_keep)
          ((go_at_call 59; (with_reducible refine (lex_starts.calls k _ false _ AS.out).mono ?_); rintro e w2 ⟨rfl, b2⟩; have b1 := Below.mono b2 (HLex.keep_size (g := g) (by repeat (first | (with_reducible first | exact HK.out | apply KeepBut.set_ | apply keep_drewN | apply keep_drew | apply keep_alloc) | exact HK.out))); clear b2; have n1_ := Aside0.mk (reader_more (by repeat (first | (with_reducible first | exact HI0.out | apply IsS50.alloc | apply IsS50.drewN | apply IsS50.drew | apply IsS50.set_0 | apply IsS50.set_1) | exact HI0.out)) b1 HG0.out); have n2_ := Aside0.mk (HLex.below_more (by repeat (first | (with_reducible first | exact HB.out | apply below_alloc | apply pw_below_drewN | apply below_drew1 | refine below_set ?_ (IsS50.ge HI0.out)) | exact HB.out)) HW0.out b1); have n3_ := Aside0.mk (HLex.keep_more (by repeat (first | (with_reducible first | exact HK.out | apply KeepBut.set_ | apply keep_drewN | apply keep_drew | apply keep_alloc) | exact HK.out)) b1); clear HI0 HB HK b1 hc0 hc1 hf0 hf1; have HI0 := n1_; have HB := n2_; have HK := n3_; clear n1_ n2_ n3_; obtain ⟨HG, hg⟩ := HI0.out; have hc0 := cellS50_0 HG; have hc1 := cellS50_1 HG; have hf0 := blk_frozen HG 0; have hf1 := blk_frozen HG 1; clear HG hg))
         go_wp2
         go_ret
         exact ⟨by repeat (first | (with_reducible first | exact HB.out | apply below_alloc | apply pw_below_drewN | apply below_drew1 | refine below_set ?_ (IsS50.ge HI0.out)) | exact HB.out), by repeat (first | (with_reducible first | exact HK.out | apply KeepBut.set_ | apply keep_drewN | apply keep_drew | apply keep_alloc) | exact HK.out), rfl, by repeat (first | (with_reducible first | exact HI0.out | apply IsS50.alloc | apply IsS50.drewN | apply IsS50.drew | apply IsS50.set_0 | apply IsS50.set_1) | exact HI0.out)⟩
        ·replace h := (if_pos rfl).symm.trans h
         obtain rfl := Option.some.inj h
         clear h
         go_wp2
         refine HLex.at_world fun wq hq => ?_
         have n1_ : Aside0 (IsS50 w0 wq g s3 E2) := ⟨by rw [hq]; (repeat (first | (with_reducible first | exact HI0.out | apply IsS50.alloc | apply IsS50.drewN | apply IsS50.drew | apply IsS50.set_0 | apply IsS50.set_1) | exact HI0.out))⟩
         have n2_ : Aside0 (Below w0.heap.size w0 wq) := ⟨by rw [hq]; (repeat (first | (with_reducible first | exact HB.out | apply below_alloc | apply pw_below_drewN | apply below_drew1 | refine below_set ?_ (IsS50.ge HI0.out)) | exact HB.out))⟩
         have n3_ : Aside0 (KeepBut w wq g none) := ⟨by rw [hq]; (repeat (first | (with_reducible first | exact HK.out | apply KeepBut.set_ | apply keep_drewN | apply keep_drew | apply keep_alloc) | exact HK.out))⟩
         clear HI0 HB HK hc0 hc1 hf0 hf1 hq
         have HI0 := n1_
         have HB := n2_
         have HK := n3_
         clear n1_ n2_ n3_
         have hc0 : ∀ w' : World, w'.heap = wq.heap → w'.cell? ⟨g, 0, none⟩ = some (.string s3) := fun w' e => cellS50_0 (by rw [e]; exact HI0.out.1)
         have hc1 : ∀ w' : World, w'.heap = wq.heap → w'.cell? ⟨g, 1, none⟩ = some (.int .i64 E2) := fun w' e => cellS50_1 (by rw [e]; exact HI0.out.1)
         have hf0 := trivial
         have hf1 := trivial
         go_region_held3 (fun w' => w'.cell? ⟨g, 0, none⟩ = some (.string s3) ∧ w'.cell? ⟨g, 1, none⟩ = some (.int .i64 E2))
          (first | exact ⟨cellS50_0 HI0.out.1, cellS50_1 HI0.out.1⟩ | go_keep)
          ((go_at_call 59; (with_reducible refine (lex_starts.calls k _ true _ AS.out).mono ?_); rintro e w2 ⟨rfl, b2⟩; have b1 := Below.mono b2 (HLex.keep_size (g := g) (by repeat (first | (with_reducible first | exact HK.out | apply KeepBut.set_ | apply keep_drewN | apply keep_drew | apply keep_alloc) | exact HK.out))); clear b2; have n1_ := Aside0.mk (reader_more (by repeat (first | (with_reducible first | exact HI0.out | apply IsS50.alloc | apply IsS50.drewN | apply IsS50.drew | apply IsS50.set_0 | apply IsS50.set_1) | exact HI0.out)) b1 HG0.out); have n2_ := Aside0.mk (HLex.below_more (by repeat (first | (with_reducible first | exact HB.out | apply below_alloc | apply pw_below_drewN | apply below_drew1 | refine below_set ?_ (IsS50.ge HI0.out)) | exact HB.out)) HW0.out b1); have n3_ := Aside0.mk (HLex.keep_more (by repeat (first | (with_reducible first | exact HK.out | apply KeepBut.set_ | apply keep_drewN | apply keep_drew | apply keep_alloc) | exact HK.out)) b1); clear HI0 HB HK b1 hc0 hc1 hf0 hf1; have HI0 := n1_; have HB := n2_; have HK := n3_; clear n1_ n2_ n3_; obtain ⟨HG, hg⟩ := HI0.out; have hc0 := cellS50_0 HG; have hc1 := cellS50_1 HG; have hf0 := blk_frozen HG 0; have hf1 := blk_frozen HG 1; clear HG hg))
         go_wp2
         exact ⟨rfl, by repeat (first | (with_reducible first | exact HB.out | apply below_alloc | apply pw_below_drewN | apply below_drew1 | refine below_set ?_ (IsS50.ge HI0.out)) | exact HB.out), by repeat (first | (with_reducible first | exact HK.out | apply KeepBut.set_ | apply keep_drewN | apply keep_drew | apply keep_alloc) | exact HK.out), rfl⟩
       ·replace h := (if_neg c4).symm.trans h
        have c4d : decide (E2 < (s3.size : Int)) = false := decide_eq_false c4
        clear c4
        obtain rfl := Option.some.inj h
        clear h
        go_wp2
        go_quiet (fail)
        go_wp2
        go_ret
        exact ⟨by repeat (first | (with_reducible first | exact HB.out | apply below_alloc | apply pw_below_drewN | apply below_drew1 | refine below_set ?_ (IsS50.ge HI0.out)) | exact HB.out), by repeat (first | (with_reducible first | exact HK.out | apply KeepBut.set_ | apply keep_drewN | apply keep_drew | apply keep_alloc) | exact HK.out), rfl, by repeat (first | (with_reducible first | exact HI0.out | apply IsS50.alloc | apply IsS50.drewN | apply IsS50.drew | apply IsS50.set_0 | apply IsS50.set_1) | exact HI0.out)⟩
      ·exact absurd ((if_neg c3).symm.trans h) (by simp)
     ·exact absurd ((if_neg c2).symm.trans h) (by simp)
end Go.Proofs.YtmpenkinheneoaaDoor.Q
namespace Go.Proofs.YtmpenkinheneoaaDoor.Q
open Go.RowKit Go.Proofs.YtmpenkinheneoaaDoorW.PrintWords Go.Proofs.YtmpenkinheneoaaDoorW.PrintLast Go.Proofs.YtmpenkinheneoaaDoorW.PrintMore
attribute [local go_sem] max2_int min2_int max_two min_two max_three min_three max_four min_four   -- for this text's walks alone
set_option linter.unusedVariables false
set_option linter.unusedSimpArgs false
-- HAND: function 60, by this session's own text
def lex_continues.f (k : Nat) (a0 : Int) : Option (Bool) := (chars_IsName.f k ((⟨#[97]⟩ : ByteArray) ++ Utf8.encode a0)).bind fun t => some t
theorem lex_continues.mono : ∀ a0 k, LeO (lex_continues.f k a0) (lex_continues.f (k + 1) a0) := by
 intro a0 k
 unfold lex_continues.f
 exact LeO.bind (chars_IsName.mono _ _) (fun _ => LeO.refl _)
set_option maxHeartbeats 400000 in
set_option maxRecDepth 100000 in
theorem lex_continues.calls (k : Nat) (a0 : Int) (r : Bool) (w : World) (h : lex_continues.f k a0 = some r) :
  Calls Tryd.prog 60 #[.int .i32 a0] w fun e w' => e = .returned (.bool r) ∧ Below w.heap.size w w' := by
 have H : chars_IsName.f k ((⟨#[97]⟩ : ByteArray) ++ Utf8.encode a0) = some r := by
  unfold lex_continues.f at h
  cases hx : chars_IsName.f k ((⟨#[97]⟩ : ByteArray) ++ Utf8.encode a0) with
  | none => rw [hx] at h; cases h
  | some t => rw [hx] at h; exact h
 have hz := HLex.encode_size a0
 go_enter Tryd.func60, Tryd.ntmps60
 go_wp2_with (go_at_call 72; (with_reducible refine (chars_IsName.calls k ((⟨#[97]⟩ : ByteArray) ++ Utf8.encode a0) r _ H).mono ?_); rintro e w1 ⟨rfl, hb⟩)
 go_ret
 exact ⟨rfl, hb⟩
end Go.Proofs.YtmpenkinheneoaaDoor.Q
