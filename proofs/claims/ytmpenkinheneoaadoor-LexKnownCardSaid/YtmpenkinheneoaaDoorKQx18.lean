/- Texts of the claim: Qx18. -/
import Derived.Test.YtmpenkinheneoaaDoorKQx0
import Derived.Test.YtmpenkinheneoaaDoorKQx5
import Derived.Test.YtmpenkinheneoaaDoorKQx15
import Derived.Test.YtmpenkinheneoaaDoorKQx17
namespace Go.Proofs.YtmpenkinheneoaaDoor.Q
open Go.RowKit Go.Proofs.YtmpenkinheneoaaDoorW.PrintWords Go.Proofs.YtmpenkinheneoaaDoorW.PrintLast Go.Proofs.YtmpenkinheneoaaDoorW.PrintMore
attribute [local go_sem] max2_int min2_int max_two min_two max_three min_three max_four min_four   -- for this text's walks alone
set_option linter.unusedVariables false
set_option linter.unusedSimpArgs false
-- HAND: function 25, by this session's own text
def signsB : List ByteArray := [(⟨#[46, 46]⟩ : ByteArray), (⟨#[47, 47]⟩ : ByteArray), (⟨#[124, 124]⟩ : ByteArray), (⟨#[33, 61]⟩ : ByteArray), (⟨#[60, 61]⟩ : ByteArray), (⟨#[60, 60]⟩ : ByteArray), (⟨#[62, 61]⟩ : ByteArray), (⟨#[62, 62]⟩ : ByteArray), (⟨#[58, 61]⟩ : ByteArray), (⟨#[58, 58]⟩ : ByteArray), (⟨#[61, 62]⟩ : ByteArray), (⟨#[40]⟩ : ByteArray), (⟨#[41]⟩ : ByteArray), (⟨#[91]⟩ : ByteArray), (⟨#[93]⟩ : ByteArray), (⟨#[123]⟩ : ByteArray), (⟨#[125]⟩ : ByteArray), (⟨#[44]⟩ : ByteArray), (⟨#[46]⟩ : ByteArray), (⟨#[64]⟩ : ByteArray), (⟨#[47]⟩ : ByteArray), (⟨#[124]⟩ : ByteArray), (⟨#[43]⟩ : ByteArray), (⟨#[45]⟩ : ByteArray), (⟨#[42]⟩ : ByteArray), (⟨#[61]⟩ : ByteArray), (⟨#[60]⟩ : ByteArray), (⟨#[62]⟩ : ByteArray), (⟨#[58]⟩ : ByteArray), (⟨#[33]⟩ : ByteArray), (⟨#[63]⟩ : ByteArray), (⟨#[35]⟩ : ByteArray), (⟨#[36]⟩ : ByteArray)]
def SignsAt (b o cap : Nat) (w : World) : Prop := 33 ≤ cap ∧ w.cell? ⟨0, 0, none⟩ = some (.slice (some ⟨b, o, none⟩) 33 cap) ∧ ∀ i, i < 33 → w.cell? ⟨b, o + i, none⟩ = some (.string (signsB.getD i ⟨#[]⟩))
theorem SignsAt.below {b o cap : Nat} {w w' : World} (h : SignsAt b o cap w) (hb : Below w.heap.size w w') : SignsAt b o cap w' := by
 obtain ⟨h1, h2, h3⟩ := h
 exact ⟨h1, (hb.cell (World.block_lt_of_cell? w _ h2)).trans h2, fun i hi => (hb.cell (World.block_lt_of_cell? w _ (h3 i hi))).trans (h3 i hi)⟩
theorem IsS50.set_far {w0 W : World} {g : Nat} {f0 : ByteArray} {f1 : Int} (h : IsS50 w0 W g f0 f1) {p : Addr} (hp : p.block ≠ g) (u : Value) : IsS50 w0 (W.setCell p u) g f0 f1 :=
 ⟨(Below.heap_setCell W p u g (by omega)).trans h.1, h.2⟩
theorem has_back {s : ByteArray} {p : Int} {x : ByteArray} {b : Bool} {s' : ByteArray} {p' : Int} (h : lex_reader_has.f s p x = some (b, s', p')) : s = s' ∧ p = p' := ⟨(has_same h).1.symm, (has_same h).2.symm⟩
theorem drop_getD {α : Type} : ∀ (l : List α) (i : Nat) (d : α), i < l.length → l.drop i = l.getD i d :: l.drop (i + 1) := by
 intro l i d h
 rw [List.drop_eq_getElem_cons h, List.getD_eq_getElem?_getD, List.getElem?_eq_getElem h]
 rfl
theorem HLex.blk_far {w : World} {b g : Nat} {o : Obj} (h : w.heap[b]? = some o) (hne : b ≠ g) {c : Nat} (u : Value) : (w.setCell ⟨g, c, none⟩ u).heap[b]? = some o := (Below.heap_setCell w ⟨g, c, none⟩ u b (fun e => hne e)).trans h
def lex_reader_token.sg : List ByteArray → ByteArray → Int → Option (Option ByteArray)
 | [], _, _ => some none
 | x :: t, s, q => (lex_reader_has.f s q x).bind fun h => if h.1 = true then some (some x) else lex_reader_token.sg t s q
def lex_reader_token.f (k : Nat) (s : ByteArray) (p : Int) : Option (Except (Int × Int) (S34 × Int)) :=
 (lex_reader_has.f s p (⟨#[34]⟩ : ByteArray)).bind fun a => (if a.1 = true then some true else (lex_reader_has.f s p (⟨#[39]⟩ : ByteArray)).bind fun b => some b.1).bind fun x =>
  if x = true then ((lex_reader_quoted.f k s p).bind fun y => match y with | none => some (.error (p, 5)) | some y => some (.ok (⟨2, ⟨y.1.toArray⟩, p⟩, y.2)))
  else (lex_reader_number.f k s p).bind fun y => match y with
   | .error q => some (.error (q, 5))
   | .ok y => if y.1 = true then (if 0 ≤ p ∧ p ≤ y.2 ∧ y.2 ≤ (s.size : Int) then some (.ok (⟨1, s.extract p.toNat y.2.toNat, p⟩, y.2)) else none)
    else (lex_reader_name.f k s y.2).bind fun z => match z with
     | .error q => some (.error (q, 2))
     | .ok z => if z.1 = true then (if 0 ≤ p ∧ p ≤ z.2 ∧ z.2 ≤ (s.size : Int) then some (.ok (⟨0, s.extract p.toNat z.2.toNat, p⟩, z.2)) else none)
      else (lex_reader_token.sg signsB s z.2).bind fun v => match v with
       | none => some (.error (p, 5))
       | some x => some (.ok (⟨3, x, p⟩, wrap64 (z.2 + (x.size : Int))))
set_option maxHeartbeats 8000000 in
set_option maxRecDepth 100000 in
theorem lex_reader_token.calls (k g b o cap : Nat) (s : ByteArray) (p : Int) (r : Except (Int × Int) (S34 × Int)) (w0 w : World) (hT : Lib.Utf8Tabs 2 3 w0) (hS : SignsAt b o cap w0) (hI : IsS50 w0 w g s p) (hB : Below w0.heap.size w0 w) (h : lex_reader_token.f k s p = some r) :
  Calls Tryd.prog 25 #[.pointer (some ⟨g, 0, none⟩)] w fun e w' => Below w0.heap.size w0 w' ∧ KeepBut w w' g none ∧ HLex.outcome2 r (fun x => e = .returned (.agg #[.int .i64 x.1.f0, .string x.1.f1, .int .i64 x.1.f2]) ∧ IsS50 w0 w' g s x.2) (fun a n => e = .panicked [wrongW a n]) := by
 have HT := Aside0.mk hT
 have HS := Aside0.mk hS
 have HW0 := Aside0.mk hB.size
 have HG0 := Aside0.mk (IsS50.lt hI)
 have HI0 := Aside0.mk hI
 have HK := Aside0.mk (KeepBut.refl w g none)
 clear hI hT hS
 have HB := Aside0.mk hB
 clear hB
 unfold lex_reader_token.f at h
 obtain ⟨⟨a1, s1, p1⟩, D1, h⟩ := Option.bind_eq_some_iff.mp h
 obtain ⟨rfl, rfl⟩ := has_back D1
 have AD1 := Aside0.mk D1
 clear D1
 obtain ⟨x, D2, h⟩ := Option.bind_eq_some_iff.mp h
 have AD2 := Aside0.mk D2
 have H := Aside0.mk h
 clear D2 h
 obtain ⟨HG, hg⟩ := HI0.out; have hc0 := cellS50_0 HG; have hc1 := cellS50_1 HG; have hf0 := blk_frozen HG 0; have hf1 := blk_frozen HG 1; clear HG hg
 go_enter Tryd.func25, Tryd.ntmps25
 go_upto_region 2 with (first | ((with_reducible refine gate_dst (N := 2) rfl ?_); refine box_event ?hg (N := 2) ?hd (cs := #[.int .i64 0, .string (⟨#[]⟩ : ByteArray), .int .i64 0]) (t := 34) ?hr ?_; (case hd => rfl); (case hg => rfl); (case hr => first | (go_simp; done) | (go_simp; rfl)); intro gb hg w4 hbox hb; have b1 := hb; have BK := Aside0.mk hbox; have GW := Aside0.mk (show w.heap.size ≤ gb by rw [hg]; exact Nat.le_refl _); have NE := Aside0.mk (show gb ≠ g by rw [hg]; exact Nat.ne_of_gt HG0.out); have GE := Aside0.mk (show w0.heap.size ≤ gb from Nat.le_trans HW0.out GW.out); clear hb hbox hg; have n1_ := Aside0.mk (reader_more (by repeat (first | (with_reducible first | exact HI0.out | apply IsS50.alloc | apply IsS50.drewN | apply IsS50.drew | apply IsS50.set_0 | apply IsS50.set_1) | exact HI0.out)) b1 HG0.out); have n2_ := Aside0.mk (HLex.below_more (by repeat (first | (with_reducible first | exact HB.out | apply below_alloc | apply pw_below_drewN | apply below_drew1 | refine below_set ?_ (IsS50.ge HI0.out)) | exact HB.out)) HW0.out b1); have n3_ := Aside0.mk (HLex.keep_more (by repeat (first | (with_reducible first | exact HK.out | apply KeepBut.set_ | apply keep_drewN | apply keep_drew | apply keep_alloc) | exact HK.out)) b1); clear HI0 HB HK b1 hc0 hc1 hf0 hf1; have HI0 := n1_; have HB := n2_; have HK := n3_; clear n1_ n2_ n3_; obtain ⟨HG, hg⟩ := HI0.out; have hc0 := cellS50_0 HG; have hc1 := cellS50_1 HG; have hf0 := blk_frozen HG 0; have hf1 := blk_frozen HG 1; clear HG hg))
 have X2 := AD2.out
 have h := H.out
 clear AD2 H
 cases a1
 ·replace X2 := (if_neg (by simp)).symm.trans X2
  obtain ⟨⟨b3, s4, p4⟩, X3, X4⟩ := Option.bind_eq_some_iff.mp X2
  clear X2
  obtain ⟨rfl, rfl⟩ := has_back X3
  have AX3 := Aside0.mk X3
  clear X3
  obtain rfl := Option.some.inj X4
  clear X4
  cases b3
  ·replace h := (if_neg (by simp)).symm.trans h
   obtain ⟨y, N1, h⟩ := Option.bind_eq_some_iff.mp h
   have AN := Aside0.mk N1
   clear N1
   cases y with
   | error q =>
    obtain rfl := Option.some.inj h
    clear h
    go_wp2_with (first | (go_at_call 23; (with_reducible refine (lex_reader_has.calls g s p (⟨#[34]⟩ : ByteArray) false s p w0 _ (by repeat (first | (with_reducible first | exact HI0.out | apply IsS50.alloc | apply IsS50.drewN | apply IsS50.drew | apply IsS50.set_0 | apply IsS50.set_1) | exact HI0.out)) (by repeat (first | (with_reducible first | exact HB.out | apply below_alloc | apply pw_below_drewN | apply below_drew1 | refine below_set ?_ (IsS50.ge HI0.out)) | exact HB.out)) AD1.out).mono ?_); rintro e w1 ⟨rfl, hI1, hB1, hK1⟩; have n4_ := Aside0.mk (HLex.blk_keep (by (with_reducible repeat (first | refine blk_drewN ?_ _ | refine blk_drew ?_ | refine blk_alloc ?_ _)); exact BK.out) hK1 NE.out); clear BK; have BK := n4_; clear n4_; have n1_ := Aside0.mk hI1; have n2_ := Aside0.mk hB1; have n3_ := Aside0.mk (KeepBut.trans (by repeat (first | (with_reducible first | exact HK.out | apply KeepBut.set_ | apply keep_drewN | apply keep_drew | apply keep_alloc) | exact HK.out)) hK1 (by simp)); clear HI0 HB HK hI1 hB1 hK1 hc0 hc1 hf0 hf1; have HI0 := n1_; have HB := n2_; have HK := n3_; clear n1_ n2_ n3_; obtain ⟨HG, hg⟩ := HI0.out; have hc0 := cellS50_0 HG; have hc1 := cellS50_1 HG; have hf0 := blk_frozen HG 0; have hf1 := blk_frozen HG 1; clear HG hg) | (go_at_call 23; (with_reducible refine (lex_reader_has.calls g s p (⟨#[39]⟩ : ByteArray) false s p w0 _ (by repeat (first | (with_reducible first | exact HI0.out | apply IsS50.alloc | apply IsS50.drewN | apply IsS50.drew | apply IsS50.set_0 | apply IsS50.set_1) | exact HI0.out)) (by repeat (first | (with_reducible first | exact HB.out | apply below_alloc | apply pw_below_drewN | apply below_drew1 | refine below_set ?_ (IsS50.ge HI0.out)) | exact HB.out)) AX3.out).mono ?_); rintro e w1 ⟨rfl, hI1, hB1, hK1⟩; have n4_ := Aside0.mk (HLex.blk_keep (by (with_reducible repeat (first | refine blk_drewN ?_ _ | refine blk_drew ?_ | refine blk_alloc ?_ _)); exact BK.out) hK1 NE.out); clear BK; have BK := n4_; clear n4_; have n1_ := Aside0.mk hI1; have n2_ := Aside0.mk hB1; have n3_ := Aside0.mk (KeepBut.trans (by repeat (first | (with_reducible first | exact HK.out | apply KeepBut.set_ | apply keep_drewN | apply keep_drew | apply keep_alloc) | exact HK.out)) hK1 (by simp)); clear HI0 HB HK hI1 hB1 hK1 hc0 hc1 hf0 hf1; have HI0 := n1_; have HB := n2_; have HK := n3_; clear n1_ n2_ n3_; obtain ⟨HG, hg⟩ := HI0.out; have hc0 := cellS50_0 HG; have hc1 := cellS50_1 HG; have hf0 := blk_frozen HG 0; have hf1 := blk_frozen HG 1; clear HG hg) | (go_at_call 42; (with_reducible refine (lex_reader_number.calls k g s p _ w0 _ HT.out (by repeat (first | (with_reducible first | exact HI0.out | apply IsS50.alloc | apply IsS50.drewN | apply IsS50.drew | apply IsS50.set_0 | apply IsS50.set_1) | exact HI0.out)) (by repeat (first | (with_reducible first | exact HB.out | apply below_alloc | apply pw_below_drewN | apply below_drew1 | refine below_set ?_ (IsS50.ge HI0.out)) | exact HB.out)) AN.out).mono ?_); rintro e w1 ⟨hB1, hK1, rfl⟩; have HBE := Aside0.mk hB1; have HKE := Aside0.mk (KeepBut.trans (by repeat (first | (with_reducible first | exact HK.out | apply KeepBut.set_ | apply keep_drewN | apply keep_drew | apply keep_alloc) | exact HK.out)) hK1 (by simp)); clear hB1 hK1))
    exact ⟨rfl, by repeat (first | exact HBE.out | apply pw_below_drewN | apply below_drew1), by repeat (first | exact HKE.out | apply keep_drewN | apply keep_drew), rfl⟩
   | ok y =>
    obtain ⟨yb, e1⟩ := y
    cases yb
    ·replace h := (if_neg (by simp)).symm.trans h
     obtain ⟨z, M1, h⟩ := Option.bind_eq_some_iff.mp h
     have AM := Aside0.mk M1
     clear M1
     cases z with
     | error q =>
      obtain rfl := Option.some.inj h
      clear h
      go_wp2_with (first | (go_at_call 23; (with_reducible refine (lex_reader_has.calls g s p (⟨#[34]⟩ : ByteArray) false s p w0 _ (by repeat (first | (with_reducible first | exact HI0.out | apply IsS50.alloc | apply IsS50.drewN | apply IsS50.drew | apply IsS50.set_0 | apply IsS50.set_1) | exact HI0.out)) (by repeat (first | (with_reducible first | exact HB.out | apply below_alloc | apply pw_below_drewN | apply below_drew1 | refine below_set ?_ (IsS50.ge HI0.out)) | exact HB.out)) AD1.out).mono ?_); rintro e w1 ⟨rfl, hI1, hB1, hK1⟩; have n4_ := Aside0.mk (HLex.blk_keep (by (with_reducible repeat (first | refine blk_drewN ?_ _ | refine blk_drew ?_ | refine blk_alloc ?_ _)); exact BK.out) hK1 NE.out); clear BK; have BK := n4_; clear n4_; have n1_ := Aside0.mk hI1; have n2_ := Aside0.mk hB1; have n3_ := Aside0.mk (KeepBut.trans (by repeat (first | (with_reducible first | exact HK.out | apply KeepBut.set_ | apply keep_drewN | apply keep_drew | apply keep_alloc) | exact HK.out)) hK1 (by simp)); clear HI0 HB HK hI1 hB1 hK1 hc0 hc1 hf0 hf1; have HI0 := n1_; have HB := n2_; have HK := n3_; clear n1_ n2_ n3_; obtain ⟨HG, hg⟩ := HI0.out; have hc0 := cellS50_0 HG; have hc1 := cellS50_1 HG; have hf0 := blk_frozen HG 0; have hf1 := blk_frozen HG 1; clear HG hg) | (go_at_call 23; (with_reducible refine (lex_reader_has.calls g s p (⟨#[39]⟩ : ByteArray) false s p w0 _ (by repeat (first | (with_reducible first | exact HI0.out | apply IsS50.alloc | apply IsS50.drewN | apply IsS50.drew | apply IsS50.set_0 | apply IsS50.set_1) | exact HI0.out)) (by repeat (first | (with_reducible first | exact HB.out | apply below_alloc | apply pw_below_drewN | apply below_drew1 | refine below_set ?_ (IsS50.ge HI0.out)) | exact HB.out)) AX3.out).mono ?_); rintro e w1 ⟨rfl, hI1, hB1, hK1⟩; have n4_ := Aside0.mk (HLex.blk_keep (by (with_reducible repeat (first | refine blk_drewN ?_ _ | refine blk_drew ?_ | refine blk_alloc ?_ _)); exact BK.out) hK1 NE.out); clear BK; have BK := n4_; clear n4_; have n1_ := Aside0.mk hI1; have n2_ := Aside0.mk hB1; have n3_ := Aside0.mk (KeepBut.trans (by repeat (first | (with_reducible first | exact HK.out | apply KeepBut.set_ | apply keep_drewN | apply keep_drew | apply keep_alloc) | exact HK.out)) hK1 (by simp)); clear HI0 HB HK hI1 hB1 hK1 hc0 hc1 hf0 hf1; have HI0 := n1_; have HB := n2_; have HK := n3_; clear n1_ n2_ n3_; obtain ⟨HG, hg⟩ := HI0.out; have hc0 := cellS50_0 HG; have hc1 := cellS50_1 HG; have hf0 := blk_frozen HG 0; have hf1 := blk_frozen HG 1; clear HG hg) | (go_at_call 42; (with_reducible refine (lex_reader_number.calls k g s p _ w0 _ HT.out (by repeat (first | (with_reducible first | exact HI0.out | apply IsS50.alloc | apply IsS50.drewN | apply IsS50.drew | apply IsS50.set_0 | apply IsS50.set_1) | exact HI0.out)) (by repeat (first | (with_reducible first | exact HB.out | apply below_alloc | apply pw_below_drewN | apply below_drew1 | refine below_set ?_ (IsS50.ge HI0.out)) | exact HB.out)) AN.out).mono ?_); rintro e w1 ⟨hB1, hK1, ⟨rfl, hI1⟩⟩; have n4_ := Aside0.mk (HLex.blk_keep (by (with_reducible repeat (first | refine blk_drewN ?_ _ | refine blk_drew ?_ | refine blk_alloc ?_ _)); exact BK.out) hK1 NE.out); clear BK; have BK := n4_; clear n4_; have n1_ := Aside0.mk hI1; have n2_ := Aside0.mk hB1; have n3_ := Aside0.mk (KeepBut.trans (by repeat (first | (with_reducible first | exact HK.out | apply KeepBut.set_ | apply keep_drewN | apply keep_drew | apply keep_alloc) | exact HK.out)) hK1 (by simp)); clear HI0 HB HK hI1 hB1 hK1 hc0 hc1 hf0 hf1; have HI0 := n1_; have HB := n2_; have HK := n3_; clear n1_ n2_ n3_; obtain ⟨HG, hg⟩ := HI0.out; have hc0 := cellS50_0 HG; have hc1 := cellS50_1 HG; have hf0 := blk_frozen HG 0; have hf1 := blk_frozen HG 1; clear HG hg) | (go_at_call 43; (with_reducible refine (lex_reader_name.calls k g s e1 _ w0 _ (by repeat (first | (with_reducible first | exact HI0.out | apply IsS50.alloc | apply IsS50.drewN | apply IsS50.drew | apply IsS50.set_0 | apply IsS50.set_1) | exact HI0.out)) (by repeat (first | (with_reducible first | exact HB.out | apply below_alloc | apply pw_below_drewN | apply below_drew1 | refine below_set ?_ (IsS50.ge HI0.out)) | exact HB.out)) AM.out).mono ?_); rintro e w1 ⟨hB1, hK1, rfl⟩; have HBE := Aside0.mk hB1; have HKE := Aside0.mk (KeepBut.trans (by repeat (first | (with_reducible first | exact HK.out | apply KeepBut.set_ | apply keep_drewN | apply keep_drew | apply keep_alloc) | exact HK.out)) hK1 (by simp)); clear hB1 hK1))
      exact ⟨rfl, by repeat (first | exact HBE.out | apply pw_below_drewN | apply below_drew1), by repeat (first | exact HKE.out | apply keep_drewN | apply keep_drew), rfl⟩
     | ok z =>
      obtain ⟨zb, e2⟩ := z
      cases zb
      ·replace h := (if_neg (by simp)).symm.trans h
       obtain ⟨v, G1, h⟩ := Option.bind_eq_some_iff.mp h
       have H' := Aside0.mk G1
       have HR := Aside0.mk h
       clear G1 h
       go_wp2_with (first | (go_at_call 23; (with_reducible refine (lex_reader_has.calls g s p (⟨#[34]⟩ : ByteArray) false s p w0 _ (by repeat (first | (with_reducible first | exact HI0.out | apply IsS50.alloc | apply IsS50.drewN | apply IsS50.drew | apply IsS50.set_0 | apply IsS50.set_1) | exact HI0.out)) (by repeat (first | (with_reducible first | exact HB.out | apply below_alloc | apply pw_below_drewN | apply below_drew1 | refine below_set ?_ (IsS50.ge HI0.out)) | exact HB.out)) AD1.out).mono ?_); rintro e w1 ⟨rfl, hI1, hB1, hK1⟩; have n4_ := Aside0.mk (HLex.blk_keep (by (with_reducible repeat (first | refine blk_drewN ?_ _ | refine blk_drew ?_ | refine blk_alloc ?_ _)); exact BK.out) hK1 NE.out); clear BK; have BK := n4_; clear n4_; have n1_ := Aside0.mk hI1; have n2_ := Aside0.mk hB1; have n3_ := Aside0.mk (KeepBut.trans (by repeat (first | (with_reducible first | exact HK.out | apply KeepBut.set_ | apply keep_drewN | apply keep_drew | apply keep_alloc) | exact HK.out)) hK1 (by simp)); clear HI0 HB HK hI1 hB1 hK1 hc0 hc1 hf0 hf1; have HI0 := n1_; have HB := n2_; have HK := n3_; clear n1_ n2_ n3_; obtain ⟨HG, hg⟩ := HI0.out; have hc0 := cellS50_0 HG; have hc1 := cellS50_1 HG; have hf0 := blk_frozen HG 0; have hf1 := blk_frozen HG 1; clear HG hg) | (go_at_call 23; (with_reducible refine (lex_reader_has.calls g s p (⟨#[39]⟩ : ByteArray) false s p w0 _ (by repeat (first | (with_reducible first | exact HI0.out | apply IsS50.alloc | apply IsS50.drewN | apply IsS50.drew | apply IsS50.set_0 | apply IsS50.set_1) | exact HI0.out)) (by repeat (first | (with_reducible first | exact HB.out | apply below_alloc | apply pw_below_drewN | apply below_drew1 | refine below_set ?_ (IsS50.ge HI0.out)) | exact HB.out)) AX3.out).mono ?_); rintro e w1 ⟨rfl, hI1, hB1, hK1⟩; have n4_ := Aside0.mk (HLex.blk_keep (by (with_reducible repeat (first | refine blk_drewN ?_ _ | refine blk_drew ?_ | refine blk_alloc ?_ _)); exact BK.out) hK1 NE.out); clear BK; have BK := n4_; clear n4_; have n1_ := Aside0.mk hI1; have n2_ := Aside0.mk hB1; have n3_ := Aside0.mk (KeepBut.trans (by repeat (first | (with_reducible first | exact HK.out | apply KeepBut.set_ | apply keep_drewN | apply keep_drew | apply keep_alloc) | exact HK.out)) hK1 (by simp)); clear HI0 HB HK hI1 hB1 hK1 hc0 hc1 hf0 hf1; have HI0 := n1_; have HB := n2_; have HK := n3_; clear n1_ n2_ n3_; obtain ⟨HG, hg⟩ := HI0.out; have hc0 := cellS50_0 HG; have hc1 := cellS50_1 HG; have hf0 := blk_frozen HG 0; have hf1 := blk_frozen HG 1; clear HG hg) | (go_at_call 42; (with_reducible refine (lex_reader_number.calls k g s p _ w0 _ HT.out (by repeat (first | (with_reducible first | exact HI0.out | apply IsS50.alloc | apply IsS50.drewN | apply IsS50.drew | apply IsS50.set_0 | apply IsS50.set_1) | exact HI0.out)) (by repeat (first | (with_reducible first | exact HB.out | apply below_alloc | apply pw_below_drewN | apply below_drew1 | refine below_set ?_ (IsS50.ge HI0.out)) | exact HB.out)) AN.out).mono ?_); rintro e w1 ⟨hB1, hK1, ⟨rfl, hI1⟩⟩; have n4_ := Aside0.mk (HLex.blk_keep (by (with_reducible repeat (first | refine blk_drewN ?_ _ | refine blk_drew ?_ | refine blk_alloc ?_ _)); exact BK.out) hK1 NE.out); clear BK; have BK := n4_; clear n4_; have n1_ := Aside0.mk hI1; have n2_ := Aside0.mk hB1; have n3_ := Aside0.mk (KeepBut.trans (by repeat (first | (with_reducible first | exact HK.out | apply KeepBut.set_ | apply keep_drewN | apply keep_drew | apply keep_alloc) | exact HK.out)) hK1 (by simp)); clear HI0 HB HK hI1 hB1 hK1 hc0 hc1 hf0 hf1; have HI0 := n1_; have HB := n2_; have HK := n3_; clear n1_ n2_ n3_; obtain ⟨HG, hg⟩ := HI0.out; have hc0 := cellS50_0 HG; have hc1 := cellS50_1 HG; have hf0 := blk_frozen HG 0; have hf1 := blk_frozen HG 1; clear HG hg) | (go_at_call 43; (with_reducible refine (lex_reader_name.calls k g s e1 _ w0 _ (by repeat (first | (with_reducible first | exact HI0.out | apply IsS50.alloc | apply IsS50.drewN | apply IsS50.drew | apply IsS50.set_0 | apply IsS50.set_1) | exact HI0.out)) (by repeat (first | (with_reducible first | exact HB.out | apply below_alloc | apply pw_below_drewN | apply below_drew1 | refine below_set ?_ (IsS50.ge HI0.out)) | exact HB.out)) AM.out).mono ?_); rintro e w1 ⟨hB1, hK1, ⟨rfl, hI1⟩⟩; have n4_ := Aside0.mk (HLex.blk_keep (by (with_reducible repeat (first | refine blk_drewN ?_ _ | refine blk_drew ?_ | refine blk_alloc ?_ _)); exact BK.out) hK1 NE.out); clear BK; have BK := n4_; clear n4_; have n1_ := Aside0.mk hI1; have n2_ := Aside0.mk hB1; have n3_ := Aside0.mk (KeepBut.trans (by repeat (first | (with_reducible first | exact HK.out | apply KeepBut.set_ | apply keep_drewN | apply keep_drew | apply keep_alloc) | exact HK.out)) hK1 (by simp)); clear HI0 HB HK hI1 hB1 hK1 hc0 hc1 hf0 hf1; have HI0 := n1_; have HB := n2_; have HK := n3_; clear n1_ n2_ n3_; obtain ⟨HG, hg⟩ := HI0.out; have hc0 := cellS50_0 HG; have hc1 := cellS50_1 HG; have hf0 := blk_frozen HG 0; have hf1 := blk_frozen HG 1; clear HG hg; have hs1 := (SignsAt.below HS.out HB.out).2.1))
       go_loopg [50] 34 (fun kq v50 w' => ∃ i : Nat, v50 = .int .i64 (i : Int) ∧ i ≤ 33 ∧ 34 ≤ kq + i ∧ Aside0 (lex_reader_token.sg (signsB.drop i) s e2 = some v) ∧ Aside0 (IsS50 w0 w' g s e2) ∧ Aside0 (KeepBut w w' g none) ∧ Aside0 (Below w0.heap.size w0 w') ∧ Aside0 (w'.heap[gb]? = some (.cells #[.int .i64 0, .string (⟨#[]⟩ : ByteArray), .int .i64 0] 34 (0, 0))))
       case atStart => exact ⟨0, (by first | rfl | go_num), by omega, by omega, H', ⟨by repeat (first | (with_reducible first | exact HI0.out | apply IsS50.alloc | apply IsS50.drewN | apply IsS50.drew | apply IsS50.set_0 | apply IsS50.set_1) | exact HI0.out)⟩, ⟨by repeat (first | (with_reducible first | exact HK.out | apply KeepBut.set_ | apply keep_drewN | apply keep_drew | apply keep_alloc) | exact HK.out)⟩, ⟨by repeat (first | (with_reducible first | exact HB.out | apply below_alloc | apply pw_below_drewN | apply below_drew1 | refine below_set ?_ (IsS50.ge HI0.out)) | exact HB.out)⟩, ⟨by (with_reducible repeat (first | refine blk_drewN ?_ _ | refine blk_drew ?_ | refine blk_alloc ?_ _)); exact BK.out⟩⟩
       case round =>
        clear H' hc0 hc1 hf0 hf1 HI0 HK HB BK hs1
        obtain ⟨i, rfl, hi, hkq, HA, HI0, HK, HB, BK⟩ := hrel
        cases gk with
        | zero => omega
        | succ k1 =>
         have H := HA.out
         clear HA
         obtain ⟨HG, hg⟩ := HI0.out; have hc0 := cellS50_0 HG; have hc1 := cellS50_1 HG; have hf0 := blk_frozen HG 0; have hf1 := blk_frozen HG 1; clear HG hg
         by_cases hlt : i < 33
         ·obtain ⟨x, hx⟩ : ∃ x, x = signsB.getD i ⟨#[]⟩ := ⟨_, rfl⟩
          have hdr : signsB.drop i = x :: signsB.drop (i + 1) := by rw [hx]; exact drop_getD signsB i _ hlt
          rw [hdr] at H
          have hcx := (SignsAt.below HS.out HB.out).2.2 i hlt
          rw [← hx] at hcx
          clear hx hdr
          replace H : ((lex_reader_has.f s e2 x).bind fun h => if h.1 = true then some (some x) else lex_reader_token.sg (signsB.drop (i + 1)) s e2) = some v := H
          obtain ⟨⟨bh, s5, p5⟩, G1, H⟩ := Option.bind_eq_some_iff.mp H
          obtain ⟨rfl, rfl⟩ := has_back G1
          have AG := Aside0.mk G1
          clear G1
          have hl0 : (0 : Int) ≤ (i : Int) := Int.natCast_nonneg _
          have hl1 : (i : Int) < 33 := by omega
          cases bh
          ·replace H := (if_neg (by simp)).symm.trans H
           have H' := Aside0.mk H
           clear H
           go_wp2_with (first | (go_at_call 23; (with_reducible refine (lex_reader_has.calls g s e2 x false s e2 w0 _ (by repeat (first | (with_reducible first | exact HI0.out | apply IsS50.alloc | apply IsS50.drewN | apply IsS50.drew | apply IsS50.set_0 | apply IsS50.set_1) | exact HI0.out)) (by repeat (first | (with_reducible first | exact HB.out | apply below_alloc | apply pw_below_drewN | apply below_drew1 | refine below_set ?_ (IsS50.ge HI0.out)) | exact HB.out)) AG.out).mono ?_); rintro e w1 ⟨rfl, hI1, hB1, hK1⟩; have n4_ := Aside0.mk (HLex.blk_keep (by (with_reducible repeat (first | refine blk_drewN ?_ _ | refine blk_drew ?_ | refine blk_alloc ?_ _)); exact BK.out) hK1 NE.out); clear BK; have BK := n4_; clear n4_; have n1_ := Aside0.mk hI1; have n2_ := Aside0.mk hB1; have n3_ := Aside0.mk (KeepBut.trans (by repeat (first | (with_reducible first | exact HK.out | apply KeepBut.set_ | apply keep_drewN | apply keep_drew | apply keep_alloc) | exact HK.out)) hK1 (by simp)); clear HI0 HB HK hI1 hB1 hK1 hc0 hc1 hf0 hf1; have HI0 := n1_; have HB := n2_; have HK := n3_; clear n1_ n2_ n3_; obtain ⟨HG, hg⟩ := HI0.out; have hc0 := cellS50_0 HG; have hc1 := cellS50_1 HG; have hf0 := blk_frozen HG 0; have hf1 := blk_frozen HG 1; clear HG hg))
           go_roundg k1
           case measure => omega
           case rel => exact ⟨i + 1, (by first | rfl | go_num), by omega, by omega, H', ⟨by repeat (first | (with_reducible first | exact HI0.out | apply IsS50.alloc | apply IsS50.drewN | apply IsS50.drew | apply IsS50.set_0 | apply IsS50.set_1) | exact HI0.out)⟩, ⟨by repeat (first | (with_reducible first | exact HK.out | apply KeepBut.set_ | apply keep_drewN | apply keep_drew | apply keep_alloc) | exact HK.out)⟩, ⟨by repeat (first | (with_reducible first | exact HB.out | apply below_alloc | apply pw_below_drewN | apply below_drew1 | refine below_set ?_ (IsS50.ge HI0.out)) | exact HB.out)⟩, ⟨by (with_reducible repeat (first | refine blk_drewN ?_ _ | refine blk_drew ?_ | refine blk_alloc ?_ _)); exact BK.out⟩⟩
          ·replace H := (if_pos rfl).symm.trans H
           obtain rfl := Option.some.inj H
           have h := HR.out
           clear HR H
           obtain rfl := Option.some.inj h
           clear h
           have hne : ¬ gb = g := NE.out
           have hne2 : ¬ g = gb := fun e => NE.out e.symm
           go_wp2_with (first | (go_at_call 23; (with_reducible refine (lex_reader_has.calls g s e2 x true s e2 w0 _ (by repeat (first | (with_reducible first | exact HI0.out | apply IsS50.alloc | apply IsS50.drewN | apply IsS50.drew | apply IsS50.set_0 | apply IsS50.set_1) | exact HI0.out)) (by repeat (first | (with_reducible first | exact HB.out | apply below_alloc | apply pw_below_drewN | apply below_drew1 | refine below_set ?_ (IsS50.ge HI0.out)) | exact HB.out)) AG.out).mono ?_); rintro e w1 ⟨rfl, hI1, hB1, hK1⟩; have n4_ := Aside0.mk (HLex.blk_keep (by (with_reducible repeat (first | refine blk_drewN ?_ _ | refine blk_drew ?_ | refine blk_alloc ?_ _)); exact BK.out) hK1 NE.out); clear BK; have BK := n4_; clear n4_; have n1_ := Aside0.mk hI1; have n2_ := Aside0.mk hB1; have n3_ := Aside0.mk (KeepBut.trans (by repeat (first | (with_reducible first | exact HK.out | apply KeepBut.set_ | apply keep_drewN | apply keep_drew | apply keep_alloc) | exact HK.out)) hK1 (by simp)); clear HI0 HB HK hI1 hB1 hK1 hc0 hc1 hf0 hf1; have HI0 := n1_; have HB := n2_; have HK := n3_; clear n1_ n2_ n3_; obtain ⟨HG, hg⟩ := HI0.out; have hc0 := cellS50_0 HG; have hc1 := cellS50_1 HG; have hf0 := blk_frozen HG 0; have hf1 := blk_frozen HG 1; clear HG hg; have hz0 : w1.cell? ⟨gb, 0, none⟩ = some (.int .i64 0) := (blk_cell BK.out 0).trans rfl; have hz1 : w1.cell? ⟨gb, 1, none⟩ = some (.string (⟨#[]⟩ : ByteArray)) := (blk_cell BK.out 1).trans rfl; have hz2 : w1.cell? ⟨gb, 2, none⟩ = some (.int .i64 0) := (blk_cell BK.out 2).trans rfl; have hy0 := blk_frozen BK.out 0; have hy1 := blk_frozen BK.out 1; have hy2 := blk_frozen BK.out 2))
           refine bodyPost_ret (results_cell_row rfl _ _ gb 34 #[.int .i64 3, .string x, .int .i64 p] (0, 0) _ rfl (by (with_reducible repeat (first | refine blk_drewN ?_ _ | refine blk_drew ?_ | refine blk_alloc ?_ _ | refine HLex.blk_far ?_ NE.out _)); refine blk_put (cs := #[.int .i64 3, .string x, .int .i64 0]) ?_ 2 _ rfl; (with_reducible repeat (first | refine blk_drewN ?_ _ | refine blk_drew ?_ | refine blk_alloc ?_ _ | refine HLex.blk_far ?_ NE.out _)); refine blk_put (cs := #[.int .i64 3, .string (⟨#[]⟩ : ByteArray), .int .i64 0]) ?_ 1 _ rfl; (with_reducible repeat (first | refine blk_drewN ?_ _ | refine blk_drew ?_ | refine blk_alloc ?_ _ | refine HLex.blk_far ?_ NE.out _)); refine blk_put (cs := #[.int .i64 0, .string (⟨#[]⟩ : ByteArray), .int .i64 0]) ?_ 0 _ rfl; (with_reducible repeat (first | refine blk_drewN ?_ _ | refine blk_drew ?_ | refine blk_alloc ?_ _ | refine HLex.blk_far ?_ NE.out _)); exact BK.out) Tryd.underlying34 rfl (by kernel_rfl)) rfl ?_
           exact ⟨by repeat (first | (with_reducible first | exact HB.out | apply below_alloc | apply pw_below_drewN | apply below_drew1 | refine below_set ?_ GE.out | refine below_set ?_ (IsS50.ge HI0.out)) | exact HB.out), by repeat (first | (with_reducible first | exact HK.out | refine keep_far ?_ GW.out _ | apply KeepBut.set_ | apply keep_drewN | apply keep_drew | apply keep_alloc) | exact HK.out), rfl, by repeat (first | (with_reducible first | exact HI0.out | apply IsS50.drewN | apply IsS50.drew | refine IsS50.set_far ?_ NE.out _ | apply IsS50.set_1) | exact HI0.out)⟩
         ·have hd : signsB.drop i = [] := List.drop_eq_nil_iff.2 (by have : signsB.length = 33 := rfl; omega)
          rw [hd] at H
          obtain rfl := Option.some.inj H
          have h := HR.out
          clear HR H hd
          obtain rfl := Option.some.inj h
          clear h
          have hge : ¬ (i : Int) < 33 := by omega
          go_wp2
          exact ⟨rfl, by repeat (first | (with_reducible first | exact HB.out | apply below_alloc | apply pw_below_drewN | apply below_drew1 | refine below_set ?_ (IsS50.ge HI0.out)) | exact HB.out), by repeat (first | (with_reducible first | exact HK.out | apply KeepBut.set_ | apply keep_drewN | apply keep_drew | apply keep_alloc) | exact HK.out), rfl⟩
      ·replace h := (if_pos rfl).symm.trans h
       by_cases hcd : 0 ≤ p ∧ p ≤ e2 ∧ e2 ≤ (s.size : Int)
       ·replace h := (if_pos hcd).symm.trans h
        obtain rfl := Option.some.inj h
        clear h
        obtain ⟨d0, d1, d2⟩ := hcd
        have d0b : decide (0 ≤ p) = true := decide_eq_true d0
        have d1b : decide (p ≤ e2) = true := decide_eq_true d1
        have d2b : decide (e2 ≤ (s.size : Int)) = true := decide_eq_true d2
        have d0c := eq_true d0
        have d1c := eq_true d1
        have d2c := eq_true d2
        have d3 : 0 ≤ e2 := Int.le_trans d0 d1
        have d3b : decide (0 ≤ e2) = true := decide_eq_true d3
        clear d0 d1 d2 d3
        go_wp2_with (first | (go_at_call 23; (with_reducible refine (lex_reader_has.calls g s p (⟨#[34]⟩ : ByteArray) false s p w0 _ (by repeat (first | (with_reducible first | exact HI0.out | apply IsS50.alloc | apply IsS50.drewN | apply IsS50.drew | apply IsS50.set_0 | apply IsS50.set_1) | exact HI0.out)) (by repeat (first | (with_reducible first | exact HB.out | apply below_alloc | apply pw_below_drewN | apply below_drew1 | refine below_set ?_ (IsS50.ge HI0.out)) | exact HB.out)) AD1.out).mono ?_); rintro e w1 ⟨rfl, hI1, hB1, hK1⟩; have n4_ := Aside0.mk (HLex.blk_keep (by (with_reducible repeat (first | refine blk_drewN ?_ _ | refine blk_drew ?_ | refine blk_alloc ?_ _)); exact BK.out) hK1 NE.out); clear BK; have BK := n4_; clear n4_; have n1_ := Aside0.mk hI1; have n2_ := Aside0.mk hB1; have n3_ := Aside0.mk (KeepBut.trans (by repeat (first | (with_reducible first | exact HK.out | apply KeepBut.set_ | apply keep_drewN | apply keep_drew | apply keep_alloc) | exact HK.out)) hK1 (by simp)); clear HI0 HB HK hI1 hB1 hK1 hc0 hc1 hf0 hf1; have HI0 := n1_; have HB := n2_; have HK := n3_; clear n1_ n2_ n3_; obtain ⟨HG, hg⟩ := HI0.out; have hc0 := cellS50_0 HG; have hc1 := cellS50_1 HG; have hf0 := blk_frozen HG 0; have hf1 := blk_frozen HG 1; clear HG hg) | (go_at_call 23; (with_reducible refine (lex_reader_has.calls g s p (⟨#[39]⟩ : ByteArray) false s p w0 _ (by repeat (first | (with_reducible first | exact HI0.out | apply IsS50.alloc | apply IsS50.drewN | apply IsS50.drew | apply IsS50.set_0 | apply IsS50.set_1) | exact HI0.out)) (by repeat (first | (with_reducible first | exact HB.out | apply below_alloc | apply pw_below_drewN | apply below_drew1 | refine below_set ?_ (IsS50.ge HI0.out)) | exact HB.out)) AX3.out).mono ?_); rintro e w1 ⟨rfl, hI1, hB1, hK1⟩; have n4_ := Aside0.mk (HLex.blk_keep (by (with_reducible repeat (first | refine blk_drewN ?_ _ | refine blk_drew ?_ | refine blk_alloc ?_ _)); exact BK.out) hK1 NE.out); clear BK; have BK := n4_; clear n4_; have n1_ := Aside0.mk hI1; have n2_ := Aside0.mk hB1; have n3_ := Aside0.mk (KeepBut.trans (by repeat (first | (with_reducible first | exact HK.out | apply KeepBut.set_ | apply keep_drewN | apply keep_drew | apply keep_alloc) | exact HK.out)) hK1 (by simp)); clear HI0 HB HK hI1 hB1 hK1 hc0 hc1 hf0 hf1; have HI0 := n1_; have HB := n2_; have HK := n3_; clear n1_ n2_ n3_; obtain ⟨HG, hg⟩ := HI0.out; have hc0 := cellS50_0 HG; have hc1 := cellS50_1 HG; have hf0 := blk_frozen HG 0; have hf1 := blk_frozen HG 1; clear HG hg) | (go_at_call 42; (with_reducible refine (lex_reader_number.calls k g s p _ w0 _ HT.out (by repeat (first | (with_reducible first | exact HI0.out | apply IsS50.alloc | apply IsS50.drewN | apply IsS50.drew | apply IsS50.set_0 | apply IsS50.set_1) | exact HI0.out)) (by repeat (first | (with_reducible first | exact HB.out | apply below_alloc | apply pw_below_drewN | apply below_drew1 | refine below_set ?_ (IsS50.ge HI0.out)) | exact HB.out)) AN.out).mono ?_); rintro e w1 ⟨hB1, hK1, ⟨rfl, hI1⟩⟩; have n4_ := Aside0.mk (HLex.blk_keep (by (with_reducible repeat (first | refine blk_drewN ?_ _ | refine blk_drew ?_ | refine blk_alloc ?_ _)); exact BK.out) hK1 NE.out); clear BK; have BK := n4_; clear n4_; have n1_ := Aside0.mk hI1; have n2_ := Aside0.mk hB1; have n3_ := Aside0.mk (KeepBut.trans (by repeat (first | (with_reducible first | exact HK.out | apply KeepBut.set_ | apply keep_drewN | apply keep_drew | apply keep_alloc) | exact HK.out)) hK1 (by simp)); clear HI0 HB HK hI1 hB1 hK1 hc0 hc1 hf0 hf1; have HI0 := n1_; have HB := n2_; have HK := n3_; clear n1_ n2_ n3_; obtain ⟨HG, hg⟩ := HI0.out; have hc0 := cellS50_0 HG; have hc1 := cellS50_1 HG; have hf0 := blk_frozen HG 0; have hf1 := blk_frozen HG 1; clear HG hg) | (go_at_call 43; (with_reducible refine (lex_reader_name.calls k g s e1 _ w0 _ (by repeat (first | (with_reducible first | exact HI0.out | apply IsS50.alloc | apply IsS50.drewN | apply IsS50.drew | apply IsS50.set_0 | apply IsS50.set_1) | exact HI0.out)) (by repeat (first | (with_reducible first | exact HB.out | apply below_alloc | apply pw_below_drewN | apply below_drew1 | refine below_set ?_ (IsS50.ge HI0.out)) | exact HB.out)) AM.out).mono ?_); rintro e w1 ⟨hB1, hK1, ⟨rfl, hI1⟩⟩; have n4_ := Aside0.mk (HLex.blk_keep (by (with_reducible repeat (first | refine blk_drewN ?_ _ | refine blk_drew ?_ | refine blk_alloc ?_ _)); exact BK.out) hK1 NE.out); clear BK; have BK := n4_; clear n4_; have n1_ := Aside0.mk hI1; have n2_ := Aside0.mk hB1; have n3_ := Aside0.mk (KeepBut.trans (by repeat (first | (with_reducible first | exact HK.out | apply KeepBut.set_ | apply keep_drewN | apply keep_drew | apply keep_alloc) | exact HK.out)) hK1 (by simp)); clear HI0 HB HK hI1 hB1 hK1 hc0 hc1 hf0 hf1; have HI0 := n1_; have HB := n2_; have HK := n3_; clear n1_ n2_ n3_; obtain ⟨HG, hg⟩ := HI0.out; have hc0 := cellS50_0 HG; have hc1 := cellS50_1 HG; have hf0 := blk_frozen HG 0; have hf1 := blk_frozen HG 1; clear HG hg))
        refine HLex.at_world fun wq hq => ?_
        have n1_ : Aside0 (IsS50 w0 wq g s e2) := ⟨by rw [hq]; exact (by repeat (first | (with_reducible first | exact HI0.out | apply IsS50.alloc | apply IsS50.drewN | apply IsS50.drew | apply IsS50.set_0 | apply IsS50.set_1) | exact HI0.out))⟩
        have n2_ : Aside0 (Below w0.heap.size w0 wq) := ⟨by rw [hq]; exact (by repeat (first | (with_reducible first | exact HB.out | apply below_alloc | apply pw_below_drewN | apply below_drew1 | refine below_set ?_ (IsS50.ge HI0.out)) | exact HB.out))⟩
        have n3_ : Aside0 (KeepBut w wq g none) := ⟨by rw [hq]; exact (by repeat (first | (with_reducible first | exact HK.out | apply KeepBut.set_ | apply keep_drewN | apply keep_drew | apply keep_alloc) | exact HK.out))⟩
        have n4_ : Aside0 (wq.heap[gb]? = some (.cells #[.int .i64 0, .string (⟨#[]⟩ : ByteArray), .int .i64 0] 34 (0, 0))) := ⟨by rw [hq]; exact (by (with_reducible repeat (first | refine blk_drewN ?_ _ | refine blk_drew ?_ | refine blk_alloc ?_ _)); exact BK.out)⟩
        clear HI0 HB HK BK hc0 hc1 hf0 hf1 hq
        have HI0 := n1_
        have HB := n2_
        have HK := n3_
        have BK := n4_
        clear n1_ n2_ n3_ n4_
        have hc0 : ∀ w' : World, w'.heap = wq.heap → w'.cell? ⟨g, 0, none⟩ = some (.string s) := fun w' e => cellS50_0 (by rw [e]; exact HI0.out.1)
        have hc1 : ∀ w' : World, w'.heap = wq.heap → w'.cell? ⟨g, 1, none⟩ = some (.int .i64 e2) := fun w' e => cellS50_1 (by rw [e]; exact HI0.out.1)
        have hz0 : wq.cell? ⟨gb, 0, none⟩ = some (.int .i64 0) := (blk_cell BK.out 0).trans rfl
        have hz1 : wq.cell? ⟨gb, 1, none⟩ = some (.string (⟨#[]⟩ : ByteArray)) := (blk_cell BK.out 1).trans rfl
        have hz2 : wq.cell? ⟨gb, 2, none⟩ = some (.int .i64 0) := (blk_cell BK.out 2).trans rfl
        have hy0 := blk_frozen BK.out 0
        have hy1 := blk_frozen BK.out 1
        have hy2 := blk_frozen BK.out 2
        go_still_tail 12, (by kernel_rfl)
        change wpList _ _ _ _ _ wq.drew
        go_wp2
        refine bodyPost_ret (results_cell_row rfl _ _ gb 34 #[.int .i64 0, .string (s.extract p.toNat (e2).toNat), .int .i64 p] (0, 0) _ rfl (by (with_reducible repeat (first | refine blk_drewN ?_ _ | refine blk_drew ?_ | refine blk_alloc ?_ _ | refine HLex.blk_far ?_ NE.out _)); refine blk_put (cs := #[.int .i64 0, .string (s.extract p.toNat (e2).toNat), .int .i64 0]) ?_ 2 _ rfl; (with_reducible repeat (first | refine blk_drewN ?_ _ | refine blk_drew ?_ | refine blk_alloc ?_ _ | refine HLex.blk_far ?_ NE.out _)); refine blk_put (cs := #[.int .i64 0, .string (⟨#[]⟩ : ByteArray), .int .i64 0]) ?_ 1 _ rfl; (with_reducible repeat (first | refine blk_drewN ?_ _ | refine blk_drew ?_ | refine blk_alloc ?_ _ | refine HLex.blk_far ?_ NE.out _)); refine blk_put (cs := #[.int .i64 0, .string (⟨#[]⟩ : ByteArray), .int .i64 0]) ?_ 0 _ rfl; (with_reducible repeat (first | refine blk_drewN ?_ _ | refine blk_drew ?_ | refine blk_alloc ?_ _ | refine HLex.blk_far ?_ NE.out _)); exact BK.out) Tryd.underlying34 rfl (by kernel_rfl)) rfl ?_
        exact ⟨by repeat (first | (with_reducible first | exact HB.out | apply below_alloc | apply pw_below_drewN | apply below_drew1 | refine below_set ?_ GE.out | refine below_set ?_ (IsS50.ge HI0.out)) | exact HB.out), by repeat (first | (with_reducible first | exact HK.out | refine keep_far ?_ GW.out _ | apply KeepBut.set_ | apply keep_drewN | apply keep_drew | apply keep_alloc) | exact HK.out), rfl, by repeat (first | (with_reducible first | exact HI0.out | apply IsS50.drewN | apply IsS50.drew | refine IsS50.set_far ?_ NE.out _ | apply IsS50.set_1) | exact HI0.out)⟩
       ·exact absurd ((if_neg hcd).symm.trans h) (by simp)
    ·replace h := (if_pos rfl).symm.trans h
     by_cases hcd : 0 ≤ p ∧ p ≤ e1 ∧ e1 ≤ (s.size : Int)
     ·replace h := (if_pos hcd).symm.trans h
      obtain rfl := Option.some.inj h
      clear h
      obtain ⟨d0, d1, d2⟩ := hcd
      have d0b : decide (0 ≤ p) = true := decide_eq_true d0
      have d1b : decide (p ≤ e1) = true := decide_eq_true d1
      have d2b : decide (e1 ≤ (s.size : Int)) = true := decide_eq_true d2
      have d0c := eq_true d0
      have d1c := eq_true d1
      have d2c := eq_true d2
      have d3 : 0 ≤ e1 := Int.le_trans d0 d1
      have d3b : decide (0 ≤ e1) = true := decide_eq_true d3
      clear d0 d1 d2 d3
      go_wp2_with (first | (go_at_call 23; (with_reducible refine (lex_reader_has.calls g s p (⟨#[34]⟩ : ByteArray) false s p w0 _ (by repeat (first | (with_reducible first | exact HI0.out | apply IsS50.alloc | apply IsS50.drewN | apply IsS50.drew | apply IsS50.set_0 | apply IsS50.set_1) | exact HI0.out)) (by repeat (first | (with_reducible first | exact HB.out | apply below_alloc | apply pw_below_drewN | apply below_drew1 | refine below_set ?_ (IsS50.ge HI0.out)) | exact HB.out)) AD1.out).mono ?_); rintro e w1 ⟨rfl, hI1, hB1, hK1⟩; have n4_ := Aside0.mk (HLex.blk_keep (by (with_reducible repeat (first | refine blk_drewN ?_ _ | refine blk_drew ?_ | refine blk_alloc ?_ _)); exact BK.out) hK1 NE.out); clear BK; have BK := n4_; clear n4_; have n1_ := Aside0.mk hI1; have n2_ := Aside0.mk hB1; have n3_ := Aside0.mk (KeepBut.trans (by repeat (first | (with_reducible first | exact HK.out | apply KeepBut.set_ | apply keep_drewN | apply keep_drew | apply keep_alloc) | exact HK.out)) hK1 (by simp)); clear HI0 HB HK hI1 hB1 hK1 hc0 hc1 hf0 hf1; have HI0 := n1_; have HB := n2_; have HK := n3_; clear n1_ n2_ n3_; obtain ⟨HG, hg⟩ := HI0.out; have hc0 := cellS50_0 HG; have hc1 := cellS50_1 HG; have hf0 := blk_frozen HG 0; have hf1 := blk_frozen HG 1; clear HG hg) | (go_at_call 23; (with_reducible refine (lex_reader_has.calls g s p (⟨#[39]⟩ : ByteArray) false s p w0 _ (by repeat (first | (with_reducible first | exact HI0.out | apply IsS50.alloc | apply IsS50.drewN | apply IsS50.drew | apply IsS50.set_0 | apply IsS50.set_1) | exact HI0.out)) (by repeat (first | (with_reducible first | exact HB.out | apply below_alloc | apply pw_below_drewN | apply below_drew1 | refine below_set ?_ (IsS50.ge HI0.out)) | exact HB.out)) AX3.out).mono ?_); rintro e w1 ⟨rfl, hI1, hB1, hK1⟩; have n4_ := Aside0.mk (HLex.blk_keep (by (with_reducible repeat (first | refine blk_drewN ?_ _ | refine blk_drew ?_ | refine blk_alloc ?_ _)); exact BK.out) hK1 NE.out); clear BK; have BK := n4_; clear n4_; have n1_ := Aside0.mk hI1; have n2_ := Aside0.mk hB1; have n3_ := Aside0.mk (KeepBut.trans (by repeat (first | (with_reducible first | exact HK.out | apply KeepBut.set_ | apply keep_drewN | apply keep_drew | apply keep_alloc) | exact HK.out)) hK1 (by simp)); clear HI0 HB HK hI1 hB1 hK1 hc0 hc1 hf0 hf1; have HI0 := n1_; have HB := n2_; have HK := n3_; clear n1_ n2_ n3_; obtain ⟨HG, hg⟩ := HI0.out; have hc0 := cellS50_0 HG; have hc1 := cellS50_1 HG; have hf0 := blk_frozen HG 0; have hf1 := blk_frozen HG 1; clear HG hg) | (go_at_call 42; (with_reducible refine (lex_reader_number.calls k g s p _ w0 _ HT.out (by repeat (first | (with_reducible first | exact HI0.out | apply IsS50.alloc | apply IsS50.drewN | apply IsS50.drew | apply IsS50.set_0 | apply IsS50.set_1) | exact HI0.out)) (by repeat (first | (with_reducible first | exact HB.out | apply below_alloc | apply pw_below_drewN | apply below_drew1 | refine below_set ?_ (IsS50.ge HI0.out)) | exact HB.out)) AN.out).mono ?_); rintro e w1 ⟨hB1, hK1, ⟨rfl, hI1⟩⟩; have n4_ := Aside0.mk (HLex.blk_keep (by (with_reducible repeat (first | refine blk_drewN ?_ _ | refine blk_drew ?_ | refine blk_alloc ?_ _)); exact BK.out) hK1 NE.out); clear BK; have BK := n4_; clear n4_; have n1_ := Aside0.mk hI1; have n2_ := Aside0.mk hB1; have n3_ := Aside0.mk (KeepBut.trans (by repeat (first | (with_reducible first | exact HK.out | apply KeepBut.set_ | apply keep_drewN | apply keep_drew | apply keep_alloc) | exact HK.out)) hK1 (by simp)); clear HI0 HB HK hI1 hB1 hK1 hc0 hc1 hf0 hf1; have HI0 := n1_; have HB := n2_; have HK := n3_; clear n1_ n2_ n3_; obtain ⟨HG, hg⟩ := HI0.out; have hc0 := cellS50_0 HG; have hc1 := cellS50_1 HG; have hf0 := blk_frozen HG 0; have hf1 := blk_frozen HG 1; clear HG hg))
      refine HLex.at_world fun wq hq => ?_
      have n1_ : Aside0 (IsS50 w0 wq g s e1) := ⟨by rw [hq]; exact (by repeat (first | (with_reducible first | exact HI0.out | apply IsS50.alloc | apply IsS50.drewN | apply IsS50.drew | apply IsS50.set_0 | apply IsS50.set_1) | exact HI0.out))⟩
      have n2_ : Aside0 (Below w0.heap.size w0 wq) := ⟨by rw [hq]; exact (by repeat (first | (with_reducible first | exact HB.out | apply below_alloc | apply pw_below_drewN | apply below_drew1 | refine below_set ?_ (IsS50.ge HI0.out)) | exact HB.out))⟩
      have n3_ : Aside0 (KeepBut w wq g none) := ⟨by rw [hq]; exact (by repeat (first | (with_reducible first | exact HK.out | apply KeepBut.set_ | apply keep_drewN | apply keep_drew | apply keep_alloc) | exact HK.out))⟩
      have n4_ : Aside0 (wq.heap[gb]? = some (.cells #[.int .i64 0, .string (⟨#[]⟩ : ByteArray), .int .i64 0] 34 (0, 0))) := ⟨by rw [hq]; exact (by (with_reducible repeat (first | refine blk_drewN ?_ _ | refine blk_drew ?_ | refine blk_alloc ?_ _)); exact BK.out)⟩
      clear HI0 HB HK BK hc0 hc1 hf0 hf1 hq
      have HI0 := n1_
      have HB := n2_
      have HK := n3_
      have BK := n4_
      clear n1_ n2_ n3_ n4_
      have hc0 : ∀ w' : World, w'.heap = wq.heap → w'.cell? ⟨g, 0, none⟩ = some (.string s) := fun w' e => cellS50_0 (by rw [e]; exact HI0.out.1)
      have hc1 : ∀ w' : World, w'.heap = wq.heap → w'.cell? ⟨g, 1, none⟩ = some (.int .i64 e1) := fun w' e => cellS50_1 (by rw [e]; exact HI0.out.1)
      have hz0 : wq.cell? ⟨gb, 0, none⟩ = some (.int .i64 0) := (blk_cell BK.out 0).trans rfl
      have hz1 : wq.cell? ⟨gb, 1, none⟩ = some (.string (⟨#[]⟩ : ByteArray)) := (blk_cell BK.out 1).trans rfl
      have hz2 : wq.cell? ⟨gb, 2, none⟩ = some (.int .i64 0) := (blk_cell BK.out 2).trans rfl
      have hy0 := blk_frozen BK.out 0
      have hy1 := blk_frozen BK.out 1
      have hy2 := blk_frozen BK.out 2
      go_still_tail 12, (by kernel_rfl)
      change wpList _ _ _ _ _ wq.drew
      go_wp2
      refine bodyPost_ret (results_cell_row rfl _ _ gb 34 #[.int .i64 1, .string (s.extract p.toNat (e1).toNat), .int .i64 p] (0, 0) _ rfl (by (with_reducible repeat (first | refine blk_drewN ?_ _ | refine blk_drew ?_ | refine blk_alloc ?_ _ | refine HLex.blk_far ?_ NE.out _)); refine blk_put (cs := #[.int .i64 1, .string (s.extract p.toNat (e1).toNat), .int .i64 0]) ?_ 2 _ rfl; (with_reducible repeat (first | refine blk_drewN ?_ _ | refine blk_drew ?_ | refine blk_alloc ?_ _ | refine HLex.blk_far ?_ NE.out _)); refine blk_put (cs := #[.int .i64 1, .string (⟨#[]⟩ : ByteArray), .int .i64 0]) ?_ 1 _ rfl; (with_reducible repeat (first | refine blk_drewN ?_ _ | refine blk_drew ?_ | refine blk_alloc ?_ _ | refine HLex.blk_far ?_ NE.out _)); refine blk_put (cs := #[.int .i64 0, .string (⟨#[]⟩ : ByteArray), .int .i64 0]) ?_ 0 _ rfl; (with_reducible repeat (first | refine blk_drewN ?_ _ | refine blk_drew ?_ | refine blk_alloc ?_ _ | refine HLex.blk_far ?_ NE.out _)); exact BK.out) Tryd.underlying34 rfl (by kernel_rfl)) rfl ?_
      exact ⟨by repeat (first | (with_reducible first | exact HB.out | apply below_alloc | apply pw_below_drewN | apply below_drew1 | refine below_set ?_ GE.out | refine below_set ?_ (IsS50.ge HI0.out)) | exact HB.out), by repeat (first | (with_reducible first | exact HK.out | refine keep_far ?_ GW.out _ | apply KeepBut.set_ | apply keep_drewN | apply keep_drew | apply keep_alloc) | exact HK.out), rfl, by repeat (first | (with_reducible first | exact HI0.out | apply IsS50.drewN | apply IsS50.drew | refine IsS50.set_far ?_ NE.out _ | apply IsS50.set_1) | exact HI0.out)⟩
     ·exact absurd ((if_neg hcd).symm.trans h) (by simp)
  ·skip
   replace h := (if_pos rfl).symm.trans h
   obtain ⟨y, Q1, h⟩ := Option.bind_eq_some_iff.mp h
   have AQ := Aside0.mk Q1
   clear Q1
   cases y with
   | none =>
    obtain rfl := Option.some.inj h
    clear h
    go_wp2_with (first | (go_at_call 23; (with_reducible refine (lex_reader_has.calls g s p (⟨#[34]⟩ : ByteArray) false s p w0 _ (by repeat (first | (with_reducible first | exact HI0.out | apply IsS50.alloc | apply IsS50.drewN | apply IsS50.drew | apply IsS50.set_0 | apply IsS50.set_1) | exact HI0.out)) (by repeat (first | (with_reducible first | exact HB.out | apply below_alloc | apply pw_below_drewN | apply below_drew1 | refine below_set ?_ (IsS50.ge HI0.out)) | exact HB.out)) AD1.out).mono ?_); rintro e w1 ⟨rfl, hI1, hB1, hK1⟩; have n4_ := Aside0.mk (HLex.blk_keep (by (with_reducible repeat (first | refine blk_drewN ?_ _ | refine blk_drew ?_ | refine blk_alloc ?_ _)); exact BK.out) hK1 NE.out); clear BK; have BK := n4_; clear n4_; have n1_ := Aside0.mk hI1; have n2_ := Aside0.mk hB1; have n3_ := Aside0.mk (KeepBut.trans (by repeat (first | (with_reducible first | exact HK.out | apply KeepBut.set_ | apply keep_drewN | apply keep_drew | apply keep_alloc) | exact HK.out)) hK1 (by simp)); clear HI0 HB HK hI1 hB1 hK1 hc0 hc1 hf0 hf1; have HI0 := n1_; have HB := n2_; have HK := n3_; clear n1_ n2_ n3_; obtain ⟨HG, hg⟩ := HI0.out; have hc0 := cellS50_0 HG; have hc1 := cellS50_1 HG; have hf0 := blk_frozen HG 0; have hf1 := blk_frozen HG 1; clear HG hg) | (go_at_call 23; (with_reducible refine (lex_reader_has.calls g s p (⟨#[39]⟩ : ByteArray) true s p w0 _ (by repeat (first | (with_reducible first | exact HI0.out | apply IsS50.alloc | apply IsS50.drewN | apply IsS50.drew | apply IsS50.set_0 | apply IsS50.set_1) | exact HI0.out)) (by repeat (first | (with_reducible first | exact HB.out | apply below_alloc | apply pw_below_drewN | apply below_drew1 | refine below_set ?_ (IsS50.ge HI0.out)) | exact HB.out)) AX3.out).mono ?_); rintro e w1 ⟨rfl, hI1, hB1, hK1⟩; have n4_ := Aside0.mk (HLex.blk_keep (by (with_reducible repeat (first | refine blk_drewN ?_ _ | refine blk_drew ?_ | refine blk_alloc ?_ _)); exact BK.out) hK1 NE.out); clear BK; have BK := n4_; clear n4_; have n1_ := Aside0.mk hI1; have n2_ := Aside0.mk hB1; have n3_ := Aside0.mk (KeepBut.trans (by repeat (first | (with_reducible first | exact HK.out | apply KeepBut.set_ | apply keep_drewN | apply keep_drew | apply keep_alloc) | exact HK.out)) hK1 (by simp)); clear HI0 HB HK hI1 hB1 hK1 hc0 hc1 hf0 hf1; have HI0 := n1_; have HB := n2_; have HK := n3_; clear n1_ n2_ n3_; obtain ⟨HG, hg⟩ := HI0.out; have hc0 := cellS50_0 HG; have hc1 := cellS50_1 HG; have hf0 := blk_frozen HG 0; have hf1 := blk_frozen HG 1; clear HG hg) | (go_at_call 41; (with_reducible refine (lex_reader_quoted.calls k g s p _ w0 _ (by repeat (first | (with_reducible first | exact HI0.out | apply IsS50.alloc | apply IsS50.drewN | apply IsS50.drew | apply IsS50.set_0 | apply IsS50.set_1) | exact HI0.out)) (by repeat (first | (with_reducible first | exact HB.out | apply below_alloc | apply pw_below_drewN | apply below_drew1 | refine below_set ?_ (IsS50.ge HI0.out)) | exact HB.out)) AQ.out).mono ?_); rintro e w1 ⟨hB1, hK1, rfl⟩; have HBE := Aside0.mk hB1; have HKE := Aside0.mk (KeepBut.trans (by repeat (first | (with_reducible first | exact HK.out | apply KeepBut.set_ | apply keep_drewN | apply keep_drew | apply keep_alloc) | exact HK.out)) hK1 (by simp)); clear hB1 hK1))
    exact ⟨rfl, by repeat (first | exact HBE.out | apply pw_below_drewN | apply below_drew1), by repeat (first | exact HKE.out | apply keep_drewN | apply keep_drew), rfl⟩
   | some y =>
    obtain rfl := Option.some.inj h
    clear h
    go_wp2_with (first | (go_at_call 23; (with_reducible refine (lex_reader_has.calls g s p (⟨#[34]⟩ : ByteArray) false s p w0 _ (by repeat (first | (with_reducible first | exact HI0.out | apply IsS50.alloc | apply IsS50.drewN | apply IsS50.drew | apply IsS50.set_0 | apply IsS50.set_1) | exact HI0.out)) (by repeat (first | (with_reducible first | exact HB.out | apply below_alloc | apply pw_below_drewN | apply below_drew1 | refine below_set ?_ (IsS50.ge HI0.out)) | exact HB.out)) AD1.out).mono ?_); rintro e w1 ⟨rfl, hI1, hB1, hK1⟩; have n4_ := Aside0.mk (HLex.blk_keep (by (with_reducible repeat (first | refine blk_drewN ?_ _ | refine blk_drew ?_ | refine blk_alloc ?_ _)); exact BK.out) hK1 NE.out); clear BK; have BK := n4_; clear n4_; have n1_ := Aside0.mk hI1; have n2_ := Aside0.mk hB1; have n3_ := Aside0.mk (KeepBut.trans (by repeat (first | (with_reducible first | exact HK.out | apply KeepBut.set_ | apply keep_drewN | apply keep_drew | apply keep_alloc) | exact HK.out)) hK1 (by simp)); clear HI0 HB HK hI1 hB1 hK1 hc0 hc1 hf0 hf1; have HI0 := n1_; have HB := n2_; have HK := n3_; clear n1_ n2_ n3_; obtain ⟨HG, hg⟩ := HI0.out; have hc0 := cellS50_0 HG; have hc1 := cellS50_1 HG; have hf0 := blk_frozen HG 0; have hf1 := blk_frozen HG 1; clear HG hg) | (go_at_call 23; (with_reducible refine (lex_reader_has.calls g s p (⟨#[39]⟩ : ByteArray) true s p w0 _ (by repeat (first | (with_reducible first | exact HI0.out | apply IsS50.alloc | apply IsS50.drewN | apply IsS50.drew | apply IsS50.set_0 | apply IsS50.set_1) | exact HI0.out)) (by repeat (first | (with_reducible first | exact HB.out | apply below_alloc | apply pw_below_drewN | apply below_drew1 | refine below_set ?_ (IsS50.ge HI0.out)) | exact HB.out)) AX3.out).mono ?_); rintro e w1 ⟨rfl, hI1, hB1, hK1⟩; have n4_ := Aside0.mk (HLex.blk_keep (by (with_reducible repeat (first | refine blk_drewN ?_ _ | refine blk_drew ?_ | refine blk_alloc ?_ _)); exact BK.out) hK1 NE.out); clear BK; have BK := n4_; clear n4_; have n1_ := Aside0.mk hI1; have n2_ := Aside0.mk hB1; have n3_ := Aside0.mk (KeepBut.trans (by repeat (first | (with_reducible first | exact HK.out | apply KeepBut.set_ | apply keep_drewN | apply keep_drew | apply keep_alloc) | exact HK.out)) hK1 (by simp)); clear HI0 HB HK hI1 hB1 hK1 hc0 hc1 hf0 hf1; have HI0 := n1_; have HB := n2_; have HK := n3_; clear n1_ n2_ n3_; obtain ⟨HG, hg⟩ := HI0.out; have hc0 := cellS50_0 HG; have hc1 := cellS50_1 HG; have hf0 := blk_frozen HG 0; have hf1 := blk_frozen HG 1; clear HG hg) | (go_at_call 41; (with_reducible refine (lex_reader_quoted.calls k g s p _ w0 _ (by repeat (first | (with_reducible first | exact HI0.out | apply IsS50.alloc | apply IsS50.drewN | apply IsS50.drew | apply IsS50.set_0 | apply IsS50.set_1) | exact HI0.out)) (by repeat (first | (with_reducible first | exact HB.out | apply below_alloc | apply pw_below_drewN | apply below_drew1 | refine below_set ?_ (IsS50.ge HI0.out)) | exact HB.out)) AQ.out).mono ?_); rintro e w1 ⟨hB1, hK1, ⟨rfl, hI1⟩⟩; have n4_ := Aside0.mk (HLex.blk_keep (by (with_reducible repeat (first | refine blk_drewN ?_ _ | refine blk_drew ?_ | refine blk_alloc ?_ _)); exact BK.out) hK1 NE.out); clear BK; have BK := n4_; clear n4_; have n1_ := Aside0.mk hI1; have n2_ := Aside0.mk hB1; have n3_ := Aside0.mk (KeepBut.trans (by repeat (first | (with_reducible first | exact HK.out | apply KeepBut.set_ | apply keep_drewN | apply keep_drew | apply keep_alloc) | exact HK.out)) hK1 (by simp)); clear HI0 HB HK hI1 hB1 hK1 hc0 hc1 hf0 hf1; have HI0 := n1_; have HB := n2_; have HK := n3_; clear n1_ n2_ n3_; obtain ⟨HG, hg⟩ := HI0.out; have hc0 := cellS50_0 HG; have hc1 := cellS50_1 HG; have hf0 := blk_frozen HG 0; have hf1 := blk_frozen HG 1; clear HG hg; have hz0 : w1.cell? ⟨gb, 0, none⟩ = some (.int .i64 0) := (blk_cell BK.out 0).trans rfl; have hz1 : w1.cell? ⟨gb, 1, none⟩ = some (.string (⟨#[]⟩ : ByteArray)) := (blk_cell BK.out 1).trans rfl; have hz2 : w1.cell? ⟨gb, 2, none⟩ = some (.int .i64 0) := (blk_cell BK.out 2).trans rfl; have hy0 := blk_frozen BK.out 0; have hy1 := blk_frozen BK.out 1; have hy2 := blk_frozen BK.out 2))
    refine bodyPost_ret (results_cell_row rfl _ _ gb 34 #[.int .i64 2, .string (⟨y.1.toArray⟩ : ByteArray), .int .i64 p] (0, 0) _ rfl (by (with_reducible repeat (first | refine blk_drewN ?_ _ | refine blk_drew ?_ | refine blk_alloc ?_ _ | refine HLex.blk_far ?_ NE.out _)); refine blk_put (cs := #[.int .i64 2, .string (⟨y.1.toArray⟩ : ByteArray), .int .i64 0]) ?_ 2 _ rfl; (with_reducible repeat (first | refine blk_drewN ?_ _ | refine blk_drew ?_ | refine blk_alloc ?_ _ | refine HLex.blk_far ?_ NE.out _)); refine blk_put (cs := #[.int .i64 2, .string (⟨#[]⟩ : ByteArray), .int .i64 0]) ?_ 1 _ rfl; (with_reducible repeat (first | refine blk_drewN ?_ _ | refine blk_drew ?_ | refine blk_alloc ?_ _ | refine HLex.blk_far ?_ NE.out _)); refine blk_put (cs := #[.int .i64 0, .string (⟨#[]⟩ : ByteArray), .int .i64 0]) ?_ 0 _ rfl; (with_reducible repeat (first | refine blk_drewN ?_ _ | refine blk_drew ?_ | refine blk_alloc ?_ _ | refine HLex.blk_far ?_ NE.out _)); exact BK.out) Tryd.underlying34 rfl (by kernel_rfl)) rfl ?_
    exact ⟨by repeat (first | (with_reducible first | exact HB.out | apply below_alloc | apply pw_below_drewN | apply below_drew1 | refine below_set ?_ GE.out | refine below_set ?_ (IsS50.ge HI0.out)) | exact HB.out), by repeat (first | (with_reducible first | exact HK.out | refine keep_far ?_ GW.out _ | apply KeepBut.set_ | apply keep_drewN | apply keep_drew | apply keep_alloc) | exact HK.out), rfl, by repeat (first | (with_reducible first | exact HI0.out | apply IsS50.drewN | apply IsS50.drew | refine IsS50.set_far ?_ NE.out _ | apply IsS50.set_1) | exact HI0.out)⟩
 ·replace X2 := (if_pos rfl).symm.trans X2
  obtain rfl := Option.some.inj X2
  clear X2
  replace h := (if_pos rfl).symm.trans h
  obtain ⟨y, Q1, h⟩ := Option.bind_eq_some_iff.mp h
  have AQ := Aside0.mk Q1
  clear Q1
  cases y with
  | none =>
   obtain rfl := Option.some.inj h
   clear h
   go_wp2_with (first | (go_at_call 23; (with_reducible refine (lex_reader_has.calls g s p (⟨#[34]⟩ : ByteArray) true s p w0 _ (by repeat (first | (with_reducible first | exact HI0.out | apply IsS50.alloc | apply IsS50.drewN | apply IsS50.drew | apply IsS50.set_0 | apply IsS50.set_1) | exact HI0.out)) (by repeat (first | (with_reducible first | exact HB.out | apply below_alloc | apply pw_below_drewN | apply below_drew1 | refine below_set ?_ (IsS50.ge HI0.out)) | exact HB.out)) AD1.out).mono ?_); rintro e w1 ⟨rfl, hI1, hB1, hK1⟩; have n4_ := Aside0.mk (HLex.blk_keep (by (with_reducible repeat (first | refine blk_drewN ?_ _ | refine blk_drew ?_ | refine blk_alloc ?_ _)); exact BK.out) hK1 NE.out); clear BK; have BK := n4_; clear n4_; have n1_ := Aside0.mk hI1; have n2_ := Aside0.mk hB1; have n3_ := Aside0.mk (KeepBut.trans (by repeat (first | (with_reducible first | exact HK.out | apply KeepBut.set_ | apply keep_drewN | apply keep_drew | apply keep_alloc) | exact HK.out)) hK1 (by simp)); clear HI0 HB HK hI1 hB1 hK1 hc0 hc1 hf0 hf1; have HI0 := n1_; have HB := n2_; have HK := n3_; clear n1_ n2_ n3_; obtain ⟨HG, hg⟩ := HI0.out; have hc0 := cellS50_0 HG; have hc1 := cellS50_1 HG; have hf0 := blk_frozen HG 0; have hf1 := blk_frozen HG 1; clear HG hg) | (go_at_call 41; (with_reducible refine (lex_reader_quoted.calls k g s p _ w0 _ (by repeat (first | (with_reducible first | exact HI0.out | apply IsS50.alloc | apply IsS50.drewN | apply IsS50.drew | apply IsS50.set_0 | apply IsS50.set_1) | exact HI0.out)) (by repeat (first | (with_reducible first | exact HB.out | apply below_alloc | apply pw_below_drewN | apply below_drew1 | refine below_set ?_ (IsS50.ge HI0.out)) | exact HB.out)) AQ.out).mono ?_); rintro e w1 ⟨hB1, hK1, rfl⟩; have HBE := Aside0.mk hB1; have HKE := Aside0.mk (KeepBut.trans (by repeat (first | (with_reducible first | exact HK.out | apply KeepBut.set_ | apply keep_drewN | apply keep_drew | apply keep_alloc) | exact HK.out)) hK1 (by simp)); clear hB1 hK1))
   exact ⟨rfl, by repeat (first | exact HBE.out | apply pw_below_drewN | apply below_drew1), by repeat (first | exact HKE.out | apply keep_drewN | apply keep_drew), rfl⟩
  | some y =>
   obtain rfl := Option.some.inj h
   clear h
   go_wp2_with (first | (go_at_call 23; (with_reducible refine (lex_reader_has.calls g s p (⟨#[34]⟩ : ByteArray) true s p w0 _ (by repeat (first | (with_reducible first | exact HI0.out | apply IsS50.alloc | apply IsS50.drewN | apply IsS50.drew | apply IsS50.set_0 | apply IsS50.set_1) | exact HI0.out)) (by repeat (first | (with_reducible first | exact HB.out | apply below_alloc | apply pw_below_drewN | apply below_drew1 | refine below_set ?_ (IsS50.ge HI0.out)) | exact HB.out)) AD1.out).mono ?_); rintro e w1 ⟨rfl, hI1, hB1, hK1⟩; have n4_ := Aside0.mk (HLex.blk_keep (by (with_reducible repeat (first | refine blk_drewN ?_ _ | refine blk_drew ?_ | refine blk_alloc ?_ _)); exact BK.out) hK1 NE.out); clear BK; have BK := n4_; clear n4_; have n1_ := Aside0.mk hI1; have n2_ := Aside0.mk hB1; have n3_ := Aside0.mk (KeepBut.trans (by repeat (first | (with_reducible first | exact HK.out | apply KeepBut.set_ | apply keep_drewN | apply keep_drew | apply keep_alloc) | exact HK.out)) hK1 (by simp)); clear HI0 HB HK hI1 hB1 hK1 hc0 hc1 hf0 hf1; have HI0 := n1_; have HB := n2_; have HK := n3_; clear n1_ n2_ n3_; obtain ⟨HG, hg⟩ := HI0.out; have hc0 := cellS50_0 HG; have hc1 := cellS50_1 HG; have hf0 := blk_frozen HG 0; have hf1 := blk_frozen HG 1; clear HG hg) | (go_at_call 41; (with_reducible refine (lex_reader_quoted.calls k g s p _ w0 _ (by repeat (first | (with_reducible first | exact HI0.out | apply IsS50.alloc | apply IsS50.drewN | apply IsS50.drew | apply IsS50.set_0 | apply IsS50.set_1) | exact HI0.out)) (by repeat (first | (with_reducible first | exact HB.out | apply below_alloc | apply pw_below_drewN | apply below_drew1 | refine below_set ?_ (IsS50.ge HI0.out)) | exact HB.out)) AQ.out).mono ?_); rintro e w1 ⟨hB1, hK1, ⟨rfl, hI1⟩⟩; have n4_ := Aside0.mk (HLex.blk_keep (by (with_reducible repeat (first | refine blk_drewN ?_ _ | refine blk_drew ?_ | refine blk_alloc ?_ _)); exact BK.out) hK1 NE.out); clear BK; have BK := n4_; clear n4_; have n1_ := Aside0.mk hI1; have n2_ := Aside0.mk hB1; have n3_ := Aside0.mk (KeepBut.trans (by repeat (first | (with_reducible first | exact HK.out | apply KeepBut.set_ | apply keep_drewN | apply keep_drew | apply keep_alloc) | exact HK.out)) hK1 (by simp)); clear HI0 HB HK hI1 hB1 hK1 hc0 hc1 hf0 hf1; have HI0 := n1_; have HB := n2_; have HK := n3_; clear n1_ n2_ n3_; obtain ⟨HG, hg⟩ := HI0.out; have hc0 := cellS50_0 HG; have hc1 := cellS50_1 HG; have hf0 := blk_frozen HG 0; have hf1 := blk_frozen HG 1; clear HG hg; have hz0 : w1.cell? ⟨gb, 0, none⟩ = some (.int .i64 0) := (blk_cell BK.out 0).trans rfl; have hz1 : w1.cell? ⟨gb, 1, none⟩ = some (.string (⟨#[]⟩ : ByteArray)) := (blk_cell BK.out 1).trans rfl; have hz2 : w1.cell? ⟨gb, 2, none⟩ = some (.int .i64 0) := (blk_cell BK.out 2).trans rfl; have hy0 := blk_frozen BK.out 0; have hy1 := blk_frozen BK.out 1; have hy2 := blk_frozen BK.out 2))
   refine bodyPost_ret (results_cell_row rfl _ _ gb 34 #[.int .i64 2, .string (⟨y.1.toArray⟩ : ByteArray), .int .i64 p] (0, 0) _ rfl (by (with_reducible repeat (first | refine blk_drewN ?_ _ | refine blk_drew ?_ | refine blk_alloc ?_ _ | refine HLex.blk_far ?_ NE.out _)); refine blk_put (cs := #[.int .i64 2, .string (⟨y.1.toArray⟩ : ByteArray), .int .i64 0]) ?_ 2 _ rfl; (with_reducible repeat (first | refine blk_drewN ?_ _ | refine blk_drew ?_ | refine blk_alloc ?_ _ | refine HLex.blk_far ?_ NE.out _)); refine blk_put (cs := #[.int .i64 2, .string (⟨#[]⟩ : ByteArray), .int .i64 0]) ?_ 1 _ rfl; (with_reducible repeat (first | refine blk_drewN ?_ _ | refine blk_drew ?_ | refine blk_alloc ?_ _ | refine HLex.blk_far ?_ NE.out _)); refine blk_put (cs := #[.int .i64 0, .string (⟨#[]⟩ : ByteArray), .int .i64 0]) ?_ 0 _ rfl; (with_reducible repeat (first | refine blk_drewN ?_ _ | refine blk_drew ?_ | refine blk_alloc ?_ _ | refine HLex.blk_far ?_ NE.out _)); exact BK.out) Tryd.underlying34 rfl (by kernel_rfl)) rfl ?_
   exact ⟨by repeat (first | (with_reducible first | exact HB.out | apply below_alloc | apply pw_below_drewN | apply below_drew1 | refine below_set ?_ GE.out | refine below_set ?_ (IsS50.ge HI0.out)) | exact HB.out), by repeat (first | (with_reducible first | exact HK.out | refine keep_far ?_ GW.out _ | apply KeepBut.set_ | apply keep_drewN | apply keep_drew | apply keep_alloc) | exact HK.out), rfl, by repeat (first | (with_reducible first | exact HI0.out | apply IsS50.drewN | apply IsS50.drew | refine IsS50.set_far ?_ NE.out _ | apply IsS50.set_1) | exact HI0.out)⟩
theorem tokens_idle (p q v : Addr) (w : World) :
  CallsD Tryd.prog 21 #[.pointer (some p), .pointer (some q), .pointer (some v)] .returning w fun e u' w' => e = .returned (.tuple #[]) ∧ u' = .returning ∧ w' = w := by
 refine callsD_of_wpS Tryd.func21 rfl fun c₀ cs hu => ?_
 apply wpS_seq
 apply wpS_region
 simp [wpOpsS, go_sem, recoverD, hu, Tryd.ntmps21, Exit.thenS]
 apply wpS_seq
 apply wpS_region
 simp [wpOpsS, go_sem, Exit.thenS]
 refine wpS_cond (t := false) (by simp [Act.eval, Array.replicate]) ?_
 simp only [Bool.false_eq_true, if_false]
 refine wpS_of_wp (wp_skip ?_)
 cases c₀
 simp_all [bodyPostS, results, Tryd.results21]
set_option maxHeartbeats 1600000 in
set_option maxRecDepth 100000 in
theorem tokens_caught (lb ab eb : Nat) (v : Value) (a n : Int) (x y : Int) (w : World) (hl : w.heap[lb]? = some (.cells #[v] 23 (0, 0))) (ha : w.heap[ab]? = some (.cells #[.int .i64 x] 3 (0, 0))) (he : w.heap[eb]? = some (.cells #[.int .i64 y] 24 (0, 0))) (hla : lb ≠ ab) (hle : lb ≠ eb) (hae : ab ≠ eb) :
  CallsD Tryd.prog 21 #[.pointer (some ⟨lb, 0, none⟩), .pointer (some ⟨ab, 0, none⟩), .pointer (some ⟨eb, 0, none⟩)] (.panicking [wrongW a n]) w fun e u' w' =>
   e = .returned (.tuple #[]) ∧ u' = .panicking [{ wrongW a n with recovered := true }] ∧ w'.heap[lb]? = some (.cells #[.slice none 0 0] 23 (0, 0)) ∧ w'.heap[ab]? = some (.cells #[.int .i64 a] 3 (0, 0)) ∧ w'.heap[eb]? = some (.cells #[.int .i64 n] 24 (0, 0)) ∧
    (∀ (w0 : World), Below w0.heap.size w0 w → w0.heap.size ≤ lb → w0.heap.size ≤ ab → w0.heap.size ≤ eb → Below w0.heap.size w0 w') := by
 have HL := Aside0.mk hl
 have HA := Aside0.mk ha
 have HE := Aside0.mk he
 refine callsD_of_wpS Tryd.func21 rfl fun c₀ cs hu => ?_
 clear hl ha he
 apply wpS_seq
 apply wpS_region
 simp [wpOpsS, go_sem, recoverD, wrongW, hu, Tryd.ntmps21, Exit.thenS]
 apply wpS_seq
 apply wpS_region
 simp [wpOpsS, go_sem, Exit.thenS]
 refine wpS_cond (t := true) (by simp [Act.eval, Array.replicate]) ?_
 simp only [if_true]
 have hta : ∀ w : World, (Instr.typeAssert (Value.iface 46 (Value.agg #[Value.int IntKind.i64 a, Value.int IntKind.i64 n])) 20 46 true).run Tryd.prog w = .ok (.tuple #[.agg #[.int .i64 a, .int .i64 n], .bool true]) w := fun _ => by kernel_rfl
 refine wpS_of_wp ?_
 change Code.wp _ _ _ { tmps := #[Value.pointer (some ⟨lb, 0, none⟩), Value.pointer (some ⟨ab, 0, none⟩), Value.pointer (some ⟨eb, 0, none⟩), Value.iface 46 (Value.agg #[Value.int IntKind.i64 a, Value.int IntKind.i64 n]), undef, undef, Value.iface 46 (Value.agg #[Value.int IntKind.i64 a, Value.int IntKind.i64 n]), Value.iface 46 (Value.agg #[Value.int IntKind.i64 a, Value.int IntKind.i64 n]), Value.bool true, undef, undef, undef, undef, undef, undef, undef, undef, undef, undef, undef, undef], defers := [] } w
 obtain ⟨N, hN⟩ : ∃ N, N = w.heap.size := ⟨_, rfl⟩
 have HN := Aside0.mk hN
 clear hN
 go_wp2
 rw [← HN.out]
 refine HLex.at_world fun wq hq => ?_
 have L1 : wq.heap[lb]? = some (.cells #[v] 23 (0, 0)) := by rw [hq]; exact blk_alloc HL.out _
 have L2 : wq.heap[ab]? = some (.cells #[.int .i64 x] 3 (0, 0)) := by rw [hq]; exact blk_alloc HA.out _
 have L3 : wq.heap[eb]? = some (.cells #[.int .i64 y] 24 (0, 0)) := by rw [hq]; exact blk_alloc HE.out _
 have L4 : wq.heap[N]? = some (.cells #[.int .i64 a, .int .i64 n] 46 (0, 0)) := by rw [hq, HN.out]; exact blk_new w _
 have n1 : ¬ lb = N := fun e => absurd (blk_lt HL.out) (by rw [e, HN.out]; exact Nat.lt_irrefl _)
 have n2 : ¬ ab = N := fun e => absurd (blk_lt HA.out) (by rw [e, HN.out]; exact Nat.lt_irrefl _)
 have n3 : ¬ eb = N := fun e => absurd (blk_lt HE.out) (by rw [e, HN.out]; exact Nat.lt_irrefl _)
 have n1' : ¬ N = lb := fun e => n1 e.symm
 have n2' : ¬ N = ab := fun e => n2 e.symm
 have n3' : ¬ N = eb := fun e => n3 e.symm
 have n4 : ¬ ab = lb := fun e => hla e.symm
 have n5 : ¬ eb = lb := fun e => hle e.symm
 have n6 : ¬ eb = ab := fun e => hae e.symm
 have c1 : wq.cell? ⟨lb, 0, none⟩ = some v := (blk_cell L1 0).trans rfl
 have c2 : wq.cell? ⟨ab, 0, none⟩ = some (.int .i64 x) := (blk_cell L2 0).trans rfl
 have c3 : wq.cell? ⟨eb, 0, none⟩ = some (.int .i64 y) := (blk_cell L3 0).trans rfl
 have c4 : wq.cell? ⟨N, 0, none⟩ = some (.int .i64 a) := (blk_cell L4 0).trans rfl
 have c5 : wq.cell? ⟨N, 1, none⟩ = some (.int .i64 n) := (blk_cell L4 1).trans rfl
 have f1 := blk_frozen L1 0
 have f2 := blk_frozen L2 0
 have f3 := blk_frozen L3 0
 have M1 := Aside0.mk L1
 have M2 := Aside0.mk L2
 have M3 := Aside0.mk L3
 have HQ := Aside0.mk hq
 clear L1 L2 L3 L4 hq
 go_region
 refine ⟨rfl, _, rfl, .tuple #[], results_none rfl _ _ _, rfl, rfl, ?_, ?_, ?_, ?_⟩
 ·refine blk_drew ?_
  refine HLex.blk_far ?_ hle _
  refine HLex.blk_far ?_ hla _
  exact blk_put M1.out 0 _ rfl
 ·refine blk_drew ?_
  refine HLex.blk_far ?_ hae _
  refine blk_put (cs := #[.int .i64 x]) ?_ 0 _ rfl
  exact HLex.blk_far M2.out n4 _
 ·refine blk_drew ?_
  refine blk_put (cs := #[.int .i64 y]) ?_ 0 _ rfl
  refine HLex.blk_far ?_ n6 _
  exact HLex.blk_far M3.out n5 _
 ·intro w0 hb h1 h2 h3
  exact below_drew1 (below_set (below_set (below_set (by rw [HQ.out]; exact below_alloc hb _) h1) h2) h3)
theorem tokens_res (tmps : Array Value) (lb ab eb : Nat) (v : Value) (a n : Int) (w : World) (h2 : tmps.getD 2 undef = .pointer (some ⟨lb, 0, none⟩)) (h3 : tmps.getD 3 undef = .pointer (some ⟨ab, 0, none⟩)) (h4 : tmps.getD 4 undef = .pointer (some ⟨eb, 0, none⟩))
  (hl : w.heap[lb]? = some (.cells #[v] 23 (0, 0))) (ha : w.heap[ab]? = some (.cells #[.int .i64 a] 3 (0, 0))) (he : w.heap[eb]? = some (.cells #[.int .i64 n] 24 (0, 0))) (hv : v.cells = #[v]) :
  (results Tryd.f11 tmps).run Tryd.prog w = .ok (.tuple #[v, .int .i64 a, .int .i64 n]) w := by
 have c1 : w.cell? ⟨lb, 0, none⟩ = some v := (blk_cell hl 0).trans rfl
 have c2 : w.cell? ⟨ab, 0, none⟩ = some (.int .i64 a) := (blk_cell ha 0).trans rfl
 have c3 : w.cell? ⟨eb, 0, none⟩ = some (.int .i64 n) := (blk_cell he 0).trans rfl
 have h2' : tmps[2]?.getD undef = .pointer (some ⟨lb, 0, none⟩) := by simpa using h2
 have h3' : tmps[3]?.getD undef = .pointer (some ⟨ab, 0, none⟩) := by simpa using h3
 have h4' : tmps[4]?.getD undef = .pointer (some ⟨eb, 0, none⟩) := by simpa using h4
 simp [results, Tryd.results11, go_sem, h2', h3', h4', c1, c2, c3]
def Laid (w : World) : Prop := Lib.Utf8Tabs 2 3 w ∧ ∃ b o cap, SignsAt b o cap w
theorem Laid.below {w w' : World} (h : Laid w) (hb : Below w.heap.size w w') : Laid w' := by
 obtain ⟨h1, b, o, cap, h2⟩ := h
 exact ⟨Utf8Tabs_below h1 hb, b, o, cap, h2.below hb⟩
theorem HLex.blk_more {w w1 : World} {b : Nat} {o : Obj} (h : w.heap[b]? = some o) (hb : Below w.heap.size w w1) : w1.heap[b]? = some o := (hb.block b (blk_lt h)).trans h
theorem HLex.R_keep34 {w w1 : World} {base g : Nat} {v : Value} {xs : List S34} {cells : Array Value} (h : k34.R 34 w base (fun _ => True) v xs) (hb : w.heap[g]? = some (.cells cells 50 (0, 0))) (hk : KeepBut w w1 g none) : k34.R 34 w1 base (fun _ => True) v xs :=
 Kd.R_mono (Kd.R_keep (Kd.R_types h hb (by decide)) hk (fun _ h => h.2)) (fun _ _ => trivial)
end Go.Proofs.YtmpenkinheneoaaDoor.Q
