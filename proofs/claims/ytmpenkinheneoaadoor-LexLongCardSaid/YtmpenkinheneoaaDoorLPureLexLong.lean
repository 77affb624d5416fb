/- Texts of the claim: PureLexLong. -/
import Derived.Test.YtmpenkinheneoaaDoorLQx37
import Derived.Test.YtmpenkinheneoaaDoorLLxT
namespace Go.Proofs.YtmpenkinheneoaaDoor.Pure
set_option linter.unusedVariables false
open Go Go.RowKit Go.Proofs.YtmpenkinheneoaaDoor.Plain Go.Proofs.YtmpenkinheneoaaDoor.Lx Go.Proofs.YtmpenkinheneoaaDoor.HPure Go.Proofs.YtmpenkinheneoaaDoor.Q Go.Proofs.YtmpenkinheneoaaDoorW.PrintWords Go.Proofs.YtmpenkinheneoaaDoorW.PrintLast
theorem ans_enc (l : List Int) (hl : l.all isChar = true) : ansP (encode l) = if (encode l).size ≤ 1048576 then (match lx l with | .error e => ([], P (encode l) e.1, e.2) | .ok T => (T.map (fun t => tkP (encode l) t.1 t.2.1 t.2.2), 0, 0)) else ([], 0, 2) := by
  obtain ⟨t1, t2⟩ := text_of_chars l hl
  unfold ansP
  rw [if_pos t1, t2]
  rfl
def rep (b : List Int) : Nat → List Int
  | 0 => []
  | n + 1 => b ++ rep b n
theorem flat_rep (b : List Int) (n : Nat) : flat (rep b n) = Lib.repeatL (flat b) n := by
  induction n with
  | zero => rfl
  | succ n ih => rw [rep, flat_append, ih, Lib.repeatL]
theorem rep_all {b : List Int} (h : b.all isChar = true) (n : Nat) : (rep b n).all isChar = true := by
  induction n with
  | zero => rfl
  | succ n ih => rw [rep, List.all_append, h, ih]; rfl
theorem rep_z (b : List Int) (n : Nat) : (encode (rep b n)).size = n * (flat b).length := by rw [encode_flat, mk_size, flat_rep, Lib.repeatL_length]
theorem repeat_f (b : List Int) (n : Nat) (hb : (flat b).length ≤ 1000) (hn : n ≤ 2000000) : strings_Repeat.f (encode b) (n : Int) = some (encode (rep b n)) := by
  have hz : (encode b).size = (flat b).length := by rw [encode_flat, mk_size]
  unfold strings_Repeat.f
  have hm : (encode b).size * n ≤ 1000 * 2000000 := Nat.mul_le_mul (by omega) hn
  rw [if_pos ⟨by omega, by rw [Int.toNat_natCast]; omega, by omega⟩, Int.toNat_natCast, encode_flat (rep b n), flat_rep, encode_flat b, data_mk]
  rfl
theorem lcat (a b : List Int) : encode a ++ encode b = encode (a ++ b) := by
  rw [encode_flat b, app_mk, encode_flat, encode_flat, flat_append, data_mk]
theorem lx_blanks (n : Nat) (r : List Int) : lx (rep [32] n ++ r) = lx r := by
  induction n with
  | zero => rfl
  | succ n ih =>
    rw [rep, List.append_assoc, List.singleton_append, lx_blank _ rfl]; exact ih
theorem comm_open (n : Nat) : ∀ (d : Nat) (r : List Int), comm d (rep [40, 58] n ++ r) = comm (d + n) r := by
  induction n with
  | zero => intro d r; rfl
  | succ n ih =>
    intro d r
    show comm d (40 :: 58 :: (rep [40, 58] n ++ r)) = _
    rw [comm_two, if_pos ⟨rfl, rfl⟩, ih, show d + 1 + n = d + (n + 1) from by omega]
theorem comm_shut (n : Nat) : ∀ (d : Nat) (r : List Int), n < d → comm d (rep [58, 41] n ++ r) = comm (d - n) r := by
  induction n with
  | zero => intro d r h; rfl
  | succ n ih =>
    intro d r h
    show comm d (58 :: 41 :: (rep [58, 41] n ++ r)) = _
    rw [comm_two, if_neg (by decide), if_pos ⟨rfl, rfl⟩, if_neg (by omega), ih (d - 1) r (by omega), show d - 1 - n = d - (n + 1) from by omega]
theorem comm_shuts (m : Nat) (r : List Int) : ∀ d : Nat, comm (d + 1) (rep [58, 41] (d + 1 + m) ++ r) = some (rep [58, 41] m ++ r) := by
  intro d
  induction d with
  | zero =>
    rw [show 0 + 1 + m = m + 1 from by omega]
    show comm 1 (58 :: 41 :: (rep [58, 41] m ++ r)) = _
    rw [comm_two, if_neg (by decide), if_pos ⟨rfl, rfl⟩, if_pos (by omega)]
  | succ d ih =>
    rw [show d + 1 + 1 + m = (d + 1 + m) + 1 from by omega]
    show comm (d + 1 + 1) (58 :: 41 :: (rep [58, 41] (d + 1 + m) ++ r)) = _
    rw [comm_two, if_neg (by decide), if_pos ⟨rfl, rfl⟩, if_neg (by omega)]
    exact ih
theorem lx_deep (n q : Nat) (hn : 1 ≤ n) (w : List Int) : lx (rep [40, 58] n ++ (rep [58, 41] q ++ w)) = match comm n (rep [58, 41] q ++ w) with | none => .error (rep [40, 58] n ++ (rep [58, 41] q ++ w), 5) | some u => lx u := by
  obtain ⟨n, rfl⟩ : ∃ m, n = m + 1 := ⟨n - 1, by omega⟩
  have e : rep [40, 58] (n + 1) ++ (rep [58, 41] q ++ w) = 40 :: 58 :: (rep [40, 58] n ++ (rep [58, 41] q ++ w)) := rfl
  have hc : comm 1 (rep [40, 58] n ++ (rep [58, 41] q ++ w)) = comm (n + 1) (rep [58, 41] q ++ w) := by rw [comm_open, Nat.add_comm 1 n]
  rw [e, lx_cons, if_neg (by decide), if_pos (show opens (40 :: 58 :: (rep [40, 58] n ++ (rep [58, 41] q ++ w))) = true from rfl)]
  show (match comm 1 (rep [40, 58] n ++ (rep [58, 41] q ++ w)) with | none => _ | some u => lx u) = _
  rw [hc]
theorem P_end (s : ByteArray) (w : List Int) : P s w = (s.size : Int) - (flat w).length := rfl
theorem long_same (t : ByteArray) (ht : t.size ≤ 1000) (k : Nat) (hk : 10000 ≤ k) :
    ((lex_Tokens.f t).bind fun bt489 => ((chiselref14_Tokens.f k t).bind fun bt494 => (if bt489.2.1 = bt494.2.1 then (if bt489.2.2 = bt494.2.2 then ((chisellaw14_given.f k bt489.1).bind fun t499 => ((chisellaw14_equal.f k t499 bt494.1).bind fun t502 => (if t502 = true then ((chisellaw14_works.f k).bind fun t503 => (some t503)) else (some false)))) else (some false)) else (some false)))) = some true := by
  have hlen := ans_len t
  rw [tokens_f t (by omega), Option.bind_some, rtokens_f t (by omega) k (by omega), Option.bind_some]
  simp only
  rw [if_pos trivial, if_pos trivial, given_f _ _ (by omega) (by omega), Option.bind_some, equal_f _ _ (by simp; omega) (by simp; omega), Option.bind_some, if_pos rfl, works_f k (by omega)]; rfl
theorem long_deep (m q : Nat) (hm : m < 4) (hq : q = 3001) (k : Nat) (hk : 10000 ≤ k) :
    ((lex_Tokens.f ((encode (rep [40, 58] (3000 + m)) ++ encode (rep [58, 41] q)) ++ (⟨#[98]⟩ : ByteArray))).bind fun bt467 => (if (m : Int) = 0 then (if bt467.2.2 = 0 then ((chisellaw14_given.f k bt467.1).bind fun t472 => ((chisellaw14_equal.f k t472 (([(⟨3, (⟨#[58]⟩ : ByteArray), 12000⟩ : S41), (⟨3, (⟨#[41]⟩ : ByteArray), 12001⟩ : S41), (⟨0, (⟨#[98]⟩ : ByteArray), 12002⟩ : S41)] : List (S41)))).bind fun t478 => (if t478 = true then ((chisellaw14_works.f k).bind fun t479 => (some t479)) else (some false)))) else (some false)) else (if (m : Int) = 1 then (if bt467.2.2 = 0 then ((chisellaw14_given.f k bt467.1).bind fun t480 => ((chisellaw14_equal.f k t480 (([(⟨0, (⟨#[98]⟩ : ByteArray), 12004⟩ : S41)] : List (S41)))).bind fun t486 => (if t486 = true then ((chisellaw14_works.f k).bind fun t487 => (some t487)) else (some false)))) else (some false)) else (if (bt467.1.length : Int) = 0 then (if bt467.2.1 = 0 then (if bt467.2.2 = 5 then ((chisellaw14_works.f k).bind fun t488 => (some t488)) else (some false)) else (some false)) else (some false))))) = some true := by
  obtain ⟨n, hn⟩ : ∃ n, n = 3000 + m := ⟨_, rfl⟩
  rw [← hn]
  have h98 : (⟨#[98]⟩ : ByteArray) = encode [98] := by kernel_rfl
  have he : (encode (rep [40, 58] n) ++ encode (rep [58, 41] q)) ++ (⟨#[98]⟩ : ByteArray) = encode (rep [40, 58] n ++ (rep [58, 41] q ++ [98])) := by rw [h98, lcat, lcat, List.append_assoc]
  have hz : (encode (rep [40, 58] n ++ (rep [58, 41] q ++ [98]))).size = 2 * n + 2 * q + 1 := by
    have e1 := rep_z [40, 58] n
    have e2 := rep_z [58, 41] q
    rw [encode_flat, mk_size] at e1 e2 ⊢
    rw [flat_append, flat_append, List.length_append, List.length_append, e1, e2, show (flat [40, 58]).length = 2 from rfl, show (flat [58, 41]).length = 2 from rfl, show (flat [98]).length = 1 from rfl]; omega
  have hall : (rep [40, 58] n ++ (rep [58, 41] q ++ [98])).all isChar = true := by rw [List.all_append, List.all_append, rep_all (by decide), rep_all (by decide)]; decide
  have ha := ans_enc _ hall
  rw [if_pos (by omega), lx_deep n q (by omega)] at ha
  rw [he, tokens_f _ (by omega), Option.bind_some]
  have hP := P_end (encode (rep [40, 58] n ++ (rep [58, 41] q ++ [98])))
  generalize hs : encode (rep [40, 58] n ++ (rep [58, 41] q ++ [98])) = s at *
  by_cases m0 : m = 0
  · have hc : comm n (rep [58, 41] q ++ [98]) = some [58, 41, 98] := by
      have := comm_shuts 1 [98] 2999
      rw [show n = 2999 + 1 from by omega, show q = 2999 + 1 + 1 from by omega]; exact this
    rw [hc] at ha
    simp only at ha
    rw [show lx [58, 41, 98] = .ok [(3, [58], [58, 41, 98]), (3, [41], [41, 98]), (0, [98], [98])] from by kernel_rfl] at ha
    have p0 : P s [58, 41, 98] = 12000 := by rw [hP, show (flat [58, 41, 98]).length = 3 from rfl]; omega
    have p1 : P s [41, 98] = 12001 := by rw [hP, show (flat [41, 98]).length = 2 from rfl]; omega
    have p2 : P s [98] = 12002 := by rw [hP, show (flat [98]).length = 1 from rfl]; omega
    simp only [List.map_cons, List.map_nil, tkP, p0, p1, p2] at ha
    rw [if_pos (by omega), ha]
    simp only
    rw [if_pos trivial, given_f _ k (by simp; omega) (by simp), Option.bind_some]
    simp only [List.map_cons, List.map_nil, g34]
    rw [show encode [58] = (⟨#[58]⟩ : ByteArray) from by kernel_rfl, show encode [41] = (⟨#[41]⟩ : ByteArray) from by kernel_rfl, show encode [98] = (⟨#[98]⟩ : ByteArray) from by kernel_rfl, equal_f _ k (by simp; omega) (by simp), Option.bind_some, if_pos rfl, works_f k (by omega)]; rfl
  · rw [if_neg (by omega)]
    by_cases m1 : m = 1
    · have hc : comm n (rep [58, 41] q ++ [98]) = some [98] := by
        have := comm_shuts 0 [98] 3000
        rw [show n = 3000 + 1 from by omega, show q = 3000 + 1 + 0 from by omega]; exact this
      rw [hc] at ha
      simp only at ha
      rw [show lx [98] = .ok [(0, [98], [98])] from by kernel_rfl] at ha
      have p2 : P s [98] = 12004 := by rw [hP, show (flat [98]).length = 1 from rfl]; omega
      simp only [List.map_cons, List.map_nil, tkP, p2] at ha
      rw [if_pos (by omega), ha]
      simp only
      rw [if_pos trivial, given_f _ k (by simp; omega) (by simp), Option.bind_some]
      simp only [List.map_cons, List.map_nil, g34]
      rw [show encode [98] = (⟨#[98]⟩ : ByteArray) from by kernel_rfl, equal_f _ k (by simp; omega) (by simp), Option.bind_some, if_pos rfl, works_f k (by omega)]; rfl
    · have hc : comm n (rep [58, 41] q ++ [98]) = none := by
        rw [comm_shut q n [98] (by omega)]
        rfl
      rw [hc] at ha
      simp only at ha
      have p0 : P s (rep [40, 58] n ++ (rep [58, 41] q ++ [98])) = 0 := by
        have := congrArg ByteArray.size hs
        rw [encode_flat, mk_size] at this
        rw [hP]; omega
      rw [p0] at ha
      rw [if_neg (by omega), ha]
      simp only
      rw [if_pos (by rfl), if_pos trivial, if_pos trivial, works_f k (by omega)]; rfl
theorem long_blanks (m : Nat) (hm : m < 4) (k : Nat) (hk : 10000 ≤ k) :
    ((strings_Repeat.f (⟨#[32]⟩ : ByteArray) (1048573 + (m : Int))).bind fun t448 => (if t448.size + 1 ≤ 9223372036854775807 then ((lex_Tokens.f (t448 ++ (⟨#[97]⟩ : ByteArray))).bind fun bt449 => (if ((t448 ++ (⟨#[97]⟩ : ByteArray)).size : Int) > 1048576 then (if (bt449.1.length : Int) = 0 then (if bt449.2.1 = 0 then (if bt449.2.2 = 2 then ((chisellaw14_works.f k).bind fun t454 => (some t454)) else (some false)) else (some false)) else (some false)) else (if bt449.2.2 = 0 then ((chisellaw14_given.f k bt449.1).bind fun t455 => ((chisellaw14_equal.f k t455 (([(⟨0, (⟨#[97]⟩ : ByteArray), wrap64 (((t448 ++ (⟨#[97]⟩ : ByteArray)).size : Int) - 1)⟩ : S41)] : List (S41)))).bind fun t461 => (if t461 = true then ((chisellaw14_works.f k).bind fun t462 => (some t462)) else (some false)))) else (some false)))) else (none))) = some true := by
  obtain ⟨n, hn⟩ : ∃ n : Nat, n = 1048573 + m := ⟨_, rfl⟩
  have h32 : (⟨#[32]⟩ : ByteArray) = encode [32] := by kernel_rfl
  have h97 : (⟨#[97]⟩ : ByteArray) = encode [97] := by kernel_rfl
  have hz0 := rep_z [32] n
  rw [show (flat [32]).length = 1 from rfl, Nat.mul_one] at hz0
  have hz : (encode (rep [32] n ++ [97])).size = n + 1 := by
    rw [encode_flat, mk_size] at hz0 ⊢
    rw [flat_append, List.length_append, hz0]; rfl
  have hall : (rep [32] n ++ [97]).all isChar = true := by rw [List.all_append, rep_all (by decide)]; decide
  have ha := ans_enc _ hall
  have hP : P (encode (rep [32] n ++ [97])) [97] = ((encode (rep [32] n ++ [97])).size : Int) - 1 := by
    have := P_end (encode (rep [32] n ++ [97])) [97]
    rw [show (flat [97]).length = 1 from rfl] at this
    omega
  rw [show (1048573 + (m : Int)) = (n : Int) from by omega, h32, repeat_f [32] n (by decide) (by omega), Option.bind_some, if_pos (by omega), h97, lcat, tokens_f _ (by omega), Option.bind_some]
  by_cases hbig : m = 3
  · rw [if_neg (by omega)] at ha
    rw [if_pos (by omega), ha]
    simp only
    rw [if_pos (by rfl), if_pos trivial, if_pos trivial, works_f k (by omega)]; rfl
  · rw [if_pos (by omega), lx_blanks, show lx [97] = .ok [(0, [97], [97])] from by kernel_rfl] at ha
    simp only [List.map_cons, List.map_nil, tkP, hP] at ha
    rw [if_neg (by omega), ha]
    simp only
    rw [if_pos trivial, given_f _ k (by simp; omega) (by simp), Option.bind_some]
    simp only [List.map_cons, List.map_nil, g34]
    rw [w64 (by omega) (by omega), equal_f _ k (by simp; omega) (by simp), Option.bind_some, if_pos rfl, works_f k (by omega)]; rfl
theorem LexLong : chisellaw14_LexLong.Pure := by
  intro a0 a1 s h0 h1 hs
  refine ⟨20001, ?_⟩
  obtain ⟨g0, g0'⟩ : 0 ≤ a0 ∧ a0 ≤ 255 := by
    have e0 : (IntKind.u8).min = 0 := rfl
    have e1 : (IntKind.u8).max = 255 := rfl
    simp only [Lit.wf, e0, e1, Bool.and_eq_true, decide_eq_true_eq] at h0; exact h0
  obtain ⟨g1, g1'⟩ : 0 ≤ a1 ∧ a1 ≤ 255 := by
    have e0 : (IntKind.u8).min = 0 := rfl
    have e1 : (IntKind.u8).max = 255 := rfl
    simp only [Lit.wf, e0, e1, Bool.and_eq_true, decide_eq_true_eq] at h1; exact h1
  obtain ⟨n0, rfl⟩ : ∃ n : Nat, a0 = (n : Int) := ⟨a0.toNat, by omega⟩
  obtain ⟨n1, rfl⟩ : ∃ n : Nat, a1 = (n : Int) := ⟨a1.toNat, by omega⟩
  have t0 : Int.tmod (n0 : Int) 4 = ((n0 % 4 : Nat) : Int) := rfl
  have t1 : Int.tmod (n1 : Int) 4 = ((n1 % 4 : Nat) : Int) := rfl
  have m0 : n0 % 4 < 4 := Nat.mod_lt _ (by omega)
  have m1 : n1 % 4 < 4 := Nat.mod_lt _ (by omega)
  have hkz : (20001 : Nat) = 20000 + 1 := rfl
  unfold chisellaw14_LexLong.f
  by_cases hz : (s.size : Int) > 100
  · rw [if_pos hz, works_f 20001 (by omega)]; rfl
  · rw [if_neg hz, t1, w64 (x := ((n1 % 4 : Nat) : Int)) (by omega) (by omega)]
    by_cases c0 : Int.tmod (n0 : Int) 4 = 0
    · rw [if_pos c0, w64 (by omega) (by omega)]
      exact long_blanks (n1 % 4) m1 20001 (by omega)
    · have h120 : (⟨#[120]⟩ : ByteArray) = encode [120] := by kernel_rfl
      have h233 : (⟨#[195, 169]⟩ : ByteArray) = encode [233] := by kernel_rfl
      rw [if_neg c0, w64 (by omega) (by omega), show (97 + ((n1 % 4 : Nat) : Int)) = ((97 + n1 % 4 : Nat) : Int) from by omega, h120, repeat_f [120] _ (by decide) (by omega), Option.bind_some]
      have z1 := rep_z [120] (97 + n1 % 4)
      rw [show (flat [120]).length = 1 from rfl] at z1
      have z2 := rep_z [233] (99 + n1 % 4)
      rw [show (flat [233]).length = 2 from rfl] at z2
      rw [if_pos (by omega)]
      have hj : ∀ (x : ByteArray), x.size ≤ 300 → chisellaw14_LexLong.j0 20001 (n0 : Int) s ((n1 % 4 : Nat) : Int) x = some true := fun x hx => by
        rw [hkz]
        generalize hkk : (20000 : Nat) = k
        simp only [chisellaw14_LexLong.j0]
        by_cases c2 : Int.tmod (n0 : Int) 4 = 2
        · rw [if_pos c2, w64 (by omega) (by omega), show (3000 + ((n1 % 4 : Nat) : Int)) = ((3000 + n1 % 4 : Nat) : Int) from by omega]
          have h4058 : (⟨#[40, 58]⟩ : ByteArray) = encode [40, 58] := by kernel_rfl
          have h5841 : (⟨#[58, 41]⟩ : ByteArray) = encode [58, 41] := by kernel_rfl
          obtain ⟨q, hq⟩ : ∃ q : Nat, q = 3001 := ⟨_, rfl⟩
          have hq2 : (3001 : Int) = (q : Int) := by omega
          have y1 := rep_z [40, 58] (3000 + n1 % 4)
          have y2 := rep_z [58, 41] q
          rw [show (flat [40, 58]).length = 2 from rfl] at y1
          rw [show (flat [58, 41]).length = 2 from rfl] at y2
          rw [h4058, repeat_f _ _ (by decide) (by omega), Option.bind_some, h5841, hq2, repeat_f _ _ (by decide) (by omega), Option.bind_some, if_pos (by omega), if_pos (by rw [ByteArray.size_append]; omega)]
          exact long_deep (n1 % 4) q m1 hq k (by omega)
        · have h10 : (⟨#[10]⟩ : ByteArray).size = 1 := rfl
          rw [if_neg c2, if_pos (by omega), if_pos (by rw [ByteArray.size_append]; omega)]
          exact long_same _ (by rw [ByteArray.size_append, ByteArray.size_append]; omega) k (by omega)
      by_cases c1 : Int.tmod (n0 : Int) 4 = 1
      · rw [if_pos c1, w64 (by omega) (by omega), show (99 + ((n1 % 4 : Nat) : Int)) = ((99 + n1 % 4 : Nat) : Int) from by omega, h233, repeat_f [233] _ (by decide) (by omega), Option.bind_some]
        exact hj _ (by omega)
      · rw [if_neg c1]
        exact hj _ (by rw [ByteArray.size_append]; have : (⟨#[110, 58]⟩ : ByteArray).size = 2 := rfl; omega)
end Go.Proofs.YtmpenkinheneoaaDoor.Pure
