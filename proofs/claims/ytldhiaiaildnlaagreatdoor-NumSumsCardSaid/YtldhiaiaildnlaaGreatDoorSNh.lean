/- Texts of the claim: Nh. -/
import Derived.Test.YtldhiaiaildnlaaGreatDoorSNg
namespace Go.Proofs.YtldhiaiaildnlaaGreatDoor.Nm
set_option linter.unusedVariables false
open Go Go.RowKit Go.Proofs.YtldhiaiaildnlaaGreatDoor.Q Go.Proofs.YtldhiaiaildnlaaGreatDoorW.PrintWords Go.Proofs.YtldhiaiaildnlaaGreatDoorW.PrintLast Go.Proofs.YtldhiaiaildnlaaGreatDoorW.PrintMore
def dl (s : ByteArray) : List UInt8 := s.data.toList
theorem yQ (s : ByteArray) : (dl s).length = s.size := Array.length_toList
theorem zaO (s : ByteArray) (i j : Nat) : dl (s.extract i j) = ((dl s).drop i).take (j - i) := by
 unfold dl
 rw [ByteArray.data_extract, Array.toList_extract]
theorem zbI (a b : ByteArray) : dl (a ++ b) = dl a ++ dl b := by
 unfold dl
 rw [ByteArray.data_append, Array.toList_append]
theorem xq (s : ByteArray) : s.toList = dl s := Lib.toList_data s
theorem zdh (s : ByteArray) : bytesOf s = (dl s).map fun b => (b.toNat : Int) := rfl
theorem dl_get (s : ByteArray) (i : Nat) : s.get! i = (dl s)[i]?.getD 0 := by
 unfold dl ByteArray.get!
 simp [Array.getElem!_eq_getD, Array.getD_eq_getD_getElem?]
 rfl
theorem zdk {b : UInt8} (h : dgt b = true) : ((b.toNat : Int) - 48) % 256 = dd b ∧ 0 ≤ dd b ∧ dd b ≤ 9 := by
 simp only [dgt, Bool.and_eq_true, decide_eq_true_eq] at h
 unfold dd; omega
theorem zcn {p : UInt8 → Bool} {l : List UInt8} (h : l.all p = true) (i : Nat) : (l.drop i).all p = true := by
 rw [List.all_eq_true] at h ⊢
 exact fun x hx => h x (List.mem_of_mem_drop hx)
theorem zdr {p : UInt8 → Bool} {l : List UInt8} (h : l.all p = true) (i : Nat) : (l.take i).all p = true := by
 rw [List.all_eq_true] at h ⊢
 exact fun x hx => h x (List.mem_of_mem_take hx)
theorem zes {α : Type} [Inhabited α] (l : List α) (i : Nat) (h : i < l.length) : l.take (i + 1) = l.take i ++ [l[i]'h] := by
 rw [List.take_succ_eq_append_getElem h]
theorem dv9 {l : List UInt8} (h : l.all dgt = true) (hl : l.length ≤ 9) : dv (l.map dd) < 1000000000 := by
 have h1 := zaD (dd_D h)
 rw [List.length_map] at h1
 have : 10 ^ l.length ≤ 10 ^ 9 := Nat.pow_le_pow_right (by decide) hl
 omega
theorem fd_l : ∀ (k : Nat),
  (∀ (s : ByteArray) (x : List Int) (r : List Int), (dl s).all dgt = true → W x → x.length + s.size ≤ 2000 →
   zD.l0 k s x = some r → r = bg (bv x + 1000000000 ^ x.length * dv ((dl s).map dd))) ∧
  (∀ (s : ByteArray) (x : List Int) (i : Nat) (v : Int) (r : List Int), (dl s).all dgt = true → W x → x.length + s.size ≤ 2000 → 0 < s.size → i ≤ s.size - (s.size - 9) →
   v = dv ((((dl s).drop (s.size - 9)).take i).map dd) →
   zD.l1 k s x ((s.size - 9 : Nat) : Int) v (((dl s).drop (s.size - 9)).map fun b => (b.toNat : Int)) ((s.size - (s.size - 9) : Nat) : Int) (i : Int) = some r → r = bg (bv x + 1000000000 ^ x.length * dv ((dl s).map dd))) := by
 intro k
 induction k with
 | zero => constructor <;> (intros; rename_i h; cases h)
 | succ k ih =>
  obtain ⟨ih0, ih1⟩ := ih
  refine ⟨?_, ?_⟩
  ·intro s x r hd hx hl h
   rw [zD.l0] at h
   by_cases hp : (s.size : Int) > 0
   ·rw [if_pos hp, w64 (by omega) (by omega)] at h
    have hm : mx 0 ((s.size : Int) - 9) = ((s.size - 9 : Nat) : Int) := by unfold mx; split <;> omega
    rw [hm, Int.toNat_natCast] at h
    obtain ⟨_, h⟩ := ifE h
    obtain ⟨_, h⟩ := ifE h
    obtain ⟨t, h2, h⟩ := bindE h
    unfold bytesof.f at h2
    obtain ⟨_, h2⟩ := ifE h2
    have ht := (someE h2).symm
    rw [zdh, zaO, List.take_of_length_le (by rw [List.length_drop, yQ]; omega)] at ht
    rw [ht] at h
    rw [List.length_map, List.length_drop, yQ] at h
    exact ih1 s x 0 0 r hd hx hl (by omega) (by omega) rfl h
   ·rw [if_neg hp] at h
    obtain ⟨t, h2, h⟩ := bindE h
    obtain rfl := someE h
    have : dl s = [] := List.length_eq_zero_iff.mp (by rw [yQ]; omega)
    rw [zaM hx (by omega) h2, this]
    simp [dv]
  ·intro s x i v r hd hx hl hp hi hv h
   rw [zD.l1] at h
   have hll := yQ s
   by_cases hlt : (i : Int) < ((s.size - (s.size - 9) : Nat) : Int)
   ·rw [if_pos hlt, w64 (x := (i : Int) + 1) (by omega) (by omega), xG] at h
    obtain ⟨_, h⟩ := ifE h
    obtain ⟨_, h⟩ := ifE h
    have hi2 : i < ((dl s).drop (s.size - 9)).length := by rw [List.length_drop]; omega
    have hdg : dgt (((dl s).drop (s.size - 9))[i]'hi2) = true := List.all_eq_true.mp (zcn hd _) _ (List.getElem_mem _)
    have hb := zdk hdg
    rw [List.getD_eq_getElem?_getD, List.getElem?_map, List.getElem?_eq_getElem hi2, Option.map_some, Option.getD_some, hb.1] at h
    have h9 := dv9 (zdr (zcn hd (s.size - 9)) i) (by rw [List.length_take]; omega)
    rw [hv, xS (x := 10 * ((dv ((((dl s).drop (s.size - 9)).take i).map dd) : Nat) : Int)) (n := 10 * dv ((((dl s).drop (s.size - 9)).take i).map dd)) (by omega) (by omega), u64 (by omega) (by omega)] at h
    refine ih1 s x (i + 1) _ r hd hx hl hp (by omega) ?_ h
    rw [zes _ _ hi2, List.map_append, List.map_singleton, zb0]
    omega
   ·rw [if_neg hlt] at h
    obtain ⟨_, h⟩ := ifE h
    obtain ⟨_, h⟩ := ifE h
    obtain ⟨_, h⟩ := ifE h
    rw [List.take_of_length_le (by rw [List.length_drop]; omega)] at hv
    have h9 := dv9 (zcn hd (s.size - 9)) (by rw [List.length_drop]; omega)
    have he : dl (s.extract 0 (((s.size - 9 : Nat) : Int).toNat)) = (dl s).take (s.size - 9) := by
     rw [zaO, Int.toNat_natCast]; rfl
    have := ih0 _ _ r (by rw [he]; exact zdr hd _) (hx.append (W.cons (l := []) (x := v) (by omega) (by omega) W.nil)) (by rw [← yQ, he, List.length_take, List.length_append, List.length_singleton]; omega) h
    rw [this, he, zaJ, List.length_append, List.length_singleton, zaI]
    congr 1
    have e1 : (dl s).map dd = ((dl s).take (s.size - 9)).map dd ++ ((dl s).drop (s.size - 9)).map dd := by rw [← List.map_append, List.take_append_drop]
    have e2 : bv [v] = v.toNat := by simp [bv]
    rw [e1, xP, e2, hv, Int.toNat_natCast, List.length_map, List.length_drop, hll, Nat.add_assoc, ← Nat.mul_add]
    congr 2
    by_cases h9 : 9 ≤ s.size
    ·rw [show s.size - (s.size - 9) = 9 from by omega]; omega
    ·rw [show s.size - 9 = 0 from by omega, List.take_zero, List.map_nil, dv_nil]; omega
theorem zaN {k : Nat} {s : ByteArray} {r : List Int} (hd : (dl s).all dgt = true) (hs : s.size ≤ 1000) (h : yH.f k s = some r) : r = bg (dv ((dl s).map dd)) := by
 unfold yH.f zD.f at h
 have := (fd_l k).1 s [] r hd W.nil (by simp; omega) h
 simpa [bv] using this
theorem zcy (n : Nat) : Lib.repeatL [48] n = List.replicate n 48 := by
 induction n with
 | zero => rfl
 | succ n ih => rw [Lib.repeatL, ih]; rfl
theorem zaL {k : Nat} {n : Nat} {r : List Int} (hn : n ≤ 500) (h : yq.f k (n : Int) = some r) : r = bg (10 ^ n) := by
 unfold yq.f strings_Repeat.f at h
 obtain ⟨t, h1, h⟩ := bindE h
 obtain ⟨_, h1⟩ := ifE h1
 have ht := (someE h1).symm
 obtain ⟨_, h⟩ := ifE h
 obtain ⟨u, h2, h⟩ := bindE h
 obtain rfl := someE h
 have e : dl ((⟨#[49]⟩ : ByteArray) ++ t) = 49 :: List.replicate n 48 := by
  rw [zbI, ht, Int.toNat_natCast, ← zcy]; rfl
 have hall : (dl ((⟨#[49]⟩ : ByteArray) ++ t)).all dgt = true := by
  rw [e, List.all_cons, Bool.and_eq_true]
  refine ⟨rfl, ?_⟩
  rw [List.all_eq_true]
  intro x hx
  obtain ⟨_, rfl⟩ := List.mem_replicate.mp hx
  rfl
 rw [zaN hall (by rw [← yQ, e]; simp; omega) h2, e, List.map_cons, List.map_replicate, show dd 48 = 0 from rfl, show dd 49 = 1 from rfl, zae, zax, List.length_replicate]
 congr 1
 simp
theorem bg50 : (bg (10 ^ 50)).length ≤ 100 := zaz.mp (by decide)
def chk (x : Bool × Nat) : Bool × List Int × Int := match fit x with
 | .error e => (false, [], e)
 | .ok y => (y.1, bg y.2, 0)
theorem za7 {k : Nat} {s : Bool} {n : Nat} {r : Bool × List Int × Int} (hn : (bg n).length ≤ 40000) (h : zS.f k s (bg n) = some r) : r = chk (s, n) := by
 unfold zS.f at h
 obtain ⟨t, h1, h⟩ := bindE h
 obtain ⟨c, h2, h⟩ := bindE h
 rw [zaL (n := 50) (by decide) h1] at h2
 have hs := zcH (by omega) (by have := bg50; omega) h2
 unfold Sgn at hs
 unfold chk fit
 by_cases hc : c ≥ 0
 ·rw [if_pos hc] at h
  rw [if_pos (by simp only; omega)]
  exact (someE h).symm
 ·rw [if_neg hc] at h
  rw [if_neg (by simp only; omega)]
  cases s with
  | true =>
   rw [if_pos rfl] at h
   rw [← someE h]
   simp only [Bool.true_and]
   congr 1
   rw [Bool.eq_iff_iff, decide_eq_true_eq, bne_iff_ne]
   constructor
   ·intro h e; subst e; simp [zbE] at h
   ·intro h
    have : (bg n).length ≠ 0 := fun e => h (zd0 (List.length_eq_zero_iff.mp e))
    omega
  | false =>
   rw [if_neg (by decide)] at h
   exact (someE h).symm
end Go.Proofs.YtldhiaiaildnlaaGreatDoor.Nm
