/- What calls hand back: slices of their own. -/
import Derived.Test.YtpmdlaojndejfaaGreatDoorKc10
import Derived.Lib.IndexBytes
import Derived.ProofKit
import Derived.Lib.MapU
set_option linter.unusedVariables false
set_option linter.unusedSimpArgs false
set_option maxRecDepth 100000
namespace Go.Proofs.YtpmdlaojndejfaaGreatDoor.E
open Go
theorem own_lits : ∀ l : List V, l.all V.isLit = true → l.filterMap ownId = [] ∧ (∀ c ∈ l.flatMap V.cells, noOwnC c = true ∧ closedV c = true) ∧ (l.flatMap V.cells).filterMap ownId = [] ∧ (∀ H G, trAs H l G = some (l, G))
  | [], _ => ⟨rfl, by simp, rfl, fun _ _ => rfl⟩
  | v :: l, h => by
    simp only [List.all_cons, Bool.and_eq_true] at h
    obtain ⟨a1, a2, a3, a4⟩ := own_lits l h.2
    have h1 := h.1
    cases v <;> simp only [V.isLit, Bool.false_eq_true] at h1
    refine ⟨a1, ?_, a3, fun H G => ?_⟩
    · intro c hc
      simp only [List.flatMap_cons, V.cells, List.singleton_append, List.mem_cons] at hc
      rcases hc with rfl | hc
      · exact ⟨rfl, rfl⟩
      · exact a2 c hc
    · simp only [trAs, trA, trC, Option.bind_some, a4, Option.map_some]
section
variable {K : Heap} {id ver off len sz ver' : Nat} {rs0 rs : List (List V)}
theorem flat_own (hr : rowsOf K (.own id ver off len) = some rs) (hf : flatR rs = true) : flatOwn K (.own id ver off len) = true := by
  simp only [flatOwn, hr, hf]
/-- One slice. -/
theorem hand_own (hr : rowsOf K (.own id ver off len) = some rs) (hk : K[id]? = some (.rows sz ver' rs0)) (hf : flatR rs = true) : handV K (.own id ver off len) = some (.own 0 0 0 len, [.rows sz 0 rs]) := by
  have h1 := flat_own hr hf
  have e1 : (tops (.own id ver off len)).all (fun c => noOwnC c || flatOwn K c) = true := by
    show ((noOwnC (.own id ver off len) || flatOwn K (.own id ver off len)) && true) = true
    rw [h1]; rfl
  have e2 : nodup ((tops (.own id ver off len)).filterMap ownId) = true := rfl
  unfold handV
  rw [e1, e2]
  simp only [Bool.and_self, if_true, tr, trA, trC, hr, hk, Option.bind_some]
  rfl
/-- A slice, then values that lie in no memory. -/
theorem hand_own1 {l : List V} (hr : rowsOf K (.own id ver off len) = some rs) (hk : K[id]? = some (.rows sz ver' rs0)) (hf : flatR rs = true) (hl : l.all V.isLit = true) : handV K (.tup (.own id ver off len :: l)) = some (.tup (.own 0 0 0 len :: l), [.rows sz 0 rs]) := by
  have h1 := flat_own hr hf
  obtain ⟨a1, a2, a3, a4⟩ := own_lits l hl
  have e1 : (tops (.tup (.own id ver off len :: l))).all (fun c => noOwnC c || flatOwn K c) = true := by
    rw [List.all_eq_true]
    intro c hc
    simp only [tops, List.flatMap_cons, V.cells, List.singleton_append, List.mem_cons] at hc
    rcases hc with rfl | hc
    · rw [h1]; simp
    · rw [(a2 c hc).1]; rfl
  have e2 : nodup ((tops (.tup (.own id ver off len :: l))).filterMap ownId) = true := by
    have : (tops (.tup (.own id ver off len :: l))).filterMap ownId = id :: (l.flatMap V.cells).filterMap ownId := rfl
    rw [this, a3]; rfl
  unfold handV
  rw [e1, e2]
  simp only [Bool.and_self, if_true, tr, trAs, trA, trC, hr, hk, Option.bind_some, a4, Option.map_some]
  rfl
theorem okW_own1 {l : List V} (hl : l.all V.isLit = true) : okW (.tup (.own 0 ver off len :: l)) 1 = true := by
  obtain ⟨a1, a2, a3, a4⟩ := own_lits l hl
  unfold okW
  rw [List.all_eq_true]
  intro c hc
  simp only [tops, List.flatMap_cons, V.cells, List.singleton_append, List.mem_cons] at hc
  rcases hc with rfl | hc
  · rfl
  · have := (a2 c hc).1
    have h2 := (a2 c hc).2
    cases c <;> first | exact h2 | simp [noOwnC] at this
/-- A record that holds one slice. -/
theorem hand_agg (hr : rowsOf K (.own id ver off len) = some rs) (hk : K[id]? = some (.rows sz ver' rs0)) (hf : flatR rs = true) : handV K (.agg [.own id ver off len]) = some (.agg [.own 0 0 0 len], [.rows sz 0 rs]) := by
  have h1 := flat_own hr hf
  have e1 : (tops (.agg [.own id ver off len])).all (fun c => noOwnC c || flatOwn K c) = true := by
    show ((noOwnC (.own id ver off len) || flatOwn K (.own id ver off len)) && true) = true
    rw [h1]; rfl
  have e2 : nodup ((tops (.agg [.own id ver off len])).filterMap ownId) = true := rfl
  unfold handV
  rw [e1, e2]
  simp only [Bool.and_self, if_true, tr, trA, trCs, trC, hr, hk, Option.bind_some]
  rfl
/-- Two slices. -/
theorem hand_own2 {id2 ver2 off2 len2 sz2 ver2' : Nat} {rs2 rs02 : List (List V)} (hr : rowsOf K (.own id ver off len) = some rs) (hk : K[id]? = some (.rows sz ver' rs0)) (hf : flatR rs = true) (hr2 : rowsOf K (.own id2 ver2 off2 len2) = some rs2) (hk2 : K[id2]? = some (.rows sz2 ver2' rs02)) (hf2 : flatR rs2 = true) (hne : id ≠ id2) :
    handV K (.tup [.own id ver off len, .own id2 ver2 off2 len2]) = some (.tup [.own 0 0 0 len, .own 1 0 0 len2], [.rows sz 0 rs, .rows sz2 0 rs2]) := by
  have h1 := flat_own hr hf
  have h2 := flat_own hr2 hf2
  have e1 : (tops (.tup [.own id ver off len, .own id2 ver2 off2 len2])).all (fun c => noOwnC c || flatOwn K c) = true := by
    show ((noOwnC (.own id ver off len) || flatOwn K (.own id ver off len)) && ((noOwnC (.own id2 ver2 off2 len2) || flatOwn K (.own id2 ver2 off2 len2)) && true)) = true
    rw [h1, h2]; rfl
  have e2 : nodup ((tops (.tup [.own id ver off len, .own id2 ver2 off2 len2])).filterMap ownId) = true := by
    show nodup [id, id2] = true
    simp [nodup, hne]
  unfold handV
  rw [e1, e2]
  simp only [Bool.and_self, if_true, tr, trAs, trA, trC, hr, hk, hr2, hk2, Option.bind_some, Option.map_some]
  rfl
end
theorem rows_full {K : Heap} {id ver sz len : Nat} {rs : List (List V)} (hk : K[id]? = some (.rows sz ver rs)) (hl : len = rs.length) : rowsOf K (.own id ver 0 len) = some rs := by
  subst hl
  simp [rowsOf, hk]
/-- A function on memory of its own, by its body. -/
def addIP (E : Env) (f0 : FuncId) (n : Nat) (con' : Con) (lc : LCon) (u : Nat) (con : Con) : Con := fun f args nid K q =>
  if f = f0 then (if args.all noOwn = true then codeF E con' lc u (bodyOf E.P f0) [] ⟨args ++ List.replicate (n - args.length) un, [], []⟩ (finR E (resOf E.P f0) fun v _ => if litB v = true then q v K else False)
    else False)
  else con f args nid K q
theorem addIP_r {m : Int} {f0 : FuncId} {n : Nat} {con con' : Con} {lc : LCon} {u : Nat} {fg : Bool} (hc : ConR (env m) (Lw m) con) (hc' : ConR (env m) (Lw m) con') (hl : LOK (env m) (Lw m) none (bodyOf (env m).P f0) lc fg) (hn : ntmpsOf (env m).P f0 = n) (hp : (isPure (env m) f0 && hasBody (env m).P f0) = true) (ht : ∀ args, tabW f0 args = none) :
    ConR (env m) (Lw m) (addIP (env m) f0 n con' lc u con) := by
  intro f args nid K q hq r H hR
  unfold addIP at hq
  split at hq
  · rename_i hf
    subst hf
    subst hn
    split at hq
    case isFalse => exact hq.elim
    rename_i ha
    simp only [isPure, Bool.and_eq_true, Bool.not_eq_true'] at hp
    obtain ⟨v, K', r', H', h1, h2, h3⟩ := F_own hc' hl hp.2 (ht _) hq
    split at h3
    case isFalse => exact h3.elim
    rename_i hv
    rw [closed_eq (litB_closed hv)] at h1
    refine ⟨v, K, H, ?_, hR, .rfl, h3⟩
    rw [args_closed ha, closed_eq (litB_closed hv)]
    exact callE_pure hp.1.1.1.1 hp.1.1.1.2 (by simpa using hp.1.1.2) hp.1.2 ha hv h1
  · exact hc f args nid K q hq r H hR
end Go.Proofs.YtpmdlaojndejfaaGreatDoor.E

/- The reference's Points and has. -/
set_option linter.unusedVariables false
set_option linter.unusedSimpArgs false
set_option maxRecDepth 100000
namespace Go.Proofs.YtpmdlaojndejfaaGreatDoor.E
open Go
/-- Rows of whole numbers. -/
def intRows (l : List Int) : List (List V) := l.map fun c => [.lit (.int .i64 c)]
theorem intRows_lit (l : List Int) : litRows (intRows l) := by
  intro r hr v hv
  simp only [intRows, List.mem_map] at hr
  obtain ⟨c, _, rfl⟩ := hr
  simp only [List.mem_singleton] at hv; subst hv; rfl
theorem intRows_len (l : List Int) : (intRows l).length = l.length := by simp [intRows]
theorem intRows_app (a b : List Int) : intRows (a ++ b) = intRows a ++ intRows b := by simp [intRows]
theorem intRows_get (l : List Int) (i : Nat) : cellI (((intRows l).getD i []).getD 0 un) = l.getD i 0 := by
  simp only [intRows, List.getD, List.getElem?_map]
  cases l[i]? <;> rfl
theorem get_byte (s : ByteArray) (i : Nat) (h : i < s.size) : s.data.toList.getD i 0 = s.get! i := by
  have e : i < s.data.toList.length := by rw [Plain.size_data]; exact h
  simp only [List.getD, List.getElem?_eq_getElem e, Option.getD_some, ByteArray.get!, Array.getElem_toList]
  exact (getElem!_pos s.data i (by simpa using h)).symm
theorem get_byte' (s : ByteArray) (i : Nat) : (s.data.toList.getD i 0) = s.get! i := by
  by_cases h : i < s.size
  · exact get_byte s i h
  · have e : s.data.toList[i]? = none := List.getElem?_eq_none (by rw [Plain.size_data]; omega)
    simp only [List.getD, e, ByteArray.get!]
    exact (getElem!_neg s.data i (by simpa using h)).symm
open HPure Plain in
/-- What the reference reads, beside what the model reads. -/
theorem next_facts (s : ByteArray) (pos : Nat) (hp : pos < s.size) :
    (goodAt s pos = true → nextAt s pos = ((Utf8.decode s pos).1, (Utf8.decode s pos).2) ∧ isChar ((nextAt s pos).1 : Int) = true ∧ 1 ≤ (nextAt s pos).2 ∧ pos + (nextAt s pos).2 ≤ s.size) ∧
    (goodAt s pos = false → (nextAt s pos).2 = 0 ∨ isChar ((nextAt s pos).1 : Int) = false) := by
  have e : nextAt s pos = nextN (s.size - pos) (s.get! pos).toNat (s.get! (pos + 1)).toNat (s.get! (pos + 2)).toNat (s.get! (pos + 3)).toNat := by
    simp only [nextAt, byteAt, get_byte']
  obtain ⟨r, w, hr⟩ : ∃ r w, Utf8.decode s pos = (r, w) := ⟨_, _, rfl⟩
  have hN := (Lib.decode_at s pos).symm
  rw [hr] at hN
  constructor
  · intro hg
    obtain ⟨hc, hw, hle, _⟩ := good_form s pos hp hg
    have hwd := enc_pos ((Utf8.decode s pos).1 : Int)
    have hn := next_good _ _ _ _ _ r w (by omega) (get_lt _ _) (get_lt _ _) (get_lt _ _) (get_lt _ _) hN (by unfold goodAt at hg; rw [hr] at hg; exact hg)
    rw [e]
    rw [hr] at hc hw hle hwd ⊢
    have hn' : (nextN (s.size - pos) (s.get! pos).toNat (s.get! (pos + 1)).toNat (s.get! (pos + 2)).toNat (s.get! (pos + 3)).toNat) = (r, w) := hn
    rw [hn']
    exact ⟨rfl, hc, by show 1 ≤ w; omega, hle⟩
  · intro hg
    rw [e]
    by_cases hz : (nextN (s.size - pos) (s.get! pos).toNat (s.get! (pos + 1)).toNat (s.get! (pos + 2)).toNat (s.get! (pos + 3)).toNat).2 = 0
    · exact .inl hz
    · refine .inr ?_
      cases hc : isChar ((nextN (s.size - pos) (s.get! pos).toNat (s.get! (pos + 1)).toNat (s.get! (pos + 2)).toNat (s.get! (pos + 3)).toNat).1 : Int)
      · rfl
      · have := next_bad _ _ _ _ _ r w _ _ (by omega) (get_lt _ _) (get_lt _ _) (get_lt _ _) (get_lt _ _) hN rfl hz hc
        unfold goodAt at hg
        rw [hr] at hg
        rw [hg] at this
        cases this
/-- So far. -/
def PInv (s : ByteArray) (i : Int) (l : List Int) : Prop :=
  0 ≤ i ∧ i ≤ s.size ∧ (l.length : Int) ≤ i ∧ ∃ f, s.size ≤ i.toNat + f ∧ HPure.isText s = HPure.isTextFrom s f i.toNat ∧ (HPure.isText s = true → HPure.points s = l ++ HPure.pointsFrom s f i.toNat)
theorem PInv.end_ {s : ByteArray} {i : Int} {l : List Int} (h : PInv s i l) (he : ¬ i < s.size) : HPure.isText s = true ∧ HPure.points s = l := by
  obtain ⟨h1, h2, _, f, h3, h4, h5⟩ := h
  rw [HPure.isTextFrom_end s f _ (by omega)] at h4
  refine ⟨h4, ?_⟩
  rw [h5 h4, HPure.pointsFrom_end s f _ (by omega), List.append_nil]
theorem PInv.bad {s : ByteArray} {i : Int} {l : List Int} (h : PInv s i l) (he : i < s.size) (hb : Plain.goodAt s i.toNat = false) : HPure.isText s = false := by
  obtain ⟨h1, h2, _, f, h3, h4, h5⟩ := h
  obtain ⟨g, rfl⟩ : ∃ g, f = g + 1 := ⟨f - 1, by omega⟩
  rw [h4, Plain.isTextFrom_step s g _ (by omega), hb]; rfl
theorem PInv.next {s : ByteArray} {i : Int} {l : List Int} (h : PInv s i l) (he : i < s.size) (hb : Plain.goodAt s i.toNat = true) : PInv s (i + ((nextAt s i.toNat).2 : Nat)) (l ++ [((nextAt s i.toNat).1 : Int)]) := by
  obtain ⟨h1, h2, h0, f, h3, h4, h5⟩ := h
  obtain ⟨g, rfl⟩ : ∃ g, f = g + 1 := ⟨f - 1, by omega⟩
  obtain ⟨a1, a2, a3, a4⟩ := (next_facts s i.toNat (by omega)).1 hb
  have e : (i + ((nextAt s i.toNat).2 : Nat)).toNat = i.toNat + (nextAt s i.toNat).2 := by omega
  refine ⟨by omega, by omega, by simp only [List.length_append, List.length_singleton]; omega, g, by omega, ?_, fun ht => ?_⟩
  · rw [h4, Plain.isTextFrom_step s g _ (by omega), hb, e, a1]; rfl
  · rw [h5 ht, e]
    simp only [HPure.pointsFrom]
    rw [if_pos (by omega), a1]
    simp
/-- The loop of Points. -/
def PP (s0 : ByteArray) : σ_points → Prop
  | .inl (s, i) => s = s0 ∧ PInv s i []
  | .inr (s, i, n, ver, ver', g, rs) => s = s0 ∧ litRows g ∧ ver' = ver ∧ ∃ l, n = l.length ∧ 1 ≤ l.length ∧ rs = intRows l ∧ ver + 1 = 8796093022208 + l.length ∧ PInv s i l
def PM (s0 : ByteArray) : σ_points → Nat
  | .inl (s, i) => s0.size - i.toNat
  | .inr (s, i, n, ver, ver', g, rs) => s0.size - i.toNat
theorem points_loop (m : Int) (s0 : ByteArray) (hs : s0.size ≤ 1000000) : SpOK (env m) (Lw m) none (atC [1, 1, 1, 0, 0] (bodyOf (env m).P 110))
    (L_points (PP s0) (fun _ _ => HPure.isText s0 = true ∧ HPure.points s0 = []) (fun _ (n, ver, ver', g, rs) => HPure.isText s0 = true ∧ 1 ≤ n ∧ n = (HPure.points s0).length ∧ ver' = ver ∧ litRows g ∧ rs = intRows (HPure.points s0)) (fun _ e => HPure.isText s0 = false ∧ e = 10)).sp true := by
  refine l_points m (con6_r m) (PM s0) ?_ ?_ ?_ ?_
  · rintro (⟨s, i⟩ | ⟨s, i, n, ver, ver', g, rs⟩) h
    · trivial
    · obtain ⟨_, h1, _, l, _, _, h2, _⟩ := h
      exact ⟨h1, by rw [h2]; exact intRows_lit l⟩
  · rintro b ⟨n, ver, ver', g, rs⟩ ⟨_, _, _, _, h1, h2⟩
    exact ⟨h1, by rw [h2]; exact intRows_lit _⟩
  · rintro s i ⟨rfl, hi⟩
    have hi' := hi
    obtain ⟨h1, h2, _⟩ := hi
    unfold r_points_0
    refine ite_of (fun h => ?_) fun h => hi'.end_ (by simpa [toI] using h)
    simp only [decide_eq_true_eq, toI] at h
    rw [if_pos (by simp only [toI]; simp; omega)]
    have hf := next_facts s i.toNat (by omega)
    cases hg : Plain.goodAt s i.toNat
    · have hb := hi'.bad h hg
      rcases hf.2 hg with hz | hz
      · rw [if_pos (by simp [toI, hz])]; exact ⟨hb, rfl⟩
      · refine ite_of (fun _ => ⟨hb, rfl⟩) fun _ => ?_
        rw [if_neg (by simp [toI, hz])]; exact ⟨hb, rfl⟩
    · obtain ⟨a1, a2, a3, a4⟩ := hf.1 hg
      have hn := hi'.next h hg
      rw [if_neg (by simp only [toI, beq_iff_eq]; omega), if_pos (by simpa only [toI] using a2)]
      have hw : IntKind.wrap .i64 (i + toI (nextAt s i.toNat).2) = i + ((nextAt s i.toNat).2 : Nat) := w64_id (by simp only [toI]; omega) (by simp only [toI]; omega)
      rw [hw]
      refine ⟨⟨rfl, ?_, rfl, [((nextAt s i.toNat).1 : Int)], rfl, Nat.le_refl 1, rfl, rfl, hn⟩, ?_, fun c h => h, fun c h => h, fun c h => h⟩
      · exact intRows_lit [((nextAt s i.toNat).1 : Int)]
      · simp only [PM]; omega
  · rintro s i n ver ver' g rs ⟨rfl, hgl, rfl, l, rfl, hl1, rfl, hv, hi⟩
    have hi' := hi
    obtain ⟨h1, h2, h3, _⟩ := hi
    unfold r_points_1
    refine ite_of (fun h => ?_) fun h => ?_
    · simp only [decide_eq_true_eq, toI] at h
      rw [if_pos (by simp only [toI]; simp; omega)]
      have hf := next_facts s i.toNat (by omega)
      cases hg : Plain.goodAt s i.toNat
      · have hb := hi'.bad h hg
        rcases hf.2 hg with hz | hz
        · rw [if_pos (by simp [toI, hz])]; exact ⟨hb, rfl⟩
        · refine ite_of (fun _ => ⟨hb, rfl⟩) fun _ => ?_
          rw [if_neg (by simp [toI, hz])]; exact ⟨hb, rfl⟩
      · obtain ⟨a1, a2, a3, a4⟩ := hf.1 hg
        have hn := hi'.next h hg
        rw [if_neg (by simp only [toI, beq_iff_eq]; omega), if_pos (by simpa only [toI] using a2), if_pos rfl, if_pos (intRows_len l).symm, if_pos (by omega), if_pos (by omega)]
        have hw : IntKind.wrap .i64 (i + toI (nextAt s i.toNat).2) = i + ((nextAt s i.toNat).2 : Nat) := w64_id (by simp only [toI]; omega) (by simp only [toI]; omega)
        rw [hw]
        refine ⟨⟨rfl, hgl, rfl, _, ?_, ?_, (intRows_app l [((nextAt s i.toNat).1 : Int)]).symm, ?_, hn⟩, ?_, fun c h => h, fun c h => h, fun c h => h⟩
        · simp
        · simp
        · simp only [List.length_append, List.length_singleton]; omega
        · simp only [PM]; omega
    · obtain ⟨e1, e2⟩ := hi'.end_ (by simpa [toI] using h)
      exact ⟨e1, hl1, by rw [e2], rfl, hgl, by rw [e2]⟩
/-- What Points answers. -/
def ptsA (s : ByteArray) : List Alt :=
  [(HPure.isText s && !(HPure.points s).isEmpty, .tup [.own 0 0 0 (HPure.points s).length, .lit (.int .i64 0)], [.rows 1 0 (intRows (HPure.points s))]),
   (HPure.isText s, .tup [.lit (.slice none 0 0), .lit (.int .i64 0)], []),
   (true, .tup [.lit (.slice none 0 0), .lit (.int .i64 10)], [])]
theorem flatR_int (l : List Int) : flatR (intRows l) = true := litRows_flat.2 (intRows_lit l)
theorem points_does (m : Int) (s : ByteArray) (hs : s.size ≤ 1000000) (a : Alt) (ha : firstA (ptsA s) = some a) : a.2.2.length ≤ 2 ∧ Ans (Lw m) 110 [.lit (.string s)] a := by
  obtain ⟨v, K, r, H', h1, h2, h3⟩ := cc_Points m s (con6_r m) (points_loop m s hs) (q := fun v K => handV K v = some (a.2.1, a.2.2) ∧ a.2.2.length ≤ 2 ∧ (∀ b ∈ a.2.2, litBlk b) ∧ okW a.2.1 a.2.2.length = true) (by
    refine ⟨⟨rfl, by omega, by omega, by simp, s.size, by simp, rfl, fun _ => rfl⟩, ?_, ?_, ?_⟩
    · rintro ⟨⟩ ⟨ht, hp⟩
      simp only [ptsA, firstA, ht, hp, List.isEmpty_nil, Bool.not_true, Bool.and_false, Bool.false_eq_true, if_false, if_true, Option.some.injEq] at ha
      subst ha
      exact ⟨rfl, by simp, by simp, rfl⟩
    · rintro ⟨n, ver, ver', g, rs⟩ ⟨ht, hn1, rfl, rfl, hg, rfl⟩
      have hne : (HPure.points s).isEmpty = false := by
        cases hp : HPure.points s with
        | nil => rw [hp] at hn1; simp at hn1
        | cons x l => rfl
      simp only [ptsA, firstA, ht, hne, Bool.not_false, Bool.and_self, if_true, Option.some.injEq] at ha
      subst ha
      exact ⟨hand_own1 (rows_full rfl (intRows_len _).symm) rfl (flatR_int _) rfl, by simp, by simp only [List.mem_singleton]; rintro b rfl; exact intRows_lit _, okW_own1 rfl⟩
    · rintro e ⟨ht, rfl⟩
      simp only [ptsA, firstA, ht, Bool.false_and, Bool.false_eq_true, if_false, if_true, Option.some.injEq] at ha
      subst ha
      exact ⟨rfl, by simp, by simp, rfl⟩)
  exact ⟨h3.2.1, v, K, r, H', h1, h2, h3.1, h3.2.2⟩
/-! has. -/
theorem has_loop (m : Int) (s0 x0 : ByteArray) (hs : s0.size ≤ 1099511627776) (hx : x0.size ≤ 1099511627776) (hx0 : x0.size ≠ 0) : SpOK (env m) (Lw m) none (atC [1, 0, 1, 0] (bodyOf (env m).P 82))
    (L_has (fun (s, x, i) => s = s0 ∧ x = x0 ∧ 0 ≤ i ∧ i ≤ s0.size ∧ Lib.NoOcc s.data.toList x.data.toList i.toNat) (fun _ _ => Lib.contains s0.data.toList x0.data.toList = false) (fun _ b => b = Lib.contains s0.data.toList x0.data.toList)).sp false := by
  refine l_has m (con6_r m) (fun (s, x, i) => s0.size - i.toNat) ?_
  rintro s x i ⟨rfl, rfl, h0, h1, hn⟩
  have hxe : x.data.toList ≠ [] := by
    intro h
    have := congrArg List.length h
    rw [Plain.size_data] at this
    exact hx0 this
  have w : IntKind.wrap .i64 (i + toI x.size) = i + (x.size : Int) := w64_id (by simp only [toI]; omega) (by simp only [toI]; omega)
  have w1 : IntKind.wrap .i64 (i + 1) = i + 1 := w64_id (by omega) (by omega)
  unfold r_has
  rw [w, w1]
  refine ite_of (fun h => ?_) fun h => ?_
  · simp only [decide_eq_true_eq, toI] at h
    rw [if_pos h0, if_pos (by omega), if_pos (by omega), show (i + (x.size : Int)).toNat = i.toNat + x.size by omega, ← Lib.occ_of_piece s x i.toNat (by omega)]
    refine ite_of (fun h2 => ?_) fun h2 => ⟨⟨rfl, rfl, by omega, by omega, ?_⟩, ?_, fun _ h => h, fun _ h => h⟩
    · show true = Lib.contains _ _
      unfold Lib.contains
      rw [Lib.index_hit hn (by rw [Plain.size_data]; omega) h2]
      exact (decide_eq_true (by omega)).symm
    · rw [show (i + 1).toNat = i.toNat + 1 by omega]
      exact hn.succ (by simpa using h2)
    · simp only; omega
  · simp only [decide_eq_true_eq, toI] at h
    show Lib.contains _ _ = false
    unfold Lib.contains
    rw [Lib.index_past hxe hn (by rw [Plain.size_data, Plain.size_data]; omega)]
    rfl
theorem has_does (m : Int) (s x : ByteArray) (hs : s.size ≤ 1099511627776) (hx : x.size ≤ 1099511627776) (hx0 : x.size ≠ 0) : ∃ H', (Lw m).callX 82 [.lit (.string s), .lit (.string x)] [] = some (.ret (.lit (.bool (Lib.contains s.data.toList x.data.toList))), H') :=
  ff_has m s x (con6_r m) (has_loop m s x hs hx hx0) rfl ⟨⟨rfl, rfl, by omega, by omega, Lib.NoOcc.zero _ _⟩, fun _ h => by rw [h], fun b h => by rw [h]⟩
/-- Points, has. -/
def ptsQ : QSpec
  | [.lit (.string s)] => some (decide (s.size ≤ 1000000), ptsA s)
  | _ => none
def hasS : PSpec
  | [.lit (.string s), .lit (.string x)] => some (decide (s.size ≤ 1099511627776) && (decide (x.size ≤ 1099511627776) && decide (x.size ≠ 0)), .lit (.bool (Lib.contains s.data.toList x.data.toList)))
  | _ => none
noncomputable def con7 : Con := addQ 110 ptsQ (addP 82 hasS con6)
theorem con7_r (m : Int) : ConR (env m) (Lw m) con7 := by
  refine addQ_r (addP_r (con6_r m) (by kernel_rfl) fun args v hs => ?_) (by kernel_rfl) fun args alts hs => ?_
  · unfold hasS at hs
    split at hs
    · simp only [Option.some.injEq, Prod.mk.injEq, Bool.and_eq_true, decide_eq_true_eq] at hs
      obtain ⟨⟨h1, h2, h3⟩, rfl⟩ := hs
      exact ⟨rfl, rfl, has_does m _ _ h1 h2 h3⟩
    · cases hs
  · unfold ptsQ at hs
    split at hs
    · simp only [Option.some.injEq, Prod.mk.injEq, decide_eq_true_eq] at hs
      obtain ⟨h1, rfl⟩ := hs
      exact ⟨rfl, fun a ha => points_does m _ h1 a ha⟩
    · cases hs
end Go.Proofs.YtpmdlaojndejfaaGreatDoor.E

/- Printed by sv.py: what the program's code asks and does, piece by piece. -/
namespace Go.Proofs.YtpmdlaojndejfaaGreatDoor.E
open Go
set_option linter.unusedVariables false
set_option linter.unusedSimpArgs false
set_option maxRecDepth 1000000
def r_FrIsText (s : ByteArray) (q : V → Prop) : Prop :=
    (if decide (ByteArray.size s ≤ 1000000) = true then (if (HPure.isText s && !List.isEmpty (HPure.points s)) = true then (q (V.lit (Value.bool true))) else (if HPure.isText s = true then (q (V.lit (Value.bool true))) else (q (V.lit (Value.bool false))))) else False)
theorem w_FrIsText (m : Int) (s : ByteArray) (q : V → Prop) :
    codeF (env m) (con7) (fun _ => none) 0 (bodyOf (env m).P 80) [] ⟨[.lit (.string s)] ++ List.replicate (12 - 1) un, [], []⟩ (finR (env m) (resOf (env m).P 80) (fun v _ => q v)) =
    r_FrIsText s q := by kernel_rfl
theorem cc_rIsText (m : Int) (s : ByteArray) (hc : ConR (env m) (Lw m) (con7)) {q : V → Prop} (hr : r_FrIsText s q) :
    ∃ v_ K_ r_ H_, (Lw m).callX 80 [.lit (.string s)] [] = some (.ret (mapV r_ v_), H_) ∧ Rn r_ K_ H_ ∧ q v_ := by
  refine F_own (fg := true) hc (f := 80) (q := fun v _ => q v) lok_none (u := 0) (by kernel_rfl) rfl ?_
  rw [show ntmpsOf (env m).P 80 = 12 from by kernel_rfl]
  exact Eq.mpr (w_FrIsText m s q) hr
theorem ff_rIsText (m : Int) (s : ByteArray) (hc : ConR (env m) (Lw m) (con7)) {w_ : V} (hw : closedV w_ = true) (hr : r_FrIsText s (fun v_ => v_ = w_)) :
    ∃ H_, (Lw m).callX 80 [.lit (.string s)] [] = some (.ret w_, H_) := by
  obtain ⟨v_, K_, r_, H_, h1, h2, rfl⟩ := cc_rIsText m s hc hr
  rw [closed_eq hw] at h1
  exact ⟨H_, h1⟩
def r_FinName (c : Int) (q : V → Prop) : Prop :=
    (if HPure.isLetter c = true then (q (V.lit (Value.bool true))) else (if decide (c ≥ 48) = true then (if decide (c ≤ 57) = true then (q (V.lit (Value.bool true))) else (if (c == 45) = true then (q (V.lit (Value.bool true))) else (if (c == 46) = true then (q (V.lit (Value.bool true))) else (if (c == 183) = true then (q (V.lit (Value.bool true))) else (q (V.lit (Value.bool false))))))) else (if (c == 45) = true then (q (V.lit (Value.bool true))) else (if (c == 46) = true then (q (V.lit (Value.bool true))) else (if (c == 183) = true then (q (V.lit (Value.bool true))) else (q (V.lit (Value.bool false))))))))
theorem w_FinName (m : Int) (c : Int) (q : V → Prop) :
    codeF (env m) (con7) (fun _ => none) 0 (bodyOf (env m).P 112) [] ⟨[.lit (.int .i64 c)] ++ List.replicate (25 - 1) un, [], []⟩ (finR (env m) (resOf (env m).P 112) (fun v _ => q v)) =
    r_FinName c q := by kernel_rfl
theorem cc_inName (m : Int) (c : Int) (hc : ConR (env m) (Lw m) (con7)) {q : V → Prop} (hr : r_FinName c q) :
    ∃ v_ K_ r_ H_, (Lw m).callX 112 [.lit (.int .i64 c)] [] = some (.ret (mapV r_ v_), H_) ∧ Rn r_ K_ H_ ∧ q v_ := by
  refine F_own (fg := true) hc (f := 112) (q := fun v _ => q v) lok_none (u := 0) (by kernel_rfl) rfl ?_
  rw [show ntmpsOf (env m).P 112 = 25 from by kernel_rfl]
  exact Eq.mpr (w_FinName m c q) hr
theorem ff_inName (m : Int) (c : Int) (hc : ConR (env m) (Lw m) (con7)) {w_ : V} (hw : closedV w_ = true) (hr : r_FinName c (fun v_ => v_ = w_)) :
    ∃ H_, (Lw m).callX 112 [.lit (.int .i64 c)] [] = some (.ret w_, H_) := by
  obtain ⟨v_, K_, r_, H_, h1, h2, rfl⟩ := cc_inName m c hc hr
  rw [closed_eq hw] at h1
  exact ⟨H_, h1⟩
def r_Fxml (s : ByteArray) (q : V → Prop) : Prop :=
    (if (toI (ByteArray.size s) == 3) = true then (if 0 < ByteArray.size s then (if (toI (UInt8.toNat (List.getD (Array.toList (ByteArray.data s)) 0 0)) == 120) = true then (if 1 < ByteArray.size s then (if (toI (UInt8.toNat (List.getD (Array.toList (ByteArray.data s)) 1 0)) == 109) = true then (if 2 < ByteArray.size s then (if (toI (UInt8.toNat (List.getD (Array.toList (ByteArray.data s)) 2 0)) == 108) = true then (q (V.lit (Value.bool true))) else (if 2 < ByteArray.size s then (if (toI (UInt8.toNat (List.getD (Array.toList (ByteArray.data s)) 2 0)) == 76) = true then (q (V.lit (Value.bool true))) else (q (V.lit (Value.bool false)))) else False)) else False) else (if 1 < ByteArray.size s then (if (toI (UInt8.toNat (List.getD (Array.toList (ByteArray.data s)) 1 0)) == 77) = true then (if 2 < ByteArray.size s then (if (toI (UInt8.toNat (List.getD (Array.toList (ByteArray.data s)) 2 0)) == 108) = true then (q (V.lit (Value.bool true))) else (if 2 < ByteArray.size s then (if (toI (UInt8.toNat (List.getD (Array.toList (ByteArray.data s)) 2 0)) == 76) = true then (q (V.lit (Value.bool true))) else (q (V.lit (Value.bool false)))) else False)) else False) else (q (V.lit (Value.bool false)))) else False)) else False) else (if 0 < ByteArray.size s then (if (toI (UInt8.toNat (List.getD (Array.toList (ByteArray.data s)) 0 0)) == 88) = true then (if 1 < ByteArray.size s then (if (toI (UInt8.toNat (List.getD (Array.toList (ByteArray.data s)) 1 0)) == 109) = true then (if 2 < ByteArray.size s then (if (toI (UInt8.toNat (List.getD (Array.toList (ByteArray.data s)) 2 0)) == 108) = true then (q (V.lit (Value.bool true))) else (if 2 < ByteArray.size s then (if (toI (UInt8.toNat (List.getD (Array.toList (ByteArray.data s)) 2 0)) == 76) = true then (q (V.lit (Value.bool true))) else (q (V.lit (Value.bool false)))) else False)) else False) else (if 1 < ByteArray.size s then (if (toI (UInt8.toNat (List.getD (Array.toList (ByteArray.data s)) 1 0)) == 77) = true then (if 2 < ByteArray.size s then (if (toI (UInt8.toNat (List.getD (Array.toList (ByteArray.data s)) 2 0)) == 108) = true then (q (V.lit (Value.bool true))) else (if 2 < ByteArray.size s then (if (toI (UInt8.toNat (List.getD (Array.toList (ByteArray.data s)) 2 0)) == 76) = true then (q (V.lit (Value.bool true))) else (q (V.lit (Value.bool false)))) else False)) else False) else (q (V.lit (Value.bool false)))) else False)) else False) else (q (V.lit (Value.bool false)))) else False)) else False) else (q (V.lit (Value.bool false))))
theorem w_Fxml (m : Int) (s : ByteArray) (q : V → Prop) :
    codeF (env m) (con7) (fun _ => none) 0 (bodyOf (env m).P 83) [] ⟨[.lit (.string s)] ++ List.replicate (36 - 1) un, [], []⟩ (finR (env m) (resOf (env m).P 83) (fun v _ => q v)) =
    r_Fxml s q := by kernel_rfl
theorem cc_xml (m : Int) (s : ByteArray) (hc : ConR (env m) (Lw m) (con7)) {q : V → Prop} (hr : r_Fxml s q) :
    ∃ v_ K_ r_ H_, (Lw m).callX 83 [.lit (.string s)] [] = some (.ret (mapV r_ v_), H_) ∧ Rn r_ K_ H_ ∧ q v_ := by
  refine F_own (fg := true) hc (f := 83) (q := fun v _ => q v) lok_none (u := 0) (by kernel_rfl) rfl ?_
  rw [show ntmpsOf (env m).P 83 = 36 from by kernel_rfl]
  exact Eq.mpr (w_Fxml m s q) hr
theorem ff_xml (m : Int) (s : ByteArray) (hc : ConR (env m) (Lw m) (con7)) {w_ : V} (hw : closedV w_ = true) (hr : r_Fxml s (fun v_ => v_ = w_)) :
    ∃ H_, (Lw m).callX 83 [.lit (.string s)] [] = some (.ret w_, H_) := by
  obtain ⟨v_, K_, r_, H_, h1, h2, rfl⟩ := cc_xml m s hc hr
  rw [closed_eq hw] at h1
  exact ⟨H_, h1⟩
def r_FidxRune (r : Int) (q : V → Prop) : Prop :=
    (if decide (0 ≤ r) = true then (if decide (r < 128) = true then (q (V.lit (Value.int IntKind.i64 (Lib.indexByte [32, 9, 13, 10] (Nat.toUInt8 (Int.toNat (IntKind.wrap IntKind.u8 r))))))) else (if (r == 65533) = true then (q (V.lit (Value.int IntKind.i64 (-1)))) else False)) else (if (r == 65533) = true then (q (V.lit (Value.int IntKind.i64 (-1)))) else False))
theorem w_FidxRune (m : Int) (r : Int) (q : V → Prop) :
    codeF (env m) (con7) (fun _ => none) 6 (bodyOf (env m).P 124) [] ⟨[.lit (.string ⟨#[32, 9, 13, 10]⟩), .lit (.int .i32 r)] ++ List.replicate (187 - 2) un, [], []⟩ (finR (env m) (resOf (env m).P 124) (fun v _ => q v)) =
    r_FidxRune r q := by kernel_rfl
theorem cc_idxRune (m : Int) (r : Int) (hc : ConR (env m) (Lw m) (con7)) {q : V → Prop} (hr : r_FidxRune r q) :
    ∃ v_ K_ r_ H_, (Lw m).callX 124 [.lit (.string ⟨#[32, 9, 13, 10]⟩), .lit (.int .i32 r)] [] = some (.ret (mapV r_ v_), H_) ∧ Rn r_ K_ H_ ∧ q v_ := by
  refine F_own (fg := true) hc (f := 124) (q := fun v _ => q v) lok_none (u := 6) (by kernel_rfl) rfl ?_
  rw [show ntmpsOf (env m).P 124 = 187 from by kernel_rfl]
  exact Eq.mpr (w_FidxRune m r q) hr
theorem ff_idxRune (m : Int) (r : Int) (hc : ConR (env m) (Lw m) (con7)) {w_ : V} (hw : closedV w_ = true) (hr : r_FidxRune r (fun v_ => v_ = w_)) :
    ∃ H_, (Lw m).callX 124 [.lit (.string ⟨#[32, 9, 13, 10]⟩), .lit (.int .i32 r)] [] = some (.ret w_, H_) := by
  obtain ⟨v_, K_, r_, H_, h1, h2, rfl⟩ := cc_idxRune m r hc hr
  rw [closed_eq hw] at h1
  exact ⟨H_, h1⟩
def r_FuseSet (n : Int) (q : V → Prop) : Prop :=
    (if decide (n > 8) = true then (q (V.lit (Value.bool true))) else (q (V.lit (Value.bool false))))
theorem w_FuseSet (m : Int) (n : Int) (q : V → Prop) :
    codeF (env m) (con7) (fun _ => none) 0 (bodyOf (env m).P 125) [] ⟨[.lit (.int .i64 n)] ++ List.replicate (5 - 1) un, [], []⟩ (finR (env m) (resOf (env m).P 125) (fun v _ => q v)) =
    r_FuseSet n q := by kernel_rfl
theorem cc_useSet (m : Int) (n : Int) (hc : ConR (env m) (Lw m) (con7)) {q : V → Prop} (hr : r_FuseSet n q) :
    ∃ v_ K_ r_ H_, (Lw m).callX 125 [.lit (.int .i64 n)] [] = some (.ret (mapV r_ v_), H_) ∧ Rn r_ K_ H_ ∧ q v_ := by
  refine F_own (fg := true) hc (f := 125) (q := fun v _ => q v) lok_none (u := 0) (by kernel_rfl) rfl ?_
  rw [show ntmpsOf (env m).P 125 = 5 from by kernel_rfl]
  exact Eq.mpr (w_FuseSet m n q) hr
theorem ff_useSet (m : Int) (n : Int) (hc : ConR (env m) (Lw m) (con7)) {w_ : V} (hw : closedV w_ = true) (hr : r_FuseSet n (fun v_ => v_ = w_)) :
    ∃ H_, (Lw m).callX 125 [.lit (.int .i64 n)] [] = some (.ret w_, H_) := by
  obtain ⟨v_, K_, r_, H_, h1, h2, rfl⟩ := cc_useSet m n hc hr
  rw [closed_eq hw] at h1
  exact ⟨H_, h1⟩
end Go.Proofs.YtpmdlaojndejfaaGreatDoor.E

/- IsText and parts of names of the reference; IndexRune over white space. -/
set_option linter.unusedVariables false
set_option linter.unusedSimpArgs false
set_option maxRecDepth 100000
namespace Go.Proofs.YtpmdlaojndejfaaGreatDoor.E
open Go
theorem rIsText_does (m : Int) (s : ByteArray) (hs : s.size ≤ 1000000) : ∃ H', (Lw m).callX 80 [.lit (.string s)] [] = some (.ret (.lit (.bool (HPure.isText s))), H') :=
  ff_rIsText m s (con7_r m) rfl (by
    unfold r_FrIsText
    rw [if_pos (by simpa using hs)]
    cases h : HPure.isText s <;> simp)
theorem inName_does (m : Int) (c : Int) : ∃ H', (Lw m).callX 112 [.lit (.int .i64 c)] [] = some (.ret (.lit (.bool (HPure.inPart false c))), H') :=
  ff_inName m c (con7_r m) rfl (by
    unfold r_FinName HPure.inPart
    cases h : HPure.isLetter c
    · simp only [Bool.false_eq_true, if_false, Bool.false_or, V.lit.injEq, Value.bool.injEq]
      repeat' split
      all_goals simp_all
      all_goals omega
    · simp)
/-- xml, in small or great letters. -/
def xmlB (s : ByteArray) : Bool := decide (s.size = 3) && ((byteAt s 0 == 120 || byteAt s 0 == 88) && ((byteAt s 1 == 109 || byteAt s 1 == 77) && (byteAt s 2 == 108 || byteAt s 2 == 76)))
theorem xml_does (m : Int) (s : ByteArray) : ∃ H', (Lw m).callX 83 [.lit (.string s)] [] = some (.ret (.lit (.bool (xmlB s))), H') :=
  ff_xml m s (con7_r m) rfl (by
    unfold r_Fxml
    by_cases h : s.size = 3
    · have e : ∀ i k : Nat, (toI (UInt8.toNat (List.getD (Array.toList (ByteArray.data s)) i 0)) == (k : Int)) = (byteAt s i == k) := fun i k => by
        rw [Bool.eq_iff_iff]; simp only [toI, byteAt, beq_iff_eq]; omega
      have e0 : (toI (UInt8.toNat (List.getD (Array.toList (ByteArray.data s)) 0 0)) == 120) = (byteAt s 0 == 120) := e 0 120
      have e1 : (toI (UInt8.toNat (List.getD (Array.toList (ByteArray.data s)) 0 0)) == 88) = (byteAt s 0 == 88) := e 0 88
      have e2 : (toI (UInt8.toNat (List.getD (Array.toList (ByteArray.data s)) 1 0)) == 109) = (byteAt s 1 == 109) := e 1 109
      have e3 : (toI (UInt8.toNat (List.getD (Array.toList (ByteArray.data s)) 1 0)) == 77) = (byteAt s 1 == 77) := e 1 77
      have e4 : (toI (UInt8.toNat (List.getD (Array.toList (ByteArray.data s)) 2 0)) == 108) = (byteAt s 2 == 108) := e 2 108
      have e5 : (toI (UInt8.toNat (List.getD (Array.toList (ByteArray.data s)) 2 0)) == 76) = (byteAt s 2 == 76) := e 2 76
      simp only [xmlB, h, toI] at *
      simp only [e0, e1, e2, e3, e4, e5]
      cases byteAt s 0 == 120 <;> cases byteAt s 0 == 88 <;> cases byteAt s 1 == 109 <;> cases byteAt s 1 == 77 <;> cases byteAt s 2 == 108 <;> cases byteAt s 2 == 76 <;> rfl
    · rw [if_neg (by simp only [toI, beq_iff_eq]; omega)]
      simp [xmlB, h])
def wsS : List UInt8 := [32, 9, 13, 10]
def wsB : ByteArray := ⟨#[32, 9, 13, 10]⟩
/-- IndexRune over white space. -/
def idxR (r : Int) : Int := if r < 128 then Lib.indexByte wsS r.toNat.toUInt8 else -1
theorem idxRune_does (m : Int) (r : Int) (h : 0 ≤ r) (h2 : r < 128 ∨ r = 65533) : ∃ H', (Lw m).callX 124 [.lit (.string wsB), .lit (.int .i32 r)] [] = some (.ret (.lit (.int .i64 (idxR r))), H') :=
  ff_idxRune m r (con7_r m) rfl (by
    unfold r_FidxRune idxR
    rw [if_pos (by simpa using h)]
    by_cases hr : r < 128
    · rw [if_pos (by simpa using hr), if_pos hr, show IntKind.wrap .u8 r = r by unfold IntKind.wrap; simp [IntKind.bits, IntKind.signed]; omega]
      rfl
    · rw [if_neg (by simpa using hr), if_neg hr, if_pos (by simp; omega)])
theorem useSet_does (m : Int) (n : Int) : ∃ H', (Lw m).callX 125 [.lit (.int .i64 n)] [] = some (.ret (.lit (.bool (decide (n > 8)))), H') :=
  ff_useSet m n (con7_r m) rfl (by
    unfold r_FuseSet
    refine ite_of (fun h => ?_) fun h => ?_
    · rw [h]
    · rw [Bool.not_eq_true] at h; rw [h])
def idxS : PSpec
  | [.lit (.string x), .lit (.int .i32 r)] => some (x.data.toList == wsS && (decide (0 ≤ r) && (decide (r < 128) || decide (r = 65533))), .lit (.int .i64 (idxR r)))
  | _ => none
noncomputable def con8 : Con := addP 80 (strS1 (fun s => decide (s.size ≤ 1000000)) fun s => .bool (HPure.isText s)) (addP 112 (i64S (HPure.inPart false)) (addP 83 (strS1 (fun _ => true) fun s => .bool (xmlB s)) (addP 124 idxS (addP 125 (i64S fun n => decide (n > 8)) con7))))
theorem con8_r (m : Int) : ConR (env m) (Lw m) con8 :=
  strS1_r (i64S_r (strS1_r (addP_r (i64S_r (con7_r m) (by kernel_rfl) (useSet_does m)) (by kernel_rfl) fun args v hs => by
    unfold idxS at hs
    split at hs
    · rename_i x r
      simp only [Option.some.injEq, Prod.mk.injEq, Bool.and_eq_true, Bool.or_eq_true, decide_eq_true_eq, beq_iff_eq] at hs
      obtain ⟨⟨h1, h2, h3⟩, rfl⟩ := hs
      have hx : x = wsB := by rw [← Plain.mk_data x, h1]; rfl
      subst hx
      exact ⟨rfl, rfl, idxRune_does m r h2 h3⟩
    · cases hs) (by kernel_rfl) fun s _ => xml_does m s) (by kernel_rfl) (inName_does m)) (by kernel_rfl) fun s h => rIsText_does m s (by simpa using h)
end Go.Proofs.YtpmdlaojndejfaaGreatDoor.E

/- Printed by sv.py: what the program's code asks and does, piece by piece. -/
namespace Go.Proofs.YtpmdlaojndejfaaGreatDoor.E
open Go
set_option linter.unusedVariables false
set_option linter.unusedSimpArgs false
set_option maxRecDepth 1000000
abbrev σ_rname : Type := Nat × Int × Bool × Int × (List (List V))
def d_rname : List V → Heap → Option σ_rname := fun vs H => match vs, H with
  | [.own 0 0 0 n, .lit (.int .i64 colons), .lit (.bool first), .lit (.int .i64 i)], [.rows 1 0 rs] => some (n, colons, first, i, rs)
  | _, _ => none
def e_rname : σ_rname → List V := fun a => match a with
  | (n, colons, first, i, rs) => [.own 0 0 0 n, .lit (.int .i64 colons), .lit (.bool first), .lit (.int .i64 i)]
def h_rname : σ_rname → Heap := fun a => match a with
  | (n, colons, first, i, rs) => [.rows 1 0 rs]
theorem k_rname {fg : Bool} {P : σ_rname → Prop} : DecOK fg d_rname e_rname h_rname P := by
  intro vs H a h hp
  unfold d_rname at h
  split at h
  · simp only [Option.some.injEq] at h; subst h; exact ⟨rfl, .inl rfl⟩
  · cases h
abbrev σ_rname_1 : Type := Int × Bool
def d_rname_1 : List V → Heap → Option σ_rname_1 := fun vs H => match vs, H with
  | [.lit (.int .i64 colons), .lit (.bool first)], _ => some (colons, first)
  | _, _ => none
def e_rname_1 : σ_rname_1 → List V := fun a => match a with
  | (colons, first) => [.lit (.int .i64 colons), .lit (.bool first)]
def h_rname_1 : σ_rname_1 → Heap := fun a => match a with
  | (colons, first) => []
theorem k_rname_1 {P : σ_rname_1 → Prop} : DecOK true d_rname_1 e_rname_1 h_rname_1 P := by
  intro vs H a h hp
  unfold d_rname_1 at h
  split at h
  · simp only [Option.some.injEq] at h; subst h; exact ⟨rfl, .inr ⟨rfl, _, rfl, (fun b hb => by simp [h_rname_1] at hb), (fun v hv => by
      simp only [e_rname_1, List.mem_cons, List.not_mem_nil, or_false] at hv
      rcases hv with rfl | rfl <;> exact lowVb_ok rfl)⟩⟩
  · cases h
abbrev σ_rname_2 : Type := Bool
def d_rname_2 : List V → Heap → Option σ_rname_2 := fun vs H => match vs, H with
  | [.lit (.bool b)], _ => some b
  | _, _ => none
def e_rname_2 : σ_rname_2 → List V := fun a => match a with
  | b => [.lit (.bool b)]
def h_rname_2 : σ_rname_2 → Heap := fun a => match a with
  | b => []
theorem k_rname_2 {P : σ_rname_2 → Prop} : DecOK true d_rname_2 e_rname_2 h_rname_2 P := by
  intro vs H a h hp
  unfold d_rname_2 at h
  split at h
  · simp only [Option.some.injEq] at h; subst h; exact ⟨rfl, .inr ⟨rfl, _, rfl, (fun b hb => by simp [h_rname_2] at hb), (fun v hv => by
      simp only [e_rname_2, List.mem_cons, List.not_mem_nil, or_false] at hv
      subst hv; exact lowVb_ok rfl)⟩⟩
  · cases h
def L_rname (P_rname : σ_rname → Prop) (Q_rname_1 : σ_rname → σ_rname_1 → Prop) (Q_rname_2 : σ_rname → σ_rname_2 → Prop) : LD σ_rname := ⟨67, [3, 5, 6, 7], d_rname, e_rname, h_rname, P_rname, [⟨σ_rname_1, .exit 0, [5, 6], d_rname_1, e_rname_1, h_rname_1, Q_rname_1⟩, ⟨σ_rname_2, .ret, [2], d_rname_2, e_rname_2, h_rname_2, Q_rname_2⟩]⟩
def r_rname (n : Nat) (colons : Int) (first : Bool) (i : Int) (rs : List (List V)) (Q_rname_1 : σ_rname → σ_rname_1 → Prop) (Q_rname_2 : σ_rname → σ_rname_2 → Prop) (N : σ_rname → σ_rname → Prop) : Prop :=
    (if decide (i < toI n) = true then (if 0 ≤ i then (if Int.toNat i < n then (if 0 + Int.toNat i < List.length rs then (if 0 < List.length (List.getD rs (0 + Int.toNat i) []) then (if ckOk (ckOf (ofValue (Value.int IntKind.i64 0))) (List.getD (List.getD rs (0 + Int.toNat i) []) 0 un) = true then (if (cellI (List.getD (List.getD rs (0 + Int.toNat i) []) 0 un) == 58) = true then (if first = true then (if first = true then (if 0 ≤ i then (if Int.toNat i < n then (if 0 + Int.toNat i < List.length rs then (if 0 < List.length (List.getD rs (0 + Int.toNat i) []) then (if ckOk (ckOf (ofValue (Value.int IntKind.i64 0))) (List.getD (List.getD rs (0 + Int.toNat i) []) 0 un) = true then (if HPure.isLetter (cellI (List.getD (List.getD rs (0 + Int.toNat i) []) 0 un)) = true then (N ((n, colons, first, i, rs)) ((n, colons, false, IntKind.wrap IntKind.i64 (i + 1), rs))) else (if first = true then (Q_rname_2 ((n, colons, first, i, rs)) (false)) else (if 0 ≤ i then (if Int.toNat i < n then (if 0 + Int.toNat i < List.length rs then (if 0 < List.length (List.getD rs (0 + Int.toNat i) []) then (if ckOk (ckOf (ofValue (Value.int IntKind.i64 0))) (List.getD (List.getD rs (0 + Int.toNat i) []) 0 un) = true then (if HPure.inPart false (cellI (List.getD (List.getD rs (0 + Int.toNat i) []) 0 un)) = true then (N ((n, colons, first, i, rs)) ((n, colons, false, IntKind.wrap IntKind.i64 (i + 1), rs))) else (Q_rname_2 ((n, colons, first, i, rs)) (false))) else False) else False) else False) else False) else False))) else False) else False) else False) else False) else False) else (if first = true then (Q_rname_2 ((n, colons, first, i, rs)) (false)) else (if 0 ≤ i then (if Int.toNat i < n then (if 0 + Int.toNat i < List.length rs then (if 0 < List.length (List.getD rs (0 + Int.toNat i) []) then (if ckOk (ckOf (ofValue (Value.int IntKind.i64 0))) (List.getD (List.getD rs (0 + Int.toNat i) []) 0 un) = true then (if HPure.inPart false (cellI (List.getD (List.getD rs (0 + Int.toNat i) []) 0 un)) = true then (N ((n, colons, first, i, rs)) ((n, colons, false, IntKind.wrap IntKind.i64 (i + 1), rs))) else (Q_rname_2 ((n, colons, first, i, rs)) (false))) else False) else False) else False) else False) else False))) else (N ((n, colons, first, i, rs)) ((n, IntKind.wrap IntKind.i64 (colons + 1), true, IntKind.wrap IntKind.i64 (i + 1), rs)))) else (if first = true then (if 0 ≤ i then (if Int.toNat i < n then (if 0 + Int.toNat i < List.length rs then (if 0 < List.length (List.getD rs (0 + Int.toNat i) []) then (if ckOk (ckOf (ofValue (Value.int IntKind.i64 0))) (List.getD (List.getD rs (0 + Int.toNat i) []) 0 un) = true then (if HPure.isLetter (cellI (List.getD (List.getD rs (0 + Int.toNat i) []) 0 un)) = true then (N ((n, colons, first, i, rs)) ((n, colons, false, IntKind.wrap IntKind.i64 (i + 1), rs))) else (if first = true then (Q_rname_2 ((n, colons, first, i, rs)) (false)) else (if 0 ≤ i then (if Int.toNat i < n then (if 0 + Int.toNat i < List.length rs then (if 0 < List.length (List.getD rs (0 + Int.toNat i) []) then (if ckOk (ckOf (ofValue (Value.int IntKind.i64 0))) (List.getD (List.getD rs (0 + Int.toNat i) []) 0 un) = true then (if HPure.inPart false (cellI (List.getD (List.getD rs (0 + Int.toNat i) []) 0 un)) = true then (N ((n, colons, first, i, rs)) ((n, colons, false, IntKind.wrap IntKind.i64 (i + 1), rs))) else (Q_rname_2 ((n, colons, first, i, rs)) (false))) else False) else False) else False) else False) else False))) else False) else False) else False) else False) else False) else (if first = true then (Q_rname_2 ((n, colons, first, i, rs)) (false)) else (if 0 ≤ i then (if Int.toNat i < n then (if 0 + Int.toNat i < List.length rs then (if 0 < List.length (List.getD rs (0 + Int.toNat i) []) then (if ckOk (ckOf (ofValue (Value.int IntKind.i64 0))) (List.getD (List.getD rs (0 + Int.toNat i) []) 0 un) = true then (if HPure.inPart false (cellI (List.getD (List.getD rs (0 + Int.toNat i) []) 0 un)) = true then (N ((n, colons, first, i, rs)) ((n, colons, false, IntKind.wrap IntKind.i64 (i + 1), rs))) else (Q_rname_2 ((n, colons, first, i, rs)) (false))) else False) else False) else False) else False) else False)))) else False) else False) else False) else False) else False) else (Q_rname_1 ((n, colons, first, i, rs)) ((colons, first))))
theorem w_rname (m : Int) (n : Nat) (colons : Int) (first : Bool) (i : Int) (rs : List (List V)) (P_rname : σ_rname → Prop) (Q_rname_1 : σ_rname → σ_rname_1 → Prop) (Q_rname_2 : σ_rname → σ_rname_2 → Prop) (N : σ_rname → σ_rname → Prop) :
    codeF (env m) (con8) (fun _ => none) 0 (atC [1, 1, 1, 1, 1, 0, 1, 0, 0] (bodyOf (env m).P 81)) [1, 1, 1, 1, 1, 0, 1, 0, 0] ((L_rname P_rname Q_rname_1 Q_rname_2).st (n, colons, first, i, rs)) ((L_rname P_rname Q_rname_1 Q_rname_2).leaf N (n, colons, first, i, rs)) =
    r_rname n colons first i rs Q_rname_1 Q_rname_2 N := by kernel_rfl
theorem l_rname (m : Int) {ro : Option Nat} (hc : ConR (env m) (Lw m) (con8)) {P_rname : σ_rname → Prop} {Q_rname_1 : σ_rname → σ_rname_1 → Prop} {Q_rname_2 : σ_rname → σ_rname_2 → Prop} (μ : σ_rname → Nat)
    (h0 : ∀ (n : Nat) (colons : Int) (first : Bool) (i : Int) (rs : List (List V)), P_rname (n, colons, first, i, rs) → r_rname n colons first i rs Q_rname_1 Q_rname_2 (fun a a' => P_rname a' ∧ μ a' < μ a ∧ (∀ c, Q_rname_1 a' c → Q_rname_1 a c) ∧ (∀ c, Q_rname_2 a' c → Q_rname_2 a c))) :
    SpOK (env m) (Lw m) ro (atC [1, 1, 1, 1, 1, 0, 1, 0] (bodyOf (env m).P 81)) (L_rname P_rname Q_rname_1 Q_rname_2).sp true := by
  rw [show atC [1, 1, 1, 1, 1, 0, 1, 0] (bodyOf (env m).P 81) = .loop (atC [1, 1, 1, 1, 1, 0, 1, 0, 0] (bodyOf (env m).P 81)) from by kernel_rfl]
  have hd : (L_rname P_rname Q_rname_1 Q_rname_2).dok true := ⟨k_rname, fun o ho => by
    simp only [L_rname, List.mem_cons, List.mem_singleton, List.not_mem_nil, or_false] at ho
    rcases ho with rfl | rfl
    · intro a; exact k_rname_1
    · intro a; exact k_rname_2⟩
  refine LD.loop_ok hd hc L_up lok_none (u := 0) μ (p := [1, 1, 1, 1, 1, 0, 1, 0, 0]) rfl ?_
  rintro (⟨n, colons, first, i, rs⟩) ha
  · exact Eq.mpr (w_rname m n colons first i rs P_rname Q_rname_1 Q_rname_2 _) (h0 n colons first i rs ha)
def r_FrIsName (s : ByteArray) (P_rname : σ_rname → Prop) (Q_rname_1 : σ_rname → σ_rname_1 → Prop) (Q_rname_2 : σ_rname → σ_rname_2 → Prop) (q : V → Prop) : Prop :=
    (if decide (ByteArray.size s ≤ 1000000) = true then (if (HPure.isText s && !List.isEmpty (HPure.points s)) = true then (if decide (toI (List.length (HPure.points s)) < 1) = true then (q (V.lit (Value.bool false))) else (if decide (toI (List.length (HPure.points s)) > 100) = true then (q (V.lit (Value.bool false))) else ((P_rname ((List.length (HPure.points s), 0, true, 0, intRows (HPure.points s)))) ∧ ((∀ c1 : Int × Bool, ((Q_rname_1 ((List.length (HPure.points s), 0, true, 0, intRows (HPure.points s))) (c1)) → (if c1.2 = true then (q (V.lit (Value.bool false))) else (if decide (c1.1 ≤ 1) = true then (q (V.lit (Value.bool true))) else (q (V.lit (Value.bool false))))))) ∧ (∀ c2 : Bool, ((Q_rname_2 ((List.length (HPure.points s), 0, true, 0, intRows (HPure.points s))) (c2)) → (q (V.lit (Value.bool c2))))))))) else (if HPure.isText s = true then (q (V.lit (Value.bool false))) else (q (V.lit (Value.bool false))))) else False)
theorem w_FrIsName (m : Int) (s : ByteArray) (P_rname : σ_rname → Prop) (Q_rname_1 : σ_rname → σ_rname_1 → Prop) (Q_rname_2 : σ_rname → σ_rname_2 → Prop) (q : V → Prop) :
    codeF (env m) (con8) (lcAdd [1, 1, 1, 1, 1, 0, 1, 0] (L_rname P_rname Q_rname_1 Q_rname_2).sp (fun _ => none)) 0 (bodyOf (env m).P 81) [] ⟨[.lit (.string s)] ++ List.replicate (67 - 1) un, [], []⟩ (finR (env m) (resOf (env m).P 81) (fun v _ => q v)) =
    r_FrIsName s P_rname Q_rname_1 Q_rname_2 q := by kernel_rfl
theorem cc_rIsName (m : Int) (s : ByteArray) (hc : ConR (env m) (Lw m) (con8)) {P_rname : σ_rname → Prop} {Q_rname_1 : σ_rname → σ_rname_1 → Prop} {Q_rname_2 : σ_rname → σ_rname_2 → Prop} (hl_rname : SpOK (env m) (Lw m) none (atC [1, 1, 1, 1, 1, 0, 1, 0] (bodyOf (env m).P 81)) (L_rname P_rname Q_rname_1 Q_rname_2).sp true) {q : V → Prop} (hr : r_FrIsName s P_rname Q_rname_1 Q_rname_2 q) :
    ∃ v_ K_ r_ H_, (Lw m).callX 81 [.lit (.string s)] [] = some (.ret (mapV r_ v_), H_) ∧ Rn r_ K_ H_ ∧ q v_ := by
  refine F_own (fg := true) hc (f := 81) (q := fun v _ => q v) (lok_add hl_rname lok_none) (u := 0) (by kernel_rfl) rfl ?_
  rw [show ntmpsOf (env m).P 81 = 67 from by kernel_rfl]
  exact Eq.mpr (w_FrIsName m s P_rname Q_rname_1 Q_rname_2 q) hr
theorem ff_rIsName (m : Int) (s : ByteArray) (hc : ConR (env m) (Lw m) (con8)) {P_rname : σ_rname → Prop} {Q_rname_1 : σ_rname → σ_rname_1 → Prop} {Q_rname_2 : σ_rname → σ_rname_2 → Prop} (hl_rname : SpOK (env m) (Lw m) none (atC [1, 1, 1, 1, 1, 0, 1, 0] (bodyOf (env m).P 81)) (L_rname P_rname Q_rname_1 Q_rname_2).sp true) {w_ : V} (hw : closedV w_ = true) (hr : r_FrIsName s P_rname Q_rname_1 Q_rname_2 (fun v_ => v_ = w_)) :
    ∃ H_, (Lw m).callX 81 [.lit (.string s)] [] = some (.ret w_, H_) := by
  obtain ⟨v_, K_, r_, H_, h1, h2, rfl⟩ := cc_rIsName m s hc hl_rname hr
  rw [closed_eq hw] at h1
  exact ⟨H_, h1⟩
def r_FindexAny (s : ByteArray) (q : V → Prop) : Prop :=
    (if decide (toI (ByteArray.size s) > 8) = true then False else (if 0 < ByteArray.size s then (if (true && (decide (0 ≤ toI (Prod.fst (Utf8.decode s 0))) && (decide (toI (Prod.fst (Utf8.decode s 0)) < 128) || decide (toI (Prod.fst (Utf8.decode s 0)) = 65533)))) = true then (if decide (idxR (toI (Prod.fst (Utf8.decode s 0))) ≥ 0) = true then (q (V.lit (Value.int IntKind.i64 0))) else (if 0 + Prod.snd (Utf8.decode s 0) < ByteArray.size s then (if (true && (decide (0 ≤ toI (Prod.fst (Utf8.decode s (0 + Prod.snd (Utf8.decode s 0))))) && (decide (toI (Prod.fst (Utf8.decode s (0 + Prod.snd (Utf8.decode s 0)))) < 128) || decide (toI (Prod.fst (Utf8.decode s (0 + Prod.snd (Utf8.decode s 0)))) = 65533)))) = true then (if decide (idxR (toI (Prod.fst (Utf8.decode s (0 + Prod.snd (Utf8.decode s 0))))) ≥ 0) = true then (q (V.lit (Value.int IntKind.i64 (toI (0 + Prod.snd (Utf8.decode s 0)))))) else (if 0 + Prod.snd (Utf8.decode s 0) + Prod.snd (Utf8.decode s (0 + Prod.snd (Utf8.decode s 0))) < ByteArray.size s then (if (true && (decide (0 ≤ toI (Prod.fst (Utf8.decode s (0 + Prod.snd (Utf8.decode s 0) + Prod.snd (Utf8.decode s (0 + Prod.snd (Utf8.decode s 0))))))) && (decide (toI (Prod.fst (Utf8.decode s (0 + Prod.snd (Utf8.decode s 0) + Prod.snd (Utf8.decode s (0 + Prod.snd (Utf8.decode s 0)))))) < 128) || decide (toI (Prod.fst (Utf8.decode s (0 + Prod.snd (Utf8.decode s 0) + Prod.snd (Utf8.decode s (0 + Prod.snd (Utf8.decode s 0)))))) = 65533)))) = true then (if decide (idxR (toI (Prod.fst (Utf8.decode s (0 + Prod.snd (Utf8.decode s 0) + Prod.snd (Utf8.decode s (0 + Prod.snd (Utf8.decode s 0))))))) ≥ 0) = true then (q (V.lit (Value.int IntKind.i64 (toI (0 + Prod.snd (Utf8.decode s 0) + Prod.snd (Utf8.decode s (0 + Prod.snd (Utf8.decode s 0)))))))) else False) else False) else (q (V.lit (Value.int IntKind.i64 (-1)))))) else False) else (q (V.lit (Value.int IntKind.i64 (-1)))))) else False) else (q (V.lit (Value.int IntKind.i64 (-1))))))
theorem w_FindexAny (m : Int) (s : ByteArray) (q : V → Prop) :
    codeF (env m) (con8) (fun _ => none) 3 (bodyOf (env m).P 104) [] ⟨[.lit (.string s), .lit (.string ⟨#[32, 9, 13, 10]⟩)] ++ List.replicate (55 - 2) un, [], []⟩ (finR (env m) (resOf (env m).P 104) (fun v _ => q v)) =
    r_FindexAny s q := by kernel_rfl
theorem cc_indexAny (m : Int) (s : ByteArray) (hc : ConR (env m) (Lw m) (con8)) {q : V → Prop} (hr : r_FindexAny s q) :
    ∃ v_ K_ r_ H_, (Lw m).callX 104 [.lit (.string s), .lit (.string ⟨#[32, 9, 13, 10]⟩)] [] = some (.ret (mapV r_ v_), H_) ∧ Rn r_ K_ H_ ∧ q v_ := by
  refine F_own (fg := true) hc (f := 104) (q := fun v _ => q v) lok_none (u := 3) (by kernel_rfl) rfl ?_
  rw [show ntmpsOf (env m).P 104 = 55 from by kernel_rfl]
  exact Eq.mpr (w_FindexAny m s q) hr
theorem ff_indexAny (m : Int) (s : ByteArray) (hc : ConR (env m) (Lw m) (con8)) {w_ : V} (hw : closedV w_ = true) (hr : r_FindexAny s (fun v_ => v_ = w_)) :
    ∃ H_, (Lw m).callX 104 [.lit (.string s), .lit (.string ⟨#[32, 9, 13, 10]⟩)] [] = some (.ret w_, H_) := by
  obtain ⟨v_, K_, r_, H_, h1, h2, rfl⟩ := cc_indexAny m s hc hr
  rw [closed_eq hw] at h1
  exact ⟨H_, h1⟩
end Go.Proofs.YtpmdlaojndejfaaGreatDoor.E

/- The reference's IsName; IndexAny over white space. -/
set_option linter.unusedVariables false
set_option linter.unusedSimpArgs false
set_option maxRecDepth 100000
namespace Go.Proofs.YtpmdlaojndejfaaGreatDoor.E
open Go
theorem intRows_row (l : List Int) (i : Nat) (h : i < l.length) : List.getD (intRows l) (0 + i) [] = [.lit (.int .i64 (l.getD i 0))] := by
  rw [Nat.zero_add]
  simp [intRows, List.getD, h]
open Plain HPure in
theorem rname_loop (m : Int) (l : List Int) (hl : l.length ≤ 1000) : SpOK (env m) (Lw m) none (atC [1, 1, 1, 1, 1, 0, 1, 0] (bodyOf (env m).P 81))
    (L_rname (fun (n, colons, first, i, rs) => rs = intRows l ∧ n = l.length ∧ 0 ≤ i ∧ 0 ≤ colons ∧ colons ≤ i ∧ i ≤ l.length ∧ refName true 0 l = refName first colons.toNat (l.drop i.toNat))
      (fun _ (colons, first) => refName true 0 l = (!first && decide (colons ≤ 1))) (fun _ b => refName true 0 l = b)).sp true := by
  refine l_rname m (con8_r m) (fun (n, colons, first, i, rs) => l.length - i.toNat) ?_
  rintro n colons first i rs ⟨rfl, rfl, h0, hc0, hc1, h1, hr⟩
  generalize refName true 0 l = R at hr ⊢
  unfold r_rname
  by_cases h : i < l.length
  · have hi : i.toNat < l.length := by omega
    have hrow := intRows_row l i.toNat hi
    have w1 : IntKind.wrap .i64 (i + 1) = i + 1 := w64_id (by omega) (by omega)
    have w2 : IntKind.wrap .i64 (colons + 1) = colons + 1 := w64_id (by omega) (by omega)
    have hd : l.drop i.toNat = l.getD i.toNat 0 :: l.drop (i + 1).toNat := by
      rw [show (i + 1).toNat = i.toNat + 1 by omega, ← List.getElem_cons_drop hi]
      simp [List.getD, hi]
    rw [hd] at hr
    rw [if_pos (by simp [toI]; omega)]
    simp only [hrow, intRows_len, w1, w2]
    generalize l.getD i.toNat 0 = c at *
    have e1 : cellI (List.getD [V.lit (Value.int IntKind.i64 c)] 0 un) = c := rfl
    have e2 : ckOk (ckOf (ofValue (Value.int IntKind.i64 0))) (List.getD [V.lit (Value.int IntKind.i64 c)] 0 un) = true := rfl
    have e3 : 0 < List.length [V.lit (Value.int IntKind.i64 c)] := Nat.one_pos
    simp only [e1, e2, e3, h0, hi, Nat.zero_add, if_true]
    have hi1 : (i + 1) ≤ l.length := by omega
    have hm : l.length - (i + 1).toNat < l.length - i.toNat := by omega
    have ec : (colons + 1).toNat = colons.toNat + 1 := by omega
    unfold refName at hr
    have ep : inPart true c = isLetter c := by simp [inPart]
    rw [ep] at hr
    cases first <;> by_cases h58 : c = 58 <;> cases hL : isLetter c <;> cases hI : inPart false c <;> simp_all <;> (first | omega | exact ⟨by omega, by omega⟩)
  · rw [if_neg (by simp [toI]; omega)]
    rw [List.drop_eq_nil_of_le (by omega)] at hr
    simp only [refName] at hr
    show R = _
    rw [hr]
    congr 1
    rw [Bool.eq_iff_iff]; simp
open Plain HPure in
theorem rIsName_does (m : Int) (s : ByteArray) (hs : s.size ≤ 1000000) : ∃ H', (Lw m).callX 81 [.lit (.string s)] [] = some (.ret (.lit (.bool (nameB s))), H') := by
  by_cases hl : (HPure.points s).length ≤ 100
  · refine ff_rIsName m s (con8_r m) (rname_loop m (HPure.points s) (by omega)) rfl ?_
    unfold r_FrIsName nameB
    rw [if_pos (by simpa using hs), decide_eq_true hl]
    cases ht : isText s
    · simp
    · simp only [Bool.true_and, if_true]
      cases hp : points s with
      | nil => simp [nameL]; decide
      | cons x t =>
        rw [if_pos (by simp), if_neg (by simp only [toI, List.length_cons, decide_eq_true_eq]; omega), if_neg (by rw [hp] at hl; simp only [toI, List.length_cons, decide_eq_true_eq] at hl ⊢; omega)]
        rw [← hp, ← refName_name]
        refine ⟨⟨trivial, trivial, Int.le_refl 0, Int.le_refl 0, Int.le_refl 0, by omega, by simp⟩, ?_, ?_⟩
        · rintro ⟨colons, first⟩ hq
          simp only at hq ⊢
          rw [hq]
          cases first
          · simp only [Bool.false_eq_true, if_false, Bool.not_false, Bool.true_and]
            refine ite_of (fun h => by rw [h]) fun h => by rw [Bool.not_eq_true] at h; rw [h]
          · simp
        · intro b hq
          rw [hq]
  · refine ff_rIsName m s (con8_r m) (rname_loop m [] (by simp)) rfl ?_
    unfold r_FrIsName nameB
    rw [if_pos (by simpa using hs), decide_eq_false hl]
    cases ht : isText s
    · simp
    · simp only [Bool.true_and, if_true, Bool.false_and]
      cases hp : points s with
      | nil => simp
      | cons x t =>
        rw [if_pos (by simp), if_neg (by simp only [toI, List.length_cons, decide_eq_true_eq]; omega), if_pos (by rw [hp] at hl; simp only [toI, List.length_cons, decide_eq_true_eq] at hl ⊢; omega)]
        trivial
/-- White space ahead. -/
def wsAhead (s : ByteArray) : Bool := decide (0 < s.size) && (byteAt s 0 == 32 || byteAt s 0 == 9 || byteAt s 0 == 13 || byteAt s 0 == 10)
theorem decode_one (s : ByteArray) (h : s.size = 1) : Utf8.decode s 0 = (if byteAt s 0 < 128 then byteAt s 0 else 65533, 1) := by
  rw [Lib.decode_at s 0, h]
  have hb : (s.get! 0).toNat = byteAt s 0 := by simp only [byteAt, get_byte']
  rw [hb]
  have := byteAt_lt s 0
  generalize byteAt s 0 = b at *
  unfold Lib.decodeN
  by_cases h1 : b < 128
  · rw [if_pos h1, if_pos h1]
  · rw [if_neg h1, if_neg h1]
    repeat' split
    all_goals first | rfl | omega
theorem idxR_ws (b : Nat) (hb : b < 256) : decide (idxR (if b < 128 then (b : Int) else 65533) ≥ 0) = (b == 32 || b == 9 || b == 13 || b == 10) := by
  revert b; decide +kernel
theorem indexAny_does (m : Int) (s : ByteArray) (hs : s.size ≤ 1) : ∃ H', (Lw m).callX 104 [.lit (.string s), .lit (.string wsB)] [] = some (.ret (.lit (.int .i64 (if wsAhead s = true then 0 else -1))), H') :=
  ff_indexAny m s (con8_r m) rfl (by
    unfold r_FindexAny
    rw [if_neg (by simp [toI]; omega)]
    by_cases h : s.size = 1
    · rw [if_pos (by omega)]
      have hb := byteAt_lt s 0
      have e := decode_one s h
      have e2 := idxR_ws _ hb
      have hw : wsAhead s = (byteAt s 0 == 32 || byteAt s 0 == 9 || byteAt s 0 == 13 || byteAt s 0 == 10) := by simp [wsAhead, h]
      rw [← e2] at hw
      simp only [e, toI]
      generalize byteAt s 0 = b at *
      have ei : ((if b < 128 then b else 65533 : Nat) : Int) = if b < 128 then (b : Int) else 65533 := by split <;> rfl
      rw [ei, if_pos (by simp only [Bool.true_and, Bool.and_eq_true, Bool.or_eq_true, decide_eq_true_eq]; split <;> omega), hw]
      refine ite_of (fun h2 => by rw [h2]; rfl) fun h2 => ?_
      rw [Bool.not_eq_true] at h2
      rw [if_neg (by omega), h2]; rfl
    · rw [if_neg (by omega)]
      have : wsAhead s = false := by simp [wsAhead]; omega
      rw [this]; rfl)
def anyS : PSpec
  | [.lit (.string s), .lit (.string x)] => some (x.data.toList == wsS && decide (s.size ≤ 1), .lit (.int .i64 (if wsAhead s = true then 0 else -1)))
  | _ => none
noncomputable def con9 : Con := addP 81 (strS1 (fun s => decide (s.size ≤ 1000000)) fun s => .bool (nameB s)) (addP 104 anyS (addP 68 (strS1 (fun s => decide (s.size ≤ 1099511627776)) fun s => .bool (nameB s)) con8))
theorem con9_r (m : Int) : ConR (env m) (Lw m) con9 :=
  strS1_r (addP_r (strS1_r (con8_r m) (by kernel_rfl) fun s h => isName_does m s (by simpa using h)) (by kernel_rfl) fun args v hs => by
    unfold anyS at hs
    split at hs
    · rename_i s x
      simp only [Option.some.injEq, Prod.mk.injEq, Bool.and_eq_true, decide_eq_true_eq, beq_iff_eq] at hs
      obtain ⟨⟨h1, h2⟩, rfl⟩ := hs
      have hx : x = wsB := by rw [← Plain.mk_data x, h1]; rfl
      subst hx
      exact ⟨rfl, rfl, indexAny_does m s h2⟩
    · cases hs) (by kernel_rfl) fun s h => rIsName_does m s (by simpa using h)
def containsS : PSpec
  | [.lit (.string s), .lit (.string x)] => some (decide (s.size < 4294967281), .lit (.bool (Lib.contains s.data.toList x.data.toList)))
  | _ => none
def lowerS : PSpec
  | [.lit (.string s)] => some (decide (s.size < 35184372088832), .lit (.string (lowerB s)))
  | _ => none
noncomputable def con9b : Con := addP 69 containsS (addP 71 lowerS con9)
theorem con9b_r (m : Int) : ConR (env m) (Lw m) con9b := by
  refine addPE_r (p := containsE) (addPE_r (p := lowerE) (con9_r m) (by kernel_rfl) (by kernel_rfl) (by kernel_rfl) fun args v hs => ?_) (by kernel_rfl) (by kernel_rfl) (by kernel_rfl) fun args v hs => ?_
  · unfold lowerS at hs
    split at hs
    · simp only [Option.some.injEq, Prod.mk.injEq, decide_eq_true_eq] at hs
      obtain ⟨h1, rfl⟩ := hs
      exact ⟨rfl, rfl, fun H => by simp only [lowerE, if_pos h1]⟩
    · cases hs
  · unfold containsS at hs
    split at hs
    · simp only [Option.some.injEq, Prod.mk.injEq, decide_eq_true_eq] at hs
      obtain ⟨h1, rfl⟩ := hs
      exact ⟨rfl, rfl, fun H => by simp only [containsE, if_pos h1]⟩
    · cases hs
end Go.Proofs.YtpmdlaojndejfaaGreatDoor.E

/- Printed by sv.py: what the program's code asks and does, piece by piece. -/
namespace Go.Proofs.YtpmdlaojndejfaaGreatDoor.E
open Go
set_option linter.unusedVariables false
set_option linter.unusedSimpArgs false
set_option maxRecDepth 1000000
noncomputable def con10 (m : Int) : Con := addIP (env m) 72 9 con9b (fun _ => none) 0 con9b
theorem con10_r (m : Int) : ConR (env m) (Lw m) (con10 m) := addIP_r (con9b_r m) (con9b_r m) (fg := true) lok_none (by kernel_rfl) (by kernel_rfl) fun _ => rfl
def r_FrAllowed (k : Int) (n : ByteArray) (t : ByteArray) (q : V → Prop) : Prop :=
    (if decide (ByteArray.size t ≤ 1000000) = true then (if HPure.isText t = true then (if (k == 0) = true then (if (ByteArray.toList n == []) = true then (if (ByteArray.toList t == []) = true then (q (V.lit (Value.bool true))) else (q (V.lit (Value.bool false)))) else (q (V.lit (Value.bool false)))) else (if (k == 1) = true then (if decide (ByteArray.size n ≤ 1000000) = true then (if nameB n = true then (if (ByteArray.toList t == []) = true then (q (V.lit (Value.bool true))) else (q (V.lit (Value.bool false)))) else (q (V.lit (Value.bool false)))) else False) else (if (k == 2) = true then (if decide (ByteArray.size n ≤ 1000000) = true then (if nameB n = true then (q (V.lit (Value.bool true))) else (q (V.lit (Value.bool false)))) else False) else (if (k == 3) = true then (if (ByteArray.toList n == []) = true then (if (!ByteArray.toList t == []) = true then (q (V.lit (Value.bool true))) else (q (V.lit (Value.bool false)))) else (q (V.lit (Value.bool false)))) else (if (k == 4) = true then (if (ByteArray.toList n == []) = true then (if (decide (ByteArray.size t ≤ 1099511627776) && true) = true then (if Lib.contains (Array.toList (ByteArray.data t)) [45, 45] = true then (q (V.lit (Value.bool false))) else (if (toI (ByteArray.size t) == 0) = true then (q (V.lit (Value.bool true))) else (if 0 ≤ IntKind.wrap IntKind.i64 (toI (ByteArray.size t) - 1) then (if Int.toNat (IntKind.wrap IntKind.i64 (toI (ByteArray.size t) - 1)) < ByteArray.size t then (if (toI (UInt8.toNat (List.getD (Array.toList (ByteArray.data t)) (Int.toNat (IntKind.wrap IntKind.i64 (toI (ByteArray.size t) - 1))) 0)) != 45) = true then (q (V.lit (Value.bool true))) else (q (V.lit (Value.bool false)))) else False) else False))) else False) else (q (V.lit (Value.bool false)))) else (if (k == 5) = true then (if decide (ByteArray.size n ≤ 1000000) = true then (if nameB n = true then (if xmlB n = true then (q (V.lit (Value.bool false))) else (if (decide (ByteArray.size t ≤ 1099511627776) && true) = true then (if Lib.contains (Array.toList (ByteArray.data t)) [63, 62] = true then (q (V.lit (Value.bool false))) else (if (toI (ByteArray.size t) == 0) = true then (q (V.lit (Value.bool true))) else (if 0 < ByteArray.size t then (if (toI (UInt8.toNat (List.getD (Array.toList (ByteArray.data t)) 0 0)) != 32) = true then (if 0 < ByteArray.size t then (if (toI (UInt8.toNat (List.getD (Array.toList (ByteArray.data t)) 0 0)) != 9) = true then (if 0 < ByteArray.size t then (if (toI (UInt8.toNat (List.getD (Array.toList (ByteArray.data t)) 0 0)) != 10) = true then (if 0 < ByteArray.size t then (if (toI (UInt8.toNat (List.getD (Array.toList (ByteArray.data t)) 0 0)) != 13) = true then (q (V.lit (Value.bool true))) else (q (V.lit (Value.bool false)))) else False) else (q (V.lit (Value.bool false)))) else False) else (q (V.lit (Value.bool false)))) else False) else (q (V.lit (Value.bool false)))) else False))) else False)) else (q (V.lit (Value.bool false)))) else False) else (q (V.lit (Value.bool false))))))))) else (q (V.lit (Value.bool false)))) else False)
theorem w_FrAllowed (m : Int) (k : Int) (n : ByteArray) (t : ByteArray) (q : V → Prop) :
    codeF (env m) (con9) (fun _ => none) 0 (bodyOf (env m).P 50) [] ⟨[.lit (.int .i64 k), .lit (.string n), .lit (.string t)] ++ List.replicate (100 - 3) un, [], []⟩ (finR (env m) (resOf (env m).P 50) (fun v _ => q v)) =
    r_FrAllowed k n t q := by kernel_rfl
theorem cc_rAllowed (m : Int) (k : Int) (n : ByteArray) (t : ByteArray) (hc : ConR (env m) (Lw m) (con9)) {q : V → Prop} (hr : r_FrAllowed k n t q) :
    ∃ v_ K_ r_ H_, (Lw m).callX 50 [.lit (.int .i64 k), .lit (.string n), .lit (.string t)] [] = some (.ret (mapV r_ v_), H_) ∧ Rn r_ K_ H_ ∧ q v_ := by
  refine F_own (fg := true) hc (f := 50) (q := fun v _ => q v) lok_none (u := 0) (by kernel_rfl) rfl ?_
  rw [show ntmpsOf (env m).P 50 = 100 from by kernel_rfl]
  exact Eq.mpr (w_FrAllowed m k n t q) hr
theorem ff_rAllowed (m : Int) (k : Int) (n : ByteArray) (t : ByteArray) (hc : ConR (env m) (Lw m) (con9)) {w_ : V} (hw : closedV w_ = true) (hr : r_FrAllowed k n t (fun v_ => v_ = w_)) :
    ∃ H_, (Lw m).callX 50 [.lit (.int .i64 k), .lit (.string n), .lit (.string t)] [] = some (.ret w_, H_) := by
  obtain ⟨v_, K_, r_, H_, h1, h2, rfl⟩ := cc_rAllowed m k n t hc hr
  rw [closed_eq hw] at h1
  exact ⟨H_, h1⟩
def r_Fallowed (k : Int) (n : ByteArray) (t : ByteArray) (q : V → Prop) : Prop :=
    (if HPure.isText t = true then (if (k == 0) = true then (if (ByteArray.toList n == []) = true then (if (ByteArray.toList t == []) = true then (q (V.lit (Value.bool true))) else (q (V.lit (Value.bool false)))) else (q (V.lit (Value.bool false)))) else (if (k == 1) = true then (if decide (ByteArray.size n ≤ 1099511627776) = true then (if nameB n = true then (if (ByteArray.toList t == []) = true then (q (V.lit (Value.bool true))) else (q (V.lit (Value.bool false)))) else (q (V.lit (Value.bool false)))) else False) else (if (k == 2) = true then (if decide (ByteArray.size n ≤ 1099511627776) = true then (if nameB n = true then (q (V.lit (Value.bool true))) else (q (V.lit (Value.bool false)))) else False) else (if (k == 3) = true then (if (ByteArray.toList n == []) = true then (if (!ByteArray.toList t == []) = true then (q (V.lit (Value.bool true))) else (q (V.lit (Value.bool false)))) else (q (V.lit (Value.bool false)))) else (if (k == 4) = true then (if (ByteArray.toList n == []) = true then (if decide (ByteArray.size t < 4294967281) = true then (if Lib.contains (Array.toList (ByteArray.data t)) [45, 45] = true then (q (V.lit (Value.bool false))) else (if decide (ByteArray.size t ≤ 1099511627776) = true then (if suffixB t { data := #[45] } = true then (q (V.lit (Value.bool false))) else (q (V.lit (Value.bool true)))) else False)) else False) else (q (V.lit (Value.bool false)))) else (if (k == 5) = true then (if decide (ByteArray.size n ≤ 1099511627776) = true then (if nameB n = true then (if decide (ByteArray.size n < 35184372088832) = true then (if (!ByteArray.toList (lowerB n) == [120, 109, 108]) = true then (if decide (ByteArray.size t < 4294967281) = true then (if Lib.contains (Array.toList (ByteArray.data t)) [63, 62] = true then (q (V.lit (Value.bool false))) else (if 0 ≤ if toI (ByteArray.size t) < 1 then toI (ByteArray.size t) else 1 then (if Int.toNat (if toI (ByteArray.size t) < 1 then toI (ByteArray.size t) else 1) ≤ ByteArray.size t then (if (true && decide (ByteArray.size (ByteArray.extract t 0 (Int.toNat (if toI (ByteArray.size t) < 1 then toI (ByteArray.size t) else 1))) ≤ 1)) = true then (if decide ((if wsAhead (ByteArray.extract t 0 (Int.toNat (if toI (ByteArray.size t) < 1 then toI (ByteArray.size t) else 1))) = true then 0 else -1) ≥ 0) = true then (q (V.lit (Value.bool false))) else (q (V.lit (Value.bool true)))) else False) else False) else False)) else False) else (q (V.lit (Value.bool false)))) else False) else (q (V.lit (Value.bool false)))) else False) else (q (V.lit (Value.bool false))))))))) else (q (V.lit (Value.bool false))))
theorem w_Fallowed (m : Int) (k : Int) (n : ByteArray) (t : ByteArray) (q : V → Prop) :
    codeF (env m) (con10 m) (fun _ => none) 0 (bodyOf (env m).P 45) [] ⟨[.lit (.int .i64 k), .lit (.string n), .lit (.string t)] ++ List.replicate (76 - 3) un, [], []⟩ (finR (env m) (resOf (env m).P 45) (fun v _ => q v)) =
    r_Fallowed k n t q := by kernel_rfl
theorem cc_allowed (m : Int) (k : Int) (n : ByteArray) (t : ByteArray) (hc : ConR (env m) (Lw m) (con10 m)) {q : V → Prop} (hr : r_Fallowed k n t q) :
    ∃ v_ K_ r_ H_, (Lw m).callX 45 [.lit (.int .i64 k), .lit (.string n), .lit (.string t)] [] = some (.ret (mapV r_ v_), H_) ∧ Rn r_ K_ H_ ∧ q v_ := by
  refine F_own (fg := true) hc (f := 45) (q := fun v _ => q v) lok_none (u := 0) (by kernel_rfl) rfl ?_
  rw [show ntmpsOf (env m).P 45 = 76 from by kernel_rfl]
  exact Eq.mpr (w_Fallowed m k n t q) hr
theorem ff_allowed (m : Int) (k : Int) (n : ByteArray) (t : ByteArray) (hc : ConR (env m) (Lw m) (con10 m)) {w_ : V} (hw : closedV w_ = true) (hr : r_Fallowed k n t (fun v_ => v_ = w_)) :
    ∃ H_, (Lw m).callX 45 [.lit (.int .i64 k), .lit (.string n), .lit (.string t)] [] = some (.ret w_, H_) := by
  obtain ⟨v_, K_, r_, H_, h1, h2, rfl⟩ := cc_allowed m k n t hc hr
  rw [closed_eq hw] at h1
  exact ⟨H_, h1⟩
end Go.Proofs.YtpmdlaojndejfaaGreatDoor.E

/- xml in small letters. Plain. -/
set_option linter.unusedVariables false
set_option linter.unusedSimpArgs false
set_option maxRecDepth 100000
namespace Go.Proofs.YtpmdlaojndejfaaGreatDoor.E
open Go Go.Lib
/-- A row of the table makes none of the three letters of what is no ASCII. -/
def rowFine (x : CaseRow) : Bool :=
  if x.delta 1 > 1114111 then decide (128 ≤ x.1) else (decide (0 ≤ max 128 (x.1 : Int) + x.delta 1) && [108, 109, 120].all fun v => !(decide (max 128 (x.1 : Int) ≤ v - x.delta 1) && decide (v - x.delta 1 ≤ (x.2.1 : Int))))
theorem table_fine : caseT.all (fun x => rowFine x || decide (x.2.1 < 128)) = true := by decide +kernel
theorem lookup_in (T : Array CaseRow) (r : Int) : ∀ (f lo hi i : Nat), hi ≤ T.size → lookupIdx T r f lo hi = some i → i < T.size ∧ ((T.getD i (0, 0, 0, 0, 0)).1 : Int) ≤ r ∧ r ≤ ((T.getD i (0, 0, 0, 0, 0)).2.1 : Int)
  | 0, lo, hi, i, _, h => by cases h
  | f + 1, lo, hi, i, hh, h => by
    unfold lookupIdx at h
    split at h
    case isFalse => cases h
    rename_i hlt
    split at h
    · rename_i hc
      simp only [Option.some.injEq] at h; subst h
      exact ⟨by omega, hc⟩
    · split at h
      · exact lookup_in T r f _ _ i (by omega) h
      · exact lookup_in T r f _ _ i hh h
theorem lower_far (r : Int) (h : 127 < r) : 0 ≤ toLowerU r ∧ toLowerU r ≠ 108 ∧ toLowerU r ≠ 109 ∧ toLowerU r ≠ 120 := by
  unfold toLowerU
  rw [if_neg (by omega)]
  unfold toR
  split
  · rename_i x hx
    unfold lookupGo at hx
    simp only [Option.map_eq_some_iff] at hx
    obtain ⟨i, hi, rfl⟩ := hx
    obtain ⟨h1, h2, h3⟩ := lookup_in caseA r _ _ _ i (Nat.le_refl _) hi
    have hm : caseA.getD i (0, 0, 0, 0, 0) ∈ caseT := by
      have hl : i < caseT.length := by simpa [caseA] using h1
      have : caseA.getD i (0, 0, 0, 0, 0) = caseT[i] := by simp [caseA, Array.getD, hl]
      rw [this]; exact List.getElem_mem hl
    have hf := List.all_eq_true.1 table_fine _ hm
    generalize caseA.getD i (0, 0, 0, 0, 0) = x at *
    simp only [Bool.or_eq_true, decide_eq_true_eq] at hf
    rcases hf with hf | hf
    · unfold rowFine at hf
      unfold convertR
      split at hf
      · rename_i hd
        rw [if_pos hd]
        simp only [decide_eq_true_eq] at hf
        omega
      · rename_i hd
        rw [if_neg hd]
        simp only [List.all_cons, List.all_nil, Bool.and_true, Bool.and_eq_true, decide_eq_true_eq, Bool.not_eq_true', Bool.and_eq_false_iff, decide_eq_false_iff_not] at hf
        generalize x.delta 1 = d at *
        omega
    · omega
  · omega
theorem decodeL_far (b : UInt8) (l : List UInt8) (h : 128 ≤ b.toNat) : 127 < ((decodeL (b :: l)).1 : Int) := by
  unfold decodeL
  rw [decode_at]
  have h0 : ((⟨(b :: l).toArray⟩ : ByteArray).get! 0).toNat = b.toNat := rfl
  rw [h0]
  generalize ((⟨(b :: l).toArray⟩ : ByteArray).get! (0 + 1)).toNat = b1
  generalize ((⟨(b :: l).toArray⟩ : ByteArray).get! (0 + 2)).toNat = b2
  generalize ((⟨(b :: l).toArray⟩ : ByteArray).get! (0 + 3)).toNat = b3
  generalize (⟨(b :: l).toArray⟩ : ByteArray).size - 0 = n
  unfold decodeN
  rw [if_neg (by omega)]
  repeat' split
  all_goals (simp only; omega)
theorem decodeL_near (b : UInt8) (l : List UInt8) (h : b.toNat < 128) : decodeL (b :: l) = (b.toNat, 1) := by
  unfold decodeL
  rw [decode_at]
  have h0 : ((⟨(b :: l).toArray⟩ : ByteArray).get! 0).toNat = b.toNat := rfl
  rw [h0]
  unfold decodeN
  rw [if_pos h]
theorem enc_far (c : Int) (h0 : 0 ≤ c) (h : c ≠ 108 ∧ c ≠ 109 ∧ c ≠ 120) : ∃ y ∈ encodeRune c, y ≠ 108 ∧ y ≠ 109 ∧ y ≠ 120 := by
  have hb : ∀ z : Int, 0 ≤ z → z < 256 → (z.toNat.toUInt8).toNat = z.toNat := fun z a b => by
    simp only [Nat.toUInt8, UInt8.toNat_ofNat']; omega
  have mk : ∀ z : Int, 0 ≤ z → z < 256 → z ≠ 108 → z ≠ 109 → z ≠ 120 → z.toNat.toUInt8 ≠ 108 ∧ z.toNat.toUInt8 ≠ 109 ∧ z.toNat.toUInt8 ≠ 120 := fun z a b c d e => by
    have := hb z a b
    refine ⟨fun h => ?_, fun h => ?_, fun h => ?_⟩ <;> (rw [h] at this; revert this; simp; omega)
  unfold encodeRune encodeRuneZ
  repeat' split
  all_goals (refine ⟨_, List.mem_map.2 ⟨_, List.mem_cons_self, rfl⟩, ?_⟩; apply mk <;> omega)
theorem mapGo_far : ∀ (n : Nat) (l : List UInt8), l.length ≤ n → (∃ b ∈ l, 128 ≤ b.toNat) → ∃ y ∈ mapGoD toLowerU n l, y ≠ 108 ∧ y ≠ 109 ∧ y ≠ 120
  | n, [], _, h => by obtain ⟨b, hb, _⟩ := h; cases hb
  | 0, b :: l, hl, _ => by simp at hl
  | n + 1, b :: l, hl, h => by
    unfold mapGoD
    rw [if_neg (by simp)]
    by_cases hb : b.toNat < 128
    · have h' : ∃ c ∈ l, 128 ≤ c.toNat := by
        obtain ⟨c, hc, h1⟩ := h
        rcases List.mem_cons.1 hc with rfl | hc
        · omega
        · exact ⟨c, hc, h1⟩
      obtain ⟨y, hy, h1⟩ := mapGo_far n l (by simpa using hl) h'
      rw [decodeL_near b l hb]
      exact ⟨y, List.mem_append.2 (.inr (by simpa using hy)), h1⟩
    · have hf := decodeL_far b l (by omega)
      obtain ⟨h0, h1⟩ := lower_far _ hf
      obtain ⟨y, hy, h2⟩ := enc_far _ h0 h1
      rw [if_pos h0]
      exact ⟨y, List.mem_append.2 (.inl hy), h2⟩
theorem lowerB_x (b : UInt8) : (Lib.lowerB b == 120) = (b.toNat == 120 || b.toNat == 88) ∧ (Lib.lowerB b == 109) = (b.toNat == 109 || b.toNat == 77) ∧ (Lib.lowerB b == 108) = (b.toNat == 108 || b.toNat == 76) := by
  have key : ∀ k : Nat, k < 256 → (Lib.lowerB k.toUInt8 == 120) = (k == 120 || k == 88) ∧ (Lib.lowerB k.toUInt8 == 109) = (k == 109 || k == 77) ∧ (Lib.lowerB k.toUInt8 == 108) = (k == 108 || k == 76) := by decide +kernel
  have := key b.toNat (UInt8.toNat_lt b)
  simpa using this
/-- xml in small letters: in small or great ones. -/
theorem lower_xml (s : ByteArray) : ((lowerB s).toList == [120, 109, 108]) = xmlB s := by
  rw [ByteArray.toList_eq]
  unfold lowerB
  have hx : ∀ i (b : UInt8), s.data.toList[i]? = some b → byteAt s i = b.toNat := fun i b h => by simp [byteAt, List.getD, h]
  have hsz : s.size = s.data.toList.length := (Plain.size_data s).symm
  split
  · simp only
    unfold toLowerA xmlB
    rw [hsz]
    generalize hL : s.data.toList = L at *
    match L, hx with
    | [a, b, c], hx =>
      rw [hx 0 a rfl, hx 1 b rfl, hx 2 c rfl]
      simp only [List.map_cons, List.map_nil, List.length_cons, List.length_nil]
      show ([Lib.lowerB a, Lib.lowerB b, Lib.lowerB c] == [120, 109, 108]) = _
      have : ([Lib.lowerB a, Lib.lowerB b, Lib.lowerB c] == ([120, 109, 108] : List UInt8)) = ((Lib.lowerB a == 120) && ((Lib.lowerB b == 109) && (Lib.lowerB c == 108))) := by
        rw [Bool.eq_iff_iff]; simp
      rw [this, (lowerB_x a).1, (lowerB_x b).2.1, (lowerB_x c).2.2]
      simp
    | [], _ => rfl
    | [a], _ => simp
    | [a, b], _ => simp
    | a :: b :: c :: d :: t, _ => simp
  · rename_i h
    have h' : ∃ b ∈ s.data.toList, 128 ≤ b.toNat := by
      have : ¬ ∀ b ∈ s.data.toList, b.toNat < 128 := fun hc => h (by rw [List.all_eq_true]; intro b hb; exact decide_eq_true (hc b hb))
      simpa using this
    obtain ⟨y, hy, h1, h2, h3⟩ := mapGo_far _ s.data.toList (Nat.le_refl _) h'
    have e1 : ((⟨(toLowerD s.data.toList).toArray⟩ : ByteArray).data.toList == ([120, 109, 108] : List UInt8)) = false := by
      rw [beq_eq_false_iff_ne]
      intro hc
      have hc' : mapGoD toLowerU s.data.toList.length s.data.toList = [120, 109, 108] := by simpa [toLowerD, mapD] using hc
      rw [hc'] at hy
      simp only [List.mem_cons, List.not_mem_nil, or_false] at hy
      rcases hy with h | h | h
      · exact h3 h
      · exact h2 h
      · exact h1 h
    rw [e1]
    symm
    unfold xmlB
    rw [hsz]
    generalize hL : s.data.toList = L at *
    match L, hx, h' with
    | [a, b, c], hx, h' =>
      rw [hx 0 a rfl, hx 1 b rfl, hx 2 c rfl]
      obtain ⟨x, hx1, hx2⟩ := h'
      simp at hx1
      rcases hx1 with rfl | rfl | rfl
      · have : (x.toNat == 120 || x.toNat == 88) = false := by simp; omega
        simp [this]
      · have : (x.toNat == 109 || x.toNat == 77) = false := by simp; omega
        simp [this]
      · have : (x.toNat == 108 || x.toNat == 76) = false := by simp; omega
        simp [this]
    | [], _, _ => rfl
    | [a], _, _ => simp
    | [a, b], _, _ => simp
    | a :: b :: c :: d :: t, _, _ => simp
end Go.Proofs.YtpmdlaojndejfaaGreatDoor.E

/- Which nodes are allowed: the program and the reference. -/
set_option linter.unusedVariables false
set_option linter.unusedSimpArgs false
set_option maxRecDepth 100000
namespace Go.Proofs.YtpmdlaojndejfaaGreatDoor.E
open Go
theorem empty_size (s : ByteArray) : (s.toList == ([] : List UInt8)) = decide (s.size = 0) := by
  rw [ByteArray.toList_eq, ← Plain.size_data]
  cases s.data.toList <;> simp
/-- A node of a kind may have a name and a text. -/
def allowedB (k : Int) (n t : ByteArray) : Bool :=
  HPure.isText t && (if k = 0 then decide (n.size = 0) && decide (t.size = 0)
    else if k = 1 then nameB n && decide (t.size = 0)
    else if k = 2 then nameB n
    else if k = 3 then decide (n.size = 0) && !decide (t.size = 0)
    else if k = 4 then decide (n.size = 0) && (!Lib.contains t.data.toList [45, 45] && (decide (t.size = 0) || !(byteAt t (t.size - 1) == 45)))
    else if k = 5 then nameB n && (!xmlB n && (!Lib.contains t.data.toList [63, 62] && !wsAhead t))
    else false)
theorem rAllowed_does (m : Int) (k : Int) (n t : ByteArray) (hn : n.size ≤ 1000000) (ht : t.size ≤ 1000000) : ∃ H', (Lw m).callX 50 [.lit (.int .i64 k), .lit (.string n), .lit (.string t)] [] = some (.ret (.lit (.bool (allowedB k n t))), H') :=
  ff_rAllowed m k n t (con9_r m) rfl (by
    unfold r_FrAllowed allowedB
    have w : IntKind.wrap .i64 (toI t.size - 1) = (t.size : Int) - 1 := w64_id (by simp only [toI]; omega) (by simp only [toI]; omega)
    have e : ∀ i k : Nat, (toI (UInt8.toNat (List.getD (Array.toList (ByteArray.data t)) i 0)) != (k : Int)) = !(byteAt t i == k) := fun i k => by
      rw [Bool.eq_iff_iff]; simp only [toI, byteAt, bne_iff_ne, ne_eq, Bool.not_eq_true', beq_eq_false_iff_ne]; omega
    have e0 : (toI (UInt8.toNat (List.getD (Array.toList (ByteArray.data t)) 0 0)) != 32) = !(byteAt t 0 == 32) := e 0 32
    have e1 : (toI (UInt8.toNat (List.getD (Array.toList (ByteArray.data t)) 0 0)) != 9) = !(byteAt t 0 == 9) := e 0 9
    have e2 : (toI (UInt8.toNat (List.getD (Array.toList (ByteArray.data t)) 0 0)) != 10) = !(byteAt t 0 == 10) := e 0 10
    have e3 : (toI (UInt8.toNat (List.getD (Array.toList (ByteArray.data t)) 0 0)) != 13) = !(byteAt t 0 == 13) := e 0 13
    have e4 : ∀ i, (toI (UInt8.toNat (List.getD (Array.toList (ByteArray.data t)) i 0)) != 45) = !(byteAt t i == 45) := fun i => e i 45
    simp only [w, e0, e1, e2, e3, e4, empty_size]
    rw [if_pos (by simpa using ht)]
    have hn' : decide (n.size ≤ 1000000) = true := by simpa using hn
    have ht' : decide (t.size ≤ 1099511627776) = true := by simp; omega
    simp only [hn', ht', Bool.and_self, if_true]
    cases hT : HPure.isText t
    · simp
    simp only [if_true, Bool.true_and]
    by_cases h0 : k = 0
    · subst h0; cases decide (n.size = 0) <;> cases decide (t.size = 0) <;> simp
    by_cases h1 : k = 1
    · subst h1; cases nameB n <;> cases decide (t.size = 0) <;> simp
    by_cases h2 : k = 2
    · subst h2; cases nameB n <;> simp
    by_cases h3 : k = 3
    · subst h3; cases decide (n.size = 0) <;> cases decide (t.size = 0) <;> simp
    simp only [beq_iff_eq, h0, h1, h2, h3, if_false]
    by_cases h4 : k = 4
    · subst h4
      simp only [if_true]
      cases decide (n.size = 0)
      · simp
      cases Lib.contains t.data.toList [45, 45]
      · by_cases hz : t.size = 0
        · simp [hz, toI]
        · simp only [if_true, Bool.false_eq_true, if_false]
          rw [if_neg (by simp only [toI]; omega), if_pos (by omega), if_pos (by omega), show ((t.size : Int) - 1).toNat = t.size - 1 by omega, decide_eq_false hz]
          cases byteAt t (t.size - 1) == 45 <;> simp
      · simp
    simp only [h4, if_false]
    by_cases h5 : k = 5
    · subst h5
      simp only [if_true]
      cases nameB n
      · simp
      cases xmlB n
      · cases Lib.contains t.data.toList [63, 62]
        · by_cases hz : t.size = 0
          · simp [hz, toI, wsAhead]
          · have hp : 0 < t.size := by omega
            simp only [if_true, Bool.false_eq_true, if_false]
            rw [if_neg (by simp only [toI]; omega)]
            simp only [hp, if_true, wsAhead, decide_true, Bool.true_and]
            cases byteAt t 0 == 32 <;> cases byteAt t 0 == 9 <;> cases byteAt t 0 == 10 <;> cases byteAt t 0 == 13 <;> simp
        · simp
      · simp
    · simp [h5])
theorem suffix_one (t : ByteArray) : suffixB t { data := #[45] } = (decide (t.size ≠ 0) && (byteAt t (t.size - 1) == 45)) := by
  have h1 : (ByteArray.mk #[45]).size = 1 := rfl
  unfold suffixB
  rw [h1]
  by_cases hz : t.size = 0
  · simp [hz]
  · have e : (t.extract (t.size - 1) t.size).toList = [t.get! (t.size - 1)] := by
      rw [ByteArray.toList_eq, Lib.extract_to_end]
      have hl : t.size - 1 < t.data.toList.length := by rw [Plain.size_data]; omega
      rw [← List.getElem_cons_drop hl, List.drop_eq_nil_of_le (by rw [Plain.size_data]; omega), ← get_byte' t (t.size - 1)]
      simp only [List.getD, List.getElem?_eq_getElem hl, Option.getD_some]
    rw [e, ByteArray.toList_eq]
    have h2 : byteAt t (t.size - 1) = (t.get! (t.size - 1)).toNat := by simp only [byteAt, get_byte']
    rw [h2]
    generalize t.get! (t.size - 1) = b
    have h3 : (([b] : List UInt8) == [45]) = (b.toNat == 45) := by
      rw [Bool.eq_iff_iff]; simp [← UInt8.toNat_inj]
    show (decide (1 ≤ t.size) && (([b] : List UInt8) == [45])) = _
    rw [h3, decide_eq_true (by omega : 1 ≤ t.size), decide_eq_true hz]
theorem ws_one (t : ByteArray) : wsAhead (t.extract 0 (min t.size 1)) = wsAhead t := by
  unfold wsAhead
  by_cases hz : t.size = 0
  · simp [hz]
  · have hs : (t.extract 0 (min t.size 1)).size = 1 := by rw [ByteArray.size_extract]; omega
    have hb : byteAt (t.extract 0 (min t.size 1)) 0 = byteAt t 0 := by
      unfold byteAt
      congr 1
      have e : (t.extract 0 (min t.size 1)).data.toList = t.data.toList.take (min t.size 1) := by simp [ByteArray.data_extract, List.extract]
      rw [e]
      simp only [List.getD, List.getElem?_take]
      rw [if_pos (by omega)]
    rw [hs, hb, decide_eq_true (by omega : 0 < 1), decide_eq_true (by omega : 0 < t.size)]
theorem allowed_does (m : Int) (k : Int) (n t : ByteArray) (hn : n.size ≤ 1000000) (ht : t.size ≤ 1000000) : ∃ H', (Lw m).callX 45 [.lit (.int .i64 k), .lit (.string n), .lit (.string t)] [] = some (.ret (.lit (.bool (allowedB k n t))), H') :=
  ff_allowed m k n t (con10_r m) rfl (by
    unfold r_Fallowed allowedB
    have hn' : decide (n.size ≤ 1099511627776) = true := by simp; omega
    have hn2 : decide (n.size < 35184372088832) = true := by simp; omega
    have ht' : decide (t.size ≤ 1099511627776) = true := by simp; omega
    have ht2 : decide (t.size < 4294967281) = true := by simp; omega
    have hmin : (if toI t.size < 1 then toI t.size else 1) = ((min t.size 1 : Nat) : Int) := by simp only [toI]; split <;> omega
    have hex : (t.extract 0 (min t.size 1)).size ≤ 1 := by rw [ByteArray.size_extract]; omega
    simp only [hn', hn2, ht', ht2, if_true, empty_size, suffix_one, lower_xml, hmin, Int.toNat_natCast, ws_one]
    cases hT : HPure.isText t
    · simp
    simp only [if_true, Bool.true_and]
    by_cases h0 : k = 0
    · subst h0; cases decide (n.size = 0) <;> cases decide (t.size = 0) <;> simp
    by_cases h1 : k = 1
    · subst h1; cases nameB n <;> cases decide (t.size = 0) <;> simp
    by_cases h2 : k = 2
    · subst h2; cases nameB n <;> simp
    by_cases h3 : k = 3
    · subst h3; cases decide (n.size = 0) <;> cases decide (t.size = 0) <;> simp
    simp only [beq_iff_eq, h0, h1, h2, h3, if_false]
    by_cases h4 : k = 4
    · subst h4
      simp only [if_true]
      cases decide (n.size = 0)
      · simp
      cases Lib.contains t.data.toList [45, 45]
      · by_cases hz : t.size = 0
        · simp [hz]
        · simp only [hz, decide_false, ne_eq, not_false_eq_true, decide_true]
          cases byteAt t (t.size - 1) == 45 <;> simp
      · simp
    simp only [h4, if_false]
    by_cases h5 : k = 5
    · subst h5
      simp only [if_true]
      cases nameB n
      · simp
      cases xmlB n
      · cases Lib.contains t.data.toList [63, 62]
        · rw [if_pos rfl, if_pos (by simp), if_neg (by simp), if_pos (by omega), if_pos (by omega), if_pos (decide_eq_true hex)]
          cases wsAhead t <;> simp
        · simp
      · simp
    · simp [h5])
def allowedS : PSpec
  | [.lit (.int .i64 k), .lit (.string n), .lit (.string t)] => some (decide (n.size ≤ 1000000) && decide (t.size ≤ 1000000), .lit (.bool (allowedB k n t)))
  | _ => none
noncomputable def con11 : Con := addP 45 allowedS (addP 50 allowedS con9)
theorem allowedS_r {m : Int} {f0 : FuncId} {con : Con} (h : ConR (env m) (Lw m) con) (hp : isPure (env m) f0 = true)
    (hd : ∀ k n t, n.size ≤ 1000000 → t.size ≤ 1000000 → ∃ H', (Lw m).callX f0 [.lit (.int .i64 k), .lit (.string n), .lit (.string t)] [] = some (.ret (.lit (.bool (allowedB k n t))), H')) : ConR (env m) (Lw m) (addP f0 allowedS con) :=
  addP_r h hp fun args v hs => by
    unfold allowedS at hs
    split at hs
    · simp only [Option.some.injEq, Prod.mk.injEq, Bool.and_eq_true, decide_eq_true_eq] at hs
      obtain ⟨⟨h1, h2⟩, rfl⟩ := hs
      exact ⟨rfl, rfl, hd _ _ _ h1 h2⟩
    · cases hs
theorem con11_r (m : Int) : ConR (env m) (Lw m) con11 := allowedS_r (allowedS_r (con9_r m) (by kernel_rfl) (rAllowed_does m)) (by kernel_rfl) (allowed_does m)
end Go.Proofs.YtpmdlaojndejfaaGreatDoor.E

/- Ancestors and depth: what is known of them, gathered. -/
set_option linter.unusedVariables false
set_option linter.unusedSimpArgs false
set_option maxRecDepth 100000
namespace Go.Proofs.YtpmdlaojndejfaaGreatDoor.E
open Go
/-- Nodes: kind, name, text, parent. -/
def kR (rows : List (List V)) (i : Nat) : Int := cellI (List.getD (List.getD rows i []) 0 un)
def nR (rows : List (List V)) (i : Nat) : ByteArray := cellS (List.getD (List.getD rows i []) 1 un)
def tR (rows : List (List V)) (i : Nat) : ByteArray := cellS (List.getD (List.getD rows i []) 2 un)
def uR (rows : List (List V)) (i : Nat) : Int := cellI (List.getD (List.getD rows i []) 3 un)
/-- Up to i, parents stand ahead. -/
def upB (rows : List (List V)) (i : Int) : Bool := (List.range (i + 1).toNat).all fun j => j == 0 || decide (uR rows j < j)
theorem upB_iff {rows : List (List V)} {i : Int} : upB rows i = true ↔ ∀ j : Nat, 0 < j → (j : Int) ≤ i → uR rows j < j := by
  simp only [upB, List.all_eq_true, List.mem_range, Bool.or_eq_true, beq_iff_eq, decide_eq_true_eq]
  constructor
  · intro h j h0 h1
    rcases h j (by omega) with h | h
    · omega
    · exact h
  · intro h j hj
    by_cases h0 : j = 0
    · exact .inl h0
    · exact .inr (h j (by omega) (by omega))
theorem upB_int {rows : List (List V)} {i : Int} (h : upB rows i = true) : ∀ j : Int, 0 < j → j ≤ i → upR rows j < j := fun j h0 h1 => by
  have := upB_iff.1 h j.toNat (by omega) (by omega)
  unfold uR at this
  unfold upR
  omega
def aboveS : PSpec
  | [.agg [.arr rows], .lit (.int .i64 a), .lit (.int .i64 i)] => some (rowsOk nodeSh rows && (decide (0 ≤ a) && (decide (i < toI rows.length) && upB rows i)), .lit (.bool (aboveB rows a i)))
  | _ => none
def raboveS : PSpec
  | [.agg [.arr rows], .lit (.int .i64 a), .lit (.int .i64 i)] => some (rowsOk nodeSh rows && (decide (uR rows 0 < 0) && (decide (i < toI rows.length) && upB rows i)), .lit (.bool (raboveB rows a i)))
  | _ => none
def depthS : PSpec
  | [.agg [.arr rows], .lit (.int .i64 i)] => some (rowsOk nodeSh rows && (decide (rows.length ≤ 1000000000) && (decide (uR rows 0 < 0) && (decide (i < toI rows.length) && upB rows i))), .lit (.int .i64 (depthI rows i)))
  | _ => none
theorem up_zero {rows : List (List V)} {i : Int} (h0 : uR rows 0 < 0) (h : upB rows i = true) : ∀ j : Int, 0 ≤ j → j ≤ i → upR rows j < j := fun j j0 j1 => by
  rcases Int.lt_or_eq_of_le j0 with hj | hj
  · exact upB_int h j hj j1
  · subst hj; exact h0
noncomputable def con12 : Con := addP 40 aboveS (addP 44 raboveS (addP 84 depthS con11))
theorem con12_r (m : Int) : ConR (env m) (Lw m) con12 := by
  refine addP_r (addP_r (addP_r (con11_r m) (by kernel_rfl) fun args v hs => ?_) (by kernel_rfl) fun args v hs => ?_) (by kernel_rfl) fun args v hs => ?_
  · unfold depthS at hs
    split at hs
    · simp only [Option.some.injEq, Prod.mk.injEq, Bool.and_eq_true, decide_eq_true_eq] at hs
      obtain ⟨⟨h1, h2, h3, h4, h5⟩, rfl⟩ := hs
      exact ⟨rfl, rfl, depth_does m _ _ h1 h2 h4 (up_zero h3 h5)⟩
    · cases hs
  · unfold raboveS at hs
    split at hs
    · simp only [Option.some.injEq, Prod.mk.injEq, Bool.and_eq_true, decide_eq_true_eq] at hs
      obtain ⟨⟨h1, h3, h4, h5⟩, rfl⟩ := hs
      exact ⟨rfl, rfl, rabove_does m _ _ _ h1 h4 (up_zero h3 h5)⟩
    · cases hs
  · unfold aboveS at hs
    split at hs
    · simp only [Option.some.injEq, Prod.mk.injEq, Bool.and_eq_true, decide_eq_true_eq] at hs
      obtain ⟨⟨h1, h3, h4, h5⟩, rfl⟩ := hs
      exact ⟨rfl, rfl, above_does m _ _ _ h3 h1 h4 (upB_int h5)⟩
    · cases hs
/-- The last child of p below k; -1: none. -/
def lastC (rows : List (List V)) (p : Int) : Nat → Int
  | 0 => -1
  | k + 1 => if p < k ∧ uR rows k = p then (k : Int) else lastC rows p k
/-- An attribute's place: the children ahead are attributes of other names. -/
def attrB (rows : List (List V)) (p : Int) (n : ByteArray) : Nat → Bool
  | 0 => true
  | k + 1 => attrB rows p n k && (!(decide (p < k) && decide (uR rows k = p)) || (decide (kR rows k = 2) && !((nR rows k).toList == n.toList)))
/-- Node i stands in a right place. -/
def fitsB (rows : List (List V)) (i : Nat) : Bool :=
  decide (0 ≤ uR rows i) && (decide (uR rows i < i) && (raboveB rows (uR rows i) ((i : Int) - 1) && (!decide (kR rows i = 0) &&
    ((decide (kR rows (uR rows i).toNat = 1) || (decide (kR rows (uR rows i).toNat = 0) && !decide (kR rows i = 2))) &&
    ((decide (kR rows i = 2) || decide (depthI rows i ≤ 200)) &&
    ((!decide (kR rows i = 2) || attrB rows (uR rows i) (nR rows i) i) &&
    (decide (lastC rows (uR rows i) i < 0) || (!decide (kR rows i = 3) || !decide (kR rows (lastC rows (uR rows i) i).toNat = 3)))))))))
def fitsS : PSpec
  | [.agg [.arr rows], .lit (.int .i64 i)] => some (rowsOk nodeSh rows && (decide (rows.length ≤ 1000000) && (decide (uR rows 0 < 0) && (decide (0 < i) && (decide (i < toI rows.length) && upB rows (i - 1))))), .lit (.bool (fitsB rows i.toNat)))
  | _ => none
noncomputable def con13 : Con := addP 51 fitsS con12
/-- Names and texts are not too long. -/
def smallB (rows : List (List V)) : Bool := (List.range rows.length).all fun i => decide ((nR rows i).size ≤ 1000000) && decide ((tR rows i).size ≤ 1000000)
/-- Valid up to node i. -/
def validN (rows : List (List V)) : Nat → Bool
  | 0 => true
  | i + 1 => validN rows i && (allowedB (kR rows i) (nR rows i) (tR rows i) && (decide (i = 0) || fitsB rows i))
def validB (rows : List (List V)) : Bool := decide (1 ≤ rows.length) && (decide (rows.length ≤ 65536) && (decide (uR rows 0 = -1) && validN rows rows.length))
end Go.Proofs.YtpmdlaojndejfaaGreatDoor.E
