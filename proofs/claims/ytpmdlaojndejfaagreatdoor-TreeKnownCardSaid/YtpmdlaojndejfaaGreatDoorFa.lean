/- Regions that draw: the evaluator's one run stands for every order. -/
import Derived.Test.YtpmdlaojndejfaaGreatDoorEp
import Derived.Test.YtpmdlaojndejfaaGreatDoorEz
set_option linter.unusedVariables false
set_option linter.unusedSimpArgs false
namespace Go.Proofs.YtpmdlaojndejfaaGreatDoor.E
open Go

section
variable {N A : Nat → Prop} {ι : Nat → Lk} {H H' : Heap} {w w' : World}

/-- Free places more or less. -/
theorem Ext.same (h : SR N A ι H w) (hh : w'.heap = w.heap) (ho : w'.os = w.os) (ht : w'.tape = w.tape) (hu : w'.output = w.output)
    (h1 : ∀ (id : Nat) (blk : Blk), H[id]? = some blk → blk ≠ .free → H'[id]? = some blk) (h2 : ∀ (id : Nat) (blk : Blk), H'[id]? = some blk → blk ≠ .free → H[id]? = some blk) : Ext N A ι H w N A ι H' w' := by
  have k : Keeps A A ι ι H H' w w' := ⟨fun _ h => h, fun b _ => by rw [hh], fun id blk a b => ⟨blk, h1 id blk a b, .same rfl blk⟩⟩
  have keep : ∀ v cv, VR A ι H w v cv → VR A ι H' w' v cv := fun v cv x => x.keep k
  have alf : ∀ b : Blk, b.alive → b ≠ .free := fun b ha e => by subst e; exact ha
  refine ⟨⟨?_, ?_, ?_, h.an, fun b hb => by rw [hh]; exact h.lt b hb⟩, keep, fun b hb => ⟨hb, by rw [hh]⟩, fun b hb => .inl hb, fun b hb => hb, by rw [hh]; exact Nat.le_refl _, ho, ht, hu⟩
  · intro id b hid
    by_cases hf : b = .free
    · subst hf; trivial
    · exact BR.keep keep rfl (fun _ => by rw [hh]) (h.live id b (h2 id b hid hf))
  · intro i j bi bj hi hj ai aj e
    exact h.inj i j bi bj (h2 i bi hi (alf bi ai)) (h2 j bj hj (alf bj aj)) ai aj e
  · intro i bi hi ai hn
    exact h.apart i bi (h2 i bi hi (alf bi ai)) ai hn

theorem dropF_get : ∀ (H : Heap) (k : Nat) (b : Blk), (H[k]? = some b → b ≠ .free → (dropF H)[k]? = some b) ∧ ((dropF H)[k]? = some b → H[k]? = some b)
  | [], k, b => ⟨fun h => by simp at h, fun h => by simp [dropF] at h⟩
  | x :: H, k, b => by
    have ih := dropF_get H
    simp only [dropF]
    split
    · rename_i hd
      refine ⟨fun h hf => ?_, fun h => by simp at h⟩
      cases k with
      | zero => simp at h; exact absurd h.symm hf
      | succ k =>
        have := (ih k b).1 (by simpa using h) hf
        rw [hd] at this; simp at this
    · cases k with
      | zero => exact ⟨fun h _ => by simpa using h, fun h => by simpa using h⟩
      | succ k => exact ⟨fun h hf => by simpa using (ih k b).1 (by simpa using h) hf, fun h => by simpa using (ih k b).2 (by simpa using h)⟩
theorem trimH_blk : ∀ (n : Nat) (H : Heap) (k : Nat) (b : Blk), (H[k]? = some b → b ≠ .free → (trimH n H)[k]? = some b) ∧ ((trimH n H)[k]? = some b → H[k]? = some b)
  | 0, H, k, b => dropF_get H k b
  | n + 1, [], k, b => ⟨fun h => by simp at h, fun h => by simp [trimH] at h⟩
  | n + 1, x :: H, 0, b => ⟨fun h _ => by simpa [trimH] using h, fun h => by simpa [trimH] using h⟩
  | n + 1, x :: H, k + 1, b => by
    simp only [trimH, List.getElem?_cons_succ]
    exact trimH_blk n H k b

theorem unmask_okI {r : DRun} {it : DItem} {tmps : List V} {n : Nat} (h : okI r it tmps n = true) (hn : n = H.length) :
    ∀ p ∈ hidI r it, p < H.length → posI r it n ≠ p ∧ posI r it n + 1 ≠ p := by
  intro p hp hl
  unfold posI
  cases hd : it.dry with
  | true => simp only [if_true]; omega
  | false =>
    simp only [okI, hd, Bool.false_or, Bool.and_eq_true, Bool.not_eq_true', List.contains_eq_mem, decide_eq_false_iff_not] at h
    simp only [Bool.false_eq_true, if_false]
    exact ⟨fun e => h.2.1.2 (e ▸ hp), fun e => h.2.2 (e ▸ hp)⟩

theorem unmask_step' {E : Env} {self : Self} (hcall : FillCall self.call) (hcode : FillCode self.code) (hq : PrimFill E) {tmps : List V} {nid : Nat} {o : Oper} {v : V} :
    ∀ (ps : List Nat) (H Hv : Heap), (∀ p ∈ ps, p < H.length → nid ≠ p ∧ nid + 1 ≠ p) → stepE E self tmps nid (maskH H ps) o = some (v, Hv) → stepE E self tmps nid H o = some (v, unmaskH H Hv ps)
  | [], H, Hv, _, h => h
  | p :: ps, H, Hv, h1, h => by
    simp only [maskH] at h
    have ih := unmask_step' hcall hcode hq ps (H.set p .free) Hv (fun q hq hl => h1 q (List.mem_cons_of_mem _ hq) (by simpa using hl)) h
    rcases Nat.lt_or_ge p H.length with hlt | hge
    · have hf : (H.set p .free)[p]? = some .free := by simp [hlt]
      obtain ⟨n1, n2⟩ := h1 p (by simp) hlt
      obtain ⟨q1, q2⟩ := stepE_fill (b := H[p]) hcall hcode hq hf n1 n2 ih
      have e1 : (H.set p .free).set p H[p] = H := by simp
      rw [e1] at q1
      rw [q1]
      congr 2
      have e2 : H[p]? = some H[p] := by simp [hlt]
      simp only [unmaskH, e2]
      apply List.ext_getElem?
      intro i
      by_cases hi : i = p
      · subst hi
        have hl : i < Hv.length := by
          have := (List.getElem?_eq_some_iff.1 q2).1
          rw [unmaskH_len] at this; exact this
        rw [List.getElem?_set_self (by rw [unmaskH_len]; exact hl), List.getElem?_set_self (by rw [unmaskH_len]; exact hl)]
      · rw [List.getElem?_set_ne (Ne.symm hi), List.getElem?_set_ne (Ne.symm hi), unmaskH_get, unmaskH_get]
        simp [List.getElem?_set_ne (Ne.symm hi)]
    · have e1 : H.set p .free = H := by rw [List.set_eq_of_length_le hge]
      rw [e1] at ih
      rw [ih]
      have e2 : H[p]? = none := List.getElem?_eq_none hge
      simp only [unmaskH, e2]

theorem any_sound {E : Env} {self : Self} (hself : Sound E self.call) (hcode : CodeSound E self.code) (hprim : PrimSound E) (fcall : FillCall self.call) (fcode : FillCode self.code) (fprim : PrimFill E)
    {ops : Array Oper} {r : DRun} {cro : Option Nat} {n : Nat} {Q : Exit → Act → World → Prop} {sN : St} :
    ∀ (k : Nat) (listed : Array Bool) (s : St) (N A : Nat → Prop) (ι : Nat → Lk) (w : World) (a : Act), anyD (stepD E self ops r) ops sN k listed s → SR N A ι s.H w → GR E A ι s.H w → TR A ι s.H w s.tmps a.tmps → DR A ι s.H w s.ds a.defers →
      (∀ a' w' N' A' ι', Ext N A ι s.H w N' A' ι' sN.H w' → TR A' ι' sN.H w' sN.tmps a'.tmps → DR A' ι' sN.H w' sN.ds a'.defers → Q .normal a' w') → wpAnyIn (W cro) n E.P .any ops Q k listed a w
  | 0, listed, s, N, A, ι, w, a, h, hs, hg, ht, hd, hq => by
    unfold anyD at h
    obtain ⟨h1, rfl⟩ := h
    exact ⟨h1, hq a w N A ι (Ext.refl hs) ht hd⟩
  | k + 1, listed, s, N, A, ι, w, a, h, hs, hg, ht, hd, hq => by
    unfold anyD at h
    refine ⟨fun hr => ?_, fun i hi => ?_⟩
    · have := h.1 hr
      subst this
      exact hq a w N A ι (Ext.refl hs) ht hd
    · obtain ⟨s1, h1, h2⟩ := h.2 i hi
      unfold wpOpIn
      unfold stepD at h1
      cases ho : ops[i]? with
      | none => rw [ho] at h1; simp at h1
      | some o =>
        rw [ho] at h1
        simp only [Option.bind_some] at h1 ⊢
        rw [← wanted_eq ht o]
        obtain ⟨v, Hv, hout, rfl⟩ := stepI_out.1 h1
        rcases hout with ⟨hw, hok, hst, hp⟩ | ⟨hw, rfl, rfl⟩
        · rw [if_pos (by exact hw)]
          have hst' := unmask_step' fcall fcode fprim _ s.H Hv (unmask_okI hok rfl) hst
          obtain ⟨k1, k2⟩ := stepE_sound hself hcode hprim hs hg ht hst'
          refine op_wp (o := o) k1 k2 fun cv w1 N1 A1 ι1 e1 hv => ?_
          have t1 := TR.put (ds := a.defers) (ht.keep e1.keep) hv o.dst
          have dd : (a.put o.dst cv).defers = a.defers := by cases o.dst <;> rfl
          exact any_sound hself hcode hprim fcall fcode fprim k _ _ N1 A1 ι1 w1 (a.put o.dst cv) h2 e1.sr (GR.keep hs hg e1) t1 (by rw [dd]; exact hd.keep e1.keep) fun a' w' N' A' ι' e t d => hq a' w' N' A' ι' (e1.trans e) t d
        · have hw : Region.wanted o (yieldedV ops s.tmps) = false := hw
          rw [if_neg (by simp [hw])]
          refine ⟨fun _ _ => trivial, ?_⟩
          have t1 := TR.put (ds := a.defers) ht (VR.lit undef) o.dst
          have dd : (a.put o.dst undef).defers = a.defers := by cases o.dst <;> rfl
          simp only [unmask_mask] at h2
          exact any_sound hself hcode hprim fcall fcode fprim k _ _ N A ι w (a.put o.dst undef) h2 hs hg t1 (by rw [dd]; exact hd) hq

/-- The items, one after the other, are the steps by number. -/
theorem runI_runN {E : Env} {self : Self} {ops : Array Oper} {r : DRun} : ∀ (l : List Oper) (k : Nat) (s : St), (∀ m o, l[m]? = some o → ops[k + m]? = some o) → runI E self ops r (itemsL E r.chk ops.toList k l) s = runN (stepD E self ops r) (List.range' k l.length) s
  | [], k, s, h => rfl
  | o :: l, k, s, h => by
    have h0 : ops[k]? = some o := by simpa using h 0 o (by simp)
    simp only [itemsL, runI, List.length_cons, List.range'_succ, runN, stepD, h0, Option.bind_some]
    congr 1
    funext s'
    exact runI_runN l (k + 1) s' fun m o hm => by have := h (m + 1) o (by simpa using hm); rw [show k + 1 + m = k + (m + 1) by omega]; exact this

theorem anc_low {ops : Array Oper} (h : ∀ j, j < ops.size → (ancS ops.toList).getD j 0 < 2 ^ j) {j i : Nat} (hw : waits ops.toList j i = true) : i < j := by
  unfold waits at hw
  rcases Nat.lt_or_ge j ops.size with hj | hj
  · rcases Nat.lt_or_ge i j with hij | hij
    · exact hij
    · exfalso
      have h1 := h j hj
      have h2 := Nat.ge_two_pow_of_testBit hw
      have h3 : 2 ^ j ≤ 2 ^ i := Nat.pow_le_pow_right (by omega) hij
      omega
  · exfalso
    have : (ancS ops.toList).getD j 0 = 0 := by
      obtain ⟨l, h1, h2⟩ := ancL_pre ops.toList []
      rw [ancS, h1, List.getD, List.getElem?_eq_none (by simp [h2]; exact hj)]; rfl
    rw [this] at hw; simp at hw

theorem dirs_low {ops : Array Oper} (h : ∀ j, j < ops.size → (ancS ops.toList).getD j 0 < 2 ^ j) {j : Nat} {o : Oper} (ho : ops[j]? = some o) {e : Nat} (he : e ∈ dirs o) : e < j := by
  apply anc_low h
  have hg := ancL_get ops.toList [] j o (by simpa using ho)
  simp only [List.length_nil, Nat.zero_add] at hg
  unfold waits ancS
  rw [List.getD, hg]
  simp only [Option.getD_some]
  have key : ∀ (acc : List Nat) (l : List Nat) (s : Nat), (s.testBit e = true ∨ e ∈ l) → (l.foldl (fun s e => s ||| 2 ^ e ||| acc.getD e 0) s).testBit e = true := by
    intro acc l
    induction l with
    | nil => intro s h; rcases h with h | h; exact h; simp at h
    | cons x l ih =>
      intro s h
      simp only [List.foldl_cons]
      apply ih
      rcases h with h | h
      · left; rw [Nat.testBit_or, Nat.testBit_or, h]; simp
      · rcases List.mem_cons.1 h with rfl | h
        · left; rw [Nat.testBit_or, Nat.testBit_or, Nat.testBit_two_pow_self]; simp
        · right; exact h
  exact key _ _ 0 (.inr he)

theorem planS_spec {E : Env} {chk : Bool} {ops : Array Oper} {its : List DItem} (h : planS E chk ops = some its) :
    its = itemsL E chk ops.toList 0 ops.toList ∧ (∀ j, j < ops.size → (ancS ops.toList).getD j 0 < 2 ^ j) ∧ ∀ i j, i < j → j < ops.size → waits ops.toList j i = false → ∃ oi oj, ops[i]? = some oi ∧ ops[j]? = some oj ∧ freeD E chk ops oi oj = true := by
  unfold planS at h
  split at h
  case isFalse => cases h
  rename_i hok
  simp only [Option.some.injEq] at h
  simp only [okD, List.all_eq_true, List.mem_range, Bool.and_eq_true, decide_eq_true_eq, Bool.or_eq_true] at hok
  refine ⟨h.symm, fun j hj => (hok j hj).1, fun i j hij hj hw => ?_⟩
  rcases (hok j hj).2 i hij with h | h
  · rw [hw] at h; cases h
  · unfold okPair at h
    split at h
    · rename_i x y hx hy; exact ⟨x, y, hx, hy, h⟩
    · cases h

theorem runI_sound {E : Env} {self : Self} (hself : Sound E self.call) (hcode : CodeSound E self.code) (hprim : PrimSound E) (fcall : FillCall self.call) (fcode : FillCode self.code) (fprim : PrimFill E)
    {ops : Array Oper} {r : DRun} (hroom : r.room = slotsN E ops.toList) {its : List DItem} (hits : planS E r.chk ops = some its) {cro : Option Nat} {n : Nat} {Q : Exit → Act → World → Prop} {s sN : St} (h : runI E self ops r its s = some sN)
    {a : Act} (hs : SR N A ι s.H w) (hg : GR E A ι s.H w) (ht : TR A ι s.H w s.tmps a.tmps) (hd : DR A ι s.H w s.ds a.defers)
    (hq : ∀ a' w' N' A' ι', Ext N A ι s.H w N' A' ι' sN.H w' → TR A' ι' sN.H w' sN.tmps a'.tmps → DR A' ι' sN.H w' sN.ds a'.defers → Q .normal a' w') :
    wpAnyIn (W cro) n E.P .any ops Q ops.size (Array.replicate ops.size false) a w := by
  obtain ⟨rfl, hlow, hpair⟩ := planS_spec hits
  rw [runI_runN ops.toList 0 s (fun m o hm => by simpa using hm)] at h
  simp only [Array.length_toList] at h
  refine any_sound hself hcode hprim fcall fcode fprim (r := r) ops.size _ s N A ι w a ?_ hs hg ht hd hq
  refine anyD_lex (fun j o ho e he => dirs_low hlow ho he) (fun i j hij hj hw => ?_) ops.size 0 _ s (by omega) (by simp) (fun m => ?_) h
  · obtain ⟨oi, oj, hi, hj', hf⟩ := hpair i j hij hj hw
    have hw2 : waits ops.toList i j = false := by
      cases hx : waits ops.toList i j with
      | false => rfl
      | true => have := anc_low hlow hx; omega
    refine comm_ok hroom hi hj' ?_ ?_ hf
    · simp only [unordered, hw, hw2, Bool.not_false, Bool.and_true, bne_iff_ne, ne_eq]; omega
    · simp only [unordered, hw, hw2, Bool.not_false, Bool.and_true, bne_iff_ne, ne_eq]; omega
  · rcases Nat.lt_or_ge m ops.size with hm | hm
    · simp [hm]
    · simp [hm]

theorem regionD_sound {E : Env} {self : Self} (hself : Sound E self.call) (hcode : CodeSound E self.code) (hprim : PrimSound E) (fcall : FillCall self.call) (fcode : FillCode self.code) (fprim : PrimFill E)
    {ops : Array Oper} {cro : Option Nat} {n : Nat} {Q : Exit → Act → World → Prop} {s s' : St} (h : regionD E self ops s = some s') {id : Nat}
    {a : Act} (hs : SR N A ι s.H w) (hg : GR E A ι s.H w) (ht : TR A ι s.H w s.tmps a.tmps) (hd : DR A ι s.H w s.ds a.defers)
    (hq : ∀ a' w' N' A' ι', Ext N A ι s.H w N' A' ι' s'.H w' → TR A' ι' s'.H w' s'.tmps a'.tmps → DR A' ι' s'.H w' s'.ds a'.defers → Q .normal a' w') : (Code.region id ops true).wpIn (W cro) n E.P Q a w := by
  unfold regionD at h
  split at h
  · cases h
  rename_i hm
  have hm : E.P.follows .mixedOrders = true := by simpa using hm
  refine wpIn_region_any hm ?_
  have e0 : Ext N A ι s.H w N A ι (padded E ops s).H { w with drawn := w.drawn + 1 } := by
    refine Ext.same hs rfl rfl rfl rfl (fun k blk hk hf => ?_) (fun k blk hk hf => ?_)
    · simp only [padded]
      rw [List.getElem?_append_left (List.getElem?_eq_some_iff.1 hk).1]; exact hk
    · simp only [padded] at hk
      rcases Nat.lt_or_ge k s.H.length with hl | hl
      · rw [List.getElem?_append_left hl] at hk; exact hk
      · rw [List.getElem?_append_right hl, List.getElem?_replicate] at hk
        split at hk
        · simp at hk; exact absurd hk.symm hf
        · cases hk
  have hs0 := e0.sr
  have hg0 := GR.keep hs hg e0
  have ht0 : TR A ι (padded E ops s).H { w with drawn := w.drawn + 1 } (padded E ops s).tmps a.tmps := ht.keep e0.keep
  have hd0 : DR A ι (padded E ops s).H { w with drawn := w.drawn + 1 } (padded E ops s).ds a.defers := hd.keep e0.keep
  have fin : ∀ s2 : St, s' = ⟨s2.tmps, trimH s.H.length s2.H, s2.ds⟩ → ∀ a' w' N' A' ι', Ext N A ι (padded E ops s).H { w with drawn := w.drawn + 1 } N' A' ι' s2.H w' → TR A' ι' s2.H w' s2.tmps a'.tmps → DR A' ι' s2.H w' s2.ds a'.defers → Q .normal a' w' := by
    rintro s2 rfl a' w' N' A' ι' e t d
    have e2 : Ext N' A' ι' s2.H w' N' A' ι' (trimH s.H.length s2.H) w' := Ext.same e.sr rfl rfl rfl rfl (fun k blk hk hf => (trimH_blk _ _ k blk).1 hk hf) (fun k blk hk hf => (trimH_blk _ _ k blk).2 hk)
    exact hq a' w' N' A' ι' ((e0.trans e).trans e2) (t.keep e2.keep) (d.keep e2.keep)
  simp only [Option.map_eq_some_iff] at h
  obtain ⟨s2, h2, hs'⟩ := h
  split at h2
  · simp only [Option.bind_eq_some_iff] at h2
    obtain ⟨its, hits, s1, h1, h2⟩ := h2
    exact runI_sound hself hcode hprim fcall fcode fprim (r := ⟨true, s.H.length, slotsN E ops.toList, ops.toList.map (sidOf s1.tmps)⟩) rfl hits h2 hs0 hg0 ht0 hd0 (fin s2 hs'.symm)
  · simp only [Option.bind_eq_some_iff] at h2
    obtain ⟨its, hits, h2⟩ := h2
    exact runI_sound hself hcode hprim fcall fcode fprim (r := ⟨false, s.H.length, slotsN E ops.toList, []⟩) rfl hits h2 hs0 hg0 ht0 hd0 (fin s2 hs'.symm)
end
end Go.Proofs.YtpmdlaojndejfaaGreatDoor.E
