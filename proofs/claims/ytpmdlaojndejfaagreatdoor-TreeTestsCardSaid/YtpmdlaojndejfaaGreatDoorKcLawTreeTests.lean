/- The tied card of TreeTests: the law returns true, and its arguments read as before, for every input. Conditions: the listed package variables read as the program's text lays them. -/
import Derived.Test.YtpmdlaojndejfaaGreatDoorKc8
import Derived.Test.YtpmdlaojndejfaaGreatDoorKc14
import Derived.WalkKit
import Derived.ProofKit
import Derived.OpenShut
import Derived.ChangeOld
import Derived.SizedLaws
import Derived.LaidMore
import Derived.Lay
import Derived.SevenTiedAt
import Derived.Stop.Joined
import Derived.Handed
namespace Go.Proofs.YtpmdlaojndejfaaGreatDoor.treeTests
open Go Go.ChangeShapes Go.WideShapes Go.ChangeAt Go.RowKit
set_option linter.unusedVariables false
theorem own : ownKnob Tryz.prog.godebug = none := by kernel_rfl
theorem shapes : Tryz.f10.params.toList.mapM (E.argS Tryz.prog 9) = some [.agg [.sl E.nodeC], .one (.int .i64), .one (.int .i64), .agg [.int .i64, .str]] := by kernel_rfl
theorem readable : (Tryz.f10.params.toList.all fun t => Tryz.prog.readableRec t && decide (t < Tryz.prog.types.size)) = true := by kernel_rfl
theorem known : (Tryz.f10.params.toList.all fun t => (E.csT Tryz.prog 9 t).isSome) = true := by kernel_rfl
theorem laidOut : laidOutB Tryz.prog = true := by kernel_rfl
set_option maxRecDepth 100000 in
theorem lifted (os : Os) (started : os.Started) (H : Type) (enc : TypeId × Value → H) :
    ReturnsInHanded {} Tryz.checked os 10 .any (fun w args => (Rows.treeTestsSpec.pre enc Tryz.prog Tryz.f10 Rows.treeTestsRow.domain false w args ∧ laidMetH Tryz.prog Rows.treeTestsRow.laid w) ∧ sizedMet enc Tryz.prog Tryz.f10 (OpenSpec.ofChange Rows.treeTestsSpec) false w args)
      (Rows.treeTestsSpec.post enc Tryz.prog Tryz.f10 false true false false) := by
  refine returnsInHanded_of_calls own started (by kernel_rfl)
    (ChangeSpec.witness_shaped (enc := enc) (C := Tryz.checked) (os := os) (X := fun w _ => laidMetH Tryz.prog Rows.treeTestsRow.laid w) false (World.laidAll Tryz.prog os Rows.treeTestsRow.laid) #[.agg #[.slice none 0 0], .int .i64 0, .int .i64 0, .agg #[.int .i64 0, .string ByteArray.empty]] 8 (World.laidAll_os _ _ _)
      (World.shaped_of_ZipB (by kernel_rfl) (by kernel_rfl)) (by kernel_rfl) (by kernel_rfl) (by kernel_rfl)
      (by rw [MakeChecks.laidMetH_plain _ _ _ (by kernel_rfl)]; exact laidMet_laidAll _ (by kernel_rfl) (by kernel_rfl))) ?_
  intro w tape i _ hsh _ hok hpre hholds
  obtain ⟨⟨⟨ds, gs, before, hw, hc⟩, hx⟩, ⟨_, ds', gs', before', hwz, hz⟩⟩ := hpre
  have hw' := DataW.Whole.of_heap (w' := w.forCall tape i) (by rfl) hw
  have hwz' := DataW.Whole.of_heap (w' := w.forCall tape i) (by rfl) hwz
  have hbeg : ∃ m, E.Begin m (w.forCall tape i) := by
    obtain ⟨m, hm⟩ := Tryz.laysM144.s1_3 _ hsh
    have hb : E.Begin m (w.forCall tape i).memory := E.begin_of hm hx
    exact ⟨m, hb⟩
  obtain ⟨m, hm⟩ := hbeg
  have hw2 := hw'
  obtain ⟨p, q, hA, hV, rfl, hfz, hnd⟩ := hw'
  obtain ⟨p', q', hA', hV', _, _, _⟩ := hwz'
  have hA : DataW.TrodAll enc Tryz.prog (w.forCall tape i) 0 (fun _ => true) true Tryz.f10.params.toList i.args.toList ds p := hA
  obtain ⟨rfl, rfl⟩ := trodVars_none hV
  obtain ⟨rfl, rfl⟩ := trodVars_none hV'
  have hwide : ∀ (j : Nat) (t : TypeId) (v : Value), Tryz.f10.params.toList[j]? = some t → i.args.toList[j]? = some v → v.formed Tryz.prog t = true := fun j t v ht hv => by
    have hv' : i.args[j]? = some v := by simpa using hv
    have ht' : Tryz.f10.params[j]? = some t := by simpa using ht
    obtain ⟨_, _, _, fn, hfn, _, _, _, _, hall⟩ := hok
    obtain rfl : fn = Tryz.f10 := (Option.some.inj (Tryz.func10.symm.trans hfn)).symm
    refine E.formed_of_wide (hall j t v ht' hv') (fun _ _ => trivial) ?_
    exact List.all_eq_true.1 known t (List.mem_of_getElem? ht)
  have hbig : ∀ x ∈ DataW.weightsEach Tryz.prog Tryz.f10.params.toList ds', x ≤ reachBytes := fun x hxm => by
    have hz1 : (DataW.weightsEach Tryz.prog (Tryz.f10.params.toList ++ []) (ds' ++ [])).all (· ≤ reachBytes) = true := hz
    rw [List.append_nil, List.append_nil] at hz1
    simpa using List.all_eq_true.1 hz1 x hxm
  obtain ⟨xs, h1, h2, h3⟩ := E.args_open (A := (· < (w.forCall tape i).heap.size)) (ι := fun _ => (⟨0, 0, 0⟩ : E.Lk)) (fun b hb => hb) shapes hwide hA' hbig
  refine (E.law_sound (E.lawTests_true m xs h1) hm ⟨by rw [h2]; simp, fun j x cv a b => h3 j x cv a (by simpa using b)⟩).mono fun e W' ⟨he, bel⟩ => ?_
  subst he
  have hk := E.args_keep laidOut bel readable hA
  obtain ⟨d0, d1, d2, d3, rfl⟩ : ∃ d0 d1 d2 d3, ds = [d0, d1, d2, d3] := by
    have e : Tryz.f10.params.toList.length = 4 := by kernel_rfl
    have this := (E.trod_len hA).trans e
    match ds, this with
    | [d0, d1, d2, d3], _ => exact ⟨d0, d1, d2, d3, rfl⟩
  exact ChangeSpec.post_blind ⟨_, _, _, _, _, [], hw2, trodAll_mk1 (shut_bool Tryz.underlying4 _), hk, rfl, bel.frame _, fun h => by cases h⟩
theorem over : Rows.treeTestsRow.holds Tryz.pinned (OpenSpec.ofChange Rows.treeTestsSpec) :=
  OpenClaim.holds_of_wide 10 Tryz.f10 rfl rfl rfl rfl rfl rfl rfl ⟨rfl, rfl, rfl, rfl, rfl⟩ rfl rfl rfl rfl rfl (by kernel_rfl) Tryz.func10 (by kernel_rfl)
    (of_decide_eq_true (by kernel_rfl)) (by unfold Func.isWrapper; first | (rw [if_pos (by decide +kernel)]; kernel_rfl) | (rw [if_neg (by decide +kernel)]; exact ⟨rfl, rfl⟩))
    (fun os started H enc _ => lifted os started H enc)
theorem plain (f : FuncId) (fn : Func) (hf : Tryz.pinned.checked.prog.funcNamed "chisel/chisellaw12.TreeTests" = some f) (hfn : Tryz.pinned.checked.prog.funcs[f]? = some fn) :
    false = Tryz.pinned.checked.prog.looks [] ∧ ∀ (j : Nat) t, fn.params[j]? = some t → Tryz.pinned.checked.prog.wantsStandIn t = false := by
  obtain rfl : f = 10 := Option.some.inj ((show Tryz.prog.funcNamed "chisel/chisellaw12.TreeTests" = some 10 by kernel_rfl).symm.trans hf) |>.symm
  obtain rfl : fn = Tryz.f10 := (Option.some.inj (Tryz.func10.symm.trans hfn)).symm
  refine ⟨by kernel_rfl, fun j t ht => ?_⟩
  have hall : (Tryz.f10.params.toList.all fun t => !Tryz.prog.wantsStandIn t) = true := by kernel_rfl
  have := List.all_eq_true.1 hall t (List.mem_of_getElem? (i := j) (by simpa using ht))
  have h2 : Tryz.prog.wantsStandIn t = false := by simpa using this
  exact h2
theorem card : Rows.TreeTestsCardSaid :=
  Claim7.holds_tied_plain_at .later [] _ _ _ _ over (fun _ h => by cases h) (by kernel_rfl) (fun _ h => by cases h) treeTests_row_tie rfl ⟨rfl, rfl⟩ (by kernel_rfl) rfl plain (by kernel_rfl)
end Go.Proofs.YtpmdlaojndejfaaGreatDoor.treeTests
namespace Go.Proofs.YtpmdlaojndejfaaGreatDoor
theorem treeTests_holds : Rows.TreeTestsCardSaid := treeTests.card
end Go.Proofs.YtpmdlaojndejfaaGreatDoor
#print axioms Go.Proofs.YtpmdlaojndejfaaGreatDoor.treeTests_holds
