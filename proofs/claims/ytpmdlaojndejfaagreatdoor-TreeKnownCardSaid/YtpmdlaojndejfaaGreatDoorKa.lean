/- The chapter's tree is valid: reckoned by the kernel, and kept. -/
import Derived.Test.YtpmdlaojndejfaaGreatDoorFc
import Derived.Test.YtpmdlaojndejfaaGreatDoorFm
import Derived.ProofKit
namespace Go.Proofs.YtpmdlaojndejfaaGreatDoor.E
open Go Go.RowKit
set_option maxRecDepth 1000000
def ndV (k : Int) (a b : List UInt8) (u : Int) : List V := [.lit (.int .i64 k), .lit (.string ⟨a.toArray⟩), .lit (.string ⟨b.toArray⟩), .lit (.int .i64 u)]
def chapterV : V := .agg [.arr [ndV 0 [] [] (-1), ndV 1 [97] [] 0, ndV 2 [120] [49] 1, ndV 3 [] [98] 1, ndV 1 [99] [] 1, ndV 3 [] [100] 1]]
def tab0 : Tab := fun _ _ => none
theorem check_chapter (m : Int) : ansV ((runM tab0 (env m) 60).call 23 [chapterV] []) (.lit (.int .i64 0)) = true := by kernel_rfl
def tab1 : Tab := Tab.add tab0 23 [chapterV] (.lit (.int .i64 0))
theorem tab1_sound (m : Int) : TabSound (env m) tab1 := TabSound.add (env_sound m) (env_fill m) (TabSound.none _) (check_chapter m)
/-- What the evaluator answers on an empty memory, with kept answers, the program answers. -/
theorem callM_sound {m : Int} {tab : Tab} (ht : TabSound (env m) tab) {k : Nat} {f : FuncId} {args : List V} {v : V} {H' : Heap} (h : (runM tab (env m) k).call f args [] = some (v, H')) {cargs : Array Value} {w : World} (hm : w.cell? ⟨0, 0, none⟩ = some (.int .i64 m))
    (hc : TR (· < w.heap.size) (fun _ => ⟨0, 0, 0⟩) [] w args cargs) :
    Calls Tryz.prog f cargs w fun e w' => ∃ cv A' ι', e = .returned cv ∧ Below w.heap.size w w' ∧ VR A' ι' H' w' v cv := by
  obtain ⟨hs, hg⟩ := start_sr hm
  refine ((runM_sound (env_sound m) (env_fill m) ht k).1 f args [] v H' h _ _ _ w cargs hs hg hc).mono ?_
  rintro e w' ⟨cv, N', A', ι', he, hx, hv⟩
  exact ⟨cv, A', ι', he, ⟨hx.os, hx.tape, hx.output, hx.size, fun k hk => (hx.nn k hk).2⟩, hv⟩
/-- A law that the evaluator answers with true. -/
theorem ansM_sound {m : Int} {tab : Tab} (ht : TabSound (env m) tab) {k : Nat} {f : FuncId} {args : List V} (h : ansV ((runM tab (env m) k).call f args []) (.lit (.bool true)) = true) {cargs : Array Value} {w : World} (hm : w.cell? ⟨0, 0, none⟩ = some (.int .i64 m))
    (hc : TR (· < w.heap.size) (fun _ => ⟨0, 0, 0⟩) [] w args cargs) :
    Calls Tryz.prog f cargs w fun e w' => e = .returned (.bool true) ∧ Below w.heap.size w w' := by
  cases hr : (runM tab (env m) k).call f args [] with
  | none => rw [hr] at h; cases h
  | some r =>
    obtain ⟨v, H'⟩ := r
    rw [hr] at h
    simp only [ansV, Bool.and_eq_true] at h
    have hv := eqV_eq _ _ h.1
    subst hv
    refine (callM_sound ht hr hm hc).mono ?_
    rintro e w' ⟨cv, A', ι', rfl, hb, hv⟩
    exact ⟨by rw [lit_VR hv], hb⟩
end Go.Proofs.YtpmdlaojndejfaaGreatDoor.E
