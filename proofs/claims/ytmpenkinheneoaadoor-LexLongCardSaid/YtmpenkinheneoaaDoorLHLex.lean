/- Texts of the claim: HLex. -/
import Derived.Test.YtmpenkinheneoaaDoorLHPure
import Derived.Test.YtmpenkinheneoaaDoorLHWords
namespace Go.Proofs.YtmpenkinheneoaaDoor.HLex
open Go Go.RowKit Go.Proofs.YtmpenkinheneoaaDoorW.PrintWords
def either {α : Type} : Option α → (α → Prop) → Prop → Prop
  | some x, f, _ => f x
  | none, _, p => p
def outcome {α : Type} : Except Int α → (α → Prop) → (Int → Prop) → Prop
  | .ok x, f, _ => f x
  | .error q, _, p => p q
def outcome2 {α : Type} : Except (Int × Int) α → (α → Prop) → (Int → Int → Prop) → Prop
  | .ok x, f, _ => f x
  | .error q, _, p => p q.1 q.2
def hasAt (s : ByteArray) (pos : Nat) (x : List UInt8) : Bool := x.isPrefixOf (s.data.toList.drop pos)
def comm (s : ByteArray) : Nat → Nat → Int → Option Nat
  | 0, _, _ => none
  | f + 1, pos, d => if pos < s.size then (if hasAt s pos [40, 58] = true then comm s f (pos + 2) (d + 1) else if hasAt s pos [58, 41] = true then (if d = 1 then some (pos + 2) else comm s f (pos + 2) (d - 1)) else comm s f (pos + 1) d) else none
def byteAt (s : ByteArray) (p : Int) : UInt8 := (bt s p).toNat.toUInt8
theorem byteAt_num (s : ByteArray) (p : Int) : ((byteAt s p).toNat : Int) = bt s p := by
  have := bt_range s p
  unfold byteAt
  simp
  omega
theorem byteAt_cells (s : ByteArray) (p : Int) (acc : List UInt8) : Lib.byteCells acc ++ [Value.int .u8 (bt s p)] = Lib.byteCells (acc ++ [byteAt s p]) := by
  rw [Lib.byteCells_append]
  simp [Lib.byteCells, byteAt_num]
theorem builder_put {T e : TypeId} {B b : Nat} {bs : List Value} {w : World} (h : Lib.IsBuilderF T e B b bs w) {a : Addr} (ha : a.block < B) (u : Value) : Lib.IsBuilderF T e B b bs (w.setCell a u) := by
  have one : ∀ {p : Value}, Lib.BuilderAtF T e B b p bs w → Lib.BuilderAtF T e B b p bs (w.setCell a u) := by
    intro p h
    obtain ⟨hB, v, hb, hown, hne⟩ := h
    refine ⟨hB, v, (Below.heap_setCell w a u b (by omega)).trans hb, ⟨hown.1, ?_⟩, hne⟩
    rcases hown.2 with hn | ⟨g, cap, cur, fz, hv, hbg, hg, rest⟩
    · exact .inl hn
    · exact .inr ⟨g, cap, cur, fz, hv, hbg, (Below.heap_setCell w a u g (by omega)).trans hg, rest⟩
  exact h.elim (fun x => .inl (one x)) (fun x => .inr (one x))
theorem builder_drewN {T e : TypeId} {B b : Nat} {bs : List Value} {w : World} (h : Lib.IsBuilderF T e B b bs w) (n : Nat) : Lib.IsBuilderF T e B b bs (w.drewN n) := h
theorem builder_drew {T e : TypeId} {B b : Nat} {bs : List Value} {w : World} (h : Lib.IsBuilderF T e B b bs w) : Lib.IsBuilderF T e B b bs w.drew := h
theorem keep_more {w w1 w2 : World} {g : Nat} (h : KeepBut w w1 g none) (hb : Below w.heap.size w1 w2) : KeepBut w w2 g none :=
  ⟨Nat.le_trans h.1 hb.size, fun i hi hg hn => (hb.block i hi).trans (h.2 i hi hg hn)⟩
theorem below_more {w0 w w1 w2 : World} (h : Below w0.heap.size w0 w1) (hw : w0.heap.size ≤ w.heap.size) (hb : Below w.heap.size w1 w2) : Below w0.heap.size w0 w2 := h.trans (hb.mono hw)
theorem at_world {P : Program} {c : Code} {Q : Exit → Act → World → Prop} {a : Act} {w : World} (h : ∀ wq, wq = w → c.wp P Q a wq) : c.wp P Q a w := h w rfl
theorem blk_keep {w w1 : World} {g b : Nat} {o : Obj} (h : w.heap[b]? = some o) (hk : KeepBut w w1 g none) (hne : b ≠ g) : w1.heap[b]? = some o :=
  (hk.2 b (Array.getElem?_eq_some_iff.1 h).1 hne (by simp)).trans h
theorem keep_size {w w1 : World} {g : Nat} (h : KeepBut w w1 g none) : w.heap.size ≤ w1.heap.size := h.1
theorem encode_size (r : Int) : (Utf8.encode r).size ≤ 4 := by
  unfold Utf8.encode
  simp only
  repeat' split
  all_goals first | (show 1 ≤ 4; omega) | (show 2 ≤ 4; omega) | (show 3 ≤ 4; omega) | (show 4 ≤ 4; omega)
end Go.Proofs.YtmpenkinheneoaaDoor.HLex
