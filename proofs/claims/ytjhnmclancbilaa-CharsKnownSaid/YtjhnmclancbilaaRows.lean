/-
  No cell of these rows narrows 'for every input' (looked for: loops, veiled, ifaces, maps, wideKeys, modest, calm, conditions, laid).
  DERIVED. THE GIVEN ROWS OF THIS SEAT. 10 by the template 'for every input the law returns true; each argument reads behind the call as it read before'; 0 by the template 'total and deterministic' (their statements: YtjhnmclancbilaaTotals.lean).
  GIVEN WITH THE SEED: the statements are not yours to turn. If you find one false, say at which input.
  Laid BY PROGRAM, IN A SANDBOX (cutbox-rows.mjs): the forced cells as the released guide's own fill.sh prints them over the translation 91caf89a71c2b430… (all of the seat's roots in one cut). By AI agents, Wed Nov 11 2026. No macro, syntax, notation, axiom, sorry.
-/
import Derived.Test.YtjhnmclancbilaaChecked
import GoSem.Claim
import GoSem.ClaimJoined
import GoSem.ClaimMapViews
import Derived.JoinedTies
import Derived.KernelRfl
namespace Go.Proofs.Ytjhnmclancbilaa
/- THE CELL 'sum', in the pinned program and in every row, IS THE sha256 OF THE DUMP (.gsa) THAT YtjhnmclancbilaaProg.lean LOADS. Nothing in Lean hashes anything: it is a label: what it is worth is what the hold of that sum in a sandbox is worth. -/
noncomputable def Try.pinned : Pinned := { name := "ytjhnmclancbilaa", sum := "91caf89a71c2b430bc631b9509be4edabeb029a68343555bb4dfdf5d950016b3", checked := Try.checked }
namespace Rows
def none {H : Type} : Left H := { results := [], args := [] }

/-- 'chisellaw01.CharsNorms': WHATEVER THE INPUT: true; the input reads as it did. -/
def charsNormsSpec : ChangeSpec := { name := "charsNorms", fn := fun _ => fun
  | [d] => { results := [.lit (.bool true)], args := [d] }
  | _ => none }
def charsNormsRow : OpenClaim := { program := "ytjhnmclancbilaa", sum := "91caf89a71c2b430bc631b9509be4edabeb029a68343555bb4dfdf5d950016b3", func := "chisel/chisellaw01.CharsNorms", spec := "charsNorms", inPlace := ["internal/abi.NoEscape", "internal/bytealg.IndexByteString", "internal/bytealg.IndexString", "internal/bytealg.MakeNoZero"], unfollowed := true, recurses := true, named := ["internal/bytealg.MaxLen"], apart := false }
def CharsNormsSaid : Prop := charsNormsRow.holds Try.pinned (OpenSpec.ofChange charsNormsSpec)

/-- ITS FALSE NEIGHBOUR: 'it returns false'. Refute it at one input. -/
def charsNormsWrong : ChangeSpec := { name := "charsNorms", fn := fun _ => fun
  | [d] => { results := [.lit (.bool false)], args := [d] }
  | _ => none }
def CharsNormsWrongFalsely : Prop := charsNormsRow.holds Try.pinned (OpenSpec.ofChange charsNormsWrong)

/-- 'chisellaw01.CharsPoints': WHATEVER THE INPUT: true; the input reads as it did. -/
def charsPointsSpec : ChangeSpec := { name := "charsPoints", fn := fun _ => fun
  | [d] => { results := [.lit (.bool true)], args := [d] }
  | _ => none }
def charsPointsRow : OpenClaim := { program := "ytjhnmclancbilaa", sum := "91caf89a71c2b430bc631b9509be4edabeb029a68343555bb4dfdf5d950016b3", func := "chisel/chisellaw01.CharsPoints", spec := "charsPoints", inPlace := ["internal/abi.NoEscape", "internal/bytealg.IndexByteString", "internal/bytealg.IndexString", "internal/bytealg.MakeNoZero"], unfollowed := true, recurses := true, named := ["internal/bytealg.MaxLen"], apart := false }
def CharsPointsSaid : Prop := charsPointsRow.holds Try.pinned (OpenSpec.ofChange charsPointsSpec)

/-- ITS FALSE NEIGHBOUR: 'it returns false'. Refute it at one input. -/
def charsPointsWrong : ChangeSpec := { name := "charsPoints", fn := fun _ => fun
  | [d] => { results := [.lit (.bool false)], args := [d] }
  | _ => none }
def CharsPointsWrongFalsely : Prop := charsPointsRow.holds Try.pinned (OpenSpec.ofChange charsPointsWrong)

/-- 'chisellaw01.CharsFrom': WHATEVER THE INPUT: true; the input reads as it did. -/
def charsFromSpec : ChangeSpec := { name := "charsFrom", fn := fun _ => fun
  | [d] => { results := [.lit (.bool true)], args := [d] }
  | _ => none }
def charsFromRow : OpenClaim := { program := "ytjhnmclancbilaa", sum := "91caf89a71c2b430bc631b9509be4edabeb029a68343555bb4dfdf5d950016b3", func := "chisel/chisellaw01.CharsFrom", spec := "charsFrom", inPlace := ["internal/abi.NoEscape", "internal/bytealg.IndexByteString", "internal/bytealg.IndexString", "internal/bytealg.MakeNoZero"], unfollowed := true, recurses := true, named := ["internal/bytealg.MaxLen"], apart := false }
def CharsFromSaid : Prop := charsFromRow.holds Try.pinned (OpenSpec.ofChange charsFromSpec)

/-- ITS FALSE NEIGHBOUR: 'it returns false'. Refute it at one input. -/
def charsFromWrong : ChangeSpec := { name := "charsFrom", fn := fun _ => fun
  | [d] => { results := [.lit (.bool false)], args := [d] }
  | _ => none }
def CharsFromWrongFalsely : Prop := charsFromRow.holds Try.pinned (OpenSpec.ofChange charsFromWrong)

/-- 'chisellaw01.CharsCuts': WHATEVER THE INPUT: true; the input reads as it did. -/
def charsCutsSpec : ChangeSpec := { name := "charsCuts", fn := fun _ => fun
  | [d1, d2, d3] => { results := [.lit (.bool true)], args := [d1, d2, d3] }
  | _ => none }
def charsCutsRow : OpenClaim := { program := "ytjhnmclancbilaa", sum := "91caf89a71c2b430bc631b9509be4edabeb029a68343555bb4dfdf5d950016b3", func := "chisel/chisellaw01.CharsCuts", spec := "charsCuts", inPlace := ["internal/abi.NoEscape", "internal/bytealg.IndexByteString", "internal/bytealg.IndexString", "internal/bytealg.MakeNoZero"], unfollowed := true, recurses := true, named := ["internal/bytealg.MaxLen"], apart := false }
def CharsCutsSaid : Prop := charsCutsRow.holds Try.pinned (OpenSpec.ofChange charsCutsSpec)

/-- ITS FALSE NEIGHBOUR: 'it returns false'. Refute it at one input. -/
def charsCutsWrong : ChangeSpec := { name := "charsCuts", fn := fun _ => fun
  | [d1, d2, d3] => { results := [.lit (.bool false)], args := [d1, d2, d3] }
  | _ => none }
def CharsCutsWrongFalsely : Prop := charsCutsRow.holds Try.pinned (OpenSpec.ofChange charsCutsWrong)

/-- 'chisellaw01.CharsOne': WHATEVER THE INPUT: true; the input reads as it did. -/
def charsOneSpec : ChangeSpec := { name := "charsOne", fn := fun _ => fun
  | [d] => { results := [.lit (.bool true)], args := [d] }
  | _ => none }
def charsOneRow : OpenClaim := { program := "ytjhnmclancbilaa", sum := "91caf89a71c2b430bc631b9509be4edabeb029a68343555bb4dfdf5d950016b3", func := "chisel/chisellaw01.CharsOne", spec := "charsOne", inPlace := ["internal/abi.NoEscape", "internal/bytealg.IndexByteString", "internal/bytealg.IndexString", "internal/bytealg.MakeNoZero"], unfollowed := true, recurses := true, named := ["internal/bytealg.MaxLen"], apart := false }
def CharsOneSaid : Prop := charsOneRow.holds Try.pinned (OpenSpec.ofChange charsOneSpec)

/-- ITS FALSE NEIGHBOUR: 'it returns false'. Refute it at one input. -/
def charsOneWrong : ChangeSpec := { name := "charsOne", fn := fun _ => fun
  | [d] => { results := [.lit (.bool false)], args := [d] }
  | _ => none }
def CharsOneWrongFalsely : Prop := charsOneRow.holds Try.pinned (OpenSpec.ofChange charsOneWrong)

/-- 'chisellaw01.CharsBack': WHATEVER THE INPUT: true; the input reads as it did. -/
def charsBackSpec : ChangeSpec := { name := "charsBack", fn := fun _ => fun
  | [d1, d2] => { results := [.lit (.bool true)], args := [d1, d2] }
  | _ => none }
def charsBackRow : OpenClaim := { program := "ytjhnmclancbilaa", sum := "91caf89a71c2b430bc631b9509be4edabeb029a68343555bb4dfdf5d950016b3", func := "chisel/chisellaw01.CharsBack", spec := "charsBack", inPlace := ["internal/abi.NoEscape", "internal/bytealg.IndexByteString", "internal/bytealg.IndexString", "internal/bytealg.MakeNoZero"], unfollowed := true, recurses := true, named := ["internal/bytealg.MaxLen"], apart := false }
def CharsBackSaid : Prop := charsBackRow.holds Try.pinned (OpenSpec.ofChange charsBackSpec)

/-- ITS FALSE NEIGHBOUR: 'it returns false'. Refute it at one input. -/
def charsBackWrong : ChangeSpec := { name := "charsBack", fn := fun _ => fun
  | [d1, d2] => { results := [.lit (.bool false)], args := [d1, d2] }
  | _ => none }
def CharsBackWrongFalsely : Prop := charsBackRow.holds Try.pinned (OpenSpec.ofChange charsBackWrong)

/-- 'chisellaw01.CharsParts': WHATEVER THE INPUT: true; the input reads as it did. -/
def charsPartsSpec : ChangeSpec := { name := "charsParts", fn := fun _ => fun
  | [d1, d2, d3] => { results := [.lit (.bool true)], args := [d1, d2, d3] }
  | _ => none }
def charsPartsRow : OpenClaim := { program := "ytjhnmclancbilaa", sum := "91caf89a71c2b430bc631b9509be4edabeb029a68343555bb4dfdf5d950016b3", func := "chisel/chisellaw01.CharsParts", spec := "charsParts", inPlace := ["internal/abi.NoEscape", "internal/bytealg.IndexByteString", "internal/bytealg.IndexString", "internal/bytealg.MakeNoZero"], unfollowed := true, recurses := true, named := ["internal/bytealg.MaxLen"], apart := false }
def CharsPartsSaid : Prop := charsPartsRow.holds Try.pinned (OpenSpec.ofChange charsPartsSpec)

/-- ITS FALSE NEIGHBOUR: 'it returns false'. Refute it at one input. -/
def charsPartsWrong : ChangeSpec := { name := "charsParts", fn := fun _ => fun
  | [d1, d2, d3] => { results := [.lit (.bool false)], args := [d1, d2, d3] }
  | _ => none }
def CharsPartsWrongFalsely : Prop := charsPartsRow.holds Try.pinned (OpenSpec.ofChange charsPartsWrong)

/-- 'chisellaw01.CharsTexts': WHATEVER THE INPUT: true; the input reads as it did. -/
def charsTextsSpec : ChangeSpec := { name := "charsTexts", fn := fun _ => fun
  | [d] => { results := [.lit (.bool true)], args := [d] }
  | _ => none }
def charsTextsRow : OpenClaim := { program := "ytjhnmclancbilaa", sum := "91caf89a71c2b430bc631b9509be4edabeb029a68343555bb4dfdf5d950016b3", func := "chisel/chisellaw01.CharsTexts", spec := "charsTexts", inPlace := ["internal/abi.NoEscape", "internal/bytealg.IndexByteString", "internal/bytealg.IndexString", "internal/bytealg.MakeNoZero"], unfollowed := true, recurses := true, named := ["internal/bytealg.MaxLen"], apart := false }
def CharsTextsSaid : Prop := charsTextsRow.holds Try.pinned (OpenSpec.ofChange charsTextsSpec)

/-- ITS FALSE NEIGHBOUR: 'it returns false'. Refute it at one input. -/
def charsTextsWrong : ChangeSpec := { name := "charsTexts", fn := fun _ => fun
  | [d] => { results := [.lit (.bool false)], args := [d] }
  | _ => none }
def CharsTextsWrongFalsely : Prop := charsTextsRow.holds Try.pinned (OpenSpec.ofChange charsTextsWrong)

/-- 'chisellaw01.CharsNames': WHATEVER THE INPUT: true; the input reads as it did. -/
def charsNamesSpec : ChangeSpec := { name := "charsNames", fn := fun _ => fun
  | [d1, d2] => { results := [.lit (.bool true)], args := [d1, d2] }
  | _ => none }
def charsNamesRow : OpenClaim := { program := "ytjhnmclancbilaa", sum := "91caf89a71c2b430bc631b9509be4edabeb029a68343555bb4dfdf5d950016b3", func := "chisel/chisellaw01.CharsNames", spec := "charsNames", inPlace := ["internal/abi.NoEscape", "internal/bytealg.IndexByteString", "internal/bytealg.IndexString", "internal/bytealg.MakeNoZero", "internal/bytealg.CountString"], unfollowed := true, recurses := true, named := ["internal/bytealg.MaxLen"], apart := false }
def CharsNamesSaid : Prop := charsNamesRow.holds Try.pinned (OpenSpec.ofChange charsNamesSpec)

/-- ITS FALSE NEIGHBOUR: 'it returns false'. Refute it at one input. -/
def charsNamesWrong : ChangeSpec := { name := "charsNames", fn := fun _ => fun
  | [d1, d2] => { results := [.lit (.bool false)], args := [d1, d2] }
  | _ => none }
def CharsNamesWrongFalsely : Prop := charsNamesRow.holds Try.pinned (OpenSpec.ofChange charsNamesWrong)

/-- 'chisellaw01.CharsKnown': WHATEVER THE INPUT: true; the input reads as it did. -/
def charsKnownSpec : ChangeSpec := { name := "charsKnown", fn := fun _ => fun
  | [] => { results := [.lit (.bool true)], args := [] }
  | _ => none }
def charsKnownRow : OpenClaim := { program := "ytjhnmclancbilaa", sum := "91caf89a71c2b430bc631b9509be4edabeb029a68343555bb4dfdf5d950016b3", func := "chisel/chisellaw01.CharsKnown", spec := "charsKnown", inPlace := ["internal/bytealg.IndexByteString", "internal/bytealg.IndexString", "internal/abi.NoEscape", "internal/bytealg.MakeNoZero"], unfollowed := true, recurses := true, named := ["internal/bytealg.MaxLen"], apart := false }
def CharsKnownSaid : Prop := charsKnownRow.holds Try.pinned (OpenSpec.ofChange charsKnownSpec)

/-- ITS FALSE NEIGHBOUR: 'it returns false'. Refute it at one input. -/
def charsKnownWrong : ChangeSpec := { name := "charsKnown", fn := fun _ => fun
  | [] => { results := [.lit (.bool false)], args := [] }
  | _ => none }
def CharsKnownWrongFalsely : Prop := charsKnownRow.holds Try.pinned (OpenSpec.ofChange charsKnownWrong)

/- THE SECOND FORM. 'bulk': how many values and letters a reading holds, each counted each time it is reached (what is shared counts as often as it is met; a slice's spare places count too). A statement '..UptoSaid' is the law's where the arguments, and the package variables that the reading takes, are together of bulk at most 1048576: NARROWER than '..Said'. Prove '..Said' where nothing that the law and all that it calls make is longer than what came in: it says more and counts as full. Else prove '..UptoSaid'. A law counts once. -/
mutual
def uptoBulk {H : Type} : DataW H → Nat
  | .lit (.string bytes) => bytes.length + 1
  | .lit _ => 1
  | .nil => 1
  | .ptr d => uptoBulk d + 1
  | .slice elems spare => uptoBulkAll elems + uptoBulkAll spare + 1
  | .agg parts => uptoBulkAll parts + 1
  | .iface _ d => uptoBulk d + 1
  | .map entries => uptoBulkEntries entries + 1
  | .held _ => 1
def uptoBulkAll {H : Type} : List (DataW H) → Nat
  | [] => 0
  | d :: r => uptoBulk d + uptoBulkAll r
def uptoBulkEntries {H : Type} : List (Lit × DataW H) → Nat
  | [] => 0
  | x :: r => uptoBulkEntry x + uptoBulkEntries r
def uptoBulkEntry {H : Type} : Lit × DataW H → Nat
  | (.string bytes, d) => bytes.length + uptoBulk d + 1
  | (_, d) => uptoBulk d + 1
 end
def uptoSmall : (H : Type) → List (DataW H) → Bool := fun _ ds => decide (uptoBulkAll ds ≤ 1048576)
def OpenSpec.upto (s : _root_.Go.ChangeSpec) : _root_.Go.OpenSpec := { _root_.Go.OpenSpec.ofChange s with cond := some uptoSmall }

/-- 'chisellaw01.CharsNorms', WHERE WHAT IT READS IS OF BULK AT MOST 1048576: true; the input reads as it did. -/
def charsNormsUptoRow : OpenClaim := { program := "ytjhnmclancbilaa", sum := "91caf89a71c2b430bc631b9509be4edabeb029a68343555bb4dfdf5d950016b3", func := "chisel/chisellaw01.CharsNorms", spec := "charsNorms", inPlace := ["internal/abi.NoEscape", "internal/bytealg.IndexByteString", "internal/bytealg.IndexString", "internal/bytealg.MakeNoZero"], unfollowed := true, recurses := true, named := ["internal/bytealg.MaxLen"], apart := false, narrowed := true }
def CharsNormsUptoSaid : Prop := charsNormsUptoRow.holds Try.pinned (OpenSpec.upto charsNormsSpec)

/-- 'chisellaw01.CharsPoints', WHERE WHAT IT READS IS OF BULK AT MOST 1048576: true; the input reads as it did. -/
def charsPointsUptoRow : OpenClaim := { program := "ytjhnmclancbilaa", sum := "91caf89a71c2b430bc631b9509be4edabeb029a68343555bb4dfdf5d950016b3", func := "chisel/chisellaw01.CharsPoints", spec := "charsPoints", inPlace := ["internal/abi.NoEscape", "internal/bytealg.IndexByteString", "internal/bytealg.IndexString", "internal/bytealg.MakeNoZero"], unfollowed := true, recurses := true, named := ["internal/bytealg.MaxLen"], apart := false, narrowed := true }
def CharsPointsUptoSaid : Prop := charsPointsUptoRow.holds Try.pinned (OpenSpec.upto charsPointsSpec)

/-- 'chisellaw01.CharsFrom', WHERE WHAT IT READS IS OF BULK AT MOST 1048576: true; the input reads as it did. -/
def charsFromUptoRow : OpenClaim := { program := "ytjhnmclancbilaa", sum := "91caf89a71c2b430bc631b9509be4edabeb029a68343555bb4dfdf5d950016b3", func := "chisel/chisellaw01.CharsFrom", spec := "charsFrom", inPlace := ["internal/abi.NoEscape", "internal/bytealg.IndexByteString", "internal/bytealg.IndexString", "internal/bytealg.MakeNoZero"], unfollowed := true, recurses := true, named := ["internal/bytealg.MaxLen"], apart := false, narrowed := true }
def CharsFromUptoSaid : Prop := charsFromUptoRow.holds Try.pinned (OpenSpec.upto charsFromSpec)

/-- 'chisellaw01.CharsCuts', WHERE WHAT IT READS IS OF BULK AT MOST 1048576: true; the input reads as it did. -/
def charsCutsUptoRow : OpenClaim := { program := "ytjhnmclancbilaa", sum := "91caf89a71c2b430bc631b9509be4edabeb029a68343555bb4dfdf5d950016b3", func := "chisel/chisellaw01.CharsCuts", spec := "charsCuts", inPlace := ["internal/abi.NoEscape", "internal/bytealg.IndexByteString", "internal/bytealg.IndexString", "internal/bytealg.MakeNoZero"], unfollowed := true, recurses := true, named := ["internal/bytealg.MaxLen"], apart := false, narrowed := true }
def CharsCutsUptoSaid : Prop := charsCutsUptoRow.holds Try.pinned (OpenSpec.upto charsCutsSpec)

/-- 'chisellaw01.CharsOne', WHERE WHAT IT READS IS OF BULK AT MOST 1048576: true; the input reads as it did. -/
def charsOneUptoRow : OpenClaim := { program := "ytjhnmclancbilaa", sum := "91caf89a71c2b430bc631b9509be4edabeb029a68343555bb4dfdf5d950016b3", func := "chisel/chisellaw01.CharsOne", spec := "charsOne", inPlace := ["internal/abi.NoEscape", "internal/bytealg.IndexByteString", "internal/bytealg.IndexString", "internal/bytealg.MakeNoZero"], unfollowed := true, recurses := true, named := ["internal/bytealg.MaxLen"], apart := false, narrowed := true }
def CharsOneUptoSaid : Prop := charsOneUptoRow.holds Try.pinned (OpenSpec.upto charsOneSpec)

/-- 'chisellaw01.CharsBack', WHERE WHAT IT READS IS OF BULK AT MOST 1048576: true; the input reads as it did. -/
def charsBackUptoRow : OpenClaim := { program := "ytjhnmclancbilaa", sum := "91caf89a71c2b430bc631b9509be4edabeb029a68343555bb4dfdf5d950016b3", func := "chisel/chisellaw01.CharsBack", spec := "charsBack", inPlace := ["internal/abi.NoEscape", "internal/bytealg.IndexByteString", "internal/bytealg.IndexString", "internal/bytealg.MakeNoZero"], unfollowed := true, recurses := true, named := ["internal/bytealg.MaxLen"], apart := false, narrowed := true }
def CharsBackUptoSaid : Prop := charsBackUptoRow.holds Try.pinned (OpenSpec.upto charsBackSpec)

/-- 'chisellaw01.CharsParts', WHERE WHAT IT READS IS OF BULK AT MOST 1048576: true; the input reads as it did. -/
def charsPartsUptoRow : OpenClaim := { program := "ytjhnmclancbilaa", sum := "91caf89a71c2b430bc631b9509be4edabeb029a68343555bb4dfdf5d950016b3", func := "chisel/chisellaw01.CharsParts", spec := "charsParts", inPlace := ["internal/abi.NoEscape", "internal/bytealg.IndexByteString", "internal/bytealg.IndexString", "internal/bytealg.MakeNoZero"], unfollowed := true, recurses := true, named := ["internal/bytealg.MaxLen"], apart := false, narrowed := true }
def CharsPartsUptoSaid : Prop := charsPartsUptoRow.holds Try.pinned (OpenSpec.upto charsPartsSpec)

/-- 'chisellaw01.CharsTexts', WHERE WHAT IT READS IS OF BULK AT MOST 1048576: true; the input reads as it did. -/
def charsTextsUptoRow : OpenClaim := { program := "ytjhnmclancbilaa", sum := "91caf89a71c2b430bc631b9509be4edabeb029a68343555bb4dfdf5d950016b3", func := "chisel/chisellaw01.CharsTexts", spec := "charsTexts", inPlace := ["internal/abi.NoEscape", "internal/bytealg.IndexByteString", "internal/bytealg.IndexString", "internal/bytealg.MakeNoZero"], unfollowed := true, recurses := true, named := ["internal/bytealg.MaxLen"], apart := false, narrowed := true }
def CharsTextsUptoSaid : Prop := charsTextsUptoRow.holds Try.pinned (OpenSpec.upto charsTextsSpec)

/-- 'chisellaw01.CharsNames', WHERE WHAT IT READS IS OF BULK AT MOST 1048576: true; the input reads as it did. -/
def charsNamesUptoRow : OpenClaim := { program := "ytjhnmclancbilaa", sum := "91caf89a71c2b430bc631b9509be4edabeb029a68343555bb4dfdf5d950016b3", func := "chisel/chisellaw01.CharsNames", spec := "charsNames", inPlace := ["internal/abi.NoEscape", "internal/bytealg.IndexByteString", "internal/bytealg.IndexString", "internal/bytealg.MakeNoZero", "internal/bytealg.CountString"], unfollowed := true, recurses := true, named := ["internal/bytealg.MaxLen"], apart := false, narrowed := true }
def CharsNamesUptoSaid : Prop := charsNamesUptoRow.holds Try.pinned (OpenSpec.upto charsNamesSpec)

/-- 'chisellaw01.CharsKnown', WHERE WHAT IT READS IS OF BULK AT MOST 1048576: true; the input reads as it did. -/
def charsKnownUptoRow : OpenClaim := { program := "ytjhnmclancbilaa", sum := "91caf89a71c2b430bc631b9509be4edabeb029a68343555bb4dfdf5d950016b3", func := "chisel/chisellaw01.CharsKnown", spec := "charsKnown", inPlace := ["internal/bytealg.IndexByteString", "internal/bytealg.IndexString", "internal/abi.NoEscape", "internal/bytealg.MakeNoZero"], unfollowed := true, recurses := true, named := ["internal/bytealg.MaxLen"], apart := false, narrowed := true }
def CharsKnownUptoSaid : Prop := charsKnownUptoRow.holds Try.pinned (OpenSpec.upto charsKnownSpec)

end Rows
end Go.Proofs.Ytjhnmclancbilaa
