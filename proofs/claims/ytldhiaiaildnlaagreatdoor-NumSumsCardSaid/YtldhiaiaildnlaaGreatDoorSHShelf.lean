/- Texts of the claim: HShelf. -/
import Derived.Shelf.Strings.Builder1
import Derived.Shelf.Strings.Builder2
import Derived.Shelf.Strings.Trim
import Derived.Shelf.Small.Utf8
import Derived.Shelf.Small.Strs
import Derived.Shelf.Strings.BuilderF
import Derived.Shelf.Strings.BuilderK
import Derived.Shelf.Strings.Builder2Cap
import Derived.Shelf.Strings.Search1
import Derived.Shelf.Strings.Search2
import Derived.Shelf.Strings.Cut
import Derived.Shelf.LaysM
import Derived.Shelf.Strings.Shaped
import Derived.Shelf.GgClosure.StringsIndexFunc
import Derived.Ground.GgwProg
import Derived.Shelf.GgClosure.StringsIndexFuncTop
import Derived.Shelf.GgClosure.StringsRunes
import Derived.Shelf.Strings.Prefix
import Derived.Shelf.Strings.Runes
import Derived.Shelf.Strings.AsciiSet
import Derived.Shelf.Bits.Mul64
import Derived.Shelf.Strings.Repeat
import Derived.Shelf.Unicode.DecodeSlow
import Derived.Shelf.Unicode.DecodeAny
import Derived.Shelf.Unicode.DecodeLast
import Derived.Shelf.Strings.FuncGrows
import Derived.Shelf.Strings.BuilderCap
import Derived.Test.YtldhiaiaildnlaaGreatDoorProg
namespace Go.Proofs
open Go.Shelf
def Tryz.zdg : Go.Shelf.Ren := ⟨fun | 162 => 64 | 232 => 78 | 227 => 79 | 234 => 80 | 236 => 81 | 228 => 90 | 271 => 91 | 151 => 92 | 120 => 99 | 197 => 100 | 152 => 101 | 260 => 104 | 137 => 105 | 119 => 106 | 224 => 97 | 225 => 96 | 217 => 95 | 266 => 102 | n => n, fun | 9 => 9 | 4 => 4 | 3 => 3 | 5 => 5 | 117 => 96 | 116 => 95 | 0 => 0 | 124 => 99 | 21 => 21 | 105 => 109 | 46 => 79 | 119 => 119 | 139 => 122 | 138 => 121 | n => n, fun | 3 => 1 | 4 => 2 | n => n⟩
theorem Tryz.lays162 : Go.Proofs.Lays.n162 Tryz.prog Tryz.zdg := {
 mixed := by kernel_rfl
 f119 := Tryz.func106.trans (congrArg some (by kernel_rfl))
 f120 := Tryz.func99.trans (congrArg some (by kernel_rfl))
 f137 := Tryz.func105.trans (congrArg some (by kernel_rfl))
 f151 := Tryz.func92.trans (congrArg some (by kernel_rfl))
 f152 := Tryz.func101.trans (congrArg some (by kernel_rfl))
 f162 := Tryz.func64.trans (congrArg some (by kernel_rfl))
 f197 := Tryz.func100.trans (congrArg some (by kernel_rfl))
 f217 := Tryz.func95.trans (congrArg some (by kernel_rfl))
 f224 := Tryz.func97.trans (congrArg some (by kernel_rfl))
 f225 := Tryz.func96.trans (congrArg some (by kernel_rfl))
 f227 := Tryz.func79.trans (congrArg some (by kernel_rfl))
 f228 := Tryz.func90.trans (congrArg some (by kernel_rfl))
 f232 := Tryz.func78.trans (congrArg some (by kernel_rfl))
 f234 := Tryz.func80.trans (congrArg some (by kernel_rfl))
 f236 := Tryz.func81.trans (congrArg some (by kernel_rfl))
 f260 := Tryz.func104.trans (congrArg some (by kernel_rfl))
 f266 := Tryz.func102.trans (congrArg some (by kernel_rfl))
 f271 := Tryz.func91.trans (congrArg some (by kernel_rfl))
 t0 := Tryz.underlying0
 a0 := Tryz.isAgg0
 z0 := Tryz.sizeOf0
 v0 := Tryz.zeroValue0
 t3 := Tryz.underlying3
 a3 := Tryz.isAgg3
 z3 := Tryz.sizeOf3
 v3 := Tryz.zeroValue3
 t4 := Tryz.underlying4
 a4 := Tryz.isAgg4
 z4 := Tryz.sizeOf4
 v4 := Tryz.zeroValue4
 t5 := Tryz.underlying5
 a5 := Tryz.isAgg5
 z5 := Tryz.sizeOf5
 v5 := Tryz.zeroValue5
 t9 := Tryz.underlying9
 a9 := Tryz.isAgg9
 z9 := Tryz.sizeOf9
 v9 := Tryz.zeroValue9
 t21 := Tryz.underlying21
 a21 := Tryz.isAgg21
 z21 := Tryz.sizeOf21
 v21 := Tryz.zeroValue21
 t46 := Tryz.underlying79
 a46 := Tryz.isAgg79
 z46 := Tryz.sizeOf79
 v46 := Tryz.zeroValue79
 t105 := Tryz.underlying109
 a105 := Tryz.isAgg109
 z105 := Tryz.sizeOf109
 v105 := Tryz.zeroValue109
 t116 := Tryz.underlying95
 a116 := Tryz.isAgg95
 z116 := Tryz.sizeOf95
 t117 := Tryz.underlying96
 a117 := Tryz.isAgg96
 z117 := Tryz.sizeOf96
 v117 := Tryz.zeroValue96
 t119 := Tryz.underlying119
 a119 := Tryz.isAgg119
 z119 := Tryz.sizeOf119
 t124 := Tryz.underlying99
 a124 := Tryz.isAgg99
 z124 := Tryz.sizeOf99
 v124 := Tryz.zeroValue99
 t138 := Tryz.underlying121
 a138 := Tryz.isAgg121
 z138 := Tryz.sizeOf121
 v138 := Tryz.zeroValue121
 t139 := Tryz.underlying122
 a139 := Tryz.isAgg122
 z139 := Tryz.sizeOf122
 v139 := Tryz.zeroValue122
 g3 := by kernel_rfl
 g4 := by kernel_rfl }
open Go.RowKit in
theorem Tryz.strings_TrimRight_one (s : ByteArray) (c : UInt8) (hc : c.toNat < 128) (w : World) (hs : s.size ≤ 9223372036854775807) :
  Calls Tryz.prog 64 #[.string s, .string ⟨#[c]⟩] w fun e w' => e = .returned (.string ⟨(Lib.trimRightB s.data.toList c).toArray⟩) ∧ w' = w := Any.strings_TrimRight_one Tryz.lays162 s c hc w hs
def Tryz.zdf : Go.Shelf.Ren := ⟨fun | 219 => 89 | 217 => 95 | 225 => 96 | 224 => 97 | 267 => 98 | 266 => 102 | 314 => 103 | n => n, fun | 9 => 9 | 3 => 3 | 4 => 4 | 5 => 5 | 46 => 79 | 146 => 103 | 51 => 102 | n => n, fun | 1 => 0 | n => n⟩
theorem Tryz.lays219 : Go.Proofs.Lays.n219 Tryz.prog Tryz.zdf := {
 mixed := by kernel_rfl
 f217 := Tryz.func95.trans (congrArg some (by kernel_rfl))
 f219 := Tryz.func89.trans (congrArg some (by kernel_rfl))
 f224 := Tryz.func97.trans (congrArg some (by kernel_rfl))
 f225 := Tryz.func96.trans (congrArg some (by kernel_rfl))
 f266 := Tryz.func102.trans (congrArg some (by kernel_rfl))
 f267 := Tryz.func98.trans (congrArg some (by kernel_rfl))
 f314 := Tryz.func103.trans (congrArg some (by kernel_rfl))
 t3 := Tryz.underlying3
 a3 := Tryz.isAgg3
 z3 := Tryz.sizeOf3
 v3 := Tryz.zeroValue3
 t4 := Tryz.underlying4
 a4 := Tryz.isAgg4
 z4 := Tryz.sizeOf4
 v4 := Tryz.zeroValue4
 t5 := Tryz.underlying5
 a5 := Tryz.isAgg5
 z5 := Tryz.sizeOf5
 v5 := Tryz.zeroValue5
 t9 := Tryz.underlying9
 a9 := Tryz.isAgg9
 z9 := Tryz.sizeOf9
 v9 := Tryz.zeroValue9
 t46 := Tryz.underlying79
 a46 := Tryz.isAgg79
 z46 := Tryz.sizeOf79
 v46 := Tryz.zeroValue79
 t51 := Tryz.underlying102
 a51 := Tryz.isAgg102
 z51 := Tryz.sizeOf102
 v51 := Tryz.zeroValue102
 t146 := Tryz.underlying103
 a146 := Tryz.isAgg103
 z146 := Tryz.sizeOf103
 v146 := Tryz.zeroValue103
 g1 := by kernel_rfl }
open Go.RowKit Go.Lib in
theorem Tryz.stringslite_Index_one (s : ByteArray) (c : UInt8) (w : World) :
  Calls Tryz.prog 89 #[.string s, .string ⟨#[c]⟩] w fun e w' => e = .returned (.int .i64 (Lib.indexByte s.data.toList c)) ∧ w' = w := Any.stringslite_Index_one Tryz.lays219 s c w
def Tryz.zcX : Go.Shelf.Ren := ⟨fun | 15 => 61 | 20 => 76 | n => n, fun | 9 => 9 | 23 => 73 | 3 => 3 | 4 => 4 | 0 => 0 | 21 => 21 | n => n, fun | n => n⟩
theorem Tryz.laysGw15 : Go.Proofs.LaysGw.n15 Tryz.prog Tryz.zcX := {
 mixed := by kernel_rfl
 f15 := Tryz.func61.trans (congrArg some (by kernel_rfl))
 f20 := Tryz.func76.trans (congrArg some (by kernel_rfl))
 t0 := Tryz.underlying0
 a0 := Tryz.isAgg0
 z0 := Tryz.sizeOf0
 v0 := Tryz.zeroValue0
 i0 := by kernel_rfl
 t3 := Tryz.underlying3
 a3 := Tryz.isAgg3
 z3 := Tryz.sizeOf3
 v3 := Tryz.zeroValue3
 i3 := by kernel_rfl
 t4 := Tryz.underlying4
 a4 := Tryz.isAgg4
 z4 := Tryz.sizeOf4
 v4 := Tryz.zeroValue4
 i4 := by kernel_rfl
 t9 := Tryz.underlying9
 a9 := Tryz.isAgg9
 z9 := Tryz.sizeOf9
 v9 := Tryz.zeroValue9
 i9 := by kernel_rfl
 t21 := Tryz.underlying21
 a21 := Tryz.isAgg21
 z21 := Tryz.sizeOf21
 v21 := Tryz.zeroValue21
 i21 := by kernel_rfl
 t23 := Tryz.underlying73
 a23 := Tryz.isAgg73
 z23 := Tryz.sizeOf73
 v23 := Tryz.zeroValue73
 i23 := by kernel_rfl }
open Go.RowKit Go.Lib in
theorem Tryz.strings_IndexFunc_runes (g : Nat) (lb : Array Value) (eg : ∀ args w, (callFunc g args).run Tryz.prog w = .ok (.enter g args) w) (p : Nat → Bool) (s : ByteArray) (w : World) (hp : PredAtRunes Tryz.prog g lb p w) :
  Calls Tryz.prog 61 #[.string s, .func (.func g) #[] lb] w fun e w' => e = .returned (.int .i64 (Lib.idxFunc p true s)) ∧ Below w.heap.size w w' := Any.strings_IndexFunc_runes Tryz.laysGw15 g lb eg p s w hp
def Tryz.zbQ : Go.Shelf.Ren := ⟨fun | 105 => 49 | 212 => 68 | 99 => 69 | 165 => 70 | 166 => 71 | 170 => 72 | 169 => 73 | 263 => 84 | 264 => 85 | 206 => 86 | 240 => 87 | 241 => 88 | 276 => 93 | 277 => 94 | n => n, fun | 9 => 9 | 3 => 3 | 4 => 4 | 20 => 20 | 0 => 0 | 46 => 79 | 109 => 80 | 5 => 5 | 72 => 84 | 76 => 88 | 51 => 102 | 146 => 103 | 53 => 61 | 148 => 105 | 70 => 82 | 37 => 78 | 75 => 87 | 127 => 107 | 164 => 112 | 80 => 53 | n => n, fun | n => n⟩
theorem Tryz.lays105 : Go.Proofs.Lays.n105 Tryz.prog Tryz.zbQ := {
 mixed := by kernel_rfl
 f99 := Tryz.func69.trans (congrArg some (by kernel_rfl))
 f105 := Tryz.func49.trans (congrArg some (by kernel_rfl))
 f165 := Tryz.func70.trans (congrArg some (by kernel_rfl))
 f166 := Tryz.func71.trans (congrArg some (by kernel_rfl))
 f169 := Tryz.func73.trans (congrArg some (by kernel_rfl))
 f170 := Tryz.func72.trans (congrArg some (by kernel_rfl))
 f206 := Tryz.func86.trans (congrArg some (by kernel_rfl))
 f212 := Tryz.func68.trans (congrArg some (by kernel_rfl))
 f240 := Tryz.func87.trans (congrArg some (by kernel_rfl))
 f241 := Tryz.func88.trans (congrArg some (by kernel_rfl))
 f263 := Tryz.func84.trans (congrArg some (by kernel_rfl))
 f264 := Tryz.func85.trans (congrArg some (by kernel_rfl))
 f276 := Tryz.func93.trans (congrArg some (by kernel_rfl))
 f277 := Tryz.func94.trans (congrArg some (by kernel_rfl))
 t0 := Tryz.underlying0
 a0 := Tryz.isAgg0
 z0 := Tryz.sizeOf0
 v0 := Tryz.zeroValue0
 t3 := Tryz.underlying3
 a3 := Tryz.isAgg3
 z3 := Tryz.sizeOf3
 v3 := Tryz.zeroValue3
 t4 := Tryz.underlying4
 a4 := Tryz.isAgg4
 z4 := Tryz.sizeOf4
 v4 := Tryz.zeroValue4
 t5 := Tryz.underlying5
 a5 := Tryz.isAgg5
 z5 := Tryz.sizeOf5
 v5 := Tryz.zeroValue5
 t9 := Tryz.underlying9
 a9 := Tryz.isAgg9
 z9 := Tryz.sizeOf9
 v9 := Tryz.zeroValue9
 t20 := Tryz.underlying20
 a20 := Tryz.isAgg20
 z20 := Tryz.sizeOf20
 v20 := Tryz.zeroValue20
 t37 := Tryz.underlying78
 a37 := Tryz.isAgg78
 z37 := Tryz.sizeOf78
 v37 := Tryz.zeroValue78
 t46 := Tryz.underlying79
 a46 := Tryz.isAgg79
 z46 := Tryz.sizeOf79
 v46 := Tryz.zeroValue79
 t51 := Tryz.underlying102
 a51 := Tryz.isAgg102
 z51 := Tryz.sizeOf102
 v51 := Tryz.zeroValue102
 t53 := Tryz.underlying61
 a53 := Tryz.isAgg61
 z53 := Tryz.sizeOf61
 v53 := Tryz.zeroValue61
 t70 := Tryz.underlying82
 a70 := Tryz.isAgg82
 z70 := Tryz.sizeOf82
 v70 := Tryz.zeroValue82
 t72 := Tryz.underlying84
 a72 := Tryz.isAgg84
 z72 := Tryz.sizeOf84
 v72 := Tryz.zeroValue84
 t75 := Tryz.underlying87
 a75 := Tryz.isAgg87
 z75 := Tryz.sizeOf87
 v75 := Tryz.zeroValue87
 t76 := Tryz.underlying88
 a76 := Tryz.isAgg88
 z76 := Tryz.sizeOf88
 v76 := Tryz.zeroValue88
 t109 := Tryz.underlying80
 a109 := Tryz.isAgg80
 z109 := Tryz.sizeOf80
 v109 := Tryz.zeroValue80
 t127 := Tryz.underlying107
 a127 := Tryz.isAgg107
 z127 := Tryz.sizeOf107
 v127 := Tryz.zeroValue107
 t146 := Tryz.underlying103
 a146 := Tryz.isAgg103
 z146 := Tryz.sizeOf103
 v146 := Tryz.zeroValue103
 t148 := Tryz.underlying105
 a148 := Tryz.isAgg105
 z148 := Tryz.sizeOf105
 v148 := Tryz.zeroValue105
 t164 := Tryz.underlying112
 a164 := Tryz.isAgg112
 z164 := Tryz.sizeOf112
 v164 := Tryz.zeroValue112 }
theorem Tryz.zbF : Builder.Extra Tryz.prog Tryz.zbQ := {
 sizeBuilder := by kernel_rfl
 liesBuilder := by kernel_rfl
 t5 := Tryz.underlying5
 a5 := Tryz.isAgg5
 z5 := Tryz.sizeOf5
 v5 := Tryz.zeroValue5
 infoByte := by kernel_rfl
 cellsByte := by kernel_rfl
 sizeByte := by kernel_rfl
 neB5 := by decide }
open Go.RowKit Go.Lib in
theorem Tryz.strings_Repeat (s : ByteArray) (c : Nat) (w : World) (hc : c ≤ 9223372036854775807) (hlen : s.size * c ≤ 140737488355328) :
  Calls Tryz.prog 49 #[.string s, .int .i64 c] w fun e w' => e = .returned (.string ⟨(Lib.repeatL s.data.toList c).toArray⟩) ∧ Below w.heap.size w w' := Any.strings_Repeat Tryz.lays105 Tryz.zbF s c w hc hlen
end Go.Proofs
