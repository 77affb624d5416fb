/- Texts of the claim: HShelf. -/
import Derived.Shelf.Strings.Builder1
import Derived.Shelf.Strings.Builder2
import Derived.Shelf.Strings.Trim
import Derived.Shelf.Small.Utf8
import Derived.Shelf.Small.Strs
import Derived.Shelf.Strings.BuilderF
import Derived.Shelf.Strings.BuilderK
import Derived.Shelf.Strings.Search1
import Derived.Shelf.Strings.Search2
import Derived.Shelf.Strings.Search3
import Derived.Shelf.Strings.Cut
import Derived.Shelf.LaysM
import Derived.Shelf.Strings.Shaped
import Derived.Shelf.GgClosure.StringsIndexFunc
import Derived.Ground.GgwProg
import Derived.Shelf.GgClosure.StringsIndexFuncTop
import Derived.Shelf.GgClosure.StringsRunes
import Derived.Shelf.Strings.Prefix
import Derived.Shelf.Strings.Runes
import Derived.Shelf.Strings.AsciiSet
import Derived.Shelf.Bits.Mul64
import Derived.Shelf.Strings.Repeat
import Derived.Shelf.Unicode.DecodeSlow
import Derived.Shelf.Unicode.DecodeAny
import Derived.Shelf.Unicode.DecodeLast
import Derived.Shelf.Strings.FuncGrows
import Derived.Test.YtldhiaiaildnlaaDoorProg
namespace Go.Proofs
open Go.Shelf
def Tryd.zde : Go.Shelf.Ren := ⟨fun | 162 => 87 | 232 => 101 | 227 => 102 | 234 => 103 | 236 => 104 | 228 => 110 | 271 => 111 | 151 => 112 | 120 => 119 | 197 => 120 | 152 => 121 | 260 => 124 | 137 => 125 | 119 => 126 | 224 => 115 | 225 => 114 | 217 => 113 | 266 => 122 | n => n, fun | 9 => 9 | 4 => 4 | 3 => 3 | 5 => 5 | 117 => 111 | 116 => 110 | 0 => 0 | 124 => 114 | 21 => 21 | 105 => 121 | 46 => 93 | 119 => 131 | 139 => 134 | 138 => 133 | n => n, fun | 3 => 1 | 4 => 2 | n => n⟩
theorem Tryd.lays162 : Go.Proofs.Lays.n162 Tryd.prog Tryd.zde := {
 mixed := by kernel_rfl
 f119 := Tryd.func126.trans (congrArg some (by kernel_rfl))
 f120 := Tryd.func119.trans (congrArg some (by kernel_rfl))
 f137 := Tryd.func125.trans (congrArg some (by kernel_rfl))
 f151 := Tryd.func112.trans (congrArg some (by kernel_rfl))
 f152 := Tryd.func121.trans (congrArg some (by kernel_rfl))
 f162 := Tryd.func87.trans (congrArg some (by kernel_rfl))
 f197 := Tryd.func120.trans (congrArg some (by kernel_rfl))
 f217 := Tryd.func113.trans (congrArg some (by kernel_rfl))
 f224 := Tryd.func115.trans (congrArg some (by kernel_rfl))
 f225 := Tryd.func114.trans (congrArg some (by kernel_rfl))
 f227 := Tryd.func102.trans (congrArg some (by kernel_rfl))
 f228 := Tryd.func110.trans (congrArg some (by kernel_rfl))
 f232 := Tryd.func101.trans (congrArg some (by kernel_rfl))
 f234 := Tryd.func103.trans (congrArg some (by kernel_rfl))
 f236 := Tryd.func104.trans (congrArg some (by kernel_rfl))
 f260 := Tryd.func124.trans (congrArg some (by kernel_rfl))
 f266 := Tryd.func122.trans (congrArg some (by kernel_rfl))
 f271 := Tryd.func111.trans (congrArg some (by kernel_rfl))
 t0 := Tryd.underlying0
 a0 := Tryd.isAgg0
 z0 := Tryd.sizeOf0
 v0 := Tryd.zeroValue0
 t3 := Tryd.underlying3
 a3 := Tryd.isAgg3
 z3 := Tryd.sizeOf3
 v3 := Tryd.zeroValue3
 t4 := Tryd.underlying4
 a4 := Tryd.isAgg4
 z4 := Tryd.sizeOf4
 v4 := Tryd.zeroValue4
 t5 := Tryd.underlying5
 a5 := Tryd.isAgg5
 z5 := Tryd.sizeOf5
 v5 := Tryd.zeroValue5
 t9 := Tryd.underlying9
 a9 := Tryd.isAgg9
 z9 := Tryd.sizeOf9
 v9 := Tryd.zeroValue9
 t21 := Tryd.underlying21
 a21 := Tryd.isAgg21
 z21 := Tryd.sizeOf21
 v21 := Tryd.zeroValue21
 t46 := Tryd.underlying93
 a46 := Tryd.isAgg93
 z46 := Tryd.sizeOf93
 v46 := Tryd.zeroValue93
 t105 := Tryd.underlying121
 a105 := Tryd.isAgg121
 z105 := Tryd.sizeOf121
 v105 := Tryd.zeroValue121
 t116 := Tryd.underlying110
 a116 := Tryd.isAgg110
 z116 := Tryd.sizeOf110
 t117 := Tryd.underlying111
 a117 := Tryd.isAgg111
 z117 := Tryd.sizeOf111
 v117 := Tryd.zeroValue111
 t119 := Tryd.underlying131
 a119 := Tryd.isAgg131
 z119 := Tryd.sizeOf131
 t124 := Tryd.underlying114
 a124 := Tryd.isAgg114
 z124 := Tryd.sizeOf114
 v124 := Tryd.zeroValue114
 t138 := Tryd.underlying133
 a138 := Tryd.isAgg133
 z138 := Tryd.sizeOf133
 v138 := Tryd.zeroValue133
 t139 := Tryd.underlying134
 a139 := Tryd.isAgg134
 z139 := Tryd.sizeOf134
 v139 := Tryd.zeroValue134
 g3 := by kernel_rfl
 g4 := by kernel_rfl }
open Go.RowKit in
theorem Tryd.strings_TrimRight_one (s : ByteArray) (c : UInt8) (hc : c.toNat < 128) (w : World) (hs : s.size ≤ 9223372036854775807) :
  Calls Tryd.prog 87 #[.string s, .string ⟨#[c]⟩] w fun e w' => e = .returned (.string ⟨(Lib.trimRightB s.data.toList c).toArray⟩) ∧ w' = w := Any.strings_TrimRight_one Tryd.lays162 s c hc w hs
def Tryd.zdd : Go.Shelf.Ren := ⟨fun | 219 => 105 | 217 => 113 | 225 => 114 | 224 => 115 | 267 => 116 | 266 => 122 | 314 => 123 | n => n, fun | 9 => 9 | 3 => 3 | 4 => 4 | 5 => 5 | 46 => 93 | 146 => 116 | 51 => 115 | n => n, fun | 1 => 0 | n => n⟩
theorem Tryd.lays219 : Go.Proofs.Lays.n219 Tryd.prog Tryd.zdd := {
 mixed := by kernel_rfl
 f217 := Tryd.func113.trans (congrArg some (by kernel_rfl))
 f219 := Tryd.func105.trans (congrArg some (by kernel_rfl))
 f224 := Tryd.func115.trans (congrArg some (by kernel_rfl))
 f225 := Tryd.func114.trans (congrArg some (by kernel_rfl))
 f266 := Tryd.func122.trans (congrArg some (by kernel_rfl))
 f267 := Tryd.func116.trans (congrArg some (by kernel_rfl))
 f314 := Tryd.func123.trans (congrArg some (by kernel_rfl))
 t3 := Tryd.underlying3
 a3 := Tryd.isAgg3
 z3 := Tryd.sizeOf3
 v3 := Tryd.zeroValue3
 t4 := Tryd.underlying4
 a4 := Tryd.isAgg4
 z4 := Tryd.sizeOf4
 v4 := Tryd.zeroValue4
 t5 := Tryd.underlying5
 a5 := Tryd.isAgg5
 z5 := Tryd.sizeOf5
 v5 := Tryd.zeroValue5
 t9 := Tryd.underlying9
 a9 := Tryd.isAgg9
 z9 := Tryd.sizeOf9
 v9 := Tryd.zeroValue9
 t46 := Tryd.underlying93
 a46 := Tryd.isAgg93
 z46 := Tryd.sizeOf93
 v46 := Tryd.zeroValue93
 t51 := Tryd.underlying115
 a51 := Tryd.isAgg115
 z51 := Tryd.sizeOf115
 v51 := Tryd.zeroValue115
 t146 := Tryd.underlying116
 a146 := Tryd.isAgg116
 z146 := Tryd.sizeOf116
 v146 := Tryd.zeroValue116
 g1 := by kernel_rfl }
open Go.RowKit Go.Lib in
theorem Tryd.stringslite_Index_one (s : ByteArray) (c : UInt8) (w : World) :
  Calls Tryd.prog 105 #[.string s, .string ⟨#[c]⟩] w fun e w' => e = .returned (.int .i64 (Lib.indexByte s.data.toList c)) ∧ w' = w := Any.stringslite_Index_one Tryd.lays219 s c w
def Tryd.zcU : Go.Shelf.Ren := ⟨fun | 15 => 84 | 20 => 99 | n => n, fun | 9 => 9 | 23 => 89 | 3 => 3 | 4 => 4 | 0 => 0 | 21 => 21 | n => n, fun | n => n⟩
theorem Tryd.laysGw15 : Go.Proofs.LaysGw.n15 Tryd.prog Tryd.zcU := {
 mixed := by kernel_rfl
 f15 := Tryd.func84.trans (congrArg some (by kernel_rfl))
 f20 := Tryd.func99.trans (congrArg some (by kernel_rfl))
 t0 := Tryd.underlying0
 a0 := Tryd.isAgg0
 z0 := Tryd.sizeOf0
 v0 := Tryd.zeroValue0
 i0 := by kernel_rfl
 t3 := Tryd.underlying3
 a3 := Tryd.isAgg3
 z3 := Tryd.sizeOf3
 v3 := Tryd.zeroValue3
 i3 := by kernel_rfl
 t4 := Tryd.underlying4
 a4 := Tryd.isAgg4
 z4 := Tryd.sizeOf4
 v4 := Tryd.zeroValue4
 i4 := by kernel_rfl
 t9 := Tryd.underlying9
 a9 := Tryd.isAgg9
 z9 := Tryd.sizeOf9
 v9 := Tryd.zeroValue9
 i9 := by kernel_rfl
 t21 := Tryd.underlying21
 a21 := Tryd.isAgg21
 z21 := Tryd.sizeOf21
 v21 := Tryd.zeroValue21
 i21 := by kernel_rfl
 t23 := Tryd.underlying89
 a23 := Tryd.isAgg89
 z23 := Tryd.sizeOf89
 v23 := Tryd.zeroValue89
 i23 := by kernel_rfl }
open Go.RowKit Go.Lib in
theorem Tryd.strings_IndexFunc_runes (g : Nat) (lb : Array Value) (eg : ∀ args w, (callFunc g args).run Tryd.prog w = .ok (.enter g args) w) (p : Nat → Bool) (s : ByteArray) (w : World) (hp : PredAtRunes Tryd.prog g lb p w) :
  Calls Tryd.prog 84 #[.string s, .func (.func g) #[] lb] w fun e w' => e = .returned (.int .i64 (Lib.idxFunc p true s)) ∧ Below w.heap.size w w' := Any.strings_IndexFunc_runes Tryd.laysGw15 g lb eg p s w hp
def Tryd.zbN : Go.Shelf.Ren := ⟨fun | 105 => 73 | 212 => 91 | 99 => 65 | 165 => 92 | 166 => 93 | 170 => 94 | 169 => 95 | 263 => 106 | 264 => 107 | 206 => 90 | 240 => 108 | 241 => 109 | 276 => 117 | 277 => 118 | n => n, fun | 9 => 9 | 3 => 3 | 4 => 4 | 20 => 20 | 0 => 0 | 46 => 93 | 109 => 94 | 5 => 5 | 72 => 98 | 76 => 102 | 51 => 115 | 146 => 116 | 53 => 81 | 148 => 118 | 70 => 96 | 37 => 91 | 75 => 101 | 127 => 120 | 164 => 126 | 80 => 73 | n => n, fun | n => n⟩
theorem Tryd.lays105 : Go.Proofs.Lays.n105 Tryd.prog Tryd.zbN := {
 mixed := by kernel_rfl
 f99 := Tryd.func65.trans (congrArg some (by kernel_rfl))
 f105 := Tryd.func73.trans (congrArg some (by kernel_rfl))
 f165 := Tryd.func92.trans (congrArg some (by kernel_rfl))
 f166 := Tryd.func93.trans (congrArg some (by kernel_rfl))
 f169 := Tryd.func95.trans (congrArg some (by kernel_rfl))
 f170 := Tryd.func94.trans (congrArg some (by kernel_rfl))
 f206 := Tryd.func90.trans (congrArg some (by kernel_rfl))
 f212 := Tryd.func91.trans (congrArg some (by kernel_rfl))
 f240 := Tryd.func108.trans (congrArg some (by kernel_rfl))
 f241 := Tryd.func109.trans (congrArg some (by kernel_rfl))
 f263 := Tryd.func106.trans (congrArg some (by kernel_rfl))
 f264 := Tryd.func107.trans (congrArg some (by kernel_rfl))
 f276 := Tryd.func117.trans (congrArg some (by kernel_rfl))
 f277 := Tryd.func118.trans (congrArg some (by kernel_rfl))
 t0 := Tryd.underlying0
 a0 := Tryd.isAgg0
 z0 := Tryd.sizeOf0
 v0 := Tryd.zeroValue0
 t3 := Tryd.underlying3
 a3 := Tryd.isAgg3
 z3 := Tryd.sizeOf3
 v3 := Tryd.zeroValue3
 t4 := Tryd.underlying4
 a4 := Tryd.isAgg4
 z4 := Tryd.sizeOf4
 v4 := Tryd.zeroValue4
 t5 := Tryd.underlying5
 a5 := Tryd.isAgg5
 z5 := Tryd.sizeOf5
 v5 := Tryd.zeroValue5
 t9 := Tryd.underlying9
 a9 := Tryd.isAgg9
 z9 := Tryd.sizeOf9
 v9 := Tryd.zeroValue9
 t20 := Tryd.underlying20
 a20 := Tryd.isAgg20
 z20 := Tryd.sizeOf20
 v20 := Tryd.zeroValue20
 t37 := Tryd.underlying91
 a37 := Tryd.isAgg91
 z37 := Tryd.sizeOf91
 v37 := Tryd.zeroValue91
 t46 := Tryd.underlying93
 a46 := Tryd.isAgg93
 z46 := Tryd.sizeOf93
 v46 := Tryd.zeroValue93
 t51 := Tryd.underlying115
 a51 := Tryd.isAgg115
 z51 := Tryd.sizeOf115
 v51 := Tryd.zeroValue115
 t53 := Tryd.underlying81
 a53 := Tryd.isAgg81
 z53 := Tryd.sizeOf81
 v53 := Tryd.zeroValue81
 t70 := Tryd.underlying96
 a70 := Tryd.isAgg96
 z70 := Tryd.sizeOf96
 v70 := Tryd.zeroValue96
 t72 := Tryd.underlying98
 a72 := Tryd.isAgg98
 z72 := Tryd.sizeOf98
 v72 := Tryd.zeroValue98
 t75 := Tryd.underlying101
 a75 := Tryd.isAgg101
 z75 := Tryd.sizeOf101
 v75 := Tryd.zeroValue101
 t76 := Tryd.underlying102
 a76 := Tryd.isAgg102
 z76 := Tryd.sizeOf102
 v76 := Tryd.zeroValue102
 t109 := Tryd.underlying94
 a109 := Tryd.isAgg94
 z109 := Tryd.sizeOf94
 v109 := Tryd.zeroValue94
 t127 := Tryd.underlying120
 a127 := Tryd.isAgg120
 z127 := Tryd.sizeOf120
 v127 := Tryd.zeroValue120
 t146 := Tryd.underlying116
 a146 := Tryd.isAgg116
 z146 := Tryd.sizeOf116
 v146 := Tryd.zeroValue116
 t148 := Tryd.underlying118
 a148 := Tryd.isAgg118
 z148 := Tryd.sizeOf118
 v148 := Tryd.zeroValue118
 t164 := Tryd.underlying126
 a164 := Tryd.isAgg126
 z164 := Tryd.sizeOf126
 v164 := Tryd.zeroValue126 }
theorem Tryd.zbz : Builder.Extra Tryd.prog Tryd.zbN := {
 sizeBuilder := by kernel_rfl
 liesBuilder := by kernel_rfl
 t5 := Tryd.underlying5
 a5 := Tryd.isAgg5
 z5 := Tryd.sizeOf5
 v5 := Tryd.zeroValue5
 infoByte := by kernel_rfl
 cellsByte := by kernel_rfl
 sizeByte := by kernel_rfl
 neB5 := by decide }
open Go.RowKit Go.Lib in
theorem Tryd.strings_Repeat (s : ByteArray) (c : Nat) (w : World) (hc : c ≤ 9223372036854775807) (hlen : s.size * c ≤ 140737488355328) :
  Calls Tryd.prog 73 #[.string s, .int .i64 c] w fun e w' => e = .returned (.string ⟨(Lib.repeatL s.data.toList c).toArray⟩) ∧ Below w.heap.size w w' := Any.strings_Repeat Tryd.lays105 Tryd.zbz s c w hc hlen
end Go.Proofs
