/- ; What the library's functions on strings answer, as contracts; Numbers of decimal digits, both sides; Lines of a text, and banks read of them: our side; Banks read of a text: the reference; Digits and lines that are read again, in plain Lean; strings.Split as a contract; lines of several words, in plain Lean; Numbers in bounds, by the reference of chapter 2; Numbers of the reference; the texts of marks, both sides; The laws of marks' texts. -/
import Derived.Shelf.Strings.Builder1
import Derived.Shelf.Strings.Builder2
import Derived.Shelf.Small.Strs
import Derived.Shelf.Strings.BuilderF
import Derived.Shelf.Utf8.RuneCount
import Derived.Shelf.Strconv.Itoa0
import Derived.Shelf.Strconv.Itoa1
import Derived.Shelf.LaysM
import Derived.Shelf.Strconv.Itoa2
import Derived.Shelf.Strconv.Itoa3
import Derived.Shelf.Strings.Search1
import Derived.Shelf.Strings.Search2
import Derived.Shelf.Strings.Search3
import Derived.Shelf.Strings.Cut
import Derived.Shelf.Strings.Count
import Derived.Shelf.Strings.Shaped
import Derived.Shelf.Strings.Prefix
import Derived.Shelf.Strings.Split
import Derived.Shelf.Strings.SplitShaped
import Derived.Shelf.Unicode.Decode
import Derived.Shelf.Strings.RuneCount
import Derived.Shelf.Strings.Explode
import Derived.Shelf.Unicode.DecodeSlow
import Derived.Shelf.Unicode.DecodeAny
import Derived.Ground.Names2Prog
import Derived.Shelf.Slices.SearchI
import Derived.Test.YtaegjihmpgdfcaaDoorProg
import Derived.Test.YtaegjihmpgdfcaaDoorA3
import Derived.Lib.ItoaMem
import Derived.Lib.AppendIntMem
import Derived.Shelf.Strings.SlTrimAscii
import Derived.Lib.AtoiErr
import Derived.Lib.SplitLaws
section
namespace Go.Proofs
open Go.Shelf
def Tryd.lays137_ren : Go.Shelf.Ren := ⟨fun | 137 => 40 | 217 => 73 | 266 => 93 | n => n, fun | 9 => 9 | 5 => 5 | 3 => 3 | n => n, fun | n => n⟩
theorem Tryd.lays137 : Go.Proofs.Lays.n137 Tryd.prog Tryd.lays137_ren := {
  mixed := by kernel_rfl
  f137 := Tryd.func40.trans (congrArg some (by kernel_rfl))
  f217 := Tryd.func73.trans (congrArg some (by kernel_rfl))
  f266 := Tryd.func93.trans (congrArg some (by kernel_rfl))
  t3 := Tryd.underlying3
  a3 := Tryd.isAgg3
  z3 := Tryd.sizeOf3
  v3 := Tryd.zeroValue3
  t5 := Tryd.underlying5
  a5 := Tryd.isAgg5
  z5 := Tryd.sizeOf5
  v5 := Tryd.zeroValue5
  t9 := Tryd.underlying9
  a9 := Tryd.isAgg9
  z9 := Tryd.sizeOf9
  v9 := Tryd.zeroValue9 }
open Go.RowKit in
/-- strings.IndexByte: "IndexByte returns the index of the first instance of c in s, or -1 if c is not present in s.": IT RETURNS 'Lib.indexByte s c'; the world is as it was. (LAID: no walk: one application.) -/
theorem Tryd.strings_IndexByte (s : ByteArray) (c : Int) (w : World) :
    Calls Tryd.prog 40 #[.string s, .int .u8 c] w fun e w' => e = .returned (.int .i64 (Lib.indexByte s.data.toList c.toNat.toUInt8)) ∧ w' = w := Any.strings_IndexByte Tryd.lays137 s c w
def Tryd.laysM171_ren : Go.Shelf.Ren := ⟨fun | 171 => 27 | 243 => 57 | 246 => 85 | 283 => 100 | 284 => 101 | 285 => 102 | 286 => 103 | 129 => 111 | 317 => 110 | 318 => 112 | 319 => 113 | 320 => 114 | 337 => 117 | 338 => 118 | n => n, fun | 3 => 3 | 9 => 9 | 2 => 2 | 4 => 4 | 171 => 127 | 0 => 0 | 53 => 128 | 37 => 92 | 5 => 5 | 173 => 131 | 212 => 139 | 51 => 140 | 20 => 20 | 213 => 141 | 46 => 134 | 232 => 150 | 233 => 151 | n => n, fun | 17 => 1 | 18 => 4 | 19 => 5 | n => n⟩
theorem Tryd.laysM171 : Go.Proofs.LaysM.n171 Tryd.prog Tryd.laysM171_ren := {
  mixed := by kernel_rfl
  f129 := Tryd.func111.trans (congrArg some (by kernel_rfl))
  f171 := Tryd.func27.trans (congrArg some (by kernel_rfl))
  f243 := Tryd.func57.trans (congrArg some (by kernel_rfl))
  f246 := Tryd.func85.trans (congrArg some (by kernel_rfl))
  f283 := Tryd.func100.trans (congrArg some (by kernel_rfl))
  f284 := Tryd.func101.trans (congrArg some (by kernel_rfl))
  f285 := Tryd.func102.trans (congrArg some (by kernel_rfl))
  f286 := Tryd.func103.trans (congrArg some (by kernel_rfl))
  f317 := Tryd.func110.trans (congrArg some (by kernel_rfl))
  f318 := Tryd.func112.trans (congrArg some (by kernel_rfl))
  f319 := Tryd.func113.trans (congrArg some (by kernel_rfl))
  f320 := Tryd.func114.trans (congrArg some (by kernel_rfl))
  f337 := Tryd.func117.trans (congrArg some (by kernel_rfl))
  f338 := Tryd.func118.trans (congrArg some (by kernel_rfl))
  t0 := Tryd.underlying0
  a0 := Tryd.isAgg0
  z0 := Tryd.sizeOf0
  v0 := Tryd.zeroValue0
  t2 := Tryd.underlying2
  a2 := Tryd.isAgg2
  z2 := Tryd.sizeOf2
  v2 := Tryd.zeroValue2
  t3 := Tryd.underlying3
  a3 := Tryd.isAgg3
  z3 := Tryd.sizeOf3
  v3 := Tryd.zeroValue3
  t4 := Tryd.underlying4
  a4 := Tryd.isAgg4
  z4 := Tryd.sizeOf4
  v4 := Tryd.zeroValue4
  t5 := Tryd.underlying5
  a5 := Tryd.isAgg5
  z5 := Tryd.sizeOf5
  v5 := Tryd.zeroValue5
  t9 := Tryd.underlying9
  a9 := Tryd.isAgg9
  z9 := Tryd.sizeOf9
  v9 := Tryd.zeroValue9
  t20 := Tryd.underlying20
  a20 := Tryd.isAgg20
  z20 := Tryd.sizeOf20
  v20 := Tryd.zeroValue20
  t37 := Tryd.underlying92
  a37 := Tryd.isAgg92
  z37 := Tryd.sizeOf92
  v37 := Tryd.zeroValue92
  t46 := Tryd.underlying134
  a46 := Tryd.isAgg134
  z46 := Tryd.sizeOf134
  v46 := Tryd.zeroValue134
  t51 := Tryd.underlying140
  a51 := Tryd.isAgg140
  z51 := Tryd.sizeOf140
  v51 := Tryd.zeroValue140
  t53 := Tryd.underlying128
  a53 := Tryd.isAgg128
  z53 := Tryd.sizeOf128
  v53 := Tryd.zeroValue128
  t171 := Tryd.underlying127
  a171 := Tryd.isAgg127
  z171 := Tryd.sizeOf127
  v171 := Tryd.zeroValue127
  t173 := Tryd.underlying131
  a173 := Tryd.isAgg131
  z173 := Tryd.sizeOf131
  v173 := Tryd.zeroValue131
  t212 := Tryd.underlying139
  a212 := Tryd.isAgg139
  z212 := Tryd.sizeOf139
  v212 := Tryd.zeroValue139
  t213 := Tryd.underlying141
  a213 := Tryd.isAgg141
  z213 := Tryd.sizeOf141
  t232 := Tryd.underlying150
  a232 := Tryd.isAgg150
  z232 := Tryd.sizeOf150
  v232 := Tryd.zeroValue150
  t233 := Tryd.underlying151
  a233 := Tryd.isAgg151
  z233 := Tryd.sizeOf151
  v233 := Tryd.zeroValue151
  g17 := by kernel_rfl
  g18 := by kernel_rfl
  g19 := by kernel_rfl
  i0 := by kernel_rfl
  i2 := by kernel_rfl
  i3 := by kernel_rfl
  i4 := by kernel_rfl
  i5 := by kernel_rfl
  i9 := by kernel_rfl
  i20 := by kernel_rfl
  i37 := by kernel_rfl
  i46 := by kernel_rfl
  i51 := by kernel_rfl
  i53 := by kernel_rfl
  i171 := by kernel_rfl
  i173 := by kernel_rfl
  i212 := by kernel_rfl
  i232 := by kernel_rfl
  i233 := by kernel_rfl
  m17 := by kernel_rfl
  m18 := by kernel_rfl
  m19 := by kernel_rfl }
open Go.RowKit Go.Sort Go.Lib in
/-- strconv.Itoa: "Itoa is equivalent to FormatInt(int64(i), 10).": i's DECIMAL NUMERAL ('Lib.itoa': a '-' where i is negative, then the digits), FOR EVERY int. The world behind the call: the world before it, new blocks behind the heap (the library's 'var a [24]byte'), draws. (LAID: no walk: one application.) -/
theorem Tryd.strconv_Itoa (n : Int) (h0 : -9223372036854775808 ≤ n) (h1 : n ≤ 9223372036854775807) (w : World) (htab : Lib.TabIs Tryd.prog w "internal/strconv.uint64pow10" .u64 Lib.pow10Tab) :
    Calls Tryd.prog 27 #[.int .i64 n] w fun e w' => e = .returned (.string ⟨(Lib.itoa n).toArray⟩) ∧ ∃ k os, w' = grow (w.drewN k) os := Any.strconv_Itoa Tryd.laysM171 n h0 h1 w htab
def Tryd.lays145_ren : Go.Shelf.Ren := ⟨fun | 145 => 32 | 220 => 64 | 219 => 90 | 217 => 73 | 225 => 104 | 224 => 105 | 267 => 106 | 266 => 93 | 314 => 115 | n => n, fun | 9 => 9 | 4 => 4 | 59 => 68 | 3 => 3 | 5 => 5 | 46 => 134 | 146 => 143 | 51 => 140 | n => n, fun | 1 => 0 | n => n⟩
theorem Tryd.lays145 : Go.Proofs.Lays.n145 Tryd.prog Tryd.lays145_ren := {
  mixed := by kernel_rfl
  f145 := Tryd.func32.trans (congrArg some (by kernel_rfl))
  f217 := Tryd.func73.trans (congrArg some (by kernel_rfl))
  f219 := Tryd.func90.trans (congrArg some (by kernel_rfl))
  f220 := Tryd.func64.trans (congrArg some (by kernel_rfl))
  f224 := Tryd.func105.trans (congrArg some (by kernel_rfl))
  f225 := Tryd.func104.trans (congrArg some (by kernel_rfl))
  f266 := Tryd.func93.trans (congrArg some (by kernel_rfl))
  f267 := Tryd.func106.trans (congrArg some (by kernel_rfl))
  f314 := Tryd.func115.trans (congrArg some (by kernel_rfl))
  t3 := Tryd.underlying3
  a3 := Tryd.isAgg3
  z3 := Tryd.sizeOf3
  v3 := Tryd.zeroValue3
  t4 := Tryd.underlying4
  a4 := Tryd.isAgg4
  z4 := Tryd.sizeOf4
  v4 := Tryd.zeroValue4
  t5 := Tryd.underlying5
  a5 := Tryd.isAgg5
  z5 := Tryd.sizeOf5
  v5 := Tryd.zeroValue5
  t9 := Tryd.underlying9
  a9 := Tryd.isAgg9
  z9 := Tryd.sizeOf9
  v9 := Tryd.zeroValue9
  t46 := Tryd.underlying134
  a46 := Tryd.isAgg134
  z46 := Tryd.sizeOf134
  v46 := Tryd.zeroValue134
  t51 := Tryd.underlying140
  a51 := Tryd.isAgg140
  z51 := Tryd.sizeOf140
  v51 := Tryd.zeroValue140
  t59 := Tryd.underlying68
  a59 := Tryd.isAgg68
  z59 := Tryd.sizeOf68
  v59 := Tryd.zeroValue68
  t146 := Tryd.underlying143
  a146 := Tryd.isAgg143
  z146 := Tryd.sizeOf143
  v146 := Tryd.zeroValue143
  g1 := by kernel_rfl }
open Go.RowKit Go.Lib in
/-- strings.Cut: "Cut slices s around the first instance of sep, returning the text before and after sep. The found result reports whether sep appears in s. If sep does not appear in s, cut returns s, "", false.": IT RETURNS 'Lib.cut s sep'; the world is as it was but for the count of draws. (LAID: no walk: one application.) -/
theorem Tryd.strings_Cut (s sep : ByteArray) (m : Int) (w : World) (hs : s.size < 4294967281) (hm : w.cell? ⟨0, 0, none⟩ = some (.int .i64 m)) :
    Calls Tryd.prog 32 #[.string s, .string sep] w fun e w' => e = .returned (.tuple #[.string ⟨(Lib.cut s.data.toList sep.data.toList).1.toArray⟩, .string ⟨(Lib.cut s.data.toList sep.data.toList).2.1.toArray⟩, .bool (Lib.cut s.data.toList sep.data.toList).2.2]) ∧ ∃ n, w' = w.drewN n := Any.strings_Cut Tryd.lays145 s sep m w hs hm
def Tryd.lays146_ren : Go.Shelf.Ren := ⟨fun | 146 => 43 | 221 => 75 | 268 => 94 | 138 => 95 | 143 => 96 | 195 => 107 | 197 => 108 | 218 => 109 | 219 => 90 | 260 => 116 | 217 => 73 | 225 => 104 | 224 => 105 | 267 => 106 | 266 => 93 | 314 => 115 | n => n, fun | 9 => 9 | 31 => 40 | 3 => 3 | 4 => 4 | 0 => 0 | 105 => 136 | 21 => 21 | 5 => 5 | 46 => 134 | 119 => 146 | 139 => 149 | 138 => 148 | 146 => 143 | 51 => 140 | n => n, fun | 1 => 0 | 3 => 2 | 4 => 3 | n => n⟩
theorem Tryd.lays146 : Go.Proofs.Lays.n146 Tryd.prog Tryd.lays146_ren := {
  mixed := by kernel_rfl
  f138 := Tryd.func95.trans (congrArg some (by kernel_rfl))
  f143 := Tryd.func96.trans (congrArg some (by kernel_rfl))
  f146 := Tryd.func43.trans (congrArg some (by kernel_rfl))
  f195 := Tryd.func107.trans (congrArg some (by kernel_rfl))
  f197 := Tryd.func108.trans (congrArg some (by kernel_rfl))
  f217 := Tryd.func73.trans (congrArg some (by kernel_rfl))
  f218 := Tryd.func109.trans (congrArg some (by kernel_rfl))
  f219 := Tryd.func90.trans (congrArg some (by kernel_rfl))
  f221 := Tryd.func75.trans (congrArg some (by kernel_rfl))
  f224 := Tryd.func105.trans (congrArg some (by kernel_rfl))
  f225 := Tryd.func104.trans (congrArg some (by kernel_rfl))
  f260 := Tryd.func116.trans (congrArg some (by kernel_rfl))
  f266 := Tryd.func93.trans (congrArg some (by kernel_rfl))
  f267 := Tryd.func106.trans (congrArg some (by kernel_rfl))
  f268 := Tryd.func94.trans (congrArg some (by kernel_rfl))
  f314 := Tryd.func115.trans (congrArg some (by kernel_rfl))
  t0 := Tryd.underlying0
  a0 := Tryd.isAgg0
  z0 := Tryd.sizeOf0
  v0 := Tryd.zeroValue0
  t3 := Tryd.underlying3
  a3 := Tryd.isAgg3
  z3 := Tryd.sizeOf3
  v3 := Tryd.zeroValue3
  t4 := Tryd.underlying4
  a4 := Tryd.isAgg4
  z4 := Tryd.sizeOf4
  v4 := Tryd.zeroValue4
  t5 := Tryd.underlying5
  a5 := Tryd.isAgg5
  z5 := Tryd.sizeOf5
  v5 := Tryd.zeroValue5
  t9 := Tryd.underlying9
  a9 := Tryd.isAgg9
  z9 := Tryd.sizeOf9
  v9 := Tryd.zeroValue9
  t21 := Tryd.underlying21
  a21 := Tryd.isAgg21
  z21 := Tryd.sizeOf21
  v21 := Tryd.zeroValue21
  t31 := Tryd.underlying40
  a31 := Tryd.isAgg40
  z31 := Tryd.sizeOf40
  v31 := Tryd.zeroValue40
  t46 := Tryd.underlying134
  a46 := Tryd.isAgg134
  z46 := Tryd.sizeOf134
  v46 := Tryd.zeroValue134
  t51 := Tryd.underlying140
  a51 := Tryd.isAgg140
  z51 := Tryd.sizeOf140
  v51 := Tryd.zeroValue140
  t105 := Tryd.underlying136
  a105 := Tryd.isAgg136
  z105 := Tryd.sizeOf136
  v105 := Tryd.zeroValue136
  t119 := Tryd.underlying146
  a119 := Tryd.isAgg146
  z119 := Tryd.sizeOf146
  t138 := Tryd.underlying148
  a138 := Tryd.isAgg148
  z138 := Tryd.sizeOf148
  v138 := Tryd.zeroValue148
  t139 := Tryd.underlying149
  a139 := Tryd.isAgg149
  z139 := Tryd.sizeOf149
  v139 := Tryd.zeroValue149
  t146 := Tryd.underlying143
  a146 := Tryd.isAgg143
  z146 := Tryd.sizeOf143
  v146 := Tryd.zeroValue143
  g1 := by kernel_rfl
  g3 := by kernel_rfl
  g4 := by kernel_rfl }
open Go.RowKit Go.Lib in
/-- strings.Split. (LAID: no walk: one application.) -/
theorem Tryd.strings_Split (s sep : ByteArray) (m : Int) (w : World) (hs : s.size < 4294967281) (hm : w.cell? ⟨0, 0, none⟩ = some (.int .i64 m)) (h1 : 1 ≤ sep.size) :
    Calls Tryd.prog 43 #[.string s, .string sep] w fun e w' =>
      e = .returned (.slice (some ⟨w.heap.size, 0, none⟩) (Lib.countB s sep + 1) (Lib.countB s sep + 1)) ∧ w' = w.alloc (.cells ((Lib.splitB sep 0 (Lib.countB s sep) s).map Value.string).toArray 9) := Any.strings_Split Tryd.lays146 (by kernel_rfl) s sep m w hs hm h1
def Tryd.lays147_ren : Go.Shelf.Ren := ⟨fun | 147 => 58 | 221 => 75 | 268 => 94 | 138 => 95 | 143 => 96 | 195 => 107 | 197 => 108 | 218 => 109 | 219 => 90 | 260 => 116 | 217 => 73 | 225 => 104 | 224 => 105 | 267 => 106 | 266 => 93 | 314 => 115 | n => n, fun | 9 => 9 | 3 => 3 | 31 => 40 | 4 => 4 | 0 => 0 | 105 => 136 | 21 => 21 | 5 => 5 | 46 => 134 | 119 => 146 | 139 => 149 | 138 => 148 | 146 => 143 | 51 => 140 | n => n, fun | 1 => 0 | 3 => 2 | 4 => 3 | n => n⟩
theorem Tryd.lays147 : Go.Proofs.Lays.n147 Tryd.prog Tryd.lays147_ren := {
  mixed := by kernel_rfl
  f138 := Tryd.func95.trans (congrArg some (by kernel_rfl))
  f143 := Tryd.func96.trans (congrArg some (by kernel_rfl))
  f147 := Tryd.func58.trans (congrArg some (by kernel_rfl))
  f195 := Tryd.func107.trans (congrArg some (by kernel_rfl))
  f197 := Tryd.func108.trans (congrArg some (by kernel_rfl))
  f217 := Tryd.func73.trans (congrArg some (by kernel_rfl))
  f218 := Tryd.func109.trans (congrArg some (by kernel_rfl))
  f219 := Tryd.func90.trans (congrArg some (by kernel_rfl))
  f221 := Tryd.func75.trans (congrArg some (by kernel_rfl))
  f224 := Tryd.func105.trans (congrArg some (by kernel_rfl))
  f225 := Tryd.func104.trans (congrArg some (by kernel_rfl))
  f260 := Tryd.func116.trans (congrArg some (by kernel_rfl))
  f266 := Tryd.func93.trans (congrArg some (by kernel_rfl))
  f267 := Tryd.func106.trans (congrArg some (by kernel_rfl))
  f268 := Tryd.func94.trans (congrArg some (by kernel_rfl))
  f314 := Tryd.func115.trans (congrArg some (by kernel_rfl))
  t0 := Tryd.underlying0
  a0 := Tryd.isAgg0
  z0 := Tryd.sizeOf0
  v0 := Tryd.zeroValue0
  t3 := Tryd.underlying3
  a3 := Tryd.isAgg3
  z3 := Tryd.sizeOf3
  v3 := Tryd.zeroValue3
  t4 := Tryd.underlying4
  a4 := Tryd.isAgg4
  z4 := Tryd.sizeOf4
  v4 := Tryd.zeroValue4
  t5 := Tryd.underlying5
  a5 := Tryd.isAgg5
  z5 := Tryd.sizeOf5
  v5 := Tryd.zeroValue5
  t9 := Tryd.underlying9
  a9 := Tryd.isAgg9
  z9 := Tryd.sizeOf9
  v9 := Tryd.zeroValue9
  t21 := Tryd.underlying21
  a21 := Tryd.isAgg21
  z21 := Tryd.sizeOf21
  v21 := Tryd.zeroValue21
  t31 := Tryd.underlying40
  a31 := Tryd.isAgg40
  z31 := Tryd.sizeOf40
  v31 := Tryd.zeroValue40
  t46 := Tryd.underlying134
  a46 := Tryd.isAgg134
  z46 := Tryd.sizeOf134
  v46 := Tryd.zeroValue134
  t51 := Tryd.underlying140
  a51 := Tryd.isAgg140
  z51 := Tryd.sizeOf140
  v51 := Tryd.zeroValue140
  t105 := Tryd.underlying136
  a105 := Tryd.isAgg136
  z105 := Tryd.sizeOf136
  v105 := Tryd.zeroValue136
  t119 := Tryd.underlying146
  a119 := Tryd.isAgg146
  z119 := Tryd.sizeOf146
  t138 := Tryd.underlying148
  a138 := Tryd.isAgg148
  z138 := Tryd.sizeOf148
  v138 := Tryd.zeroValue148
  t139 := Tryd.underlying149
  a139 := Tryd.isAgg149
  z139 := Tryd.sizeOf149
  v139 := Tryd.zeroValue149
  t146 := Tryd.underlying143
  a146 := Tryd.isAgg143
  z146 := Tryd.sizeOf143
  v146 := Tryd.zeroValue143
  g1 := by kernel_rfl
  g3 := by kernel_rfl
  g4 := by kernel_rfl }
open Go.RowKit Go.Lib in
/-- strings.SplitN, n > 0. (LAID: no walk: one application.) -/
theorem Tryd.strings_SplitN (s sep : ByteArray) (n : Nat) (m : Int) (w : World) (hs : s.size < 4294967281) (hm : w.cell? ⟨0, 0, none⟩ = some (.int .i64 m)) (h1 : 1 ≤ sep.size) (hn : 1 ≤ n) (hn63 : n ≤ 9223372036854775807) :
    Calls Tryd.prog 58 #[.string s, .string sep, .int .i64 n] w fun e w' =>
      e = .returned (.slice (some ⟨w.heap.size, 0, none⟩) (Lib.splitB sep 0 (min n (s.size + 1) - 1) s).length (min n (s.size + 1))) ∧ w' = w.alloc (.cells (Lib.cellsOf (Lib.splitB sep 0 (min n (s.size + 1) - 1) s) (min n (s.size + 1))) 9) := Any.strings_SplitN Tryd.lays147 (by kernel_rfl) s sep n m w hs hm h1 hn hn63
end Go.Proofs
end
section
set_option linter.unusedVariables false
set_option linter.unusedSimpArgs false
set_option maxRecDepth 10000
set_option maxHeartbeats 4000000
namespace Go.Proofs.P4
open Go.Ex Go.RowKit
theorem LP_cut {P : Program} {C : Cmd} {Q : E → St → Prop} {s : St} (Q' : E → St → Prop) (h : LP P C Q' s ⟨⟩ ⟨⟩) (hQ : ∀ e s', Q' e s' → Q e s') : LP P C Q s ⟨⟩ ⟨⟩ := by
  obtain ⟨I, ν, h0, hr⟩ := h
  refine ⟨I, ν, h0, fun s hs => wpA_mono C (fun e s' he => ?_) (hr s hs)⟩
  cases e with
  | norm => exact he
  | exit j => exact hQ _ _ he
  | ret => exact hQ _ _ he
theorem W_cut {P : Program} {C D : Cmd} {Q : E → St → Prop} {s : St} (I : St → Prop) (h : W P C (fun e s => e = .norm ∧ I s) s ⟨⟩ ⟨⟩) (hD : ∀ s, I s → W P D Q s ⟨⟩ ⟨⟩) : W P C (fun e s => seqK (fun s => W P D Q s ⟨⟩ ⟨⟩) Q e s ⟨⟩ ⟨⟩) s ⟨⟩ ⟨⟩ :=
  wpA_mono C (fun e s' he => by obtain ⟨rfl, hi⟩ := he; exact hD s' hi) h
theorem gPow {w : World} (h : GOk Tryd.prog w) : Lib.TabIs Tryd.prog w "internal/strconv.uint64pow10" .u64 Lib.pow10Tab :=
  h.1 ("internal/strconv.uint64pow10", .u64, Lib.pow10Tab) (by simp [gTabs]) (by
    have : (Tryd.prog.globalNamed "internal/strconv.uint64pow10").isSome = true := by kernel_rfl
    intro q
    rw [q] at this
    cases this)
theorem gLen {w : World} (h : GOk Tryd.prog w) : ∃ m, w.cell? ⟨0, 0, none⟩ = some (.int .i64 m) := h.2 0 (by kernel_rfl)
/-- A function of the library's that answers a pure value. -/
theorem OkF.lib {P : Program} {f : Nat} {args : List V} {v : V} (h : ∀ (φ0 : Nat → Nat × Nat) (S : Nat → Prop) (w : World) (vs : Array Value), GOk P w → Reps φ0 none0 S w args vs → Calls P f vs w fun e w' => ∃ x, e = .returned x ∧ Below w.heap.size w w' ∧ Rep φ0 none0 S w' v x) : OkF P f args (v, []) := by
  refine ⟨fun b hb => (by cases hb), fun w S φ0 vs hG hS hv => (h φ0 S w vs hG hv).mono fun e w' he => ?_⟩
  obtain ⟨x, rfl, hb, hr⟩ := he
  exact ⟨x, φ0, S, rfl, ⟨hb, hG, fun r hr => Nat.lt_of_lt_of_le (hS r hr) hb.size, fun id b hb => (by cases hb), fun i j b c hi => (by cases hi)⟩, fun _ h => h, fun _ h _ => h, hr⟩
theorem rep_str {φ : Nat → Nat × Nat} {h : Hp} {S : Nat → Prop} {w : World} {s : List UInt8} {v : Value} (r : Rep φ h S w (.str s) v) : v = .string ⟨s.toArray⟩ := by
  generalize hs : V.str s = u at r
  cases r <;> try cases hs
  rfl
theorem rep_str_mk {φ : Nat → Nat × Nat} {h : Hp} {S : Nat → Prop} {w : World} (s : List UInt8) : Rep φ h S w (.str s) (.string ⟨s.toArray⟩) := by
  have := Rep.str (φ := φ) (h := h) (S := S) (w := w) ⟨s.toArray⟩
  simpa using this
theorem reps1 {φ : Nat → Nat × Nat} {h : Hp} {S : Nat → Prop} {w : World} {a : V} {vs : Array Value} (hv : Reps φ h S w [a] vs) : ∃ x, vs = #[x] ∧ Rep φ h S w a x := by
  obtain ⟨h1, h2⟩ := hv
  obtain ⟨x, rfl⟩ : ∃ x, vs = #[x] := by
    obtain ⟨l⟩ := vs
    match l, h1 with
    | [x], _ => exact ⟨x, rfl⟩
  exact ⟨x, rfl, h2 0 _ x rfl rfl⟩
theorem reps2 {φ : Nat → Nat × Nat} {h : Hp} {S : Nat → Prop} {w : World} {a b : V} {vs : Array Value} (hv : Reps φ h S w [a, b] vs) : ∃ x y, vs = #[x, y] ∧ Rep φ h S w a x ∧ Rep φ h S w b y := by
  obtain ⟨h1, h2⟩ := hv
  obtain ⟨x, y, rfl⟩ : ∃ x y, vs = #[x, y] := by
    obtain ⟨l⟩ := vs
    match l, h1 with
    | [x, y], _ => exact ⟨x, y, rfl⟩
  exact ⟨x, y, rfl, h2 0 _ x rfl rfl, h2 1 _ y rfl rfl⟩
theorem Itoa_ok (n : Int) (h0 : -9223372036854775808 ≤ n) (h1 : n ≤ 9223372036854775807) : OkF Tryd.prog 27 [.int .i64 n] (.str (Lib.itoa n), []) := by
  refine OkF.lib fun φ S w vs hG hv => ?_
  obtain ⟨x, rfl, hx⟩ := reps1 hv
  cases hx
  refine (Tryd.strconv_Itoa n h0 h1 w (gPow hG)).mono fun e w' he => ?_
  obtain ⟨rfl, k, os, rfl⟩ := he
  exact ⟨_, rfl, Lib.below_grow _ _ (Nat.le_refl _) k os, rep_str_mk _⟩
theorem IndexByte_ok (s : List UInt8) (c : Int) : OkF Tryd.prog 40 [.str s, .int .u8 c] (.int .i64 (Lib.indexByte s c.toNat.toUInt8), []) := by
  refine OkF.lib fun φ S w vs hG hv => ?_
  obtain ⟨x, y, rfl, hx, hy⟩ := reps2 hv
  cases hy
  have := rep_str hx
  subst this
  refine (Tryd.strings_IndexByte ⟨s.toArray⟩ c w).mono fun e w' he => ?_
  obtain ⟨rfl, rfl⟩ := he
  exact ⟨_, rfl, Below.refl _ _, .int _ _⟩
theorem Cut_ok (s sep : List UInt8) (hs : s.length < 4294967281) : OkF Tryd.prog 32 [.str s, .str sep] (.tup [.str (Lib.cut s sep).1, .str (Lib.cut s sep).2.1, .bool (Lib.cut s sep).2.2], []) := by
  refine OkF.lib fun φ S w vs hG hv => ?_
  obtain ⟨x, y, rfl, hx, hy⟩ := reps2 hv
  have := rep_str hx
  subst this
  have := rep_str hy
  subst this
  obtain ⟨m, hm⟩ := gLen hG
  refine (Tryd.strings_Cut ⟨s.toArray⟩ ⟨sep.toArray⟩ m w (by simpa [ByteArray.size] using hs) hm).mono fun e w' he => ?_
  obtain ⟨rfl, n, rfl⟩ := he
  refine ⟨_, rfl, (Below.refl _ _).trans ⟨rfl, rfl, rfl, Nat.le_refl _, fun _ _ => rfl⟩, .tup _ _ rfl fun i c v hc hv => ?_⟩
  match i with
  | 0 => simp at hc hv; subst hc hv; exact rep_str_mk _
  | 1 => simp at hc hv; subst hc hv; exact rep_str_mk _
  | 2 => simp at hc hv; subst hc hv; exact .bool _
  | i + 3 => simp at hc
def digs : List UInt8 := [48, 49, 50, 51, 52, 53, 54, 55, 56, 57]
end Go.Proofs.P4
end
section
set_option linter.unusedVariables false
set_option linter.unusedSimpArgs false
set_option maxRecDepth 10000
set_option maxHeartbeats 4000000
namespace Go.Proofs.P4
open Go.Ex
def digV (s : List UInt8) (most : Nat) : Int × Bool :=
  if s = [] then (0, false) else if most < s.length then (0, false) else if s[0]? = some 48 ∧ 1 < s.length then (0, false) else match Lib.decFrom 0 s with
    | some n => ((n : Nat), true)
    | none => (0, false)
theorem u8_48 {b : UInt8} : ((b.toNat : Int) = 48) ↔ b = 48 := by
  constructor
  · intro h
    have : b.toNat = 48 := by omega
    exact UInt8.toNat_inj.1 this
  · rintro rfl; rfl
theorem str_ne {s : List UInt8} (h : s ≠ []) : (s == []) = false := by cases s with | nil => exact absurd rfl h | cons a r => rfl
theorem dig_at {s : List UInt8} {k : Nat} (h : k < s.length) : s[k]? = some (s.getD k 0) := by
  rw [List.getElem?_eq_getElem h]; simp [List.getD, h]
theorem Digits_ok (s : List UInt8) (most : Nat) (h : most ≤ 18) : OkF Tryd.prog 46 [.str s, .int .i64 most] (.tup [.int .i64 (digV s most).1, .bool (digV s most).2], []) := by
  refine OkF.W0 hm h46 (of_decide_eq_true rfl) ?_
  unfold c46
  by_cases h0 : s = []
  · subst h0
    simp -dsimp [digV]
  have h0' := str_ne h0
  have hl : 0 < s.length := List.length_pos_iff.2 h0
  by_cases h1 : most < s.length
  · have h1' : (most : Int) < (s.length : Int) := by omega
    have e : digV s most = (0, false) := by unfold digV; rw [if_neg h0, if_pos h1]
    simp -dsimp [h0, h1', e]
  have h1' : ¬ (most : Int) < (s.length : Int) := by omega
  have g0 := dig_at hl
  have g0' : s[(0 : Int).toNat]? = some (s.getD 0 0) := g0
  have sub : digV s most = if s.getD 0 0 = 48 ∧ 1 < s.length then (0, false) else match Lib.decFrom 0 s with
    | some n => (((n : Nat) : Int), true)
    | none => (0, false) := by
    unfold digV
    rw [if_neg h0, if_neg h1, g0]
    simp only [Option.some.injEq]
  generalize s.getD 0 0 = a at *
  by_cases c2 : a = 48 ∧ 1 < s.length
  · obtain ⟨c3, c4⟩ := c2
    have c3' : ((a.toNat : Int) = 48) = True := eq_true (u8_48.2 c3)
    have c4' : (1 : Int) < (s.length : Int) := by omega
    have e : digV s most = (0, false) := by rw [sub, if_pos ⟨c3, c4⟩]
    simp -dsimp [h0, h1', g0, g0', c3', c4', e]
  rw [if_neg c2] at sub
  have main : ∀ t : St, t.t 0 = .str s → t.t 6 = .int .i64 0 → t.t 28 = .int .i64 0 → t.t 27 = .int .i64 s.length → t.h = none0 →
      LP Tryd.prog l46_0 (fun e t => (e = .exit 0 ∧ ∃ n : Nat, digV s most = ((n : Int), true) ∧ t.t 6 = .int .i64 n ∧ t.h = none0) ∨ (e = .ret ∧ digV s most = (0, false) ∧ t.t 4 = .int .i64 0 ∧ t.t 5 = .bool false ∧ t.h = none0)) t ⟨⟩ ⟨⟩ := by
    intro t i0 i6 i28 i27 ih
    refine for_lt s.length (fun k t => t.t 0 = .str s ∧ t.h = none0 ∧ ∃ n : Nat, Lib.decFrom 0 (s.take k) = some n ∧ t.t 6 = .int .i64 n) rfl (by omega) ⟨i0, ih, 0, rfl, i6⟩ i28 i27 (fun k t hk hI hi hn => ?_) (fun t hI hi hn => ?_)
    · obtain ⟨j0, jh, n, hn', j6⟩ := hI
      have gk := dig_at hk
      have gk' : s[((k : Nat) : Int).toNat]? = some (s.getD k 0) := by rw [Int.toNat_natCast]; exact gk
      have hlt := Lib.decFrom_take_lt hn' (by omega)
      generalize s.getD k 0 = b at *
      cases hd : Lib.digitVal b with
      | none =>
        have hbad : digV s most = (0, false) := by
          rw [sub]
          cases hs : Lib.decFrom 0 s with
          | none => rfl
          | some m =>
            obtain ⟨d, hd'⟩ := Lib.digit_of_decFrom s 0 m hs k b gk
            rw [hd] at hd'
            cases hd'
        unfold k46_0
        by_cases q1 : (b.toNat : Int) < 48
        · simp -dsimp [j0, hi, gk, gk', q1]
          exact ⟨hbad, jh⟩
        · have q2 : 57 < (b.toNat : Int) := by
            unfold Lib.digitVal at hd
            split at hd
            · cases hd
            · omega
          simp -dsimp [j0, hi, gk, gk', q1, q2]
          exact ⟨hbad, jh⟩
      | some d =>
        obtain ⟨d1, d2, rfl⟩ := Lib.digitVal_eq hd
        have hst := Lib.decFrom_take s k 0 n b _ hn' gk hd
        have q1 : ¬ (b.toNat : Int) < 48 := by omega
        have q2 : ¬ 57 < (b.toNat : Int) := by omega
        have w1 : IntKind.i64.wrap ((n : Int) * 10) = (n : Int) * 10 := w_i64 (by omega) (by omega)
        have w2 : IntKind.u8.wrap ((b.toNat : Int) - 48) = ((b.toNat - 48 : Nat) : Int) := by rw [IntWalk.u8_in _ (by omega)]; omega
        have w3 : IntKind.i64.wrap ((b.toNat - 48 : Nat) : Int) = ((b.toNat - 48 : Nat) : Int) := w_i64 (by omega) (by omega)
        have w4 : IntKind.i64.wrap ((n : Int) * 10 + ((b.toNat - 48 : Nat) : Int)) = ((n * 10 + (b.toNat - 48) : Nat) : Int) := by rw [w_i64 (by omega) (by omega)]; omega
        generalize b.toNat - 48 = dd at *
        generalize hnn : n * 10 + dd = n' at *
        unfold k46_0
        simp -dsimp [j0, j6, hi, gk, gk', q1, q2, w1, w2, w3, w4]
        exact ⟨hn, jh, n', hst, by simp -dsimp⟩
    · obtain ⟨j0, jh, n, hn', j6⟩ := hI
      rw [List.take_length] at hn'
      exact .inl ⟨rfl, n, by rw [sub, hn'], by simp -dsimp [j6], jh⟩
  by_cases c3 : (a.toNat : Int) = 48
  · have c4 : ¬ (1 : Int) < (s.length : Int) := fun q => c2 ⟨u8_48.1 c3, by omega⟩
    simp -dsimp [h0, h1', g0, g0', c3, c4]
    refine LP_cut _ (main _ (by simp -dsimp) (by simp -dsimp) (by simp -dsimp) (by simp -dsimp) (by simp -dsimp)) ?_
    rintro e t (⟨rfl, n, e, t6, th⟩ | ⟨rfl, e, t4, t5, th⟩)
    · simp -dsimp [t6, e]
    · simp -dsimp [t4, t5, e]
  · simp -dsimp [h0, h1', g0, g0', c3]
    refine LP_cut _ (main _ (by simp -dsimp) (by simp -dsimp) (by simp -dsimp) (by simp -dsimp) (by simp -dsimp)) ?_
    rintro e t (⟨rfl, n, e, t6, th⟩ | ⟨rfl, e, t4, t5, th⟩)
    · simp -dsimp [t6, e]
    · simp -dsimp [t4, t5, e]
theorem dec_all : ∀ (l : List UInt8) (acc : Nat), (∀ b ∈ l, Lib.digitVal b ≠ none) → ∃ n, Lib.decFrom acc l = some n
  | [], acc, _ => ⟨acc, rfl⟩
  | b :: r, acc, h => by
    unfold Lib.decFrom
    cases hd : Lib.digitVal b with
    | none => exact absurd hd (h b (by simp))
    | some d => exact dec_all r _ fun c hc => h c (List.mem_cons_of_mem _ hc)
theorem dig_in (b : UInt8) : digs.contains b = true ↔ Lib.digitVal b ≠ none := by
  have : ∀ x : Fin 256, digs.contains (UInt8.ofNat x.val) = (Lib.digitVal (UInt8.ofNat x.val)).isSome := by decide +kernel
  have h := this ⟨b.toNat, b.toNat_lt⟩
  simp only [UInt8.ofNat_toNat] at h
  rw [h]
  cases Lib.digitVal b <;> simp
theorem drop_head {p : UInt8 → Bool} : ∀ (l : List UInt8) (a : UInt8) (r : List UInt8), l.dropWhile p = a :: r → p a = false
  | [], a, r, h => by simp at h
  | b :: l, a, r, h => by
    rw [List.dropWhile_cons] at h
    split at h
    · exact drop_head l a r h
    · rename_i q
      injection h with h1 h2
      subst h1
      simpa using q
theorem drop_nil {p : UInt8 → Bool} : ∀ {l : List UInt8}, l.dropWhile p = [] ↔ ∀ b ∈ l, p b = true
  | [] => by simp
  | b :: l => by
    rw [List.dropWhile_cons]
    split
    · rename_i q
      rw [drop_nil (l := l)]
      simp [q]
    · rename_i q
      simp [q]
theorem trim_nil {l cs : List UInt8} : Lib.trimS l cs = [] ↔ ∀ b ∈ l, cs.contains b = true := by
  unfold Lib.trimS Lib.trimLeftS Lib.trimRightS
  constructor
  · intro h b hb
    rw [drop_nil] at h
    have hd : l.reverse.dropWhile (cs.contains ·) = [] := by
      cases hq : l.reverse.dropWhile (cs.contains ·) with
      | nil => rfl
      | cons a r =>
        have h1 := drop_head _ a r hq
        have h2 := h a (by rw [hq]; simp)
        rw [h1] at h2
        cases h2
    rw [drop_nil] at hd
    exact hd b (by simpa using hb)
  · intro h
    have hd : l.reverse.dropWhile (cs.contains ·) = [] := by
      rw [drop_nil]
      intro b hb
      exact h b (by simpa using hb)
    rw [hd]
    rfl
theorem trim_dec {s : List UInt8} : Lib.trimS s digs = [] ↔ ∃ n, Lib.decFrom 0 s = some n := by
  rw [trim_nil]
  constructor
  · exact fun h => dec_all s 0 fun b hb => (dig_in b).1 (h b hb)
  · rintro ⟨n, hn⟩ b hb
    obtain ⟨k, hk⟩ := List.getElem?_of_mem hb
    obtain ⟨d, hd⟩ := Lib.digit_of_decFrom s 0 n hn k b hk
    exact (dig_in b).2 (by rw [hd]; simp)
theorem atoi_dec {s : List UInt8} {n : Nat} (h0 : s ≠ []) (h : Lib.decFrom 0 s = some n) : Lib.atoi s = some (n : Int) := by
  cases s with
  | nil => exact absurd rfl h0
  | cons b r =>
    obtain ⟨d, hd⟩ := Lib.digit_of_decFrom (b :: r) 0 n h 0 b rfl
    obtain ⟨d1, d2, -⟩ := Lib.digitVal_eq hd
    have n1 : (b == 45) = false := by
      rw [beq_eq_false_iff_ne]
      rintro rfl
      simp at d1
    have n2 : (b == 43) = false := by
      rw [beq_eq_false_iff_ne]
      rintro rfl
      simp at d1
    simp only [Lib.atoi, n1, n2, Lib.decNat, h]
    simp
end Go.Proofs.P4
end
section
set_option linter.unusedVariables false
set_option linter.unusedSimpArgs false
set_option maxRecDepth 10000
set_option maxHeartbeats 8000000
namespace Go.Proofs.P4
open Go.Ex
/-- Each line is taken, one by one: what comes of it, and the number of the line that is not taken. -/
def rdG {β : Type} (st : List UInt8 → β → β × Bool) : Nat → List UInt8 → Int → β → β × Int
  | 0, _, n, b => (b, n)
  | f + 1, text, n, b => if text = [] then (b, 0) else if Lib.indexByte text 10 < 0 then (b, n) else
      if (st (text.take (Lib.indexByte text 10).toNat) b).2 = true then rdG st f (text.drop ((Lib.indexByte text 10).toNat + 1)) (n + 1) (st (text.take (Lib.indexByte text 10).toNat) b).1
      else ((st (text.take (Lib.indexByte text 10).toNat) b).1, n)
theorem ib_lt : ∀ (s : List UInt8) (c : UInt8), Lib.indexByte s c < (s.length : Int) ∧ -1 ≤ Lib.indexByte s c
  | [], c => by simp [Lib.indexByte]
  | a :: r, c => by
    have := ib_lt r c
    unfold Lib.indexByte
    simp only [List.length_cons]
    split
    · omega
    · split
      · omega
      · omega
def LI {β : Type} (st : List UInt8 → β → β × Bool) (Inv : Nat → β → Hp → Nat → Prop) (text : List UInt8) (b0 : β) (fv : V) (n : Nat) (t : St) : Prop := ∃ (f k : Nat) (tx : List UInt8) (b : β), n = tx.length ∧ tx.length < f ∧ k + tx.length ≤ text.length ∧ rdG st f tx ((k : Int) + 1) b = rdG st (text.length + 1) text 1 b0 ∧ t.t 0 = .str tx ∧ t.t 1 = fv ∧ t.t 5 = .int .i64 ((k + 1 : Nat) : Int) ∧ Inv k b t.h t.nx
theorem lines_ex {β : Type} {st : List UInt8 → β → β × Bool} {Inv : Nat → β → Hp → Nat → Prop} {F : Nat} {caps : List V} {h : Hp} {nx : Nat} {text : List UInt8} {b0 : β} (hl : text.length < 4000000000) (hF : hasBody Tryd.prog F = true)
    (hc : ∀ (k : Nat) (line : List UInt8) (b : β) (h : Hp) (nx : Nat), line.length ≤ text.length → k < text.length → Inv k b h nx → SEx Tryd.prog F ([.str line] ++ caps) h nx (fun v h' nx' => v = .bool (st line b).2 ∧ Inv (k + 1) (st line b).1 h' nx')) (h0 : Inv 0 b0 h nx) :
    SEx Tryd.prog 18 [.str text, .fn F caps] h nx (fun v h' nx' => v = .int .i64 (rdG st (text.length + 1) text 1 b0).2 ∧ ∃ k, Inv k (rdG st (text.length + 1) text 1 b0).1 h' nx') := by
  refine SEx.of hm h18 (of_decide_eq_true rfl) ?_
  unfold c18
  simp -dsimp
  refine loop_dec (LI st Inv text b0 (.fn F caps)) text.length ⟨text.length + 1, 0, text, b0, rfl, by omega, by omega, by simp, by simp -dsimp, by simp -dsimp, by simp -dsimp, by simp -dsimp; exact h0⟩ (fun n t hI => ?_)
  obtain ⟨f, k, tx, b, hn, hf, hk, he, i0, i1, i5, hI⟩ := hI
  generalize hR : rdG st (text.length + 1) text 1 b0 = R at *
  unfold l18_0
  cases f with
  | zero => omega
  | succ f =>
  by_cases c0 : tx = []
  · subst c0
    rw [rdG, if_pos rfl] at he
    simp -dsimp [i0]
    rw [← he]
    exact ⟨rfl, k, by simp -dsimp; exact hI⟩
  have hp : 0 < tx.length := List.length_pos_iff.2 c0
  have hib := IndexByte_ok tx 10
  have hlt := ib_lt tx 10
  have e10 : ((10 : Int).toNat.toUInt8) = (10 : UInt8) := rfl
  rw [e10] at hib
  rw [rdG, if_neg c0] at he
  simp -dsimp [i0, c0]
  refine call_pure hib (by simp) rfl ?_
  generalize Lib.indexByte tx 10 = ix at *
  simp -dsimp
  by_cases c1 : ix < 0
  · rw [if_pos c1] at he
    simp -dsimp [c1, i5]
    rw [← he]
    exact ⟨by simp, k, by simp -dsimp; exact hI⟩
  rw [if_neg c1] at he
  obtain ⟨i, rfl⟩ := Int.eq_ofNat_of_zero_le (show 0 ≤ ix by omega)
  simp only [Int.toNat_natCast] at he
  have hi : i < tx.length := by omega
  have hs := hc k (tx.take i) b t.h t.nx (by rw [List.length_take]; omega) (by omega) hI
  generalize st (tx.take i) b = r at *
  have hi' : i ≤ tx.length := by omega
  have hi1 : i + 1 ≤ tx.length := hi
  have w1 : IntKind.i64.wrap ((i : Int) + 1) = ((i + 1 : Nat) : Int) := by rw [w_i64 (by omega) (by omega)]; omega
  have w2 : IntKind.i64.wrap (((k + 1 : Nat) : Int) + 1) = ((k + 1 + 1 : Nat) : Int) := by rw [w_i64 (by omega) (by omega)]; omega
  have sl : ∀ (h : Hp) (nx : Nat) (K : V → Hp → Nat → Option (List Nat) → Option (List Nat) → Prop), slcK true (.str tx) (some (.int .i64 ((i + 1 : Nat) : Int))) none 1 h nx K ⟨⟩ = K (.str (tx.drop (i + 1))) h nx (some []) (some []) := fun h nx K => by
    rw [slcK_str]
    simp only [slcA, loHi, Int.natCast_nonneg, true_and]
    rw [if_pos (by omega)]
    simp only [Int.toNat_natCast, Option.map_some, optK_some]
    rw [List.take_of_length_le (by rw [List.length_drop]; omega)]
  generalize hii : i + 1 = i' at *
  generalize hkk : k + 1 = k' at *
  simp -dsimp [c1, i0, i1, hi']
  refine calv_ex hF hs ?_
  rintro v h' nx' ⟨rfl, hI'⟩
  obtain ⟨b', ok⟩ := r
  simp only at he hI'
  cases ok with
  | false =>
    rw [if_neg (by simp)] at he
    simp -dsimp [i5]
    rw [← he]
    exact ⟨by simp only; omega, k', hI'⟩
  | true =>
    rw [if_pos rfl] at he
    simp -dsimp [i0, i5, w1, sl, w2]
    refine ⟨(tx.drop i').length, by rw [hn, List.length_drop]; omega, f, k', tx.drop i', b', rfl, by rw [List.length_drop]; omega, by rw [List.length_drop]; omega, ?_, by simp -dsimp, by simp -dsimp [i1], by simp -dsimp, hI'⟩
    rw [hR, ← he]
    congr 1
    omega
end Go.Proofs.P4
end
section
set_option linter.unusedVariables false
set_option linter.unusedSimpArgs false
set_option maxRecDepth 10000
set_option maxHeartbeats 8000000
namespace Go.Proofs.P4
open Go.Ex
theorem index_byte : ∀ (s : List UInt8) (c : UInt8), Lib.index s [c] = Lib.indexByte s c
  | [], c => rfl
  | b :: l, c => by
    unfold Lib.index Lib.indexByte
    rw [index_byte l c]
    have : ([c].isPrefixOf (b :: l)) = (b == c) := by
      simp only [List.isPrefixOf, Bool.and_true]
      by_cases h : c = b
      · subst h; rfl
      · rw [beq_eq_false_iff_ne.2 h, beq_eq_false_iff_ne.2 (fun e => h e.symm)]
    rw [this]
theorem cut_miss {s : List UInt8} {c : UInt8} (h : Lib.indexByte s c < 0) : Lib.cut s [c] = (s, [], false) := by
  unfold Lib.cut
  rw [index_byte, if_neg (by omega)]
theorem cut_hit {s : List UInt8} {c : UInt8} {i : Nat} (h : Lib.indexByte s c = i) : Lib.cut s [c] = (s.take i, s.drop (i + 1), true) := by
  unfold Lib.cut
  rw [index_byte, h, if_pos (by omega)]
  rfl
end Go.Proofs.P4
end
section
set_option linter.unusedVariables false
set_option linter.unusedSimpArgs false
set_option maxRecDepth 10000
set_option maxHeartbeats 8000000
namespace Go.Proofs.P4
open Go.Ex
theorem dec_snoc : ∀ (l : List UInt8) (acc n : Nat) (b : UInt8) (d : Nat), Lib.decFrom acc l = some n → Lib.digitVal b = some d → Lib.decFrom acc (l ++ [b]) = some (n * 10 + d)
  | [], acc, n, b, d, h, hd => by
    simp only [Lib.decFrom, Option.some.injEq] at h
    subst h
    simp [Lib.decFrom, hd]
  | a :: r, acc, n, b, d, h, hd => by
    rw [List.cons_append, Lib.decFrom]
    rw [Lib.decFrom] at h
    cases ha : Lib.digitVal a with
    | none => rw [ha] at h; cases h
    | some e =>
      rw [ha] at h
      exact dec_snoc r _ n b d h hd
theorem dig_of {i : Nat} (h : i < 10) : Lib.digitVal (UInt8.ofNat (48 + i)) = some i := by
  have : ∀ i : Fin 10, Lib.digitVal (UInt8.ofNat (48 + i.val)) = some i.val := by decide +kernel
  exact this ⟨i, h⟩
theorem dig_byte {i : Nat} (h : i < 10) : 48 ≤ (UInt8.ofNat (48 + i)).toNat ∧ (UInt8.ofNat (48 + i)).toNat ≤ 57 := by
  have : ∀ i : Fin 10, 48 ≤ (UInt8.ofNat (48 + i.val)).toNat ∧ (UInt8.ofNat (48 + i.val)).toNat ≤ 57 := by decide +kernel
  exact this ⟨i, h⟩
theorem dec_fwd (n : Nat) : Lib.decFrom 0 (Lib.decDigits n) = some n := by
  induction n using Nat.strongRecOn with
  | _ n ih =>
    by_cases h : n < 10
    · rw [Lib.decDigits_one h]
      rw [Lib.decFrom, dig_of h]
      simp [Lib.decFrom]
    · rw [Lib.decDigits, dif_neg h, dec_snoc _ 0 (n / 10) _ (n % 10) (ih (n / 10) (by omega)) (dig_of (by omega))]
      congr 1
      omega
theorem dd_bytes (n : Nat) : ∀ b ∈ Lib.decDigits n, 48 ≤ b.toNat ∧ b.toNat ≤ 57 := by
  induction n using Nat.strongRecOn with
  | _ n ih =>
    intro b hb
    by_cases h : n < 10
    · rw [Lib.decDigits_one h, List.mem_singleton] at hb
      rw [hb]
      exact dig_byte h
    · rw [Lib.decDigits, dif_neg h, List.mem_append, List.mem_singleton] at hb
      rcases hb with hb | hb
      · exact ih (n / 10) (by omega) b hb
      · rw [hb]
        exact dig_byte (by omega)
theorem dd_head (n : Nat) (h : 1 ≤ n) : ∀ a, (Lib.decDigits n)[0]? = some a → a ≠ 48 := by
  induction n using Nat.strongRecOn with
  | _ n ih =>
    intro a ha
    by_cases q : n < 10
    · rw [Lib.decDigits_one q] at ha
      have : ∀ i : Fin 10, 1 ≤ i.val → UInt8.ofNat (48 + i.val) ≠ 48 := by decide +kernel
      have := this ⟨n, q⟩ h
      rw [List.getElem?_cons_zero, Option.some.injEq] at ha
      rw [← ha]
      exact this
    · rw [Lib.decDigits, dif_neg q] at ha
      have hl : 0 < (Lib.decDigits (n / 10)).length := by rw [Lib.decDigits_length]; exact Lib.nDigits_pos _
      rw [List.getElem?_append_left hl] at ha
      exact ih (n / 10) (by omega) (by omega) a ha
theorem nd_le {k n : Nat} (h : n < 10 ^ (k + 1)) : Lib.nDigits n ≤ k + 1 := by
  induction k generalizing n with
  | zero => rw [Lib.nDigits_small (by simpa using h)]; omega
  | succ k ih =>
    by_cases q : n < 10
    · rw [Lib.nDigits_small q]; omega
    · rw [Lib.nDigits_big q]
      have := ih (n := n / 10) (by rw [Nat.pow_succ] at h; omega)
      omega
theorem digV_dd {n k : Nat} (h : n < 10 ^ (k + 1)) : digV (Lib.decDigits n) (k + 1) = ((n : Int), true) := by
  have hl := Lib.decDigits_length n
  have hp := Lib.nDigits_pos n
  have hm := nd_le h
  unfold digV
  rw [if_neg (fun q => by rw [q] at hl; simp at hl; omega), if_neg (by omega), if_neg, dec_fwd]
  rintro ⟨q1, q2⟩
  by_cases q : n = 0
  · subst q
    rw [hl, Lib.nDigits_small (by decide)] at q2
    omega
  · exact dd_head n (by omega) _ q1 rfl
theorem digV_itoa {c : Int} {k : Nat} (h0 : 0 ≤ c) (h1 : c < 10 ^ (k + 1)) : digV (Lib.itoa c) (k + 1) = (c, true) := by
  obtain ⟨n, rfl⟩ := Int.eq_ofNat_of_zero_le h0
  rw [Lib.itoa_nonneg]
  exact digV_dd (by
    have : ((n : Nat) : Int) < ((10 ^ (k + 1) : Nat) : Int) := by rw [Int.natCast_pow]; exact h1
    omega)
theorem itoa_bytes {c : Int} : ∀ b ∈ Lib.itoa c, b = 45 ∨ (48 ≤ b.toNat ∧ b.toNat ≤ 57) := by
  intro b hb
  unfold Lib.itoa at hb
  split at hb
  · rcases List.mem_cons.1 hb with q | q
    · exact .inl q
    · exact .inr (dd_bytes _ b q)
  · exact .inr (dd_bytes _ b hb)
theorem itoa_no {c : Int} {b : UInt8} (h : b.toNat < 45) : b ∉ Lib.itoa c := fun q => by
  rcases itoa_bytes b q with rfl | ⟨q1, q2⟩
  · exact absurd h (by decide)
  · omega
theorem ib_hit : ∀ (s r : List UInt8) (c : UInt8), c ∉ s → Lib.indexByte (s ++ c :: r) c = (s.length : Int)
  | [], r, c, _ => by simp [Lib.indexByte]
  | a :: s, r, c, h => by
    have h1 : ¬ a = c := fun q => h (by simp [q])
    have ih := ib_hit s r c fun q => h (List.mem_cons_of_mem _ q)
    rw [List.cons_append, Lib.indexByte, ih]
    have : (a == c) = false := by simpa using h1
    simp only [this, List.length_cons]
    simp
theorem ib_none : ∀ (s : List UInt8) (c : UInt8), c ∉ s → Lib.indexByte s c = -1
  | [], c, _ => by simp [Lib.indexByte]
  | a :: s, c, h => by
    have h1 : ¬ a = c := fun q => h (by simp [q])
    have ih := ib_none s c fun q => h (List.mem_cons_of_mem _ q)
    rw [Lib.indexByte, ih]
    have : (a == c) = false := by simpa using h1
    simp [this]
theorem cut_at {s r : List UInt8} {c : UInt8} (h : c ∉ s) : Lib.cut (s ++ c :: r) [c] = (s, r, true) := by
  rw [cut_hit (ib_hit s r c h)]
  simp
/-- The lines j, j + 1, .. (m of them), each with its end. -/
def joinL (L : Nat → List UInt8) : Nat → Nat → List UInt8
  | _, 0 => []
  | j, m + 1 => L j ++ 10 :: joinL L (j + 1) m
theorem joinL_snoc (L : Nat → List UInt8) : ∀ m j, joinL L j (m + 1) = joinL L j m ++ (L (j + m) ++ [10])
  | 0, j => by simp [joinL]
  | m + 1, j => by
    rw [joinL, joinL_snoc L m (j + 1), joinL]
    simp [show j + 1 + m = j + (m + 1) by omega]
theorem rdG_join {β : Type} {st : List UInt8 → β → β × Bool} {L : Nat → List UInt8} {B : Nat → β} : ∀ (m j f : Nat) (n : Int), (joinL L j m).length < f → (∀ i, j ≤ i → i < j + m → 10 ∉ L i ∧ st (L i) (B i) = (B (i + 1), true)) → rdG st f (joinL L j m) n (B j) = (B (j + m), 0)
  | 0, j, f, n, hf, h => by
    cases f with
    | zero => omega
    | succ f => simp [rdG, joinL]
  | m + 1, j, f, n, hf, h => by
    cases f with
    | zero => omega
    | succ f =>
      obtain ⟨h1, h2⟩ := h j (by omega) (by omega)
      have ih := rdG_join m (j + 1) f (n + 1) (by simp only [joinL, List.length_append, List.length_cons] at hf; omega) fun i hi hj => h i (by omega) (by omega)
      rw [joinL, rdG, if_neg (by simp), ib_hit _ _ _ h1, if_neg (by omega), Int.toNat_natCast, List.take_left, h2, if_pos rfl]
      have : (L j ++ 10 :: joinL L (j + 1) m).drop ((L j).length + 1) = joinL L (j + 1) m := by
        rw [← List.drop_drop, List.drop_left]
        rfl
      rw [this, ih, show j + 1 + m = j + (m + 1) by omega]
end Go.Proofs.P4
end
section
set_option linter.unusedVariables false
set_option linter.unusedSimpArgs false
set_option maxRecDepth 10000
set_option maxHeartbeats 8000000
namespace Go.Proofs.P4
open Go.Ex Go.RowKit
def words (s : List UInt8) : List (List UInt8) := Lib.split s [32]
theorem split_hit {s : List UInt8} {i : Nat} (h : Lib.indexByte s 32 = i) : words s = s.take i :: words (s.drop (i + 1)) := by
  have hi : Lib.index s [32] = i := by rw [index_byte, h]
  have hm : ¬ (Lib.index s [32] == -1) = true := fun e => by have := beq_iff_eq.1 e; omega
  unfold words Lib.split
  rw [Lib.count_hit (by simp) hi, Nat.add_comm, Lib.splitK, if_neg hm, hi]
  simp
theorem split_miss {s : List UInt8} (h : Lib.indexByte s 32 = -1) : words s = [s] := by
  have hi : Lib.index s [32] = -1 := by rw [index_byte, h]
  unfold words Lib.split
  rw [Lib.count_miss hi]
  rfl
theorem words_cons {a r : List UInt8} (h : (32 : UInt8) ∉ a) : words (a ++ 32 :: r) = a :: words r := by
  rw [split_hit (ib_hit a r 32 h)]
  simp
theorem words_one {a : List UInt8} (h : (32 : UInt8) ∉ a) : words a = [a] := split_miss (ib_none a 32 h)
theorem ib_cut : ∀ (s : List UInt8) (c : UInt8) (i : Nat), Lib.indexByte s c = i → s = s.take i ++ c :: s.drop (i + 1)
  | [], c, i, h => by simp [Lib.indexByte] at h
  | a :: s, c, i, h => by
    rw [Lib.indexByte] at h
    by_cases q : a = c
    · subst q
      simp at h
      have : i = 0 := by omega
      subst this
      simp
    · have q' : (a == c) = false := by simpa using q
      simp only [q', Bool.false_eq_true, if_false] at h
      split at h
      · omega
      · cases i with
        | zero => have := (ib_lt s c).2; rename_i q2; have : ¬ Lib.indexByte s c = -1 := fun e => q2 (by rw [e]; rfl)
                  omega
        | succ i =>
          have := ib_cut s c i (by omega)
          rw [List.take_succ_cons, List.drop_succ_cons, List.cons_append, ← this]
theorem words_eq : ∀ (n : Nat) (s : List UInt8), s.length ≤ n → (∃ a, words s = [a] ∧ s = a) ∨ ∃ a t r, words s = a :: words t ∧ s = a ++ 32 :: t ∧ r = t
  | n, s, _ => by
    have hb := (ib_lt s 32).2
    by_cases h : Lib.indexByte s 32 = -1
    · exact .inl ⟨s, split_miss h, rfl⟩
    · obtain ⟨i, hi⟩ := Int.eq_ofNat_of_zero_le (show 0 ≤ Lib.indexByte s 32 by omega)
      exact .inr ⟨s.take i, s.drop (i + 1), _, split_hit hi, ib_cut s 32 i hi, rfl⟩
theorem words_nil (s : List UInt8) : words s ≠ [] := by
  rcases words_eq _ s (Nat.le_refl _) with ⟨a, h, _⟩ | ⟨a, t, r, h, _⟩ <;> rw [h] <;> simp
theorem words3 {s a b c : List UInt8} (h : words s = [a, b, c]) : s = a ++ 32 :: (b ++ 32 :: c) := by
  rcases words_eq _ s (Nat.le_refl _) with ⟨x, h1, _⟩ | ⟨x, t, _, h1, h2, _⟩
  · rw [h] at h1; simp at h1
  rw [h] at h1
  injection h1 with h3 h4
  rcases words_eq _ t (Nat.le_refl _) with ⟨y, h5, _⟩ | ⟨y, u, _, h5, h6, _⟩
  · rw [← h4] at h5; simp at h5
  rw [← h4] at h5
  injection h5 with h7 h8
  rcases words_eq _ u (Nat.le_refl _) with ⟨z, h9, h10⟩ | ⟨z, v, _, h9, _, _⟩
  · rw [← h8] at h9
    injection h9 with h11
    rw [h2, h6, h10, h3, h7, h11]
  · rw [← h8] at h9
    injection h9 with h11 h12
    exact absurd h12.symm (words_nil v)
abbrev rS (l : List (List UInt8)) : V := .ro l.length (fl Cd.str l)
theorem fl_str : ∀ l : List (List UInt8), fl Cd.str l = l.map .str
  | [] => rfl
  | a :: l => by
    have ih := fl_str l
    unfold fl at ih ⊢
    rw [List.flatMap_cons, ih]
    rfl
theorem words_len (s : List UInt8) : (words s).length = Lib.countB ⟨s.toArray⟩ ⟨#[32]⟩ + 1 := by
  have := Lib.splitB_all ⟨#[32]⟩ (by decide) 0 _ ⟨s.toArray⟩ rfl
  have hd : (Lib.splitB ⟨#[32]⟩ 0 (Lib.countB ⟨s.toArray⟩ ⟨#[32]⟩) ⟨s.toArray⟩).map (fun x : ByteArray => x.data.toList) = words s := by
    rw [Lib.splitB_data]
    rfl
  rw [← this, ← hd, List.length_map]
theorem Split_ok (s : List UInt8) (hs : s.length < 4294967281) : OkF Tryd.prog 43 [.str s, .str [32]] (rS (words s), []) := by
  refine ⟨fun b hb => (by cases hb), fun w S φ0 vs hG hS hv => ?_⟩
  obtain ⟨x, y, rfl, hx, hy⟩ := reps2 hv
  have := rep_str hx
  subst this
  have := rep_str hy
  subst this
  obtain ⟨m, hm⟩ := gLen hG
  have hlen := words_len s
  refine (Tryd.strings_Split ⟨s.toArray⟩ ⟨#[32]⟩ m w (by simpa [ByteArray.size] using hs) hm (by decide)).mono fun e w' he => ?_
  obtain ⟨rfl, rfl⟩ := he
  have hd : (Lib.splitB ⟨#[32]⟩ 0 (Lib.countB ⟨s.toArray⟩ ⟨#[32]⟩) ⟨s.toArray⟩).map (·.data.toList) = words s := by
    rw [Lib.splitB_data]
    rfl
  generalize Lib.splitB ⟨#[32]⟩ 0 (Lib.countB ⟨s.toArray⟩ ⟨#[32]⟩) ⟨s.toArray⟩ = L at *
  rw [← hlen, ← hd]
  have hb := (Below.refl w.heap.size w).alloc (Nat.le_refl _) (.cells (L.map Value.string).toArray 9)
  refine ⟨_, φ0, fun r => S r ∨ r = w.heap.size, rfl, ⟨hb, hG, fun r hr => ?_, fun id b hb => (by cases hb), fun i j b c hi => (by cases hi)⟩, fun r h => .inl h, fun r h hl => ?_, ?_⟩
  · rcases hr with q | q
    · exact Nat.lt_of_lt_of_le (hS r q) hb.size
    · subst q
      simp
  · rcases h with q | q
    · exact q
    · omega
  · refine .ro _ _ _ _ (L.map Value.string).toArray (Nat.le_refl _) (fl_pure _) (fun _ => ⟨rfl, .inr rfl, (L.map Value.string).toArray, 9, (0, 0), alloc_at _, ?_, ?_, fun i v hi hv => ?_⟩) (fun i x v hx hv => ?_)
    · simp [fl_str]
    · simp [fl_str]
      rw [List.take_of_length_le (by simp)]
    · simp at hv
      obtain ⟨a, _, rfl⟩ := hv
      rfl
    · rw [fl_str] at hx
      simp at hx hv
      obtain ⟨a, ha, rfl⟩ := hx
      rw [ha] at hv
      simp at hv
      subst hv
      exact .str a
end Go.Proofs.P4
end
section
set_option linter.unusedVariables false
set_option linter.unusedSimpArgs false
set_option maxRecDepth 10000
namespace Go.Proofs.P4
open Go.Ex
theorem within2_ok (n lo hi : Int) : OkF Tryd.prog 91 [.int .i64 n, .int .i64 lo, .int .i64 hi] (.bool (inB n lo hi), []) := by
  refine OkF.W0 hm h91 (of_decide_eq_true rfl) ?_
  unfold c91
  by_cases h : lo ≤ n <;> simp -dsimp [h, inB]
end Go.Proofs.P4
end
section
set_option linter.unusedVariables false
set_option linter.unusedSimpArgs false
set_option maxRecDepth 10000
set_option maxHeartbeats 8000000
namespace Go.Proofs.P4
open Go.Ex
theorem Number_ok (s : List UInt8) (most : Nat) (h : most ≤ 18) : OkF Tryd.prog 65 [.str s, .int .i64 most] (.tup [.int .i64 (digV s most).1, .bool (digV s most).2], []) := by
  refine OkF.W0 hm h65 (of_decide_eq_true rfl) ?_
  unfold c65
  simp -dsimp
  refine call_bool (within2_ok _ _ _) ?_
  by_cases h0 : s = []
  · subst h0
    simp -dsimp [digV, inB]
  have hl : 0 < s.length := List.length_pos_iff.2 h0
  by_cases h1 : most < s.length
  · have h1' : inB (s.length : Int) 1 most = false := by simp [inB]; omega
    have e : digV s most = (0, false) := by unfold digV; rw [if_neg h0, if_pos h1]
    simp -dsimp [h1', e]
  have h1' : inB (s.length : Int) 1 most = true := by simp [inB]; omega
  have g0 := dig_at hl
  have g0' : s[(0 : Int).toNat]? = some (s.getD 0 0) := g0
  have sub : digV s most = if s.getD 0 0 = 48 ∧ 1 < s.length then (0, false) else match Lib.decFrom 0 s with
    | some n => (((n : Nat) : Int), true)
    | none => (0, false) := by
    unfold digV
    rw [if_neg h0, if_neg h1, g0]
    simp only [Option.some.injEq]
    all_goals rfl
  generalize s.getD 0 0 = a at *
  by_cases c2 : a = 48 ∧ 1 < s.length
  · obtain ⟨c3, c4⟩ := c2
    have c3' : ((a.toNat : Int) = 48) = True := eq_true (u8_48.2 c3)
    have c4' : (1 : Int) < (s.length : Int) := by omega
    have e : digV s most = (0, false) := by rw [sub, if_pos ⟨c3, c4⟩]
    simp -dsimp [h1', g0, g0', c3', c4', e]
  rw [if_neg c2] at sub
  have main : ∀ t : St, t.t 0 = .str s → t.t 6 = .int .i64 0 → t.t 7 = .int .i64 0 → t.h = none0 →
      LP Tryd.prog l65_0 (fun e t => (e = .exit 0 ∧ ∃ n : Nat, digV s most = ((n : Int), true) ∧ t.t 6 = .int .i64 n ∧ t.h = none0) ∨ (e = .ret ∧ digV s most = (0, false) ∧ t.t 4 = .int .i64 0 ∧ t.t 5 = .bool false ∧ t.h = none0)) t ⟨⟩ ⟨⟩ := by
    intro t i0 i6 i7 ih
    refine loop_to 7 s.length (fun k t => t.t 7 = .int .i64 k ∧ t.t 0 = .str s ∧ t.h = none0 ∧ ∃ n : Nat, Lib.decFrom 0 (s.take k) = some n ∧ t.t 6 = .int .i64 n) (fun k t h => h.1) ⟨i7, i0, ih, 0, rfl, i6⟩ (fun k t hk hI => ?_)
    obtain ⟨j7, j0, jh, n, hn', j6⟩ := hI
    by_cases hlt : k < s.length
    · have hlt' : (k : Int) < (s.length : Int) := by omega
      have hw : IntKind.i64.wrap ((k : Int) + 1) = (k : Int) + 1 := IntWalk.i64_in _ (by omega)
      have gk := dig_at hlt
      have gk' : s[((k : Nat) : Int).toNat]? = some (s.getD k 0) := by rw [Int.toNat_natCast]; exact gk
      have hlt2 := Lib.decFrom_take_lt hn' (by omega)
      generalize s.getD k 0 = b at *
      cases hd : Lib.digitVal b with
      | none =>
        have hbad : digV s most = (0, false) := by
          rw [sub]
          cases hs : Lib.decFrom 0 s with
          | none => rfl
          | some m =>
            obtain ⟨d, hd'⟩ := Lib.digit_of_decFrom s 0 m hs k b gk
            rw [hd] at hd'
            cases hd'
        unfold l65_0
        by_cases q1 : (b.toNat : Int) < 48
        · simp -dsimp [j0, j7, hlt', gk, gk', q1]
          exact ⟨hbad, jh⟩
        · have q2 : 57 < (b.toNat : Int) := by
            unfold Lib.digitVal at hd
            split at hd
            · cases hd
            · omega
          simp -dsimp [j0, j7, hlt', gk, gk', q1, q2]
          exact ⟨hbad, jh⟩
      | some d =>
        obtain ⟨d1, d2, rfl⟩ := Lib.digitVal_eq hd
        have hst := Lib.decFrom_take s k 0 n b _ hn' gk hd
        have q1 : ¬ (b.toNat : Int) < 48 := by omega
        have q2 : ¬ 57 < (b.toNat : Int) := by omega
        have w1 : IntKind.i64.wrap (10 * (n : Int)) = 10 * (n : Int) := w_i64 (by omega) (by omega)
        have w2 : IntKind.u8.wrap ((b.toNat : Int) - 48) = ((b.toNat - 48 : Nat) : Int) := by rw [IntWalk.u8_in _ (by omega)]; omega
        have w3 : IntKind.i64.wrap ((b.toNat - 48 : Nat) : Int) = ((b.toNat - 48 : Nat) : Int) := w_i64 (by omega) (by omega)
        have w4 : IntKind.i64.wrap (10 * (n : Int) + ((b.toNat - 48 : Nat) : Int)) = ((n * 10 + (b.toNat - 48) : Nat) : Int) := by rw [w_i64 (by omega) (by omega)]; omega
        generalize b.toNat - 48 = dd at *
        generalize hnn : n * 10 + dd = n' at *
        unfold l65_0
        simp -dsimp [j0, j6, j7, hlt', hw, gk, gk', q1, q2, w1, w2, w3, w4]
        exact ⟨by omega, jh, n', hst, by simp -dsimp⟩
    · have hkl : k = s.length := by omega
      subst hkl
      rw [List.take_length] at hn'
      unfold l65_0
      simp -dsimp [j0, j7]
      exact ⟨n, by rw [sub, hn'], by simp -dsimp [j6], jh⟩
  by_cases c3 : (a.toNat : Int) = 48
  · have c4 : ¬ (1 : Int) < (s.length : Int) := fun q => c2 ⟨u8_48.1 c3, by omega⟩
    simp -dsimp [h1', g0, g0', c3, c4]
    refine LP_cut _ (main _ (by simp -dsimp) (by simp -dsimp) (by simp -dsimp) (by simp -dsimp)) ?_
    rintro e t (⟨rfl, n, e, t6, th⟩ | ⟨rfl, e, t4, t5, th⟩)
    · simp -dsimp [t6, e]
    · simp -dsimp [t4, t5, e]
  · simp -dsimp [h1', g0, g0', c3]
    refine LP_cut _ (main _ (by simp -dsimp) (by simp -dsimp) (by simp -dsimp) (by simp -dsimp)) ?_
    rintro e t (⟨rfl, n, e, t6, th⟩ | ⟨rfl, e, t4, t5, th⟩)
    · simp -dsimp [t6, e]
    · simp -dsimp [t4, t5, e]
end Go.Proofs.P4
end
section
set_option linter.unusedVariables false
set_option linter.unusedSimpArgs false
set_option maxRecDepth 10000
set_option maxHeartbeats 8000000
namespace Go.Proofs.P4
open Go.Ex
theorem dec_inv : ∀ (r : List UInt8) (acc n : Nat) (b : UInt8), Lib.decFrom acc (r ++ [b]) = some n → ∃ m d, Lib.decFrom acc r = some m ∧ Lib.digitVal b = some d ∧ n = m * 10 + d
  | [], acc, n, b, h => by
    rw [List.nil_append, Lib.decFrom] at h
    cases hd : Lib.digitVal b with
    | none => rw [hd] at h; cases h
    | some d =>
      rw [hd] at h
      simp only [Lib.decFrom, Option.some.injEq] at h
      exact ⟨acc, d, rfl, rfl, h.symm⟩
  | a :: r, acc, n, b, h => by
    rw [List.cons_append, Lib.decFrom] at h
    rw [Lib.decFrom]
    cases ha : Lib.digitVal a with
    | none => rw [ha] at h; cases h
    | some e =>
      rw [ha] at h
      exact dec_inv r _ n b h
theorem dig_inv {b : UInt8} {d : Nat} (h : Lib.digitVal b = some d) : UInt8.ofNat (48 + d) = b ∧ d < 10 := by
  obtain ⟨h1, h2, rfl⟩ := Lib.digitVal_eq h
  refine ⟨?_, by omega⟩
  rw [show 48 + (b.toNat - 48) = b.toNat by omega, UInt8.ofNat_toNat]
theorem dec_back : ∀ (k : Nat) (s : List UInt8) (n : Nat), s.length = k + 1 → (s[0]? = some 48 → s.length = 1) → Lib.decFrom 0 s = some n → Lib.decDigits n = s
  | 0, s, n, hl, h0, h => by
    match s, hl with
    | [b], _ =>
      obtain ⟨m, d, h1, h2, rfl⟩ := dec_inv [] 0 n b h
      simp only [Lib.decFrom, Option.some.injEq] at h1
      subst h1
      obtain ⟨h3, h4⟩ := dig_inv h2
      rw [Lib.decDigits_one (by omega), Nat.zero_mul, Nat.zero_add, h3]
  | k + 1, s, n, hl, h0, h => by
    have hne : s ≠ [] := fun q => by rw [q] at hl; simp at hl
    obtain ⟨r, b, rfl⟩ : ∃ r b, s = r ++ [b] := ⟨s.dropLast, s.getLast hne, (List.dropLast_concat_getLast hne).symm⟩
    obtain ⟨m, d, h1, h2, rfl⟩ := dec_inv r 0 n b h
    simp only [List.length_append, List.length_cons, List.length_nil] at hl h0
    rw [List.getElem?_append_left (by omega)] at h0
    have ih := dec_back k r m (by omega) (fun q => by have := h0 q; omega) h1
    obtain ⟨h3, h4⟩ := dig_inv h2
    have hm : m ≠ 0 := by
      rintro rfl
      rw [Lib.decDigits_one (by decide)] at ih
      have := h0 (by rw [← ih]; rfl)
      omega
    rw [Lib.decDigits, dif_neg (by omega), show (m * 10 + d) / 10 = m by omega, show (m * 10 + d) % 10 = d by omega, ih, h3]
theorem digV_back {s : List UInt8} {most : Nat} (h : (digV s most).2 = true) : Lib.itoa (digV s most).1 = s := by
  unfold digV at h ⊢
  by_cases h0 : s = []
  · rw [if_pos h0] at h; cases h
  rw [if_neg h0] at h ⊢
  by_cases h1 : most < s.length
  · rw [if_pos h1] at h; cases h
  rw [if_neg h1] at h ⊢
  by_cases h2 : s[0]? = some 48 ∧ 1 < s.length
  · rw [if_pos h2] at h; cases h
  rw [if_neg h2] at h ⊢
  have hp : 0 < s.length := List.length_pos_iff.2 h0
  cases hd : Lib.decFrom 0 s with
  | none => rw [hd] at h; cases h
  | some n =>
    simp only
    rw [Lib.itoa_nonneg]
    exact dec_back (s.length - 1) s n (by omega) (fun q => by have : ¬ 1 < s.length := fun z => h2 ⟨q, z⟩
                                                              omega) hd
end Go.Proofs.P4
end
