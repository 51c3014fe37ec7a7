/- Lemmas and definitions of this claim (own texts, joined by a program; what the claim does not use is left out). -/
import Derived.Test.YtdceppjoipoohaaGreatDoorCr5
import Derived.Shelf.Strings.Builder1
import Derived.Shelf.Strings.Builder2
import Derived.Shelf.Strings.OnBuilder
import Derived.Shelf.Strings.Trim
import Derived.Shelf.Small.Utf8
import Derived.Shelf.Small.Strs
import Derived.Shelf.Strings.BuilderF
import Derived.Shelf.Strings.BuilderK
import Derived.Shelf.Utf8.RuneCount
import Derived.Shelf.Strings.Builder2Cap
import Derived.Shelf.Strconv.Itoa0
import Derived.Shelf.Strconv.Itoa1
import Derived.Shelf.LaysM
import Derived.Shelf.Strconv.Itoa2
import Derived.Shelf.Strconv.Itoa3
import Derived.Shelf.Strconv.Itoa4
import Derived.Shelf.Strings.Search1
import Derived.Shelf.Strings.Search2
import Derived.Shelf.Strings.Search3
import Derived.Shelf.Strings.Cut
import Derived.Shelf.Strings.Count
import Derived.Shelf.Strings.Shaped
import Derived.Shelf.Strings.LastIndex
import Derived.Shelf.Strings.LastIndexAll
import Derived.Shelf.Strings.Prefix
import Derived.Shelf.Strings.Split
import Derived.Shelf.Strings.SplitShaped
import Derived.Shelf.Unicode.Decode
import Derived.Shelf.Strings.Runes
import Derived.Shelf.Strings.RuneCount
import Derived.Shelf.Strings.AsciiSet
import Derived.Shelf.Strings.Explode
import Derived.Shelf.Unicode.DecodeSlow
import Derived.Shelf.Unicode.DecodeAny
import Derived.Shelf.Unicode.DecodeLast
import Derived.Shelf.Strings.BuilderCap
import Derived.Shelf.Slices.Turned
import Derived.Test.YtdceppjoipoohaaGreatDoorProg
section
namespace Go.Proofs
open Go.Shelf
def Tryz.lays156_ren : Go.Shelf.Ren := ⟨fun | 156 => 30 | 165 => 53 | 166 => 24 | 169 => 31 | 240 => 50 | 241 => 74 | 276 => 69 | 277 => 96 | n => n, fun | 31 => 40 | 9 => 9 | 3 => 3 | 4 => 4 | 0 => 0 | 20 => 20 | 72 => 68 | 76 => 71 | 70 => 66 | 37 => 33 | 75 => 70 | 127 => 102 | 164 => 114 | 5 => 5 | 80 => 78 | n => n, fun | n => n⟩
theorem Tryz.lays156 : Go.Proofs.Lays.n156 Tryz.prog Tryz.lays156_ren := {
  mixed := by kernel_rfl
  f156 := Tryz.func30.trans (congrArg some (by kernel_rfl))
  f165 := Tryz.func53.trans (congrArg some (by kernel_rfl))
  f166 := Tryz.func24.trans (congrArg some (by kernel_rfl))
  f169 := Tryz.func31.trans (congrArg some (by kernel_rfl))
  f240 := Tryz.func50.trans (congrArg some (by kernel_rfl))
  f241 := Tryz.func74.trans (congrArg some (by kernel_rfl))
  f276 := Tryz.func69.trans (congrArg some (by kernel_rfl))
  f277 := Tryz.func96.trans (congrArg some (by kernel_rfl))
  t0 := Tryz.underlying0
  a0 := Tryz.isAgg0
  z0 := Tryz.sizeOf0
  v0 := Tryz.zeroValue0
  t3 := Tryz.underlying3
  a3 := Tryz.isAgg3
  z3 := Tryz.sizeOf3
  v3 := Tryz.zeroValue3
  t4 := Tryz.underlying4
  a4 := Tryz.isAgg4
  z4 := Tryz.sizeOf4
  v4 := Tryz.zeroValue4
  t9 := Tryz.underlying9
  a9 := Tryz.isAgg9
  z9 := Tryz.sizeOf9
  v9 := Tryz.zeroValue9
  t20 := Tryz.underlying20
  a20 := Tryz.isAgg20
  z20 := Tryz.sizeOf20
  v20 := Tryz.zeroValue20
  t31 := Tryz.underlying40
  a31 := Tryz.isAgg40
  z31 := Tryz.sizeOf40
  v31 := Tryz.zeroValue40
  t37 := Tryz.underlying33
  a37 := Tryz.isAgg33
  z37 := Tryz.sizeOf33
  v37 := Tryz.zeroValue33
  t70 := Tryz.underlying66
  a70 := Tryz.isAgg66
  z70 := Tryz.sizeOf66
  v70 := Tryz.zeroValue66
  t72 := Tryz.underlying68
  a72 := Tryz.isAgg68
  z72 := Tryz.sizeOf68
  v72 := Tryz.zeroValue68
  t75 := Tryz.underlying70
  a75 := Tryz.isAgg70
  z75 := Tryz.sizeOf70
  v75 := Tryz.zeroValue70
  t76 := Tryz.underlying71
  a76 := Tryz.isAgg71
  z76 := Tryz.sizeOf71
  v76 := Tryz.zeroValue71
  t127 := Tryz.underlying102
  a127 := Tryz.isAgg102
  z127 := Tryz.sizeOf102
  v127 := Tryz.zeroValue102
  t164 := Tryz.underlying114
  a164 := Tryz.isAgg114
  z164 := Tryz.sizeOf114
  v164 := Tryz.zeroValue114 }
theorem Tryz.Builder_Extra_156 : Builder.Extra Tryz.prog Tryz.lays156_ren := {
  sizeBuilder := by kernel_rfl
  liesBuilder := by kernel_rfl
  t5 := Tryz.underlying5
  a5 := Tryz.isAgg5
  z5 := Tryz.sizeOf5
  v5 := Tryz.zeroValue5
  infoByte := by kernel_rfl
  cellsByte := by kernel_rfl
  sizeByte := by kernel_rfl
  neB5 := by decide }
open Go.RowKit in
theorem Tryz.strings_Join_none (a : Option Addr) (c : Nat) (sep : ByteArray) (w : World) :
    Calls Tryz.prog 30 #[.slice a 0 c, .string sep] w fun e w' => e = .returned (.string ⟨#[]⟩) ∧ w' = w := Any.strings_Join_none Tryz.lays156 Tryz.Builder_Extra_156 a c sep w
open Go.RowKit in
theorem Tryz.strings_Join (bk o c : Nat) (xs : List ByteArray) (sep : ByteArray) (w : World) (hcells : ∀ (j : Nat) x, xs[j]? = some x → w.cell? ⟨bk, o + j, none⟩ = some (.string x)) (hbk : bk < w.heap.size) (hN : xs.length ≤ 140737488355328) (hcap : xs.length ≤ c) (hlen : (Lib.join (xs.map (·.data.toList)) sep.data.toList).length ≤ 140737488355328) :
    Calls Tryz.prog 30 #[.slice (some ⟨bk, o, none⟩) xs.length c, .string sep] w fun e w' => e = .returned (.string ⟨(Lib.join (xs.map (·.data.toList)) sep.data.toList).toArray⟩) ∧ Below w.heap.size w w' := Any.strings_Join Tryz.lays156 Tryz.Builder_Extra_156 bk o c xs sep w hcells hbk hN hcap hlen
def Tryz.laysM171_ren : Go.Shelf.Ren := ⟨fun | 171 => 27 | 243 => 51 | 246 => 52 | 283 => 70 | 284 => 71 | 285 => 72 | 286 => 73 | 129 => 92 | 317 => 91 | 318 => 93 | 319 => 94 | 320 => 95 | 337 => 111 | 338 => 112 | n => n, fun | 3 => 3 | 9 => 9 | 2 => 2 | 4 => 4 | 171 => 116 | 0 => 0 | 53 => 117 | 37 => 33 | 5 => 5 | 173 => 120 | 212 => 138 | 51 => 139 | 20 => 20 | 213 => 140 | 46 => 98 | 232 => 22 | 233 => 160 | n => n, fun | 17 => 0 | 18 => 2 | 19 => 3 | n => n⟩
theorem Tryz.laysM171 : Go.Proofs.LaysM.n171 Tryz.prog Tryz.laysM171_ren := {
  mixed := by kernel_rfl
  f129 := Tryz.func92.trans (congrArg some (by kernel_rfl))
  f171 := Tryz.func27.trans (congrArg some (by kernel_rfl))
  f243 := Tryz.func51.trans (congrArg some (by kernel_rfl))
  f246 := Tryz.func52.trans (congrArg some (by kernel_rfl))
  f283 := Tryz.func70.trans (congrArg some (by kernel_rfl))
  f284 := Tryz.func71.trans (congrArg some (by kernel_rfl))
  f285 := Tryz.func72.trans (congrArg some (by kernel_rfl))
  f286 := Tryz.func73.trans (congrArg some (by kernel_rfl))
  f317 := Tryz.func91.trans (congrArg some (by kernel_rfl))
  f318 := Tryz.func93.trans (congrArg some (by kernel_rfl))
  f319 := Tryz.func94.trans (congrArg some (by kernel_rfl))
  f320 := Tryz.func95.trans (congrArg some (by kernel_rfl))
  f337 := Tryz.func111.trans (congrArg some (by kernel_rfl))
  f338 := Tryz.func112.trans (congrArg some (by kernel_rfl))
  t0 := Tryz.underlying0
  a0 := Tryz.isAgg0
  z0 := Tryz.sizeOf0
  v0 := Tryz.zeroValue0
  t2 := Tryz.underlying2
  a2 := Tryz.isAgg2
  z2 := Tryz.sizeOf2
  v2 := Tryz.zeroValue2
  t3 := Tryz.underlying3
  a3 := Tryz.isAgg3
  z3 := Tryz.sizeOf3
  v3 := Tryz.zeroValue3
  t4 := Tryz.underlying4
  a4 := Tryz.isAgg4
  z4 := Tryz.sizeOf4
  v4 := Tryz.zeroValue4
  t5 := Tryz.underlying5
  a5 := Tryz.isAgg5
  z5 := Tryz.sizeOf5
  v5 := Tryz.zeroValue5
  t9 := Tryz.underlying9
  a9 := Tryz.isAgg9
  z9 := Tryz.sizeOf9
  v9 := Tryz.zeroValue9
  t20 := Tryz.underlying20
  a20 := Tryz.isAgg20
  z20 := Tryz.sizeOf20
  v20 := Tryz.zeroValue20
  t37 := Tryz.underlying33
  a37 := Tryz.isAgg33
  z37 := Tryz.sizeOf33
  v37 := Tryz.zeroValue33
  t46 := Tryz.underlying98
  a46 := Tryz.isAgg98
  z46 := Tryz.sizeOf98
  v46 := Tryz.zeroValue98
  t51 := Tryz.underlying139
  a51 := Tryz.isAgg139
  z51 := Tryz.sizeOf139
  v51 := Tryz.zeroValue139
  t53 := Tryz.underlying117
  a53 := Tryz.isAgg117
  z53 := Tryz.sizeOf117
  v53 := Tryz.zeroValue117
  t171 := Tryz.underlying116
  a171 := Tryz.isAgg116
  z171 := Tryz.sizeOf116
  v171 := Tryz.zeroValue116
  t173 := Tryz.underlying120
  a173 := Tryz.isAgg120
  z173 := Tryz.sizeOf120
  v173 := Tryz.zeroValue120
  t212 := Tryz.underlying138
  a212 := Tryz.isAgg138
  z212 := Tryz.sizeOf138
  v212 := Tryz.zeroValue138
  t213 := Tryz.underlying140
  a213 := Tryz.isAgg140
  z213 := Tryz.sizeOf140
  t232 := Tryz.underlying22
  a232 := Tryz.isAgg22
  z232 := Tryz.sizeOf22
  v232 := Tryz.zeroValue22
  t233 := Tryz.underlying160
  a233 := Tryz.isAgg160
  z233 := Tryz.sizeOf160
  v233 := Tryz.zeroValue160
  g17 := by kernel_rfl
  g18 := by kernel_rfl
  g19 := by kernel_rfl
  i0 := by kernel_rfl
  i2 := by kernel_rfl
  i3 := by kernel_rfl
  i4 := by kernel_rfl
  i5 := by kernel_rfl
  i9 := by kernel_rfl
  i20 := by kernel_rfl
  i37 := by kernel_rfl
  i46 := by kernel_rfl
  i51 := by kernel_rfl
  i53 := by kernel_rfl
  i171 := by kernel_rfl
  i173 := by kernel_rfl
  i212 := by kernel_rfl
  i232 := by kernel_rfl
  i233 := by kernel_rfl
  m17 := by kernel_rfl
  m18 := by kernel_rfl
  m19 := by kernel_rfl }
open Go.RowKit Go.Sort Go.Lib in
theorem Tryz.strconv_Itoa (n : Int) (h0 : -9223372036854775808 ≤ n) (h1 : n ≤ 9223372036854775807) (w : World) (htab : Lib.TabIs Tryz.prog w "internal/strconv.uint64pow10" .u64 Lib.pow10Tab) :
    Calls Tryz.prog 27 #[.int .i64 n] w fun e w' => e = .returned (.string ⟨(Lib.itoa n).toArray⟩) ∧ ∃ k os, w' = grow (w.drewN k) os := Any.strconv_Itoa Tryz.laysM171 n h0 h1 w htab
def Tryz.laysM173_ren : Go.Shelf.Ren := ⟨fun | 173 => 29 | 246 => 52 | 283 => 70 | 284 => 71 | 285 => 72 | 286 => 73 | 129 => 92 | 317 => 91 | 318 => 93 | 319 => 94 | 320 => 95 | 337 => 111 | 338 => 112 | n => n, fun | 2 => 2 | 3 => 3 | 9 => 9 | 4 => 4 | 171 => 116 | 0 => 0 | 53 => 117 | 37 => 33 | 5 => 5 | 173 => 120 | 212 => 138 | 51 => 139 | 20 => 20 | 213 => 140 | 46 => 98 | 232 => 22 | 233 => 160 | n => n, fun | 17 => 0 | 18 => 2 | 19 => 3 | n => n⟩
theorem Tryz.laysM173 : Go.Proofs.LaysM.n173 Tryz.prog Tryz.laysM173_ren := {
  mixed := by kernel_rfl
  f129 := Tryz.func92.trans (congrArg some (by kernel_rfl))
  f173 := Tryz.func29.trans (congrArg some (by kernel_rfl))
  f246 := Tryz.func52.trans (congrArg some (by kernel_rfl))
  f283 := Tryz.func70.trans (congrArg some (by kernel_rfl))
  f284 := Tryz.func71.trans (congrArg some (by kernel_rfl))
  f285 := Tryz.func72.trans (congrArg some (by kernel_rfl))
  f286 := Tryz.func73.trans (congrArg some (by kernel_rfl))
  f317 := Tryz.func91.trans (congrArg some (by kernel_rfl))
  f318 := Tryz.func93.trans (congrArg some (by kernel_rfl))
  f319 := Tryz.func94.trans (congrArg some (by kernel_rfl))
  f320 := Tryz.func95.trans (congrArg some (by kernel_rfl))
  f337 := Tryz.func111.trans (congrArg some (by kernel_rfl))
  f338 := Tryz.func112.trans (congrArg some (by kernel_rfl))
  t0 := Tryz.underlying0
  a0 := Tryz.isAgg0
  z0 := Tryz.sizeOf0
  v0 := Tryz.zeroValue0
  t2 := Tryz.underlying2
  a2 := Tryz.isAgg2
  z2 := Tryz.sizeOf2
  v2 := Tryz.zeroValue2
  t3 := Tryz.underlying3
  a3 := Tryz.isAgg3
  z3 := Tryz.sizeOf3
  v3 := Tryz.zeroValue3
  t4 := Tryz.underlying4
  a4 := Tryz.isAgg4
  z4 := Tryz.sizeOf4
  v4 := Tryz.zeroValue4
  t5 := Tryz.underlying5
  a5 := Tryz.isAgg5
  z5 := Tryz.sizeOf5
  v5 := Tryz.zeroValue5
  t9 := Tryz.underlying9
  a9 := Tryz.isAgg9
  z9 := Tryz.sizeOf9
  v9 := Tryz.zeroValue9
  t20 := Tryz.underlying20
  a20 := Tryz.isAgg20
  z20 := Tryz.sizeOf20
  v20 := Tryz.zeroValue20
  t37 := Tryz.underlying33
  a37 := Tryz.isAgg33
  z37 := Tryz.sizeOf33
  v37 := Tryz.zeroValue33
  t46 := Tryz.underlying98
  a46 := Tryz.isAgg98
  z46 := Tryz.sizeOf98
  v46 := Tryz.zeroValue98
  t51 := Tryz.underlying139
  a51 := Tryz.isAgg139
  z51 := Tryz.sizeOf139
  v51 := Tryz.zeroValue139
  t53 := Tryz.underlying117
  a53 := Tryz.isAgg117
  z53 := Tryz.sizeOf117
  v53 := Tryz.zeroValue117
  t171 := Tryz.underlying116
  a171 := Tryz.isAgg116
  z171 := Tryz.sizeOf116
  v171 := Tryz.zeroValue116
  t173 := Tryz.underlying120
  a173 := Tryz.isAgg120
  z173 := Tryz.sizeOf120
  v173 := Tryz.zeroValue120
  t212 := Tryz.underlying138
  a212 := Tryz.isAgg138
  z212 := Tryz.sizeOf138
  v212 := Tryz.zeroValue138
  t213 := Tryz.underlying140
  a213 := Tryz.isAgg140
  z213 := Tryz.sizeOf140
  t232 := Tryz.underlying22
  a232 := Tryz.isAgg22
  z232 := Tryz.sizeOf22
  v232 := Tryz.zeroValue22
  t233 := Tryz.underlying160
  a233 := Tryz.isAgg160
  z233 := Tryz.sizeOf160
  v233 := Tryz.zeroValue160
  g17 := by kernel_rfl
  g18 := by kernel_rfl
  g19 := by kernel_rfl
  i0 := by kernel_rfl
  i2 := by kernel_rfl
  i3 := by kernel_rfl
  i4 := by kernel_rfl
  i5 := by kernel_rfl
  i9 := by kernel_rfl
  i20 := by kernel_rfl
  i37 := by kernel_rfl
  i46 := by kernel_rfl
  i51 := by kernel_rfl
  i53 := by kernel_rfl
  i171 := by kernel_rfl
  i173 := by kernel_rfl
  i212 := by kernel_rfl
  i232 := by kernel_rfl
  i233 := by kernel_rfl
  m17 := by kernel_rfl
  m18 := by kernel_rfl
  m19 := by kernel_rfl }
open Go.RowKit Go.Sort Go.Lib in
theorem Tryz.strconv_FormatInt_10 (n : Int) (h0 : -9223372036854775808 ≤ n) (h1 : n ≤ 9223372036854775807) (w : World) (htab : Lib.TabIs Tryz.prog w "internal/strconv.uint64pow10" .u64 Lib.pow10Tab) :
    Calls Tryz.prog 29 #[.int .i64 n, .int .i64 10] w fun e w' => e = .returned (.string ⟨(Lib.itoa n).toArray⟩) ∧ ∃ k os, w' = grow (w.drewN k) os := Any.strconv_FormatInt_10 Tryz.laysM173 n h0 h1 w htab
def Tryz.lays145_ren : Go.Shelf.Ren := ⟨fun | 145 => 41 | 220 => 64 | 219 => 90 | 217 => 107 | 225 => 108 | 224 => 109 | 267 => 110 | 266 => 122 | 314 => 123 | n => n, fun | 9 => 9 | 4 => 4 | 59 => 89 | 3 => 3 | 5 => 5 | 46 => 98 | 146 => 158 | 51 => 139 | n => n, fun | 1 => 1 | n => n⟩
theorem Tryz.lays145 : Go.Proofs.Lays.n145 Tryz.prog Tryz.lays145_ren := {
  mixed := by kernel_rfl
  f145 := Tryz.func41.trans (congrArg some (by kernel_rfl))
  f217 := Tryz.func107.trans (congrArg some (by kernel_rfl))
  f219 := Tryz.func90.trans (congrArg some (by kernel_rfl))
  f220 := Tryz.func64.trans (congrArg some (by kernel_rfl))
  f224 := Tryz.func109.trans (congrArg some (by kernel_rfl))
  f225 := Tryz.func108.trans (congrArg some (by kernel_rfl))
  f266 := Tryz.func122.trans (congrArg some (by kernel_rfl))
  f267 := Tryz.func110.trans (congrArg some (by kernel_rfl))
  f314 := Tryz.func123.trans (congrArg some (by kernel_rfl))
  t3 := Tryz.underlying3
  a3 := Tryz.isAgg3
  z3 := Tryz.sizeOf3
  v3 := Tryz.zeroValue3
  t4 := Tryz.underlying4
  a4 := Tryz.isAgg4
  z4 := Tryz.sizeOf4
  v4 := Tryz.zeroValue4
  t5 := Tryz.underlying5
  a5 := Tryz.isAgg5
  z5 := Tryz.sizeOf5
  v5 := Tryz.zeroValue5
  t9 := Tryz.underlying9
  a9 := Tryz.isAgg9
  z9 := Tryz.sizeOf9
  v9 := Tryz.zeroValue9
  t46 := Tryz.underlying98
  a46 := Tryz.isAgg98
  z46 := Tryz.sizeOf98
  v46 := Tryz.zeroValue98
  t51 := Tryz.underlying139
  a51 := Tryz.isAgg139
  z51 := Tryz.sizeOf139
  v51 := Tryz.zeroValue139
  t59 := Tryz.underlying89
  a59 := Tryz.isAgg89
  z59 := Tryz.sizeOf89
  v59 := Tryz.zeroValue89
  t146 := Tryz.underlying158
  a146 := Tryz.isAgg158
  z146 := Tryz.sizeOf158
  v146 := Tryz.zeroValue158
  g1 := by kernel_rfl }
open Go.RowKit Go.Lib in
theorem Tryz.strings_Cut (s sep : ByteArray) (m : Int) (w : World) (hs : s.size < 4294967281) (hm : w.cell? ⟨1, 0, none⟩ = some (.int .i64 m)) :
    Calls Tryz.prog 41 #[.string s, .string sep] w fun e w' => e = .returned (.tuple #[.string ⟨(Lib.cut s.data.toList sep.data.toList).1.toArray⟩, .string ⟨(Lib.cut s.data.toList sep.data.toList).2.1.toArray⟩, .bool (Lib.cut s.data.toList sep.data.toList).2.2]) ∧ ∃ n, w' = w.drewN n := Any.strings_Cut Tryz.lays145 s sep m w hs hm
def Tryz.lays148_ren : Go.Shelf.Ren := ⟨fun | 148 => 119 | 222 => 126 | 223 => 127 | 269 => 129 | n => n, fun | 9 => 9 | 3 => 3 | 4 => 4 | 5 => 5 | 146 => 158 | 51 => 139 | 46 => 98 | n => n, fun | n => n⟩
theorem Tryz.lays148 : Go.Proofs.Lays.n148 Tryz.prog Tryz.lays148_ren := {
  mixed := by kernel_rfl
  f148 := Tryz.func119.trans (congrArg some (by kernel_rfl))
  f222 := Tryz.func126.trans (congrArg some (by kernel_rfl))
  f223 := Tryz.func127.trans (congrArg some (by kernel_rfl))
  f269 := Tryz.func129.trans (congrArg some (by kernel_rfl))
  t3 := Tryz.underlying3
  a3 := Tryz.isAgg3
  z3 := Tryz.sizeOf3
  v3 := Tryz.zeroValue3
  t4 := Tryz.underlying4
  a4 := Tryz.isAgg4
  z4 := Tryz.sizeOf4
  v4 := Tryz.zeroValue4
  t5 := Tryz.underlying5
  a5 := Tryz.isAgg5
  z5 := Tryz.sizeOf5
  v5 := Tryz.zeroValue5
  t9 := Tryz.underlying9
  a9 := Tryz.isAgg9
  z9 := Tryz.sizeOf9
  v9 := Tryz.zeroValue9
  t46 := Tryz.underlying98
  a46 := Tryz.isAgg98
  z46 := Tryz.sizeOf98
  v46 := Tryz.zeroValue98
  t51 := Tryz.underlying139
  a51 := Tryz.isAgg139
  z51 := Tryz.sizeOf139
  v51 := Tryz.zeroValue139
  t146 := Tryz.underlying158
  a146 := Tryz.isAgg158
  z146 := Tryz.sizeOf158
  v146 := Tryz.zeroValue158 }
open Go.RowKit Go.Lib in
theorem Tryz.strings_LastIndex (s sub : ByteArray) (hs : s.size < 4611686018427387904) (w : World) :
    Calls Tryz.prog 119 #[.string s, .string sub] w fun e w' => e = .returned (.int .i64 (Lib.lastIndex s.data.toList sub.data.toList)) ∧ w' = w := Any.strings_LastIndex Tryz.lays148 s sub hs w
def Tryz.lays99_ren : Go.Shelf.Ren := ⟨fun | 99 => 120 | 206 => 128 | n => n, fun | 9 => 9 | 4 => 4 | 3 => 3 | n => n, fun | n => n⟩
theorem Tryz.lays99 : Go.Proofs.Lays.n99 Tryz.prog Tryz.lays99_ren := {
  mixed := by kernel_rfl
  f99 := Tryz.func120.trans (congrArg some (by kernel_rfl))
  f206 := Tryz.func128.trans (congrArg some (by kernel_rfl))
  t3 := Tryz.underlying3
  a3 := Tryz.isAgg3
  z3 := Tryz.sizeOf3
  v3 := Tryz.zeroValue3
  t4 := Tryz.underlying4
  a4 := Tryz.isAgg4
  z4 := Tryz.sizeOf4
  v4 := Tryz.zeroValue4
  t9 := Tryz.underlying9
  a9 := Tryz.isAgg9
  z9 := Tryz.sizeOf9
  v9 := Tryz.zeroValue9 }
open Go.RowKit Go.Lib in
theorem Tryz.strings_HasPrefix (s p : ByteArray) (w : World) :
    Calls Tryz.prog 120 #[.string s, .string p] w fun e w' => e = .returned (.bool (Lib.hasPrefix s.data.toList p.data.toList)) ∧ w' = w := Any.strings_HasPrefix Tryz.lays99 s p w
def Tryz.lays100_ren : Go.Shelf.Ren := ⟨fun | 100 => 121 | 207 => 100 | n => n, fun | 9 => 9 | 4 => 4 | 3 => 3 | n => n, fun | n => n⟩
theorem Tryz.lays100 : Go.Proofs.Lays.n100 Tryz.prog Tryz.lays100_ren := {
  mixed := by kernel_rfl
  f100 := Tryz.func121.trans (congrArg some (by kernel_rfl))
  f207 := Tryz.func100.trans (congrArg some (by kernel_rfl))
  t3 := Tryz.underlying3
  a3 := Tryz.isAgg3
  z3 := Tryz.sizeOf3
  v3 := Tryz.zeroValue3
  t4 := Tryz.underlying4
  a4 := Tryz.isAgg4
  z4 := Tryz.sizeOf4
  v4 := Tryz.zeroValue4
  t9 := Tryz.underlying9
  a9 := Tryz.isAgg9
  z9 := Tryz.sizeOf9
  v9 := Tryz.zeroValue9 }
open Go.RowKit Go.Lib in
theorem Tryz.strings_HasSuffix (s p : ByteArray) (w : World) (hs : s.size ≤ 9223372036854775807) :
    Calls Tryz.prog 121 #[.string s, .string p] w fun e w' => e = .returned (.bool (Lib.hasSuffix s.data.toList p.data.toList)) ∧ w' = w := Any.strings_HasSuffix Tryz.lays100 s p w hs
def Tryz.lays102_ren : Go.Shelf.Ren := ⟨fun | 102 => 55 | 209 => 76 | 207 => 100 | n => n, fun | 9 => 9 | 4 => 4 | 3 => 3 | n => n, fun | n => n⟩
theorem Tryz.lays102 : Go.Proofs.Lays.n102 Tryz.prog Tryz.lays102_ren := {
  mixed := by kernel_rfl
  f102 := Tryz.func55.trans (congrArg some (by kernel_rfl))
  f207 := Tryz.func100.trans (congrArg some (by kernel_rfl))
  f209 := Tryz.func76.trans (congrArg some (by kernel_rfl))
  t3 := Tryz.underlying3
  a3 := Tryz.isAgg3
  z3 := Tryz.sizeOf3
  v3 := Tryz.zeroValue3
  t4 := Tryz.underlying4
  a4 := Tryz.isAgg4
  z4 := Tryz.sizeOf4
  v4 := Tryz.zeroValue4
  t9 := Tryz.underlying9
  a9 := Tryz.isAgg9
  z9 := Tryz.sizeOf9
  v9 := Tryz.zeroValue9 }
open Go.RowKit Go.Lib in
theorem Tryz.strings_TrimSuffix (s p : ByteArray) (w : World) (hs : s.size ≤ 9223372036854775807) :
    Calls Tryz.prog 55 #[.string s, .string p] w fun e w' => e = .returned (.string ⟨(Lib.trimSuffix s.data.toList p.data.toList).toArray⟩) ∧ w' = w := Any.strings_TrimSuffix Tryz.lays102 s p w hs
def Tryz.lays146_ren : Go.Shelf.Ren := ⟨fun | 146 => 54 | 221 => 75 | 268 => 97 | 138 => 98 | 143 => 99 | 195 => 113 | 197 => 102 | 218 => 114 | 219 => 90 | 260 => 115 | 217 => 107 | 225 => 108 | 224 => 109 | 267 => 110 | 266 => 122 | 314 => 123 | n => n, fun | 9 => 9 | 31 => 40 | 3 => 3 | 4 => 4 | 0 => 0 | 105 => 146 | 21 => 21 | 5 => 5 | 46 => 98 | 119 => 161 | 139 => 164 | 138 => 163 | 146 => 158 | 51 => 139 | n => n, fun | 1 => 1 | 3 => 4 | 4 => 5 | n => n⟩
theorem Tryz.lays146 : Go.Proofs.Lays.n146 Tryz.prog Tryz.lays146_ren := {
  mixed := by kernel_rfl
  f138 := Tryz.func98.trans (congrArg some (by kernel_rfl))
  f143 := Tryz.func99.trans (congrArg some (by kernel_rfl))
  f146 := Tryz.func54.trans (congrArg some (by kernel_rfl))
  f195 := Tryz.func113.trans (congrArg some (by kernel_rfl))
  f197 := Tryz.func102.trans (congrArg some (by kernel_rfl))
  f217 := Tryz.func107.trans (congrArg some (by kernel_rfl))
  f218 := Tryz.func114.trans (congrArg some (by kernel_rfl))
  f219 := Tryz.func90.trans (congrArg some (by kernel_rfl))
  f221 := Tryz.func75.trans (congrArg some (by kernel_rfl))
  f224 := Tryz.func109.trans (congrArg some (by kernel_rfl))
  f225 := Tryz.func108.trans (congrArg some (by kernel_rfl))
  f260 := Tryz.func115.trans (congrArg some (by kernel_rfl))
  f266 := Tryz.func122.trans (congrArg some (by kernel_rfl))
  f267 := Tryz.func110.trans (congrArg some (by kernel_rfl))
  f268 := Tryz.func97.trans (congrArg some (by kernel_rfl))
  f314 := Tryz.func123.trans (congrArg some (by kernel_rfl))
  t0 := Tryz.underlying0
  a0 := Tryz.isAgg0
  z0 := Tryz.sizeOf0
  v0 := Tryz.zeroValue0
  t3 := Tryz.underlying3
  a3 := Tryz.isAgg3
  z3 := Tryz.sizeOf3
  v3 := Tryz.zeroValue3
  t4 := Tryz.underlying4
  a4 := Tryz.isAgg4
  z4 := Tryz.sizeOf4
  v4 := Tryz.zeroValue4
  t5 := Tryz.underlying5
  a5 := Tryz.isAgg5
  z5 := Tryz.sizeOf5
  v5 := Tryz.zeroValue5
  t9 := Tryz.underlying9
  a9 := Tryz.isAgg9
  z9 := Tryz.sizeOf9
  v9 := Tryz.zeroValue9
  t21 := Tryz.underlying21
  a21 := Tryz.isAgg21
  z21 := Tryz.sizeOf21
  v21 := Tryz.zeroValue21
  t31 := Tryz.underlying40
  a31 := Tryz.isAgg40
  z31 := Tryz.sizeOf40
  v31 := Tryz.zeroValue40
  t46 := Tryz.underlying98
  a46 := Tryz.isAgg98
  z46 := Tryz.sizeOf98
  v46 := Tryz.zeroValue98
  t51 := Tryz.underlying139
  a51 := Tryz.isAgg139
  z51 := Tryz.sizeOf139
  v51 := Tryz.zeroValue139
  t105 := Tryz.underlying146
  a105 := Tryz.isAgg146
  z105 := Tryz.sizeOf146
  v105 := Tryz.zeroValue146
  t119 := Tryz.underlying161
  a119 := Tryz.isAgg161
  z119 := Tryz.sizeOf161
  t138 := Tryz.underlying163
  a138 := Tryz.isAgg163
  z138 := Tryz.sizeOf163
  v138 := Tryz.zeroValue163
  t139 := Tryz.underlying164
  a139 := Tryz.isAgg164
  z139 := Tryz.sizeOf164
  v139 := Tryz.zeroValue164
  t146 := Tryz.underlying158
  a146 := Tryz.isAgg158
  z146 := Tryz.sizeOf158
  v146 := Tryz.zeroValue158
  g1 := by kernel_rfl
  g3 := by kernel_rfl
  g4 := by kernel_rfl }
open Go.RowKit Go.Lib in
theorem Tryz.strings_Split (s sep : ByteArray) (m : Int) (w : World) (hs : s.size < 4294967281) (hm : w.cell? ⟨1, 0, none⟩ = some (.int .i64 m)) (h1 : 1 ≤ sep.size) :
    Calls Tryz.prog 54 #[.string s, .string sep] w fun e w' =>
      e = .returned (.slice (some ⟨w.heap.size, 0, none⟩) (Lib.countB s sep + 1) (Lib.countB s sep + 1)) ∧ w' = w.alloc (.cells ((Lib.splitB sep 0 (Lib.countB s sep) s).map Value.string).toArray 9) := Any.strings_Split Tryz.lays146 (by kernel_rfl) s sep m w hs hm h1
end Go.Proofs
end
section
namespace Go.Proofs.YtdceppjoipoohaaGreatDoor
open Go Go.Sy
set_option linter.all false
set_option maxRecDepth 100000
set_option maxHeartbeats 4000000
open Go.RowKit (Below)
theorem Below.grow' {w : World} (os : Array Obj) : Below w.heap.size w (Go.Sort.grow w os) := ⟨rfl, rfl, rfl, by simp [Go.Sort.grow], fun k hk => by simp [Go.Sort.grow, Array.getElem?_append, hk]⟩
theorem row_whole {w : World} {g : Nat} {vs : List Value} (h0 : vs ≠ []) (h : ∀ j : Nat, w.cell? ⟨g, j, none⟩ = vs[j]?) : ∃ cs ty fz, w.heap[g]? = some (.cells cs ty fz) ∧ cs.toList = vs := by
  have hx : ∀ j : Nat, w.cell? ⟨g, j, none⟩ = match w.heap[g]? with | some (.cells cs _ _) => cs[j]? | _ => none := fun j => by
    unfold World.cell?
    cases w.heap[g]? with
    | none => rfl
    | some o => cases o <;> rfl
  cases hg : w.heap[g]? with
  | none =>
    have := h 0
    rw [hx, hg] at this
    cases vs with
    | nil => exact absurd rfl h0
    | cons => cases this
  | some o =>
    cases o with
    | cells cs ty fz =>
      refine ⟨cs, ty, fz, rfl, List.ext_getElem? fun j => ?_⟩
      have := h j
      rw [hx, hg] at this
      rw [Array.getElem?_toList]
      exact this
    | _ =>
      have := h 0
      rw [hx, hg] at this
      cases vs with
      | nil => exact absurd rfl h0
      | cons => cases this
theorem tab_is {I : Nat → Nat → Prop} {w : World} (h : TabsOk I w) : Go.Lib.TabIs Tryz.prog w "internal/strconv.uint64pow10" .u64 Go.Lib.pow10Tab := by
  obtain ⟨cs, ty, fz, h1, h2⟩ := row_whole (g := 0) (vs := Go.Lib.pow10Tab.map fun z => Value.int .u64 z) (by simp [Go.Lib.pow10Tab]) fun j => by
    rw [(h.1 0 .u64 _ rfl j).1, List.getElem?_map]; rfl
  unfold Go.Lib.TabIs World.var?
  have hn : Tryz.prog.globalNamed "internal/strconv.uint64pow10" = some 0 := by kernel_rfl
  rw [hn]
  simp only [Option.bind_some, h1]
  rw [← h2]
theorem max_is {I : Nat → Nat → Prop} {w : World} (h : TabsOk I w) : ∃ m, w.cell? ⟨1, 0, none⟩ = some (.int .i64 m) := (h.2 1 (by simp [tabInts])).2
theorem itoa_at {B : List Box} {n : Int} (h : -9223372036854775808 ≤ n ∧ n ≤ 9223372036854775807) : ACall Tryz.prog 27 [.int .i64 n] B fun c B' => c = .str (Go.Lib.itoa n) ∧ B' = B :=
  acall_of_calls (Q := fun c => c = .str (Go.Lib.itoa n)) (by kernel_rfl) fun I μ w vs ht hI hv => by
    obtain ⟨ws, rfl, hv2⟩ := R.int_cons hv
    obtain rfl := R.none hv2
    refine (Tryz.strconv_Itoa n h.1 h.2 w (tab_is ht)).mono fun e w' ⟨he, k, os, hw⟩ => ?_
    subst hw
    exact ⟨_, _, he, rfl, (Below.drewN' k).trans (by have := Below.grow' (w := w.drewN k) os; exact this), .str _ (.nil _)⟩
theorem fmt10_at {B : List Box} {n : Int} (h : -9223372036854775808 ≤ n ∧ n ≤ 9223372036854775807) : ACall Tryz.prog 29 [.int .i64 n, .int .i64 10] B fun c B' => c = .str (Go.Lib.itoa n) ∧ B' = B :=
  acall_of_calls (Q := fun c => c = .str (Go.Lib.itoa n)) (by kernel_rfl) fun I μ w vs ht hI hv => by
    obtain ⟨ws, rfl, hv2⟩ := R.int_cons hv
    obtain ⟨ws, rfl, hv3⟩ := R.int_cons hv2
    obtain rfl := R.none hv3
    refine (Tryz.strconv_FormatInt_10 n h.1 h.2 w (tab_is ht)).mono fun e w' ⟨he, k, os, hw⟩ => ?_
    subst hw
    exact ⟨_, _, he, rfl, (Below.drewN' k).trans (by have := Below.grow' (w := w.drewN k) os; exact this), .str _ (.nil _)⟩
theorem lastIndex_at {B : List Box} {s t : List UInt8} (h : s.length < 4611686018427387904) : ACall Tryz.prog 119 [.str s, .str t] B fun c B' => c = .int .i64 (Go.Lib.lastIndex s t) ∧ B' = B :=
  acall_of_calls (Q := fun c => c = .int .i64 (Go.Lib.lastIndex s t)) (by kernel_rfl) fun I μ w vs ht hI hv => by
    obtain ⟨ws, rfl, hv2⟩ := R.str_cons hv
    obtain ⟨ws, rfl, hv3⟩ := R.str_cons hv2
    obtain rfl := R.none hv3
    refine (Tryz.strings_LastIndex ⟨s.toArray⟩ ⟨t.toArray⟩ h w).mono fun e w' ⟨he, hw⟩ => ?_
    subst hw
    exact ⟨_, _, he, by simp, Below.same, .int _ _ (.nil _)⟩
theorem hasPrefix_at {B : List Box} {s t : List UInt8} : ACall Tryz.prog 120 [.str s, .str t] B fun c B' => c = .bool (Go.Lib.hasPrefix s t) ∧ B' = B :=
  acall_of_calls (Q := fun c => c = .bool (Go.Lib.hasPrefix s t)) (by kernel_rfl) fun I μ w vs ht hI hv => by
    obtain ⟨ws, rfl, hv2⟩ := R.str_cons hv
    obtain ⟨ws, rfl, hv3⟩ := R.str_cons hv2
    obtain rfl := R.none hv3
    refine (Tryz.strings_HasPrefix ⟨s.toArray⟩ ⟨t.toArray⟩ w).mono fun e w' ⟨he, hw⟩ => ?_
    subst hw
    exact ⟨_, _, he, by simp, Below.same, .bool _ (.nil _)⟩
theorem hasSuffix_at {B : List Box} {s t : List UInt8} (h : s.length < 4611686018427387904) : ACall Tryz.prog 121 [.str s, .str t] B fun c B' => c = .bool (Go.Lib.hasSuffix s t) ∧ B' = B :=
  acall_of_calls (Q := fun c => c = .bool (Go.Lib.hasSuffix s t)) (by kernel_rfl) fun I μ w vs ht hI hv => by
    obtain ⟨ws, rfl, hv2⟩ := R.str_cons hv
    obtain ⟨ws, rfl, hv3⟩ := R.str_cons hv2
    obtain rfl := R.none hv3
    refine (Tryz.strings_HasSuffix ⟨s.toArray⟩ ⟨t.toArray⟩ w (by show s.length ≤ _; omega)).mono fun e w' ⟨he, hw⟩ => ?_
    subst hw
    exact ⟨_, _, he, by simp, Below.same, .bool _ (.nil _)⟩
theorem cutS_at {B : List Box} {s t : List UInt8} (h : s.length < 4294967281) : ACall Tryz.prog 41 [.str s, .str t] B fun c B' => c = .tup [.str (Go.Lib.cut s t).1, .str (Go.Lib.cut s t).2.1, .bool (Go.Lib.cut s t).2.2] ∧ B' = B :=
  acall_of_calls (Q := fun c => c = .tup [.str (Go.Lib.cut s t).1, .str (Go.Lib.cut s t).2.1, .bool (Go.Lib.cut s t).2.2]) (by kernel_rfl) fun I μ w vs ht hI hv => by
    obtain ⟨ws, rfl, hv2⟩ := R.str_cons hv
    obtain ⟨ws, rfl, hv3⟩ := R.str_cons hv2
    obtain rfl := R.none hv3
    obtain ⟨m, hm⟩ := max_is ht
    refine (Tryz.strings_Cut ⟨s.toArray⟩ ⟨t.toArray⟩ m w h hm).mono fun e w' ⟨he, k, hw⟩ => ?_
    subst hw
    exact ⟨_, _, he, rfl, Below.drewN' k, .tup (.str _ (.str _ (.bool _ (.nil _)))) (.nil _)⟩
def splitL (b : UInt8) : List UInt8 → List (List UInt8)
  | [] => [[]]
  | c :: s => if c = b then [] :: splitL b s else match splitL b s with
    | [] => [[c]]
    | x :: xs => (c :: x) :: xs
theorem splitL_ne (b : UInt8) : ∀ s, splitL b s ≠ []
  | [] => by simp [splitL]
  | c :: s => by
    rw [splitL]
    split
    · simp
    · split <;> simp
theorem index_one (b c : UInt8) (s : List UInt8) : Go.Lib.index (c :: s) [b] = if c = b then 0 else if Go.Lib.index s [b] = -1 then -1 else Go.Lib.index s [b] + 1 := by
  rw [Go.Lib.index]
  by_cases h : c = b
  · subst h; simp [List.isPrefixOf]
  · have : (b == c) = false := by simpa using Ne.symm h
    simp [List.isPrefixOf, this, h]
theorem splitL_miss (b : UInt8) : ∀ s : List UInt8, Go.Lib.index s [b] = -1 → splitL b s = [s]
  | [], _ => rfl
  | c :: s, h => by
    rw [index_one] at h
    have hg := Go.Lib.index_ge s [b]
    split at h
    · omega
    · rename_i hc
      split at h
      · rename_i h1
        rw [splitL, if_neg hc, splitL_miss b s h1]
      · omega
theorem splitL_hit (b : UInt8) : ∀ (s : List UInt8) (i : Nat), Go.Lib.index s [b] = i → splitL b s = s.take i :: splitL b (s.drop (i + 1))
  | [], i, h => by simp [Go.Lib.index] at h
  | c :: s, i, h => by
    rw [index_one] at h
    have hg := Go.Lib.index_ge s [b]
    split at h
    · rename_i hc
      have : i = 0 := by omega
      subst this
      rw [splitL, if_pos hc]; simp
    · rename_i hc
      split at h
      · omega
      · obtain ⟨k, rfl⟩ : ∃ k, i = k + 1 := ⟨i - 1, by omega⟩
        rw [splitL, if_neg hc, splitL_hit b s k (by omega)]
        simp
theorem splitK_one (b : UInt8) : ∀ (k : Nat) (s : List UInt8), s.count b = k → Go.Lib.splitK [b] 0 k s = splitL b s := by
  intro k
  induction k with
  | zero =>
    intro s hs
    have : Go.Lib.index s [b] = -1 := by
      induction s with
      | nil => simp [Go.Lib.index]
      | cons c s ih =>
        rw [List.count_cons] at hs
        by_cases hc : c = b
        · subst hc; simp at hs
        · rw [index_one, if_neg hc, if_pos (ih (by omega))]
    rw [splitL_miss b s this]; rfl
  | succ k ih =>
    intro s hs
    rw [Go.Lib.splitK]
    have hg := Go.Lib.index_ge s [b]
    by_cases hm : Go.Lib.index s [b] = -1
    · exfalso
      have key : ∀ s : List UInt8, Go.Lib.index s [b] = -1 → s.count b = 0 := by
        intro s
        induction s with
        | nil => simp
        | cons c s ih =>
          intro h
          rw [index_one] at h
          have hg := Go.Lib.index_ge s [b]
          split at h
          · omega
          · rename_i hc
            split at h
            · rename_i h1
              rw [List.count_cons, ih h1]; simp [hc]
            · omega
      rw [key s hm] at hs
      omega
    · obtain ⟨i, hi⟩ : ∃ i : Nat, Go.Lib.index s [b] = i := ⟨(Go.Lib.index s [b]).toNat, by omega⟩
      rw [splitL_hit b s i hi, hi, if_neg (by simp)]
      have hcount : ∀ (s : List UInt8) (i : Nat), Go.Lib.index s [b] = i → s.count b = (s.drop (i + 1)).count b + 1 := by
        intro s
        induction s with
        | nil => intro i h; simp [Go.Lib.index] at h
        | cons c s ih =>
          intro i h
          rw [index_one] at h
          have hg := Go.Lib.index_ge s [b]
          split at h
          · rename_i hc
            have : i = 0 := by omega
            subst this hc
            simp
          · rename_i hc
            split at h
            · omega
            · obtain ⟨k, rfl⟩ : ∃ k, i = k + 1 := ⟨i - 1, by omega⟩
              rw [List.count_cons, ih k (by omega)]; simp [hc]
      have := hcount s i hi
      rw [← ih (s.drop (i + 1)) (by omega)]
      simp
theorem strs_rel {I : Nat → Nat → Prop} {μ : List (List Go.Sy.Place)} {w : World} : ∀ L : List (List UInt8), R I μ w true (L.map CV.str) (L.map fun l => Value.string ⟨l.toArray⟩)
  | [] => .nil _
  | l :: L => .str l (strs_rel L)
theorem split_at {B : List Box} {s : List UInt8} {b : UInt8} (h : s.length < 4294967281) : ACall Tryz.prog 54 [.str s, .str [b]] B fun c B' => c = .lst (splitL b s).length ((splitL b s).map .str) true ∧ B' = B :=
  acall_of_calls (Q := fun c => c = .lst (splitL b s).length ((splitL b s).map .str) true) (by kernel_rfl) fun I μ w vs ht hI hv => by
    obtain ⟨ws, rfl, hv2⟩ := R.str_cons hv
    obtain ⟨ws, rfl, hv3⟩ := R.str_cons hv2
    obtain rfl := R.none hv3
    obtain ⟨m, hm⟩ := max_is ht
    have hc : Go.Lib.countB ⟨s.toArray⟩ ⟨[b].toArray⟩ = s.count b := by
      have : Go.Lib.countB ⟨s.toArray⟩ ⟨[b].toArray⟩ = Go.Lib.count s [b] := rfl
      rw [this, Go.Lib.count_one]
    have hk := Go.Lib.splitB_data ⟨[b].toArray⟩ 0 (s.count b) ⟨s.toArray⟩
    have e1 : (⟨s.toArray⟩ : ByteArray).data.toList = s := by simp
    have e2 : (⟨[b].toArray⟩ : ByteArray).data.toList = [b] := by simp
    rw [e1, e2, splitK_one b _ s rfl] at hk
    have hl : s.count b + 1 = (splitL b s).length := by
      rw [← hk, List.length_map, Go.Lib.splitB_all ⟨[b].toArray⟩ (Nat.le_refl 1) 0 (s.count b) ⟨s.toArray⟩ hc]
    have hx : (Go.Lib.splitB ⟨[b].toArray⟩ 0 (s.count b) ⟨s.toArray⟩).map Value.string = (splitL b s).map fun l => Value.string ⟨l.toArray⟩ := by
      rw [← hk, List.map_map]
      congr 1
    refine (Tryz.strings_Split ⟨s.toArray⟩ ⟨[b].toArray⟩ m w h hm (Nat.le_refl 1)).mono fun e w' ⟨he, hw⟩ => ?_
    rw [hc, hl] at he
    rw [hc, hx] at hw
    have hp : w'.heap = w.heap.push (.cells ((splitL b s).map fun l => Value.string ⟨l.toArray⟩).toArray 9) := by rw [hw]; rfl
    have hbel : Below w.heap.size w w' := Below.of_heap (Nat.le_refl _) hp (by rw [hw]; rfl) (by rw [hw]; rfl) (by rw [hw]; rfl)
    refine ⟨_, _, he, rfl, hbel, ?_⟩
    have hcell : ∀ (j : Nat) (v : Value), ((splitL b s).map fun l => Value.string ⟨l.toArray⟩)[j]? = some v → w'.cell? ⟨w.heap.size, 0 + j, none⟩ = some v := fun j v hj => by
      simp only [World.cell?, push_new hp, Nat.zero_add]
      simp
      simpa using hj
    exact .lst _ true w.heap.size 0 _ (strs_rel _) (fun j v hj => ⟨hcell j v hj, .inr ⟨Nat.le_refl _, by rw [hp]; simp⟩⟩) (Nat.le_refl _) (fun _ => rfl) (.nil _)
theorem str_vals : ∀ (L : List (List UInt8)) {I : Nat → Nat → Prop} {μ : List (List Go.Sy.Place)} {w : World} {vs : List Value}, R I μ w true (L.map CV.str) vs → vs = L.map fun l => Value.string ⟨l.toArray⟩
  | [], _, _, _, _, h => R.none h
  | l :: L, _, _, _, _, h => by
    obtain ⟨ws, rfl, h2⟩ := R.str_cons h
    rw [str_vals L h2]; rfl
theorem join_in {L : List (List UInt8)} {t : List UInt8} {f : Bool} (hL : L.length < 1099511627776) (hl : (Go.Lib.join L t).length < 1099511627776) : ACall Tryz.prog 30 [.lst L.length (L.map .str) f, .str t] [] fun c B' => c = .str (Go.Lib.join L t) ∧ B' = [] :=
  acall_of_calls (Q := fun c => c = .str (Go.Lib.join L t)) (by kernel_rfl) fun I μ w vs ht hI hv => by
    obtain ⟨v0, ws, rfl⟩ : ∃ v0 ws, vs = v0 :: ws := by
      cases vs with
      | nil => have := hv.len; simp at this
      | cons a b => exact ⟨a, b, rfl⟩
    obtain ⟨hv1, _, hv2⟩ := hv.head
    obtain ⟨ws, rfl, hv3⟩ := R.str_cons hv2
    obtain rfl := R.none hv3
    have none_ : L = [] → ∀ A cap, v0 = .slice A 0 cap → Calls Tryz.prog 30 [v0, .string ⟨t.toArray⟩].toArray w fun e w' => ∃ c v, e = .returned v ∧ c = .str (Go.Lib.join L t) ∧ Below w.heap.size w w' ∧ V (fun b j => I b j ∨ (w.heap.size ≤ b ∧ b < w'.heap.size)) μ w' c v := fun hLL A cap hv0 => by
      subst hLL hv0
      refine (Tryz.strings_Join_none A cap ⟨t.toArray⟩ w).mono fun e w' ⟨he, hw⟩ => ?_
      subst hw
      exact ⟨_, _, he, by simp [Go.Lib.join, List.intercalate], Below.same, .str _ (.nil _)⟩
    rcases hv1.lst_inv with ⟨b, o, cap, us, h1, h, hm, hn, hf⟩ | ⟨A, h1, h2, _⟩
    · have hbs := str_vals L h
      subst hbs
      have hj : (L.map fun l => (⟨l.toArray⟩ : ByteArray)).map (·.data.toList) = L := by rw [List.map_map]; simp [Function.comp_def]
      by_cases hLL : L = []
      · exact none_ hLL _ _ (by rw [h1, hLL]; rfl)
      · subst h1
        have hbk : b < w.heap.size := by
          cases hL2 : L with
          | nil => exact absurd hL2 hLL
          | cons x xs => exact hI _ _ (hm 0 (Value.string ⟨x.toArray⟩) (by rw [hL2]; rfl)).2
        have := Tryz.strings_Join b o cap (L.map fun l => (⟨l.toArray⟩ : ByteArray)) ⟨t.toArray⟩ w (fun j y hy => by
          rw [List.getElem?_map, Option.map_eq_some_iff] at hy
          obtain ⟨l, hl, rfl⟩ := hy
          exact (hm j _ (by rw [List.getElem?_map, hl]; rfl)).1) hbk (by rw [List.length_map]; omega) (by rw [List.length_map]; exact hn) (by rw [hj]; show (Go.Lib.join L t).length ≤ _; omega)
        rw [hj, List.length_map] at this
        refine this.mono fun e w' ⟨he, hw⟩ => ?_
        exact ⟨_, _, he, rfl, hw, .str _ (.nil _)⟩
    · have hLL : L = [] := List.eq_nil_of_length_eq_zero (by first | exact h2 | omega)
      exact none_ hLL _ _ (by first | exact h1 | (rw [h1, hLL]; rfl))
theorem join_at {B : List Box} {args : List CV} {n : Nat} {L : List (List UInt8)} {t : List UInt8} {f : Bool} (hz : Is (omap (Go.Sy.fz true false B 6) args) (some [.lst n (L.map .str) f, .str t])) (hn : n = L.length) (hL : L.length < 1099511627776) (hl : (Go.Lib.join L t).length < 1099511627776) :
    ACall Tryz.prog 30 args B fun c B' => c = .str (Go.Lib.join L t) ∧ B' = B := by
  subst hn
  exact acall_fresh hz ((join_in hL hl).mono fun c B' ⟨h, _⟩ => by rw [h]; rfl)
end Go.Proofs.YtdceppjoipoohaaGreatDoor
end
section
namespace Go.Proofs.YtdceppjoipoohaaGreatDoor
open Go Go.Sy
set_option linter.all false
set_option maxRecDepth 100000
set_option maxHeartbeats 4000000
theorem kE_GD0 {α : Type} {x y : α} (h : Is x y := by first | ((try simp (disch := first | omega | (simp only [yZ, yB] <;> omega) | fail) [go_sem, yY, *, addrC, if_pos, if_neg, -List.map_take, -List.map_drop, -List.map_append, -List.map_reverse]); exact rfl) | fail) : Is x y := h
theorem kE_GD1 {α : Type} {x y : α} (h : Is x y := by first | ((try simp (disch := first | omega | (simp only [yZ, yB] <;> omega) | fail) [go_sem, yY, *, cons_get1, cons_take1, cons_drop1, cons_drop2, if_pos, if_neg, -List.map_take, -List.map_drop, -List.map_append, -List.map_reverse]); exact rfl) | fail) : Is x y := h
theorem kE_GD2 {α : Type} {x y : α} (h : Is x y := by first | ((try simp (disch := first | omega | (simp only [yZ, yB] <;> omega) | fail) [go_sem, yY, *, u8_ones, cons_get1, cons_take1, cons_drop1, cons_drop2, if_pos, if_neg, -List.map_take, -List.map_drop, -List.map_append, -List.map_reverse]); exact rfl) | fail) : Is x y := h
theorem kE_GD3 {α : Type} {x y : α} (h : Is x y := by first | ((try simp (disch := first | omega | (simp only [yZ, yB] <;> omega) | fail) [go_sem, yY, *, addrC, zeros12, if_pos, if_neg, -List.map_take, -List.map_drop, -List.map_append, -List.map_reverse]); exact rfl) | fail) : Is x y := h
theorem kE_GD4 {α : Type} {x y : α} (h : Is x y := by first | ((try simp (disch := first | omega | (simp only [yZ, yB] <;> omega) | fail) [go_sem, yY, *, prefC, if_pos, if_neg, -List.map_take, -List.map_drop, -List.map_append, -List.map_reverse]); exact rfl) | fail) : Is x y := h
theorem kD_GD4 {p : Prop} (h : p := by (first | omega | assumption | exact rfl | ((simp (disch := first | omega | (simp only [yZ, yB] <;> omega) | fail) [go_sem, yY, *, prefC, -List.map_take, -List.map_drop, -List.map_append, -List.map_reverse]) <;> (first | done | omega | exact rfl)) | fail)) : p := h
theorem kE_GD5 {α : Type} {x y : α} (h : Is x y := by first | ((try simp (disch := first | omega | (simp only [yZ, yB] <;> omega) | fail) [go_sem, yY, *, addrC, prefC, bx_get0, bx_get, bx_set0, bx_set, if_pos, if_neg, -List.map_take, -List.map_drop, -List.map_append, -List.map_reverse]); exact rfl) | fail) : Is x y := h
theorem kD_GD5 {p : Prop} (h : p := by (first | omega | assumption | exact rfl | ((simp (disch := first | omega | (simp only [yZ, yB] <;> omega) | fail) [go_sem, yY, *, addrC, prefC, bx_get0, bx_get, bx_set0, bx_set, -List.map_take, -List.map_drop, -List.map_append, -List.map_reverse]) <;> (first | done | omega | exact rfl)) | fail)) : p := h
def z12 : List UInt8 := List.replicate 12 0
def z16 : List UInt8 := List.replicate 16 0
def addrC (six : Bool) (ip : List UInt8) : CV := .agg (.bool six :: ip.map byteC)
theorem rep_bytes : ∀ n : Nat, repC [CV.int .u8 0] n = (List.replicate n (0 : UInt8)).map byteC
  | 0 => rfl
  | n + 1 => by rw [List.replicate_succ, List.map_cons, ← rep_bytes n]; rfl
theorem byte_wrap (n : Nat) : byteC (UInt8.ofNat n) = .int .u8 (IntKind.u8.wrap n) := by
  have h : (UInt8.ofNat n).toNat = n % 256 := by rw [UInt8.toNat_ofNat']
  rw [byteC, h]; congr 1
theorem z12_len : z12.length = 12 := rfl
def bytesV (x s n : Nat) : List UInt8 := (List.range n).map fun i => UInt8.ofNat (x + i * s)
def bytesJ (x s n j : Nat) : List UInt8 := bytesV x s j ++ List.replicate (n - j) 0
theorem bytesV_len (x s n : Nat) : (bytesV x s n).length = n := by simp [bytesV]
theorem bytesJ_len {x s n j : Nat} (h : j ≤ n) : (bytesJ x s n j).length = n := by simp [bytesJ, bytesV]; omega
theorem bytesJ_set {x s n j : Nat} (h : j < n) : (bytesJ x s n j).set j (UInt8.ofNat (x + j * s)) = bytesJ x s n (j + 1) := by
  have e : n - j = (n - (j + 1)) + 1 := by omega
  rw [bytesJ, bytesJ, List.set_append_right _ _ (by simp [bytesV]), bytesV_len, Nat.sub_self, e, List.replicate_succ, List.set_cons_zero, bytesV, bytesV, List.range_succ, List.map_append, List.append_assoc]
  rfl
theorem bytes_at {B : List Box} {β : Nat} {args : List CV} {l : List UInt8} {a n : Nat} {m : Int} (ha : Is args [.ptr β 0, .int .i64 m]) (hm : m = n) (hB : B[β]? = some (cb l a)) (hl : a ≤ l.length ∧ l.length < 1000000) (hn : n ≤ 1000) : ACall Tryz.prog 46 args B fun c B' => c = .view B.length 0 n 1 true ∧ B' = B.set β (cb l (nxA l a 256)) ++ [⟨(bytesV (nxV l a 256) (2 * nxA l a 256 + 1) n).map byteC, false⟩] := by
  have ha : args = _ := ha
  subst ha hm
  obtain ⟨p1, p2, p3, p4, p5, p6, p7, p8, p9, p10, p11, p12, p13⟩ := bx_pack hB
  have hx := nxV_lt (l := l) (a := a) (n := 256) (by omega)
  have hA := nxA_le (l := l) (n := 256) hl.1
  have hnx : ∀ {B : List Box} {args : List CV}, Is args [.ptr β 0, .int .i64 256] → B[β]? = some (cb l a) → ACall Tryz.prog 21 args B fun c B' => c = .int .i64 (nxV l a 256) ∧ B' = B.set β (cb l (nxA l a 256)) := fun h h2 => next_at h rfl h2 ⟨hl.1, by omega⟩
  generalize nxV l a 256 = x at *
  generalize hA' : nxA l a 256 = A at *
  have hr := rep_bytes n
  have h0 : List.replicate n (0 : UInt8) = bytesJ x (2 * A + 1) n 0 := by simp [bytesJ, bytesV]
  rw [h0] at hr
  have hcb : cb l A = ⟨[.lst l.length (l.map byteC) false, .int .i64 A], false⟩ := rfl
  refine acall_intro mixed Tryz.func46 rfl ca46 (by kernel_rfl) (by rw [Tryz.ntmps46]; simp) ?_
  repeat' (first | (with_reducible first | apply jA | apply jB | apply jC | apply jD | apply jE | apply jF | apply jG | apply jH | apply jI | apply jJ | apply jK | apply jL | apply jM | apply jN | apply jO) | ((with_reducible first | apply jP | apply jQ); rfl) | ((first | ((with_reducible first | apply jR | apply jS | apply jT); rfl; rfl) | (with_reducible first | apply jU | apply jV | apply jW) | ((with_reducible first | apply jX | apply jY | apply jZ); rfl) | ((with_reducible first | apply kA | apply kB | apply kC); rfl)); all_goals (first | ((with_reducible show Is _ _); exact kE) | ((with_reducible refine fun (hc : (_ : Bool) = _) => ?_); (try simp only [xZ, xY, xP, reduceCtorEq] at hc); (try (have hx : True := hc; clear hx hc)); (try exact kX)) | ((with_reducible show ACall _ _ _ _ _); (first | ((with_reducible apply hnx) <;> exact kD))) | ((fail_if_success (with_reducible first | show Is _ _ | show ACall _ _ _ _ _)); (try ((with_reducible show _ ∨ _); exact kT))))))
  obtain ⟨s, hs, hs2⟩ : ∃ s : Nat, 2 * A + 1 = s ∧ s ≤ 2000001 := ⟨_, rfl, by omega⟩
  have hsi : (2 * (A : Int) + 1) = s := by omega
  rw [hs] at *
  refine w_loop (fun fr B1 => ∃ j : Nat, j ≤ n ∧ fr 5 = .view B.length 0 n 1 true ∧ fr 6 = .int .i64 x ∧ fr 7 = .int .i64 s ∧ fr 20 = .int .i64 n ∧ fr 21 = .int .i64 j ∧ B1 = B.set β (cb l A) ++ [⟨(bytesJ x s n j).map byteC, false⟩]) (fun fr _ => n - natOf (fr 21)) ?_ ?_
  · exact ⟨0, by omega, by (simp (disch := omega) [go_sem, *]) <;> (try omega), by (simp (disch := omega) [go_sem, *]) <;> (try omega), by (simp (disch := omega) [go_sem, *]) <;> (try omega), by (simp (disch := omega) [go_sem, *]) <;> (try omega), by (simp (disch := omega) [go_sem, *]) <;> (try omega), rfl⟩
  · rintro fr B1 ⟨j, hj, h5, h6, h7, h20, h21, rfl⟩
    have hjl := bytesJ_len (x := x) (s := s) hj
    by_cases hc : j < n
    · have hset := bytesJ_set (x := x) (s := s) hc
      have hb : j * s ≤ 1000 * 2000001 := Nat.mul_le_mul (by omega) hs2
      have hb2 : 0 ≤ (j : Int) * s ∧ (j : Int) * s ≤ 2000001000 := by rw [← Int.natCast_mul]; omega
      have hv : byteC (UInt8.ofNat (x + j * s)) = .int .u8 (IntKind.u8.wrap (x + (j : Int) * s)) := by rw [byte_wrap]; push_cast; rfl
      repeat' (first | (with_reducible first | apply jA | apply jB | apply jC | apply jD | apply jE | apply jF | apply jG | apply jH | apply jI | apply jJ | apply jK | apply jL | apply jM | apply jN | apply jO) | ((with_reducible first | apply jP | apply jQ); rfl) | ((first | ((with_reducible first | apply jR | apply jS | apply jT); rfl; rfl) | (with_reducible first | apply jU | apply jV | apply jW) | ((with_reducible first | apply jX | apply jY | apply jZ); rfl)); all_goals (first | ((with_reducible show Is _ _); exact kE) | ((with_reducible refine fun (hc : (_ : Bool) = _) => ?_); (try simp only [xZ, xY, xP, reduceCtorEq] at hc); (try (have hx : True := hc; clear hx hc)); (try exact kX)) | ((fail_if_success (with_reducible first | show Is _ _ | show ACall _ _ _ _ _)); (try ((with_reducible show _ ∨ _); exact kT))))))
      refine ⟨⟨j + 1, by omega, by (simp (disch := omega) [go_sem, *]) <;> (try omega), by (simp (disch := omega) [go_sem, *]) <;> (try omega), by (simp (disch := omega) [go_sem, *]) <;> (try omega), by (simp (disch := omega) [go_sem, *]) <;> (try omega), by (simp (disch := omega) [go_sem, *]) <;> (try omega), ?_⟩, by (simp (disch := omega) [go_sem, *]) <;> (try omega)⟩
      rw [cb, ← hv, bytes_mid, ← hset, List.set_eq_take_append_cons_drop (l := bytesJ x s n j), if_pos (by omega)]
    · have : j = n := by omega
      subst this
      repeat' (first | (with_reducible first | apply jA | apply jB | apply jC | apply jD | apply jE | apply jF | apply jG | apply jH | apply jI | apply jJ | apply jK | apply jL | apply jM | apply jN | apply jO) | ((with_reducible first | apply jP | apply jQ); rfl) | ((first | ((with_reducible first | apply jR | apply jS | apply jT); rfl; rfl) | (with_reducible first | apply jU | apply jV | apply jW) | ((with_reducible first | apply jX | apply jY | apply jZ); rfl)); all_goals (first | ((with_reducible show Is _ _); exact kE) | ((with_reducible refine fun (hc : (_ : Bool) = _) => ?_); (try simp only [xZ, xY, xP, reduceCtorEq] at hc); (try (have hx : True := hc; clear hx hc)); (try exact kX)) | ((fail_if_success (with_reducible first | show Is _ _ | show ACall _ _ _ _ _)); (try ((with_reducible show _ ∨ _); exact kT))))))
      have : bytesJ x s j j = bytesV x s j := by simp [bytesJ]
      rw [this]
      exact ⟨rfl, rfl⟩
def adSix (l : List UInt8) (a : Nat) : Bool := nxV l a 3 == 1
def adA (l : List UInt8) (a : Nat) : Nat := if adSix l a then nxA l (nxA l a 3) 256 else nxA l (nxA l (nxA l (nxA l a 3) 4) 4) 256
def adIP (l : List UInt8) (a : Nat) : List UInt8 :=
  if adSix l a then 0xfd :: (bytesV (nxV l (nxA l a 3) 256) (2 * nxA l (nxA l a 3) 256 + 1) 16).drop 1
  else [10, UInt8.ofNat (nxV l (nxA l a 3) 4), UInt8.ofNat (nxV l (nxA l (nxA l a 3) 4) 4), UInt8.ofNat (nxV l (nxA l (nxA l (nxA l a 3) 4) 4) 256)] ++ z12
def adBox (l : List UInt8) (a : Nat) : Box := ⟨.bool (adSix l a) :: (adIP l a).map byteC, false⟩
def adG (l : List UInt8) (a : Nat) : List Box := [adBox l a, adBox l a, ⟨[], false⟩] ++ if adSix l a then [⟨(bytesV (nxV l (nxA l a 3) 256) (2 * nxA l (nxA l a 3) 256 + 1) 16).map byteC, false⟩] else []
theorem adIP_len (l : List UInt8) (a : Nat) : (adIP l a).length = 16 := by
  unfold adIP; split
  · simp [bytesV_len]
  · rfl
theorem adA_le {l : List UInt8} {a : Nat} (h : a ≤ l.length) : adA l a ≤ l.length := by
  unfold adA; split
  · exact nxA_le (nxA_le h)
  · exact nxA_le (nxA_le (nxA_le (nxA_le h)))
theorem addr_at {B : List Box} {β : Nat} {args : List CV} {l : List UInt8} {a : Nat} (ha : Is args [.ptr β 0]) (hB : B[β]? = some (cb l a)) (hl : a ≤ l.length ∧ l.length < 1000000) : ACall Tryz.prog 49 args B fun c B' => c = addrC (adSix l a) (adIP l a) ∧ B' = B.set β (cb l (adA l a)) ++ adG l a := by
  have ha : args = _ := ha
  subst ha
  obtain ⟨p1, p2, p3, p4, p5, p6, p7, p8, p9, p10, p11, p12, p13⟩ := bx_pack hB
  have h1 := nxA_le (n := 3) hl.1
  have hnx : ∀ (b n : Nat), b ≤ l.length → ∀ (B : List Box) (args : List CV) (m : Int), Is args [.ptr β 0, .int .i64 m] → m = n → B[β]? = some (cb l b) → ACall Tryz.prog 21 args B fun c B' => c = .int .i64 (nxV l b n) ∧ B' = B.set β (cb l (nxA l b n)) := fun b n hb _ _ _ h hm h2 => next_at h hm h2 ⟨hb, by omega⟩
  have hn3 := hnx a 3 hl.1
  generalize hs : adSix l a = six
  rw [adA, adIP, adG, adBox, adIP, hs]
  unfold adSix at hs
  generalize nxV l a 3 = v at *
  generalize nxA l a 3 = a1 at *
  cases six with
  | true =>
    have hv : v = 1 := by simpa using hs
    subst hv
    have hby : ∀ {B : List Box} {args : List CV}, Is args [.ptr β 0, .int .i64 16] → B[β]? = some (cb l a1) → ACall Tryz.prog 46 args B fun c B' => c = .view B.length 0 16 1 true ∧ B' = B.set β (cb l (nxA l a1 256)) ++ [⟨(bytesV (nxV l a1 256) (2 * nxA l a1 256 + 1) 16).map byteC, false⟩] := fun h h2 => bytes_at h rfl h2 ⟨h1, hl.2⟩ (by omega)
    generalize nxA l a1 256 = a2 at *
    have hbl := bytesV_len (nxV l a1 256) (2 * a2 + 1) 16
    generalize bytesV (nxV l a1 256) (2 * a2 + 1) 16 = by_ at *
    refine acall_intro mixed Tryz.func49 rfl ca49 (by kernel_rfl) (by rw [Tryz.ntmps49]; simp) ?_
    repeat' (first | (with_reducible first | apply jA | apply jB | apply jC | apply jD | apply jE | apply jF | apply jG | apply jH | apply jI | apply jJ | apply jK | apply jL | apply jM | apply jN | apply jO) | ((with_reducible apply jP); rfl) | ((first | ((with_reducible first | apply jR | apply jS | apply jT); rfl; rfl) | (with_reducible first | apply jU | apply jV | apply jW) | ((with_reducible first | apply jX | apply jY | apply jZ); rfl) | ((with_reducible first | apply kA | apply kB | apply kC); rfl)); all_goals (first | ((with_reducible show Is _ _); exact kE) | ((with_reducible refine fun (hc : (_ : Bool) = _) => ?_); (try simp only [xZ, xY, xP, reduceCtorEq] at hc); (try (have hx : True := hc; clear hx hc)); (try exact kX)) | ((with_reducible show ACall _ _ _ _ _); (first | ((with_reducible apply hn3) <;> exact kD))) | ((fail_if_success (with_reducible first | show Is _ _ | show ACall _ _ _ _ _)); (try ((with_reducible show _ ∨ _); exact kT))))))
    refine w_drawJ [1] [⟨[], false⟩] (fun B' => ∃ cs, B'[B.length + 1]? = some ⟨cs, false⟩ ∧ cs.length = 17) rfl (by simp (disch := first | omega | (simp only [yZ, yB] <;> omega) | fail) [go_sem, yY, *, -List.map_take, -List.map_drop, -List.map_append, -List.map_reverse]; exact rfl) ⟨_, (by (try (simp (disch := omega) [go_sem, *]) <;> (try omega)); rfl), rfl⟩ ?_
    repeat' (first | (with_reducible first | apply jA | apply jB | apply jC | apply jD | apply jE | apply jF | apply jG | apply jH | apply jI | apply jJ | apply jK | apply jL | apply jM | apply jN | apply jO) | ((with_reducible first | apply jP | apply jQ); rfl) | ((with_reducible apply w_drawA); (conv => lhs; reduce); exact kE; exact kE) | ((first | ((with_reducible first | apply d_made | apply q_made); rfl; rfl)); (iterate 6 exact kE)) | ((first | ((with_reducible first | apply d_fop | apply q_fop); rfl; rfl)); (intro Bx hJ; (first | (obtain ⟨_, hJ1, hJ2⟩ := hJ) | (try simp only at hJ)); exact kE)) | ((with_reducible first | apply d_free | apply q_free); rfl; (iterate 2 exact kE); (intro Bx hJ); (first | ((with_reducible apply hby) <;> exact kD))) | ((first | ((with_reducible first | apply jR | apply jS | apply jT); rfl; rfl) | (with_reducible first | apply jU | apply jV | apply jW) | ((with_reducible first | apply jX | apply jY | apply jZ); rfl) | ((with_reducible first | apply kA | apply kB | apply kC); rfl)); all_goals (first | ((with_reducible show Is _ _); exact kE) | ((with_reducible refine fun (hc : (_ : Bool) = _) => ?_); (try simp only [xZ, xY, xP, reduceCtorEq] at hc); (try (have hx : True := hc; clear hx hc)); (try exact kX)) | ((with_reducible show ACall _ _ _ _ _); (first | ((with_reducible apply hby) <;> exact kD))) | ((fail_if_success (with_reducible first | show Is _ _ | show ACall _ _ _ _ _)); (try ((with_reducible show _ ∨ _); first | exact .inl rfl | (refine .inr ⟨rfl, ?_, ?_⟩; (focus (repeat (first | exact trivial | refine ⟨.inl rfl, ?_⟩ | refine ⟨.inr rfl, ?_⟩ | refine ⟨.inr (by (simp (disch := first | omega | (simp only [yZ, yB] <;> omega) | fail) [go_sem, yY, *, -List.map_take, -List.map_drop, -List.map_append, -List.map_reverse])), ?_⟩))); (first | exact trivial | exact rfl | (refine ⟨_, ?_, ?_⟩; (focus (simp (disch := first | omega | (simp only [yZ, yB] <;> omega) | fail) [go_sem, yY, *, -List.map_take, -List.map_drop, -List.map_append, -List.map_reverse]; (try exact rfl))); (simp (disch := first | omega | (simp only [yZ, yB] <;> omega) | fail) [go_sem, yY, *, -List.map_take, -List.map_drop, -List.map_append, -List.map_reverse])) | (simp (disch := first | omega | (simp only [yZ, yB] <;> omega) | fail) [go_sem, yY, *, -List.map_take, -List.map_drop, -List.map_append, -List.map_reverse]))) | exact .inl (by (simp (disch := first | omega | (simp only [yZ, yB] <;> omega) | fail) [go_sem, yY, *, -List.map_take, -List.map_drop, -List.map_append, -List.map_reverse]))))))))
    have e : List.take 15 (List.map byteC by_).tail = (List.map byteC by_).tail := List.take_of_length_le (by rw [List.length_tail, List.length_map]; omega)
    rw [e, e, if_pos rfl, if_pos rfl, if_pos rfl, addrC, List.map_cons, List.map_drop, List.drop_one]
    exact ⟨rfl, rfl⟩
  | false =>
    refine acall_intro mixed Tryz.func49 rfl ca49 (by kernel_rfl) (by rw [Tryz.ntmps49]; simp) ?_
    have hv : ((v : Int) == 1) = false := by
      rw [beq_eq_false_iff_ne] at hs ⊢; omega
    repeat' (first | (with_reducible first | apply jA | apply jB | apply jC | apply jD | apply jE | apply jF | apply jG | apply jH | apply jI | apply jJ | apply jK | apply jL | apply jM | apply jN | apply jO) | ((with_reducible apply jP); rfl) | ((first | ((with_reducible first | apply jR | apply jS | apply jT); rfl; rfl) | (with_reducible first | apply jU | apply jV | apply jW) | ((with_reducible first | apply jX | apply jY | apply jZ); rfl) | ((with_reducible first | apply kA | apply kB | apply kC); rfl)); all_goals (first | ((with_reducible show Is _ _); exact kE) | ((with_reducible refine fun (hc : (_ : Bool) = _) => ?_); (try simp only [xZ, xY, xP, reduceCtorEq] at hc); (try (have hx : True := hc; clear hx hc)); (try exact kX)) | ((with_reducible show ACall _ _ _ _ _); (first | ((with_reducible apply hn3) <;> exact kD))) | ((fail_if_success (with_reducible first | show Is _ _ | show ACall _ _ _ _ _)); (try ((with_reducible show _ ∨ _); exact kT))))))
    refine w_drawJ [1] [⟨[], false⟩] (fun B' => ∃ cs, B'[B.length + 1]? = some ⟨cs, false⟩ ∧ cs.length = 17) rfl (by simp (disch := first | omega | (simp only [yZ, yB] <;> omega) | fail) [go_sem, yY, *, -List.map_take, -List.map_drop, -List.map_append, -List.map_reverse]; exact rfl) ⟨_, (by (try (simp (disch := omega) [go_sem, *]) <;> (try omega)); rfl), rfl⟩ ?_
    have h2 := nxA_le (n := 4) h1
    have h3 := nxA_le (n := 4) h2
    have k1 := hnx a1 4 h1
    have k2 := hnx (nxA l a1 4) 4 h2
    have k3 := hnx (nxA l (nxA l a1 4) 4) 256 h3
    generalize nxA l a1 4 = a2 at *
    generalize nxA l a2 4 = a3 at *
    generalize nxA l a3 256 = a4 at *
    generalize nxV l a1 4 = v1 at *
    generalize nxV l a2 4 = v2 at *
    generalize nxV l a3 256 = v3 at *
    repeat' (first | (with_reducible first | apply jA | apply jB | apply jC | apply jD | apply jE | apply jF | apply jG | apply jH | apply jI | apply jJ | apply jK | apply jL | apply jM | apply jN | apply jO) | ((with_reducible first | apply jP | apply jQ); rfl) | ((with_reducible apply w_drawA); (conv => lhs; reduce); exact kE; exact kE) | ((first | ((with_reducible first | apply d_made | apply q_made); rfl; rfl)); (iterate 6 exact kE)) | ((first | ((with_reducible first | apply d_fop | apply q_fop); rfl; rfl)); (intro Bx hJ; (first | (obtain ⟨_, hJ1, hJ2⟩ := hJ) | (try simp only at hJ)); exact kE)) | ((with_reducible first | apply d_free | apply q_free); rfl; (iterate 2 exact kE); (intro Bx hJ); (first | ((with_reducible apply k1) <;> exact kD) | ((with_reducible apply k2) <;> exact kD) | ((with_reducible apply k3) <;> exact kD))) | ((first | ((with_reducible first | apply jR | apply jS | apply jT); rfl; rfl) | (with_reducible first | apply jU | apply jV | apply jW) | ((with_reducible first | apply jX | apply jY | apply jZ); rfl) | ((with_reducible first | apply kA | apply kB | apply kC); rfl)); all_goals (first | ((with_reducible show Is _ _); exact kE) | ((with_reducible refine fun (hc : (_ : Bool) = _) => ?_); (try simp only [xZ, xY, xP, reduceCtorEq] at hc); (try (have hx : True := hc; clear hx hc)); (try exact kX)) | ((with_reducible show ACall _ _ _ _ _); (first | ((with_reducible apply k1) <;> exact kD) | ((with_reducible apply k2) <;> exact kD) | ((with_reducible apply k3) <;> exact kD))) | ((fail_if_success (with_reducible first | show Is _ _ | show ACall _ _ _ _ _)); (try ((with_reducible show _ ∨ _); first | exact .inl rfl | (refine .inr ⟨rfl, ?_, ?_⟩; (focus (repeat (first | exact trivial | refine ⟨.inl rfl, ?_⟩ | refine ⟨.inr rfl, ?_⟩ | refine ⟨.inr (by (simp (disch := first | omega | (simp only [yZ, yB] <;> omega) | fail) [go_sem, yY, *, -List.map_take, -List.map_drop, -List.map_append, -List.map_reverse])), ?_⟩))); (first | exact trivial | exact rfl | (refine ⟨_, ?_, ?_⟩; (focus (simp (disch := first | omega | (simp only [yZ, yB] <;> omega) | fail) [go_sem, yY, *, -List.map_take, -List.map_drop, -List.map_append, -List.map_reverse]; (try exact rfl))); (simp (disch := first | omega | (simp only [yZ, yB] <;> omega) | fail) [go_sem, yY, *, -List.map_take, -List.map_drop, -List.map_append, -List.map_reverse])) | (simp (disch := first | omega | (simp only [yZ, yB] <;> omega) | fail) [go_sem, yY, *, -List.map_take, -List.map_drop, -List.map_append, -List.map_reverse]))) | exact .inl (by (simp (disch := first | omega | (simp only [yZ, yB] <;> omega) | fail) [go_sem, yY, *, -List.map_take, -List.map_drop, -List.map_append, -List.map_reverse]))))))))
    rw [← byte_wrap, ← byte_wrap, ← byte_wrap]
    exact ⟨rfl, rfl⟩
def cutN (x h : Nat) : Nat := x / 2 ^ (8 - h) * 2 ^ (8 - h)
def clrN (x lo : Nat) : Nat → Nat
  | 0 => x
  | r + 1 => if lo ≤ r then (if clrN x lo r / 2 ^ (7 - r) % 2 = 1 then clrN x lo r - 2 ^ (7 - r) else clrN x lo r) else clrN x lo r
theorem andNot_bit0 : ∀ x : Fin 256, ∀ r : Fin 8, bits .andNot .u8 (x.1 : Int) (2 ^ (7 - r.1)) = ((if x.1 / 2 ^ (7 - r.1) % 2 = 1 then x.1 - 2 ^ (7 - r.1) else x.1 : Nat) : Int) := by decide +kernel
theorem andNot_bit1 (x r : Nat) (hx : x < 256) (hr : r < 8) : bits .andNot .u8 (x : Int) (2 ^ (7 - r)) = ((if x / 2 ^ (7 - r) % 2 = 1 then x - 2 ^ (7 - r) else x : Nat) : Int) := andNot_bit0 ⟨x, hx⟩ ⟨r, hr⟩
theorem cut_bits0 : ∀ x : Fin 256, ∀ h : Fin 9, ∀ q : Fin 8, cutN x.1 h.1 / 2 ^ (7 - q.1) % 2 = if q.1 < h.1 then x.1 / 2 ^ (7 - q.1) % 2 else 0 := by decide +kernel
theorem clr_cut0 : ∀ x : Fin 256, ∀ h : Fin 9, clrN x.1 h.1 8 = cutN x.1 h.1 := by decide +kernel
theorem clrN_le (x lo : Nat) : ∀ r, clrN x lo r ≤ x
  | 0 => Nat.le_refl _
  | r + 1 => by
    have := clrN_le x lo r
    have h2 := Nat.sub_le (clrN x lo r) (2 ^ (7 - r))
    unfold clrN; split
    · split
      · exact Nat.le_trans h2 this
      · exact this
    · exact this
theorem clrN_id (x lo : Nat) : ∀ r, r ≤ lo → clrN x lo r = x
  | 0, _ => rfl
  | r + 1, h => by rw [clrN, if_neg (by omega), clrN_id x lo r (by omega)]
theorem cutN_le (x h : Nat) : cutN x h ≤ x := Nat.div_mul_le_self _ _
def cutB (x : UInt8) (h : Nat) : UInt8 := UInt8.ofNat (cutN x.toNat h)
def clrB (x : UInt8) (lo r : Nat) : UInt8 := UInt8.ofNat (clrN x.toNat lo r)
theorem cutB_toNat (x : UInt8) (h : Nat) : (cutB x h).toNat = cutN x.toNat h := by
  have := x.toNat_lt; have := cutN_le x.toNat h
  rw [cutB, UInt8.toNat_ofNat']; omega
theorem clrB_toNat (x : UInt8) (lo r : Nat) : (clrB x lo r).toNat = clrN x.toNat lo r := by
  have := x.toNat_lt; have := clrN_le x.toNat lo r
  rw [clrB, UInt8.toNat_ofNat']; omega
theorem clrB_id {x : UInt8} {lo r : Nat} (h : r ≤ lo) : clrB x lo r = x := UInt8.toNat_inj.1 (by rw [clrB_toNat, clrN_id _ _ _ h])
theorem clrB_cut {x : UInt8} {h : Nat} (hh : h ≤ 8) : clrB x h 8 = cutB x h := UInt8.toNat_inj.1 (by
  rw [clrB_toNat, cutB_toNat]; exact clr_cut0 ⟨x.toNat, x.toNat_lt⟩ ⟨h, by omega⟩)
theorem andNot_bit (x : UInt8) {lo r : Nat} (hl : lo ≤ r) (hr : r < 8) : CV.int .u8 (bits .andNot .u8 ((clrB x lo r).toNat : Int) (2 ^ (7 - r))) = byteC (clrB x lo (r + 1)) := by
  rw [andNot_bit1 _ _ (clrB x lo r).toNat_lt hr, byteC, clrB_toNat x lo (r + 1), clrN, if_pos hl, clrB_toNat]
def cutL (A : List UInt8) (s : Nat) : List UInt8 := (List.range 16).map fun i => cutB (A.getD i 0) (min (s - 8 * i) 8)
def mskL (A : List UInt8) (s i : Nat) : List UInt8 := (List.range 16).map fun j => clrB (A.getD j 0) (min (s - 8 * j) 8) (min (i - 8 * j) 8)
def cutJ (A : List UInt8) (s k : Nat) : List UInt8 := (List.range 16).map fun i => if i < k then cutB (A.getD i 0) (min (s - 8 * i) 8) else A.getD i 0
theorem row16 {A : List UInt8} (h : A.length = 16) (f : Nat → UInt8) (hf : ∀ i, i < 16 → f i = A.getD i 0) : (List.range 16).map f = A := by
  apply List.ext_getElem
  · simp [h]
  · intro i h1 h2
    rw [List.getElem_map, List.getElem_range, hf i (by omega), List.getD_eq_getElem?_getD, List.getElem?_eq_getElem h2, Option.getD_some]
theorem row16_set (f g : Nat → UInt8) (k : Nat) (x : UInt8) (hk : k < 16) (hx : g k = x) (hg : ∀ i, i < 16 → i ≠ k → g i = f i) : ((List.range 16).map f).set k x = (List.range 16).map g := by
  apply List.ext_getElem
  · simp
  · intro i h1 h2
    rw [List.getElem_set, List.getElem_map, List.getElem_range]
    split
    · rename_i h; subst h; rw [List.getElem_map, List.getElem_range]; exact hx.symm
    · rename_i h
      rw [List.getElem_map, List.getElem_range]
      exact (hg i (by simpa using h2) (fun e => h e.symm)).symm
theorem cutL_len (A : List UInt8) (s : Nat) : (cutL A s).length = 16 := by simp [cutL]
theorem mskL_len (A : List UInt8) (s i : Nat) : (mskL A s i).length = 16 := by simp [mskL]
theorem cutJ_len (A : List UInt8) (s i : Nat) : (cutJ A s i).length = 16 := by simp [cutJ]
theorem mskL_start {A : List UInt8} (h : A.length = 16) (s : Nat) : mskL A s s = A := row16 h _ fun _ _ => clrB_id (Nat.le_refl _)
theorem mskL_end (A : List UInt8) (s : Nat) : mskL A s 128 = cutL A s := by
  apply List.map_congr_left
  intro i hi
  rw [List.mem_range] at hi
  rw [show min (128 - 8 * i) 8 = 8 by omega, clrB_cut (Nat.min_le_right _ _)]
theorem getD_row16 (f : Nat → UInt8) {k : Nat} (hk : k < 16) : ((List.range 16).map f).getD k 0 = f k := by
  rw [List.getD_eq_getElem?_getD, List.getElem?_map, List.getElem?_range hk]; rfl
theorem mskL_get (A : List UInt8) {s i q : Nat} (hq : i / 8 = q) (hi : i < 128) : (mskL A s i).getD q 0 = clrB (A.getD q 0) (min (s - 8 * q) 8) (i % 8) := by
  rw [mskL, getD_row16 _ (by omega), show min (i - 8 * q) 8 = i % 8 by omega]
theorem mskL_step (A : List UInt8) {s i : Nat} (hs : s ≤ i) (hi : i < 128) : (mskL A s i).set (i / 8) (clrB (A.getD (i / 8) 0) (min (s - 8 * (i / 8)) 8) (i % 8 + 1)) = mskL A s (i + 1) := by
  refine row16_set _ _ _ _ (by omega) ?_ fun j hj hne => ?_
  · rw [show min (i + 1 - 8 * (i / 8)) 8 = i % 8 + 1 by omega]
  · rw [show min (i + 1 - 8 * j) 8 = min (i - 8 * j) 8 by omega]
theorem cutJ_start {A : List UInt8} (h : A.length = 16) (s : Nat) : cutJ A s 0 = A := row16 h _ fun _ _ => rfl
theorem cutJ_end (A : List UInt8) (s : Nat) : cutJ A s 16 = cutL A s := by
  apply List.map_congr_left
  intro i hi
  rw [List.mem_range] at hi
  rw [if_pos hi]
theorem cutJ_get (A : List UInt8) {s k : Nat} (hk : k < 16) : (cutJ A s k).getD k 0 = A.getD k 0 := by
  rw [cutJ, getD_row16 _ hk, if_neg (by omega)]
theorem cutJ_step (A : List UInt8) {s k : Nat} (hk : k < 16) : (cutJ A s k).set k (cutB (A.getD k 0) (min (s - 8 * k) 8)) = cutJ A s (k + 1) := by
  refine row16_set _ _ _ _ hk (by rw [if_pos (by omega)]) fun j hj hne => ?_
  by_cases h : j < k
  · rw [if_pos h, if_pos (by omega)]
  · rw [if_neg h, if_neg (by omega)]
section
variable {α : Type} {c : α} {l : List α} {k : Nat}
theorem cons_get1 (h : 1 + k < (c :: l).length) : (c :: l)[1 + k]'h = l[k]'(by simp at h; omega) := by
  simp only [Nat.add_comm 1 k, List.getElem_cons_succ]
theorem cons_take1 : (c :: l).take (1 + k) = c :: l.take k := by rw [Nat.add_comm, List.take_succ_cons]
theorem cons_drop1 : (c :: l).drop (1 + k) = l.drop k := by rw [Nat.add_comm, List.drop_succ_cons]
theorem cons_drop2 : (c :: l).drop (1 + k + 1) = l.drop (k + 1) := by rw [Nat.add_comm 1 k, List.drop_succ_cons]
end
theorem u8_ones : (if IntKind.u8.signed = true then (-1 : Int) else IntKind.u8.max) = 255 := rfl
theorem shr128' : ∀ r : Nat, r < 8 → Int.fdiv 128 (2 ^ r) = 2 ^ (7 - r) := by
  have : ∀ r : Fin 8, Int.fdiv 128 (2 ^ r.1) = 2 ^ (7 - r.1) := by decide
  exact fun r h => this ⟨r, h⟩
theorem get_of_getD {l : List UInt8} {i : Nat} {y : UInt8} (h : l.getD i 0 = y) (hi : i < l.length) : l[i] = y := by
  rw [← h, List.getD_eq_getElem?_getD, List.getElem?_eq_getElem hi, Option.getD_some]
theorem and_cut0 : ∀ x : Fin 256, ∀ h : Fin 9, bits .and .u8 (x.1 : Int) (bits .xor .u8 255 (Int.fdiv 255 (2 ^ h.1))) = (cutN x.1 h.1 : Int) := by decide +kernel
theorem and_cut (x : UInt8) {h : Nat} (hh : h ≤ 8) : CV.int .u8 (bits .and .u8 (x.toNat : Int) (bits .xor .u8 255 (Int.fdiv 255 (2 ^ h)))) = byteC (cutB x h) := by
  rw [byteC, cutB_toNat]; exact congrArg _ (and_cut0 ⟨x.toNat, x.toNat_lt⟩ ⟨h, by omega⟩)
def prefC (six : Bool) (A : List UInt8) (s : Int) : CV := .agg (.bool six :: (A.map byteC ++ [.int .i64 s]))
theorem masked_in (six : Bool) (A : List UInt8) (s : Nat) (hA : A.length = 16) (hs : s ≤ 128) : PC Tryz.prog true 14 [addrC six A, .int .i64 s] (prefC six (cutL A s) s) := by
  refine acall_intro mixed Tryz.func14 rfl ca14 (by kernel_rfl) (by rw [Tryz.ntmps14]; simp) ?_
  repeat' (first | (with_reducible first | apply jA | apply jB | apply jC | apply jD | apply jE | apply jF | apply jG | apply jH | apply jI | apply jJ | apply jK | apply jL | apply jM | apply jN | apply jO) | ((with_reducible first | apply jP | apply jQ); rfl) | ((first | ((with_reducible first | apply jR | apply jS | apply jT); rfl; rfl) | (with_reducible first | apply jU | apply jV | apply jW) | ((with_reducible first | apply jX | apply jY | apply jZ); rfl)); all_goals (first | ((with_reducible show Is _ _); exact kE_GD0) | ((with_reducible refine fun (hc : (_ : Bool) = _) => ?_); (try simp only [xZ, xY, xP, reduceCtorEq] at hc); (try (have hx : True := hc; clear hx hc)); (try exact kX)) | ((fail_if_success (with_reducible first | show Is _ _ | show ACall _ _ _ _ _)); (try ((with_reducible show _ ∨ _); exact kT))))))
  refine w_loop (fun fr B => ∃ i b, s ≤ i ∧ i ≤ 128 ∧ fr 5 = .int .i64 (i : Nat) ∧ fr 1 = .int .i64 s ∧ fr 2 = .ptr 0 0 ∧ fr 4 = .ptr 1 0 ∧ b.cells.length = 18 ∧ b.multi = false ∧ B = [⟨.bool six :: (mskL A s i).map byteC, false⟩, b]) (fun fr _ => 128 - natOf (fr 5)) ?_ ?_
  · refine ⟨s, _, Nat.le_refl _, hs, by (simp (disch := omega) [go_sem, *]) <;> (try omega), by (simp (disch := omega) [go_sem, *]) <;> (try omega), by (simp (disch := omega) [go_sem, *]) <;> (try omega), by (simp (disch := omega) [go_sem, *]) <;> (try omega), ?_, ?_, by rw [mskL_start hA]⟩ <;> rfl
  · rintro fr B ⟨i, ⟨bc, bm⟩, h1, h2, h5, h1', h2', h4, hb, hbm, rfl⟩
    dsimp only at hb hbm
    subst hbm
    have hl := mskL_len A s i
    by_cases hc : i < 128
    · have hq : ((i : Int) / 8).toNat = i / 8 := by omega
      have hg := get_of_getD (mskL_get A (s := s) (i := i) rfl hc)
      have hsh := shr128' (i % 8) (by omega)
      have han := andNot_bit (A.getD (i / 8) 0) (lo := min (s - 8 * (i / 8)) 8) (r := i % 8) (by omega) (by omega)
      have hst := mskL_step A h1 hc
      generalize clrB (A.getD (i / 8) 0) (min (s - 8 * (i / 8)) 8) (i % 8) = y at *
      generalize clrB (A.getD (i / 8) 0) (min (s - 8 * (i / 8)) 8) (i % 8 + 1) = y' at *
      repeat' (first | (with_reducible first | apply jA | apply jB | apply jC | apply jD | apply jE | apply jF | apply jG | apply jH | apply jI | apply jJ | apply jK | apply jL | apply jM | apply jN | apply jO) | ((with_reducible first | apply jP | apply jQ); rfl) | ((first | ((with_reducible first | apply jR | apply jS | apply jT); rfl; rfl) | (with_reducible first | apply jU | apply jV | apply jW) | ((with_reducible first | apply jX | apply jY | apply jZ); rfl)); all_goals (first | ((with_reducible show Is _ _); exact kE_GD1) | ((with_reducible refine fun (hc : (_ : Bool) = _) => ?_); (try simp only [xZ, xY, xP, reduceCtorEq] at hc); (try (have hx : True := hc; clear hx hc)); (try exact kX)) | ((fail_if_success (with_reducible first | show Is _ _ | show ACall _ _ _ _ _)); (try ((with_reducible show _ ∨ _); exact kT))))))
      refine ⟨⟨i + 1, ⟨bc, false⟩, by omega, by omega, by (simp (disch := omega) [go_sem, *]) <;> (try omega), by (simp (disch := omega) [go_sem, *]) <;> (try omega), by (simp (disch := omega) [go_sem, *]) <;> (try omega), by (simp (disch := omega) [go_sem, *]) <;> (try omega), hb, rfl, ?_⟩, by (simp (disch := omega) [go_sem, *]) <;> (try omega)⟩
      rw [← hst, List.set_eq_take_append_cons_drop, if_pos (by rw [hl]; omega), ← bytes_mid]
      rw [Nat.add_comm 1]
    · have : i = 128 := by omega
      subst this
      rw [mskL_end] at *
      repeat' (first | (with_reducible first | apply jA | apply jB | apply jC | apply jD | apply jE | apply jF | apply jG | apply jH | apply jI | apply jJ | apply jK | apply jL | apply jM | apply jN | apply jO) | ((with_reducible first | apply jP | apply jQ); rfl) | ((first | ((with_reducible first | apply jR | apply jS | apply jT); rfl; rfl) | (with_reducible first | apply jU | apply jV | apply jW) | ((with_reducible first | apply jX | apply jY | apply jZ); rfl)); all_goals (first | ((with_reducible show Is _ _); exact kE) | ((with_reducible refine fun (hc : (_ : Bool) = _) => ?_); (try simp only [xZ, xY, xP, reduceCtorEq] at hc); (try (have hx : True := hc; clear hx hc)); (try exact kX)) | ((fail_if_success (with_reducible first | show Is _ _ | show ACall _ _ _ _ _)); (try ((with_reducible show _ ∨ _); exact kT))))))
      rw [prefC]
      (simp (disch := omega) [go_sem, *]) <;> (try omega)
theorem icut_in (six : Bool) (A : List UInt8) (s : Nat) (hA : A.length = 16) (hs : s ≤ 128) : PC Tryz.prog true 67 [addrC six A, .int .i64 s] (addrC six (cutL A s)) := by
  refine acall_intro mixed Tryz.func67 rfl ca67 (by kernel_rfl) (by rw [Tryz.ntmps67]; simp) ?_
  repeat' (first | (with_reducible first | apply jA | apply jB | apply jC | apply jD | apply jE | apply jF | apply jG | apply jH | apply jI | apply jJ | apply jK | apply jL | apply jM | apply jN | apply jO) | ((with_reducible first | apply jP | apply jQ); rfl) | ((first | ((with_reducible first | apply jR | apply jS | apply jT); rfl; rfl) | (with_reducible first | apply jU | apply jV | apply jW) | ((with_reducible first | apply jX | apply jY | apply jZ); rfl)); all_goals (first | ((with_reducible show Is _ _); exact kE_GD0) | ((with_reducible refine fun (hc : (_ : Bool) = _) => ?_); (try simp only [xZ, xY, xP, reduceCtorEq] at hc); (try (have hx : True := hc; clear hx hc)); (try exact kX)) | ((fail_if_success (with_reducible first | show Is _ _ | show ACall _ _ _ _ _)); (try ((with_reducible show _ ∨ _); exact kT))))))
  refine w_loop (fun fr B => ∃ i b, i ≤ 16 ∧ fr 7 = .int .i64 (i : Nat) ∧ fr 1 = .int .i64 s ∧ fr 2 = .ptr 0 0 ∧ fr 4 = .ptr 1 0 ∧ b.cells.length = 17 ∧ b.multi = false ∧ B = [⟨.bool six :: (cutJ A s i).map byteC, false⟩, b]) (fun fr _ => 16 - natOf (fr 7)) ?_ ?_
  · refine ⟨0, _, by omega, by (simp (disch := omega) [go_sem, *]) <;> (try omega), by (simp (disch := omega) [go_sem, *]) <;> (try omega), by (simp (disch := omega) [go_sem, *]) <;> (try omega), by (simp (disch := omega) [go_sem, *]) <;> (try omega), ?_, ?_, by rw [cutJ_start hA]⟩ <;> rfl
  · rintro fr B ⟨i, ⟨bc, bm⟩, h1, h7, h1', h2', h4, hb, hbm, rfl⟩
    dsimp only at hb hbm
    subst hbm
    have hl := cutJ_len A s i
    by_cases hc : i < 16
    · have hg := get_of_getD (cutJ_get A (s := s) hc)
      have hm : (min (max ((s : Int) - 8 * i) 0) 8).toNat = min (s - 8 * i) 8 := by omega
      have han := and_cut (A.getD i 0) (h := min (s - 8 * i) 8) (by omega)
      have hst := cutJ_step A (s := s) hc
      generalize min (s - 8 * i) 8 = r at *
      generalize A.getD i 0 = y at *
      generalize cutB y r = y' at *
      repeat' (first | (with_reducible first | apply jA | apply jB | apply jC | apply jD | apply jE | apply jF | apply jG | apply jH | apply jI | apply jJ | apply jK | apply jL | apply jM | apply jN | apply jO) | ((with_reducible first | apply jP | apply jQ); rfl) | ((first | ((with_reducible first | apply jR | apply jS | apply jT); rfl; rfl) | (with_reducible first | apply jU | apply jV | apply jW) | ((with_reducible first | apply jX | apply jY | apply jZ); rfl)); all_goals (first | ((with_reducible show Is _ _); exact kE_GD2) | ((with_reducible refine fun (hc : (_ : Bool) = _) => ?_); (try simp only [xZ, xY, xP, reduceCtorEq] at hc); (try (have hx : True := hc; clear hx hc)); (try exact kX)) | ((fail_if_success (with_reducible first | show Is _ _ | show ACall _ _ _ _ _)); (try ((with_reducible show _ ∨ _); exact kT))))))
      refine ⟨⟨i + 1, ⟨bc, false⟩, by omega, by (simp (disch := omega) [go_sem, *]) <;> (try omega), by (simp (disch := omega) [go_sem, *]) <;> (try omega), by (simp (disch := omega) [go_sem, *]) <;> (try omega), by (simp (disch := omega) [go_sem, *]) <;> (try omega), hb, rfl, ?_⟩, by (simp (disch := omega) [go_sem, *]) <;> (try omega)⟩
      rw [← hst, List.set_eq_take_append_cons_drop, if_pos (by rw [hl]; omega), ← bytes_mid]
      rw [Nat.add_comm 1]
    · have : i = 16 := by omega
      subst this
      rw [cutJ_end] at *
      repeat' (first | (with_reducible first | apply jA | apply jB | apply jC | apply jD | apply jE | apply jF | apply jG | apply jH | apply jI | apply jJ | apply jK | apply jL | apply jM | apply jN | apply jO) | ((with_reducible first | apply jP | apply jQ); rfl) | ((first | ((with_reducible first | apply jR | apply jS | apply jT); rfl; rfl) | (with_reducible first | apply jU | apply jV | apply jW) | ((with_reducible first | apply jX | apply jY | apply jZ); rfl)); all_goals (first | ((with_reducible show Is _ _); exact kE) | ((with_reducible refine fun (hc : (_ : Bool) = _) => ?_); (try simp only [xZ, xY, xP, reduceCtorEq] at hc); (try (have hx : True := hc; clear hx hc)); (try exact kX)) | ((fail_if_success (with_reducible first | show Is _ _ | show ACall _ _ _ _ _)); (try ((with_reducible show _ ∨ _); exact kT))))))
      rw [addrC]
      (simp (disch := omega) [go_sem, *]) <;> (try omega)
def okA (six : Bool) (A : List UInt8) : Bool := six || (A.drop 4 == z12)
def vld (six : Bool) (A : List UInt8) (s : Int) : Bool := okA six A && (decide (0 ≤ s) && (decide (s ≤ if six then 128 else 32) && (cutL A s.toNat == A)))
theorem icut_at {B : List Box} {args : List CV} {six : Bool} {A : List UInt8} {n : Int} {s : Nat} (hz : Is (omap (fz true false B 6) args) (some [addrC six A, .int .i64 n])) (hn : n = s) (hA : A.length = 16) (hs : s ≤ 128) : ACall Tryz.prog 67 args B fun c B' => c = addrC six (cutL A s) ∧ B' = B := by subst hn; exact acall_fresh hz (icut_in six A s hA hs)
theorem masked_at {B : List Box} {args : List CV} {six : Bool} {A : List UInt8} {n : Int} {s : Nat} (hz : Is (omap (fz true false B 6) args) (some [addrC six A, .int .i64 n])) (hn : n = s) (hA : A.length = 16) (hs : s ≤ 128) : ACall Tryz.prog 14 args B fun c B' => c = prefC six (cutL A s) s ∧ B' = B := by subst hn; exact acall_fresh hz (masked_in six A s hA hs)
theorem zeros12 : [CV.int IntKind.u8 0, CV.int IntKind.u8 0, CV.int IntKind.u8 0, CV.int IntKind.u8 0, CV.int IntKind.u8 0, CV.int IntKind.u8 0, CV.int IntKind.u8 0, CV.int IntKind.u8 0, CV.int IntKind.u8 0, CV.int IntKind.u8 0, CV.int IntKind.u8 0, CV.int IntKind.u8 0] = z12.map byteC := rfl
theorem valid_in (six : Bool) (A : List UInt8) (hA : A.length = 16) : PC Tryz.prog true 66 [addrC six A] (.bool (okA six A)) := by
  obtain ⟨H, T, rfl, hH, hT⟩ : ∃ H T, H ++ T = A ∧ H.length = 4 ∧ T.length = 12 := ⟨A.take 4, A.drop 4, List.take_append_drop _ _, by rw [List.length_take]; omega, by rw [List.length_drop]; omega⟩
  have hd : (H ++ T).drop 4 = T := by rw [← hH]; simp
  rw [okA, hd]
  refine acall_intro mixed Tryz.func66 rfl ca66 (by kernel_rfl) (by rw [Tryz.ntmps66]; simp) ?_
  cases six with
  | true =>
    repeat' (first | (with_reducible first | apply jA | apply jB | apply jC | apply jD | apply jE | apply jF | apply jG | apply jH | apply jI | apply jJ | apply jK | apply jL | apply jM | apply jN | apply jO) | ((with_reducible first | apply jP | apply jQ); rfl) | ((first | ((with_reducible first | apply jR | apply jS | apply jT); rfl; rfl) | (with_reducible first | apply jU | apply jV | apply jW) | ((with_reducible first | apply jX | apply jY | apply jZ); rfl)); all_goals (first | ((with_reducible show Is _ _); exact kE_GD3) | ((with_reducible refine fun (hc : (_ : Bool) = _) => ?_); (try simp only [xZ, xY, xP, reduceCtorEq] at hc); (try (have hx : True := hc; clear hx hc)); (try exact kX)) | ((fail_if_success (with_reducible first | show Is _ _ | show ACall _ _ _ _ _)); (try ((with_reducible show _ ∨ _); exact kT))))))
    simp [fz_bool]
  | false =>
    have hz := z12_len
    repeat' (first | (with_reducible first | apply jA | apply jB | apply jC | apply jD | apply jE | apply jF | apply jG | apply jH | apply jI | apply jJ | apply jK | apply jL | apply jM | apply jN | apply jO) | ((with_reducible first | apply jP | apply jQ); rfl) | ((first | ((with_reducible first | apply jR | apply jS | apply jT); rfl; rfl) | (with_reducible first | apply jU | apply jV | apply jW) | ((with_reducible first | apply jX | apply jY | apply jZ); rfl)); all_goals (first | ((with_reducible show Is _ _); exact kE_GD3) | ((with_reducible refine fun (hc : (_ : Bool) = _) => ?_); (try simp only [xZ, xY, xP, reduceCtorEq] at hc); (try (have hx : True := hc; clear hx hc)); (try exact kX)) | ((fail_if_success (with_reducible first | show Is _ _ | show ACall _ _ _ _ _)); (try ((with_reducible show _ ∨ _); exact kT))))))
    have e : (H ++ T == H ++ z12) = (T == z12) := by rw [Bool.eq_iff_iff]; simp
    simp [fz_bool, e]
theorem valid_at {B : List Box} {args : List CV} {six : Bool} {A : List UInt8} (hz : Is (omap (fz true false B 6) args) (some [addrC six A])) (hA : A.length = 16) : ACall Tryz.prog 66 args B fun c B' => c = .bool (okA six A) ∧ B' = B := acall_fresh hz (valid_in six A hA)
theorem iValid_in (six : Bool) (A : List UInt8) (s : Int) (hA : A.length = 16) : PC Tryz.prog true 44 [prefC six A s] (.bool (vld six A s)) := by
  have hv : ∀ {B : List Box} {args : List CV}, Is (omap (fz true false B 6) args) (some [.agg (.bool six :: A.map byteC)]) → ACall Tryz.prog 66 args B fun c B' => c = .bool (okA six A) ∧ B' = B := fun h => valid_at h hA
  rw [vld]
  generalize okA six A = ok at *
  have hc : ∀ {B : List Box} {args : List CV}, 0 ≤ s ∧ s ≤ 128 → Is (omap (fz true false B 6) args) (some [.agg (.bool six :: A.map byteC), .int .i64 s]) → ACall Tryz.prog 67 args B fun c B' => c = .agg (.bool six :: (cutL A s.toNat).map byteC) ∧ B' = B := fun hs h => icut_at (s := s.toNat) h (by omega) hA (by omega)
  have hl := cutL_len A s.toNat
  generalize cutL A s.toNat = C at *
  refine acall_intro mixed Tryz.func44 rfl ca44 (by kernel_rfl) (by rw [Tryz.ntmps44]; simp) ?_
  cases ok with
  | false =>
    cases six
    all_goals
      repeat' (first | (with_reducible first | apply jA | apply jB | apply jC | apply jD | apply jE | apply jF | apply jG | apply jH | apply jI | apply jJ | apply jK | apply jL | apply jM | apply jN | apply jO) | ((with_reducible first | apply jP | apply jQ); rfl) | ((first | ((with_reducible first | apply jR | apply jS | apply jT); rfl; rfl) | (with_reducible first | apply jU | apply jV | apply jW) | ((with_reducible first | apply jX | apply jY | apply jZ); rfl) | ((with_reducible first | apply kA | apply kB | apply kC); rfl)); all_goals (first | ((with_reducible show Is _ _); exact kE_GD4) | ((with_reducible refine fun (hc : (_ : Bool) = _) => ?_); (try simp only [xZ, xY, xP, reduceCtorEq] at hc); (try (have hx : True := hc; clear hx hc)); (try exact kX)) | ((with_reducible show ACall _ _ _ _ _); (first | ((with_reducible apply hv) <;> exact kD_GD4))) | ((fail_if_success (with_reducible first | show Is _ _ | show ACall _ _ _ _ _)); (try ((with_reducible show _ ∨ _); exact kT))))))
      all_goals simp [fz_bool]
  | true =>
    by_cases h1 : 0 ≤ s
    · cases six
      · by_cases h2 : s ≤ 32
        · repeat' (first | (with_reducible first | apply jA | apply jB | apply jC | apply jD | apply jE | apply jF | apply jG | apply jH | apply jI | apply jJ | apply jK | apply jL | apply jM | apply jN | apply jO) | ((with_reducible first | apply jP | apply jQ); rfl) | ((first | ((with_reducible first | apply jR | apply jS | apply jT); rfl; rfl) | (with_reducible first | apply jU | apply jV | apply jW) | ((with_reducible first | apply jX | apply jY | apply jZ); rfl) | ((with_reducible first | apply kA | apply kB | apply kC); rfl)); all_goals (first | ((with_reducible show Is _ _); exact kE_GD4) | ((with_reducible refine fun (hc : (_ : Bool) = _) => ?_); (try simp only [xZ, xY, xP, reduceCtorEq] at hc); (try (have hx : True := hc; clear hx hc)); (try exact kX)) | ((with_reducible show ACall _ _ _ _ _); (first | ((with_reducible apply hv) <;> exact kD_GD4) | ((with_reducible apply hc) <;> exact kD_GD4))) | ((fail_if_success (with_reducible first | show Is _ _ | show ACall _ _ _ _ _)); (try ((with_reducible show _ ∨ _); exact kT))))))
          all_goals simp [fz_bool, *]
        · repeat' (first | (with_reducible first | apply jA | apply jB | apply jC | apply jD | apply jE | apply jF | apply jG | apply jH | apply jI | apply jJ | apply jK | apply jL | apply jM | apply jN | apply jO) | ((with_reducible first | apply jP | apply jQ); rfl) | ((first | ((with_reducible first | apply jR | apply jS | apply jT); rfl; rfl) | (with_reducible first | apply jU | apply jV | apply jW) | ((with_reducible first | apply jX | apply jY | apply jZ); rfl) | ((with_reducible first | apply kA | apply kB | apply kC); rfl)); all_goals (first | ((with_reducible show Is _ _); exact kE_GD4) | ((with_reducible refine fun (hc : (_ : Bool) = _) => ?_); (try simp only [xZ, xY, xP, reduceCtorEq] at hc); (try (have hx : True := hc; clear hx hc)); (try exact kX)) | ((with_reducible show ACall _ _ _ _ _); (first | ((with_reducible apply hv) <;> exact kD_GD4))) | ((fail_if_success (with_reducible first | show Is _ _ | show ACall _ _ _ _ _)); (try ((with_reducible show _ ∨ _); exact kT))))))
          all_goals simp [fz_bool, *]
      · by_cases h2 : s ≤ 128
        · repeat' (first | (with_reducible first | apply jA | apply jB | apply jC | apply jD | apply jE | apply jF | apply jG | apply jH | apply jI | apply jJ | apply jK | apply jL | apply jM | apply jN | apply jO) | ((with_reducible first | apply jP | apply jQ); rfl) | ((first | ((with_reducible first | apply jR | apply jS | apply jT); rfl; rfl) | (with_reducible first | apply jU | apply jV | apply jW) | ((with_reducible first | apply jX | apply jY | apply jZ); rfl) | ((with_reducible first | apply kA | apply kB | apply kC); rfl)); all_goals (first | ((with_reducible show Is _ _); exact kE_GD4) | ((with_reducible refine fun (hc : (_ : Bool) = _) => ?_); (try simp only [xZ, xY, xP, reduceCtorEq] at hc); (try (have hx : True := hc; clear hx hc)); (try exact kX)) | ((with_reducible show ACall _ _ _ _ _); (first | ((with_reducible apply hv) <;> exact kD_GD4) | ((with_reducible apply hc) <;> exact kD_GD4))) | ((fail_if_success (with_reducible first | show Is _ _ | show ACall _ _ _ _ _)); (try ((with_reducible show _ ∨ _); exact kT))))))
          all_goals simp [fz_bool, *]
        · repeat' (first | (with_reducible first | apply jA | apply jB | apply jC | apply jD | apply jE | apply jF | apply jG | apply jH | apply jI | apply jJ | apply jK | apply jL | apply jM | apply jN | apply jO) | ((with_reducible first | apply jP | apply jQ); rfl) | ((first | ((with_reducible first | apply jR | apply jS | apply jT); rfl; rfl) | (with_reducible first | apply jU | apply jV | apply jW) | ((with_reducible first | apply jX | apply jY | apply jZ); rfl) | ((with_reducible first | apply kA | apply kB | apply kC); rfl)); all_goals (first | ((with_reducible show Is _ _); exact kE_GD4) | ((with_reducible refine fun (hc : (_ : Bool) = _) => ?_); (try simp only [xZ, xY, xP, reduceCtorEq] at hc); (try (have hx : True := hc; clear hx hc)); (try exact kX)) | ((with_reducible show ACall _ _ _ _ _); (first | ((with_reducible apply hv) <;> exact kD_GD4))) | ((fail_if_success (with_reducible first | show Is _ _ | show ACall _ _ _ _ _)); (try ((with_reducible show _ ∨ _); exact kT))))))
          all_goals simp [fz_bool, *]
    · cases six
      all_goals
        repeat' (first | (with_reducible first | apply jA | apply jB | apply jC | apply jD | apply jE | apply jF | apply jG | apply jH | apply jI | apply jJ | apply jK | apply jL | apply jM | apply jN | apply jO) | ((with_reducible first | apply jP | apply jQ); rfl) | ((first | ((with_reducible first | apply jR | apply jS | apply jT); rfl; rfl) | (with_reducible first | apply jU | apply jV | apply jW) | ((with_reducible first | apply jX | apply jY | apply jZ); rfl) | ((with_reducible first | apply kA | apply kB | apply kC); rfl)); all_goals (first | ((with_reducible show Is _ _); exact kE_GD4) | ((with_reducible refine fun (hc : (_ : Bool) = _) => ?_); (try simp only [xZ, xY, xP, reduceCtorEq] at hc); (try (have hx : True := hc; clear hx hc)); (try exact kX)) | ((with_reducible show ACall _ _ _ _ _); (first | ((with_reducible apply hv) <;> exact kD_GD4))) | ((fail_if_success (with_reducible first | show Is _ _ | show ACall _ _ _ _ _)); (try ((with_reducible show _ ∨ _); exact kT))))))
        all_goals simp [fz_bool, *]
theorem iValid_at {B : List Box} {args : List CV} {six : Bool} {A : List UInt8} {s : Int} (hz : Is (omap (fz true false B 6) args) (some [prefC six A s])) (hA : A.length = 16) : ACall Tryz.prog 44 args B fun c B' => c = .bool (vld six A s) ∧ B' = B := acall_fresh hz (iValid_in six A s hA)
theorem vld_range {six : Bool} {A : List UInt8} {s : Int} (h : vld six A s = true) : 0 ≤ s ∧ s ≤ 128 := by
  simp only [vld, Bool.and_eq_true, decide_eq_true_eq] at h
  have := h.2.1
  have := h.2.2.1
  cases six <;> simp at * <;> omega
theorem cut_cut0 : ∀ x : Fin 256, ∀ h : Fin 9, ∀ k : Fin 9, cutN (cutN x.1 h.1) k.1 = cutN x.1 (min h.1 k.1) := by decide +kernel
theorem cutB_cutB (x : UInt8) {h k : Nat} (hh : h ≤ 8) (hk : k ≤ 8) : cutB (cutB x h) k = cutB x (min h k) := UInt8.toNat_inj.1 (by
  rw [cutB_toNat, cutB_toNat, cutB_toNat]; exact cut_cut0 ⟨x.toNat, x.toNat_lt⟩ ⟨h, by omega⟩ ⟨k, by omega⟩)
theorem cutL_get (A : List UInt8) (s : Nat) {i : Nat} (hi : i < 16) : (cutL A s).getD i 0 = cutB (A.getD i 0) (min (s - 8 * i) 8) := getD_row16 _ hi
theorem cutL_cutL (A : List UInt8) {l s : Nat} (h : s ≤ l) : cutL (cutL A l) s = cutL A s := by
  apply List.map_congr_left
  intro i hi
  rw [List.mem_range] at hi
  rw [cutL_get A l hi, cutB_cutB _ (Nat.min_le_right _ _) (Nat.min_le_right _ _)]
  congr 1; omega
theorem okA_cut {six : Bool} {A : List UInt8} {s : Nat} (hA : A.length = 16) (h : okA six A = true) : okA six (cutL A s) = true := by
  cases six with
  | true => rfl
  | false =>
    simp only [okA, Bool.false_or, beq_iff_eq] at h ⊢
    have hz : ∀ i, 4 ≤ i → i < 16 → A.getD i 0 = 0 := by
      intro i h1 h2
      have : A.getD i 0 = (A.drop 4).getD (i - 4) 0 := by
        rw [List.getD_eq_getElem?_getD, List.getD_eq_getElem?_getD, List.getElem?_drop]; congr 2; congr 1; omega
      rw [this, h]
      have : ∀ j : Fin 12, z12.getD j.1 0 = 0 := by decide
      exact this ⟨i - 4, by omega⟩
    apply List.ext_getElem
    · rw [List.length_drop, cutL_len]; rfl
    · intro i h1 h2
      rw [List.length_drop, cutL_len] at h1
      rw [List.getElem_drop, get_of_getD (cutL_get A s (i := 4 + i) (by omega)) (by rw [cutL_len]; omega), hz (4 + i) (by omega) (by omega)]
      have e : ∀ j : Fin 12, z12.getD j.1 0 = 0 := by decide
      have := get_of_getD (e ⟨i, by omega⟩) h2
      dsimp only at this
      rw [this]
      apply UInt8.toNat_inj.1
      rw [cutB_toNat, cutN]
      simp
theorem vld_cut {six : Bool} {A : List UInt8} {s : Nat} (hA : A.length = 16) (h : okA six A = true) (hs : s ≤ if six then 128 else 32) : vld six (cutL A s) s = true := by
  simp only [vld, Bool.and_eq_true, decide_eq_true_eq, beq_iff_eq]
  refine ⟨okA_cut hA h, by omega, ?_, by rw [Int.toNat_natCast, cutL_cutL A (Nat.le_refl s)]⟩
  cases six <;> simp at hs ⊢ <;> omega
theorem okA_ad (l : List UInt8) (a : Nat) : okA (adSix l a) (adIP l a) = true := by
  unfold okA adIP
  cases adSix l a <;> rfl
def bitI (A : List UInt8) (k : Nat) : Nat := (A.getD (k / 8) 0).toNat / 2 ^ (7 - k % 8) % 2
theorem byteExt {x y : UInt8} (h : ∀ r, r < 8 → x.toNat / 2 ^ (7 - r) % 2 = y.toNat / 2 ^ (7 - r) % 2) : x = y := by
  apply UInt8.toNat_inj.1
  apply Nat.eq_of_testBit_eq
  intro i
  rcases Nat.lt_or_ge i 8 with hi | hi
  · have := h (7 - i) (by omega)
    rw [show 7 - (7 - i) = i by omega] at this
    rw [Nat.testBit_eq_decide_div_mod_eq, Nat.testBit_eq_decide_div_mod_eq, this]
  · have hx := x.toNat_lt; have hy := y.toNat_lt
    have hp : (2 : Nat) ^ 8 ≤ 2 ^ i := Nat.pow_le_pow_right (by omega) hi
    rw [Nat.testBit_lt_two_pow (by omega), Nat.testBit_lt_two_pow (by omega)]
theorem ipExt {A C : List UInt8} (hA : A.length = 16) (hC : C.length = 16) (h : ∀ k, k < 128 → bitI A k = bitI C k) : A = C := by
  apply List.ext_getElem
  · rw [hA, hC]
  · intro i h1 h2
    have e1 := get_of_getD (l := A) (i := i) rfl h1
    have e2 := get_of_getD (l := C) (i := i) rfl h2
    rw [e1, e2]
    refine byteExt fun r hr => ?_
    have := h (8 * i + r) (by omega)
    rw [bitI, bitI, show (8 * i + r) / 8 = i by omega, show (8 * i + r) % 8 = r by omega] at this
    exact this
theorem bit_cut (A : List UInt8) (s : Nat) {k : Nat} (hk : k < 128) : bitI (cutL A s) k = if k < s then bitI A k else 0 := by
  rw [bitI, bitI, cutL_get A s (by omega), cutB_toNat]
  have := cut_bits0 ⟨(A.getD (k / 8) 0).toNat, (A.getD (k / 8) 0).toNat_lt⟩ ⟨min (s - 8 * (k / 8)) 8, by omega⟩ ⟨k % 8, by omega⟩
  dsimp only at this
  rw [this]
  by_cases h : k < s
  · rw [if_pos h, if_pos (by omega)]
  · rw [if_neg h, if_neg (by omega)]
theorem cut_same {A : List UInt8} (hA : A.length = 16) (s : Nat) : cutL A s = A ↔ ∀ k, s ≤ k → k < 128 → bitI A k = 0 := by
  constructor
  · intro h k h1 h2
    rw [← h, bit_cut A s h2, if_neg (by omega)]
  · intro h
    refine ipExt (cutL_len _ _) hA fun k hk => ?_
    rw [bit_cut A s hk]
    split
    · rfl
    · rename_i hs; exact (h k (by omega) hk).symm
def pfN (l : List UInt8) (a : Nat) : Nat := if adSix l a then 129 else 33
def pfBits (l : List UInt8) (a : Nat) : Nat := nxV l (adA l a) (pfN l a)
def pfA (l : List UInt8) (a : Nat) : Nat := nxA l (adA l a) (pfN l a)
def pfIP (l : List UInt8) (a : Nat) : List UInt8 := cutL (adIP l a) (pfBits l a)
def pfG (l : List UInt8) (a : Nat) : List Box := ⟨.bool (adSix l a) :: ((pfIP l a).map byteC ++ [.int .i64 (pfBits l a : Nat)]), false⟩ :: (adG l a ++ [adBox l a, ⟨[], false⟩])
theorem prefix_at {B : List Box} {β : Nat} {args : List CV} {l : List UInt8} {a : Nat} (ha : Is args [.ptr β 0]) (hB : B[β]? = some (cb l a)) (hl : a ≤ l.length ∧ l.length < 1000000) : ACall Tryz.prog 47 args B fun c B' => c = prefC (adSix l a) (pfIP l a) (pfBits l a) ∧ B' = B.set β (cb l (pfA l a)) ++ pfG l a := by
  have ha : args = _ := ha
  subst ha
  obtain ⟨p1, p2, p3, p4, p5, p6, p7, p8, p9, p10, p11, p12, p13⟩ := bx_pack hB
  have had : ∀ (B : List Box) (args : List CV), Is args [.ptr β 0] → B[β]? = some (cb l a) → ACall Tryz.prog 49 args B fun c B' => c = addrC (adSix l a) (adIP l a) ∧ B' = B.set β (cb l (adA l a)) ++ adG l a := fun B args h h2 => addr_at h h2 hl
  have hal := adA_le hl.1
  have hlen := adIP_len l a
  have hnx : ∀ (B : List Box) (args : List CV) (m : Int), Is args [.ptr β 0, .int .i64 m] → m = pfN l a → B[β]? = some (cb l (adA l a)) → ACall Tryz.prog 21 args B fun c B' => c = .int .i64 (nxV l (adA l a) (pfN l a)) ∧ B' = B.set β (cb l (nxA l (adA l a) (pfN l a))) := fun B args m h hm h2 => next_at h hm h2 ⟨hal, by omega⟩
  have hmk : ∀ (s : Nat), s ≤ 128 → ∀ (B : List Box) (args : List CV), Is (omap (fz true false B 6) args) (some [addrC (adSix l a) (adIP l a), .int .i64 s]) → ACall Tryz.prog 14 args B fun c B' => c = prefC (adSix l a) (cutL (adIP l a) s) s ∧ B' = B := fun s hs B args h => masked_at h rfl hlen hs
  have hN : (pfN l a : Int) = if adSix l a then 129 else 33 := by unfold pfN; split <;> rfl
  have hk : nxV l (adA l a) (pfN l a) ≤ 128 := by
    have := nxV_lt (l := l) (a := adA l a) (n := pfN l a) (by unfold pfN; split <;> omega)
    have : pfN l a ≤ 129 := by unfold pfN; split <;> omega
    omega
  have hm := hmk _ hk
  rw [pfA, pfIP, pfG, pfIP, pfBits, adBox]
  have hcl := cutL_len (adIP l a) (nxV l (adA l a) (pfN l a))
  generalize cutL (adIP l a) (nxV l (adA l a) (pfN l a)) = C at *
  generalize nxV l (adA l a) (pfN l a) = k at *
  generalize nxA l (adA l a) (pfN l a) = a2 at *
  generalize pfN l a = N at *
  generalize adSix l a = six at *
  generalize adIP l a = A at *
  generalize adG l a = G at *
  generalize adA l a = a1 at *
  clear hmk
  refine acall_intro mixed Tryz.func47 rfl ca47 (by kernel_rfl) (by rw [Tryz.ntmps47]; simp) ?_
  cases six
  all_goals
    repeat' (first | (with_reducible first | apply jA | apply jB | apply jC | apply jD | apply jE | apply jF | apply jG | apply jH | apply jI | apply jJ | apply jK | apply jL | apply jM | apply jN | apply jO) | ((with_reducible apply jP); rfl) | ((first | ((with_reducible first | apply jR | apply jS | apply jT); rfl; rfl) | (with_reducible first | apply jU | apply jV | apply jW) | ((with_reducible first | apply jX | apply jY | apply jZ); rfl) | ((with_reducible first | apply kA | apply kB | apply kC); rfl)); all_goals (first | ((with_reducible show Is _ _); exact kE_GD5) | ((with_reducible refine fun (hc : (_ : Bool) = _) => ?_); (try simp only [xZ, xY, xP, reduceCtorEq] at hc); (try (have hx : True := hc; clear hx hc)); (try exact kX)) | ((with_reducible show ACall _ _ _ _ _); (first | ((with_reducible apply had) <;> exact kD_GD5))) | ((fail_if_success (with_reducible first | show Is _ _ | show ACall _ _ _ _ _)); (try ((with_reducible show _ ∨ _); exact kT))))))
    refine w_drawJ [0] [⟨[], false⟩] (fun B' => B'[B.length + (G.length + 1)]? = some ⟨_ :: A.map byteC, false⟩) rfl (by simp (disch := first | omega | (simp only [yZ, yB] <;> omega) | fail) [go_sem, yY, *, -List.map_take, -List.map_drop, -List.map_append, -List.map_reverse]; exact rfl) (by simp (disch := first | omega | (simp only [yZ, yB] <;> omega) | fail) [go_sem, yY, *, bx_get0, -List.map_take, -List.map_drop, -List.map_append, -List.map_reverse]; rfl) ?_
    repeat' (first | (with_reducible first | apply jA | apply jB | apply jC | apply jD | apply jE | apply jF | apply jG | apply jH | apply jI | apply jJ | apply jK | apply jL | apply jM | apply jN | apply jO) | ((with_reducible first | apply jP | apply jQ); rfl) | ((with_reducible apply w_drawA); (conv => lhs; reduce); exact kE_GD5; exact kE_GD5) | ((first | ((with_reducible first | apply d_made | apply q_made); rfl; rfl)); (iterate 6 exact kE_GD5)) | ((first | ((with_reducible first | apply d_fop | apply q_fop); rfl; rfl)); (intro Bx hJ; (first | (obtain ⟨_, hJ1, hJ2⟩ := hJ) | (try simp only at hJ)); exact kE_GD5)) | ((with_reducible first | apply d_free | apply q_free); rfl; (iterate 2 exact kE_GD5); (intro Bx hJ); (first | ((with_reducible apply hnx) <;> exact kD_GD5) | ((with_reducible apply hm) <;> exact kD_GD5))) | ((first | ((with_reducible first | apply jR | apply jS | apply jT); rfl; rfl) | (with_reducible first | apply jU | apply jV | apply jW) | ((with_reducible first | apply jX | apply jY | apply jZ); rfl) | ((with_reducible first | apply kA | apply kB | apply kC); rfl)); all_goals (first | ((with_reducible show Is _ _); exact kE_GD5) | ((with_reducible refine fun (hc : (_ : Bool) = _) => ?_); (try simp only [xZ, xY, xP, reduceCtorEq] at hc); (try (have hx : True := hc; clear hx hc)); (try exact kX)) | ((with_reducible show ACall _ _ _ _ _); (first | ((with_reducible apply hnx) <;> exact kD_GD5) | ((with_reducible apply hm) <;> exact kD_GD5))) | ((fail_if_success (with_reducible first | show Is _ _ | show ACall _ _ _ _ _)); (try ((with_reducible show _ ∨ _); first | exact .inl rfl | (refine .inr ⟨rfl, ?_, ?_⟩; (focus (repeat (first | exact trivial | refine ⟨.inl rfl, ?_⟩ | refine ⟨.inr rfl, ?_⟩ | refine ⟨.inr (by (simp (disch := first | omega | (simp only [yZ, yB] <;> omega) | fail) [go_sem, yY, *, addrC, prefC, bx_get0, bx_get, bx_set0, bx_set, -List.map_take, -List.map_drop, -List.map_append, -List.map_reverse])), ?_⟩))); (first | exact trivial | exact rfl | (refine ⟨_, ?_, ?_⟩; (focus (simp (disch := first | omega | (simp only [yZ, yB] <;> omega) | fail) [go_sem, yY, *, addrC, prefC, bx_get0, bx_get, bx_set0, bx_set, -List.map_take, -List.map_drop, -List.map_append, -List.map_reverse]; (try exact rfl))); (simp (disch := first | omega | (simp only [yZ, yB] <;> omega) | fail) [go_sem, yY, *, addrC, prefC, bx_get0, bx_get, bx_set0, bx_set, -List.map_take, -List.map_drop, -List.map_append, -List.map_reverse])) | (simp (disch := first | omega | (simp only [yZ, yB] <;> omega) | fail) [go_sem, yY, *, addrC, prefC, bx_get0, bx_get, bx_set0, bx_set, -List.map_take, -List.map_drop, -List.map_append, -List.map_reverse]))) | exact .inl (by (simp (disch := first | omega | (simp only [yZ, yB] <;> omega) | fail) [go_sem, yY, *, addrC, prefC, bx_get0, bx_get, bx_set0, bx_set, -List.map_take, -List.map_drop, -List.map_append, -List.map_reverse]))))))))
    exact ⟨rfl, rfl⟩
end Go.Proofs.YtdceppjoipoohaaGreatDoor
end
section
namespace Go.Proofs.YtdceppjoipoohaaGreatDoor
open Go Go.Sy
set_option linter.all false
set_option maxRecDepth 100000
set_option maxHeartbeats 4000000
def hexD (d : Nat) : UInt8 := if d < 10 then UInt8.ofNat (48 + d) else UInt8.ofNat (87 + d)
def hexT (u : Nat) : List UInt8 :=
  if h : u < 16 then [hexD u] else hexT (u / 16) ++ [hexD (u % 16)]
termination_by u
decreasing_by omega
theorem tz_at {B : List Box} : ACall Tryz.prog 95 [.int .u64 16] B fun c B' => c = .int .i64 4 ∧ B' = B := by
  have h64 : ∀ {B : List Box} {args : List CV}, Is args [.int .u64 16] → ACall Tryz.prog 112 args B fun c B' => c = .int .i64 4 ∧ B' = B := fun {B args} h => by
    have h : _ = _ := h
    subst h
    refine acall_intro mixed Tryz.func112 rfl ca112 (by kernel_rfl) (by rw [Tryz.ntmps112]; simp) ?_
    have e1 : bits .and .u64 16 (IntKind.u64.wrap (-16)) = 16 := by decide
    have ht : tab 3 = some (.u8, [0, 1, 56, 2, 57, 49, 28, 3, 61, 58, 42, 50, 38, 29, 17, 4, 62, 47, 59, 36, 45, 43, 51, 22, 53, 39, 33, 30, 24, 18, 12, 5, 63, 55, 48, 27, 60, 41, 37, 16, 46, 35, 44, 21, 52, 32, 23, 11, 54, 26, 40, 15, 34, 20, 31, 10, 25, 14, 19, 9, 13, 8, 7, 6]) := rfl
    repeat' (first | (with_reducible first | apply jA | apply jB | apply jC | apply jD | apply jE | apply jF | apply jG | apply jH | apply jI | apply jJ | apply jK | apply jL | apply jM | apply jN | apply jO) | ((with_reducible first | apply jP | apply jQ); rfl) | ((first | ((with_reducible first | apply jR | apply jS | apply jT); rfl; rfl) | (with_reducible first | apply jU | apply jV | apply jW) | ((with_reducible first | apply jX | apply jY | apply jZ); rfl)); all_goals (first | ((with_reducible show Is _ _); exact kE) | ((with_reducible refine fun (hc : (_ : Bool) = _) => ?_); (try simp only [xZ, xY, xP, reduceCtorEq] at hc); (try (have hx : True := hc; clear hx hc)); (try exact kX)) | ((fail_if_success (with_reducible first | show Is _ _ | show ACall _ _ _ _ _)); (try ((with_reducible show _ ∨ _); exact kT))))))
    exact ⟨rfl, rfl⟩
  refine acall_intro mixed Tryz.func95 rfl ca95 (by kernel_rfl) (by rw [Tryz.ntmps95]; simp) ?_
  repeat' (first | (with_reducible first | apply jA | apply jB | apply jC | apply jD | apply jE | apply jF | apply jG | apply jH | apply jI | apply jJ | apply jK | apply jL | apply jM | apply jN | apply jO) | ((with_reducible first | apply jP | apply jQ); rfl) | ((first | ((with_reducible first | apply jR | apply jS | apply jT); rfl; rfl) | (with_reducible first | apply jU | apply jV | apply jW) | ((with_reducible first | apply jX | apply jY | apply jZ); rfl) | ((with_reducible first | apply kA | apply kB | apply kC); rfl)); all_goals (first | ((with_reducible show Is _ _); exact kE) | ((with_reducible refine fun (hc : (_ : Bool) = _) => ?_); (try simp only [xZ, xY, xP, reduceCtorEq] at hc); (try (have hx : True := hc; clear hx hc)); (try exact kX)) | ((with_reducible show ACall _ _ _ _ _); (first | ((with_reducible apply h64) <;> exact kD))) | ((fail_if_success (with_reducible first | show Is _ _ | show ACall _ _ _ _ _)); (try ((with_reducible show _ ∨ _); exact kT))))))
  exact ⟨rfl, rfl⟩
theorem pow2_at {B : List Box} {args : List CV} (ha : Is args [.int .i64 16]) : ACall Tryz.prog 94 args B fun c B' => c = .bool true ∧ B' = B := by
  have h : _ = _ := ha
  subst h
  have e1 : bits .and .i64 16 15 = 0 := by decide
  refine acall_intro mixed Tryz.func94 rfl ca94 (by kernel_rfl) (by rw [Tryz.ntmps94]; simp) ?_
  repeat' (first | (with_reducible first | apply jA | apply jB | apply jC | apply jD | apply jE | apply jF | apply jG | apply jH | apply jI | apply jJ | apply jK | apply jL | apply jM | apply jN | apply jO) | ((with_reducible first | apply jP | apply jQ); rfl) | ((first | ((with_reducible first | apply jR | apply jS | apply jT); rfl; rfl) | (with_reducible first | apply jU | apply jV | apply jW) | ((with_reducible first | apply jX | apply jY | apply jZ); rfl)); all_goals (first | ((with_reducible show Is _ _); exact kE) | ((with_reducible refine fun (hc : (_ : Bool) = _) => ?_); (try simp only [xZ, xY, xP, reduceCtorEq] at hc); (try (have hx : True := hc; clear hx hc)); (try exact kX)) | ((fail_if_success (with_reducible first | show Is _ _ | show ACall _ _ _ _ _)); (try ((with_reducible show _ ∨ _); exact kT))))))
  exact ⟨rfl, rfl⟩
theorem digs_at : ∀ d : Fin 16, ([48, 49, 50, 51, 52, 53, 54, 55, 56, 57, 97, 98, 99, 100, 101, 102, 103, 104, 105, 106, 107, 108, 109, 110, 111, 112, 113, 114, 115, 116, 117, 118, 119, 120, 121, 122] : List UInt8)[d.1]? = some (hexD d.1) := by decide
theorem digs_get {d : Nat} (h : d < 16) (h2 : d < 36) : ([48, 49, 50, 51, 52, 53, 54, 55, 56, 57, 97, 98, 99, 100, 101, 102, 103, 104, 105, 106, 107, 108, 109, 110, 111, 112, 113, 114, 115, 116, 117, 118, 119, 120, 121, 122] : List UInt8)[d]'h2 = hexD d := by
  have := digs_at ⟨d, h⟩
  rw [List.getElem?_eq_getElem (by exact h2)] at this
  exact Option.some.inj this
theorem fmtBits_in (n : Nat) (hn : n < 65536) : PC Tryz.prog true 73 [.nilS, .int .u64 n, .int .i64 16, .bool false, .bool false] (.tup [.lst 0 [] false, .str (hexT n)]) := by
  have htz : ∀ {B : List Box} {args : List CV}, Is args [.int .u64 16] → ACall Tryz.prog 95 args B fun c B' => c = .int .i64 4 ∧ B' = B := fun h => by
    have h : _ = _ := h
    subst h
    exact tz_at
  have hr := rep_bytes 65
  refine acall_intro mixed Tryz.func73 rfl ca73 (by kernel_rfl) (by rw [Tryz.ntmps73]; simp) ?_
  repeat' (first | (with_reducible first | apply jA | apply jB | apply jC | apply jD | apply jE | apply jF | apply jG | apply jH | apply jI | apply jJ | apply jK | apply jL | apply jM | apply jN | apply jO) | ((with_reducible first | apply jP | apply jQ); rfl) | ((first | ((with_reducible first | apply jR | apply jS | apply jT); rfl; rfl) | (with_reducible first | apply jU | apply jV | apply jW) | ((with_reducible first | apply jX | apply jY | apply jZ); rfl) | ((with_reducible first | apply kA | apply kB | apply kC); rfl)); all_goals (first | ((with_reducible show Is _ _); exact kE) | ((with_reducible refine fun (hc : (_ : Bool) = _) => ?_); (try simp only [xZ, xY, xP, reduceCtorEq] at hc); (try (have hx : True := hc; clear hx hc)); (try exact kX)) | ((with_reducible show ACall _ _ _ _ _); (first | ((with_reducible apply htz) <;> exact kD) | ((with_reducible apply pow2_at) <;> exact kD))) | ((fail_if_success (with_reducible first | show Is _ _ | show ACall _ _ _ _ _)); (try ((with_reducible show _ ∨ _); exact kT))))))
  refine w_loop (fun fr B => ∃ (u i : Nat) (t : List UInt8), hexT n = hexT u ++ t ∧ ((t.length = 0 ∧ u < 65536) ∨ (t.length = 1 ∧ u < 4096) ∨ (t.length = 2 ∧ u < 256) ∨ (t.length = 3 ∧ u < 16)) ∧ i + t.length = 65 ∧ fr 1 = .int .u64 u ∧ fr 13 = .int .i64 i ∧ fr 12 = .ptr 0 0 ∧ fr 14 = .int .u64 4 ∧ fr 15 = .int .u64 16 ∧ fr 16 = .int .u64 15 ∧ fr 0 = .nilS ∧ fr 3 = .bool false ∧ fr 4 = .bool false ∧ fr 10 = .nilS ∧ B = [⟨(List.replicate i (0 : UInt8) ++ t).map byteC, false⟩]) (fun fr _ => natOf (fr 1)) ?_ ?_
  · exact ⟨n, 65, [], by simp, .inl ⟨rfl, hn⟩, rfl, by (simp (disch := omega) [go_sem, *]) <;> (try omega), by (simp (disch := omega) [go_sem, *]) <;> (try omega), by (simp (disch := omega) [go_sem, *]) <;> (try omega), by (simp (disch := omega) [go_sem, *]) <;> (try omega), by (simp (disch := omega) [go_sem, *]) <;> (try omega), by (simp (disch := omega) [go_sem, *]) <;> (try omega), by (simp (disch := omega) [go_sem, *]) <;> (try omega), by (simp (disch := omega) [go_sem, *]) <;> (try omega), by (simp (disch := omega) [go_sem, *]) <;> (try omega), by (simp (disch := omega) [go_sem, *]) <;> (try omega), rfl⟩
  clear hr
  rintro fr B ⟨u, i, t, he, hu, hi, h1, h13, h12, h14, h15, h16, h0, h3, h4, h10, rfl⟩
  have hul : u < 65536 := by omega
  obtain ⟨k, rfl⟩ : ∃ k, i = k + 1 := ⟨i - 1, by omega⟩
  have hll : (List.replicate (k + 1) (0 : UInt8) ++ t).length = 65 := by simp; omega
  have hset : ∀ x : UInt8, (List.replicate (k + 1) (0 : UInt8) ++ t).set k x = List.replicate k 0 ++ x :: t := fun x => by
    rw [List.set_append_left _ _ (by simp), List.replicate_succ', List.set_append_right _ _ (by simp)]; simp
  by_cases hc : 16 ≤ u
  · obtain ⟨d, hd⟩ : ∃ d, u % 16 = d := ⟨_, rfl⟩
    have hd16 : d < 16 := by omega
    have hand : bits .and .u64 (u : Int) 15 = (d : Int) := by
      rw [show (15 : Int) = ((15 : Nat) : Int) from rfl, u64_and_nat u 15 (by omega) (by omega), show (15 : Nat) = 2 ^ 4 - 1 from rfl, Nat.and_two_pow_sub_one_eq_mod, ← hd]
    have hdg := digs_get (d := d) (by omega) (by omega)
    dsimp only at hdg
    have hx := hset (hexD d)
    have hT : hexT n = hexT (u / 16) ++ hexD d :: t := by rw [he, hexT, dif_neg (by omega), hd]; simp
    clear hset
    replace hd : Hid _ := hd
    repeat' (first | (with_reducible first | apply jA | apply jB | apply jC | apply jD | apply jE | apply jF | apply jG | apply jH | apply jI | apply jJ | apply jK | apply jL | apply jM | apply jN | apply jO) | ((with_reducible first | apply jP | apply jQ); rfl) | ((first | ((with_reducible first | apply jR | apply jS | apply jT); rfl; rfl) | (with_reducible first | apply jU | apply jV | apply jW) | ((with_reducible first | apply jX | apply jY | apply jZ); rfl)); all_goals (first | ((with_reducible show Is _ _); exact kE) | ((with_reducible refine fun (hc : (_ : Bool) = _) => ?_); (try simp only [xZ, xY, xP, reduceCtorEq] at hc); (try (have hx : True := hc; clear hx hc)); (try exact kX)) | ((fail_if_success (with_reducible first | show Is _ _ | show ACall _ _ _ _ _)); (try ((with_reducible show _ ∨ _); exact kT))))))
    refine ⟨⟨u / 16, k, hexD d :: t, hT, by simp only [List.length_cons]; omega, by rw [List.length_cons]; omega, by (simp (disch := omega) [go_sem, *]) <;> (try omega), by (simp (disch := omega) [go_sem, *]) <;> (try omega), by (simp (disch := omega) [go_sem, *]) <;> (try omega), by (simp (disch := omega) [go_sem, *]) <;> (try omega), by (simp (disch := omega) [go_sem, *]) <;> (try omega), by (simp (disch := omega) [go_sem, *]) <;> (try omega), by (simp (disch := omega) [go_sem, *]) <;> (try omega), by (simp (disch := omega) [go_sem, *]) <;> (try omega), by (simp (disch := omega) [go_sem, *]) <;> (try omega), by (simp (disch := omega) [go_sem, *]) <;> (try omega), ?_⟩, by (simp (disch := omega) [go_sem, *]) <;> (try omega)⟩
    rw [← hx, bytes_mid, List.set_eq_take_append_cons_drop, if_pos (by omega)]
  · have hdg := digs_get (d := u) (by omega) (by omega)
    dsimp only at hdg
    have hx := hset (hexD u)
    have hT : hexT n = hexD u :: t := by rw [he, hexT, dif_pos (by omega)]; rfl
    repeat' (first | (with_reducible first | apply jA | apply jB | apply jC | apply jD | apply jE | apply jF | apply jG | apply jH | apply jI | apply jJ | apply jK | apply jL | apply jM | apply jN | apply jO) | ((with_reducible first | apply jP | apply jQ); rfl) | ((first | ((with_reducible first | apply jR | apply jS | apply jT); rfl; rfl) | (with_reducible first | apply jU | apply jV | apply jW) | ((with_reducible first | apply jX | apply jY | apply jZ); rfl)); all_goals (first | ((with_reducible show Is _ _); exact kE) | ((with_reducible refine fun (hc : (_ : Bool) = _) => ?_); (try simp only [xZ, xY, xP, reduceCtorEq] at hc); (try (have hx : True := hc; clear hx hc)); (try exact kX)) | ((fail_if_success (with_reducible first | show Is _ _ | show ACall _ _ _ _ _)); (try ((with_reducible show _ ∨ _); exact kT))))))
    have hcell : (List.take k (List.replicate (k + 1) (0 : UInt8) ++ t)).map byteC ++ byteC (hexD u) :: (List.drop (k + 1) (List.replicate (k + 1) (0 : UInt8) ++ t)).map byteC = (List.replicate k 0 ++ hexD u :: t).map byteC := by
      rw [← hx, bytes_mid, List.set_eq_take_append_cons_drop, if_pos (by omega)]
    rw [hcell]
    have hlt : (hexD u :: t).length = 65 - k := by rw [List.length_cons]; omega
    clear hcell hx hset hdg
    generalize hexD u :: t = D at *
    have hdr : (List.replicate k (0 : UInt8) ++ D).drop k = D := by rw [List.drop_append_of_le_length (by simp)]; simp
    have htk : D.take (65 - k) = D := List.take_of_length_le (by omega)
    repeat' (first | (with_reducible first | apply jA | apply jB | apply jC | apply jD | apply jE | apply jF | apply jG | apply jH | apply jI | apply jJ | apply jK | apply jL | apply jM | apply jN | apply jO) | ((with_reducible first | apply jP | apply jQ); rfl) | ((first | ((with_reducible first | apply jR | apply jS | apply jT); rfl; rfl) | (with_reducible first | apply jU | apply jV | apply jW) | ((with_reducible first | apply jX | apply jY | apply jZ); rfl)); all_goals (first | ((with_reducible show Is _ _); exact kE) | ((with_reducible refine fun (hc : (_ : Bool) = _) => ?_); (try simp only [xZ, xY, xP, reduceCtorEq] at hc); (try (have hx : True := hc; clear hx hc)); (try exact kX)) | ((fail_if_success (with_reducible first | show Is _ _ | show ACall _ _ _ _ _)); (try ((with_reducible show _ ∨ _); exact kT))))))
    rw [hT]; rfl
theorem fmt16_at {B : List Box} {n : Nat} (hn : n < 65536) : ACall Tryz.prog 29 [.int .i64 n, .int .i64 16] B fun c B' => c = .str (hexT n) ∧ B' = B := by
  have h1 : ∀ {B : List Box} {args : List CV}, Is args [.nilS, .int .u64 n, .int .i64 16, .bool false, .bool false] → ACall Tryz.prog 73 args B fun c B' => c = .tup [.lst 0 [] false, .str (hexT n)] ∧ B' = B := fun {B args} h => by
    have h : _ = _ := h
    subst h
    exact acall_fresh (nz := false) rfl (fmtBits_in n hn)
  have h2 : ∀ {B : List Box} {args : List CV}, Is args [.int .i64 n, .int .i64 16] → ACall Tryz.prog 52 args B fun c B' => c = .str (hexT n) ∧ B' = B := fun {B args} h => by
    have h : _ = _ := h
    subst h
    refine acall_intro mixed Tryz.func52 rfl ca52 (by kernel_rfl) (by rw [Tryz.ntmps52]; simp) ?_
    repeat' (first | (with_reducible first | apply jA | apply jB | apply jC | apply jD | apply jE | apply jF | apply jG | apply jH | apply jI | apply jJ | apply jK | apply jL | apply jM | apply jN | apply jO) | ((with_reducible first | apply jP | apply jQ); rfl) | ((first | ((with_reducible first | apply jR | apply jS | apply jT); rfl; rfl) | (with_reducible first | apply jU | apply jV | apply jW) | ((with_reducible first | apply jX | apply jY | apply jZ); rfl) | ((with_reducible first | apply kA | apply kB | apply kC); rfl)); all_goals (first | ((with_reducible show Is _ _); exact kE) | ((with_reducible refine fun (hc : (_ : Bool) = _) => ?_); (try simp only [xZ, xY, xP, reduceCtorEq] at hc); (try (have hx : True := hc; clear hx hc)); (try exact kX)) | ((with_reducible show ACall _ _ _ _ _); (first | ((with_reducible apply h1) <;> exact kD))) | ((fail_if_success (with_reducible first | show Is _ _ | show ACall _ _ _ _ _)); (try ((with_reducible show _ ∨ _); exact kT))))))
    exact ⟨rfl, rfl⟩
  refine acall_intro mixed Tryz.func29 rfl ca29 (by kernel_rfl) (by rw [Tryz.ntmps29]; simp) ?_
  repeat' (first | (with_reducible first | apply jA | apply jB | apply jC | apply jD | apply jE | apply jF | apply jG | apply jH | apply jI | apply jJ | apply jK | apply jL | apply jM | apply jN | apply jO) | ((with_reducible first | apply jP | apply jQ); rfl) | ((first | ((with_reducible first | apply jR | apply jS | apply jT); rfl; rfl) | (with_reducible first | apply jU | apply jV | apply jW) | ((with_reducible first | apply jX | apply jY | apply jZ); rfl) | ((with_reducible first | apply kA | apply kB | apply kC); rfl)); all_goals (first | ((with_reducible show Is _ _); exact kE) | ((with_reducible refine fun (hc : (_ : Bool) = _) => ?_); (try simp only [xZ, xY, xP, reduceCtorEq] at hc); (try (have hx : True := hc; clear hx hc)); (try exact kX)) | ((with_reducible show ACall _ _ _ _ _); (first | ((with_reducible apply h2) <;> exact kD))) | ((fail_if_success (with_reducible first | show Is _ _ | show ACall _ _ _ _ _)); (try ((with_reducible show _ ∨ _); exact kT))))))
  exact ⟨rfl, rfl⟩
end Go.Proofs.YtdceppjoipoohaaGreatDoor
end
