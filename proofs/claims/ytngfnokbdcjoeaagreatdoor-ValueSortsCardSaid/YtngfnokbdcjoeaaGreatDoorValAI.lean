/- The law behind: one part of its proof (joined by program out of my own texts). No condition. -/
import Derived.Test.YtngfnokbdcjoeaaGreatDoorValAH
import Derived.Shelf.Strings.OnBuilder
import Derived.Shelf.Small.Strs
import Derived.Shelf.Small.Wraps
import Derived.Shelf.Strconv.Atoi
import Derived.Shelf.Strconv.Itoa4
import Derived.Shelf.Strings.Search3
import Derived.Shelf.Strings.Cut
import Derived.Shelf.Strings.Count
import Derived.Shelf.Sort.Plain
import Derived.Shelf.Strings.Split
import Derived.Shelf.Unicode.DecodeAny
import Derived.Ground.Names2Prog
import Derived.Shelf.Slices.CompactS
import Derived.Ground.SlgnProg
import Derived.Ground.SlsfProg
import Derived.Shelf.SlSortCmp.Whole1
import Derived.Test.YtngfnokbdcjoeaaGreatDoorProg
import Derived.Shelf.Strings.SlTrimAscii
import Derived.Lib.Split
import Derived.Lib.Atoi
import Derived.Lib.SmallJoins
import Derived.Lib.LaidTab
import Derived.Lib.ItoaNum
import Derived.Sort.Grow
import Derived.Lib.LaidU8
import Derived.Deep.DeepHandedRow
import Derived.Deep.DeepWitnessRowRef
import Derived.ProofKit
import Derived.SizedLaws
import Derived.LaidMore
import Derived.LaidHandle
import Derived.Test.YtngfnokbdcjoeaaGreatDoorRows
import Derived.Lib.Bytealg
section
namespace Go.Proofs
open Go.Shelf
def Tryz.lays156_ren : Go.Shelf.Ren := ⟨fun | 156 => 65 | 165 => 92 | 166 => 93 | 169 => 94 | 240 => 129 | 241 => 130 | 276 => 163 | 277 => 164 | n => n, fun | 31 => 22 | 9 => 9 | 3 => 3 | 4 => 4 | 0 => 0 | 20 => 20 | 72 => 100 | 76 => 104 | 70 => 97 | 37 => 98 | 75 => 103 | 127 => 142 | 164 => 170 | 5 => 5 | 80 => 106 | n => n, fun | n => n⟩
theorem Tryz.lays156 : Go.Proofs.Lays.n156 Tryz.prog Tryz.lays156_ren := {
 mixed := by kernel_rfl
 f156 := Tryz.func65.trans (congrArg some (by kernel_rfl))
 f165 := Tryz.func92.trans (congrArg some (by kernel_rfl))
 f166 := Tryz.func93.trans (congrArg some (by kernel_rfl))
 f169 := Tryz.func94.trans (congrArg some (by kernel_rfl))
 f240 := Tryz.func129.trans (congrArg some (by kernel_rfl))
 f241 := Tryz.func130.trans (congrArg some (by kernel_rfl))
 f276 := Tryz.func163.trans (congrArg some (by kernel_rfl))
 f277 := Tryz.func164.trans (congrArg some (by kernel_rfl))
 t0 := Tryz.underlying0
 a0 := Tryz.isAgg0
 z0 := Tryz.sizeOf0
 v0 := Tryz.zeroValue0
 t3 := Tryz.underlying3
 a3 := Tryz.isAgg3
 z3 := Tryz.sizeOf3
 v3 := Tryz.zeroValue3
 t4 := Tryz.underlying4
 a4 := Tryz.isAgg4
 z4 := Tryz.sizeOf4
 v4 := Tryz.zeroValue4
 t9 := Tryz.underlying9
 a9 := Tryz.isAgg9
 z9 := Tryz.sizeOf9
 v9 := Tryz.zeroValue9
 t20 := Tryz.underlying20
 a20 := Tryz.isAgg20
 z20 := Tryz.sizeOf20
 v20 := Tryz.zeroValue20
 t31 := Tryz.underlying22
 a31 := Tryz.isAgg22
 z31 := Tryz.sizeOf22
 v31 := Tryz.zeroValue22
 t37 := Tryz.underlying98
 a37 := Tryz.isAgg98
 z37 := Tryz.sizeOf98
 v37 := Tryz.zeroValue98
 t70 := Tryz.underlying97
 a70 := Tryz.isAgg97
 z70 := Tryz.sizeOf97
 v70 := Tryz.zeroValue97
 t72 := Tryz.underlying100
 a72 := Tryz.isAgg100
 z72 := Tryz.sizeOf100
 v72 := Tryz.zeroValue100
 t75 := Tryz.underlying103
 a75 := Tryz.isAgg103
 z75 := Tryz.sizeOf103
 v75 := Tryz.zeroValue103
 t76 := Tryz.underlying104
 a76 := Tryz.isAgg104
 z76 := Tryz.sizeOf104
 v76 := Tryz.zeroValue104
 t127 := Tryz.underlying142
 a127 := Tryz.isAgg142
 z127 := Tryz.sizeOf142
 v127 := Tryz.zeroValue142
 t164 := Tryz.underlying170
 a164 := Tryz.isAgg170
 z164 := Tryz.sizeOf170
 v164 := Tryz.zeroValue170 }
theorem Tryz.Builder_Extra_156 : Builder.Extra Tryz.prog Tryz.lays156_ren := {
 sizeBuilder := by kernel_rfl
 liesBuilder := by kernel_rfl
 t5 := Tryz.underlying5
 a5 := Tryz.isAgg5
 z5 := Tryz.sizeOf5
 v5 := Tryz.zeroValue5
 infoByte := by kernel_rfl
 cellsByte := by kernel_rfl
 sizeByte := by kernel_rfl
 neB5 := by decide }
open Go.RowKit in
theorem Tryz.strings_Join_none (a : Option Addr) (c : Nat) (sep : ByteArray) (w : World) :
  Calls Tryz.prog 65 #[.slice a 0 c, .string sep] w fun e w' => e = .returned (.string ⟨#[]⟩) ∧ w' = w := Any.strings_Join_none Tryz.lays156 Tryz.Builder_Extra_156 a c sep w
open Go.RowKit in
theorem Tryz.strings_Join (bk o c : Nat) (xs : List ByteArray) (sep : ByteArray) (w : World) (hcells : ∀ (j : Nat) x, xs[j]? = some x → w.cell? ⟨bk, o + j, none⟩ = some (.string x)) (hbk : bk < w.heap.size) (hN : xs.length ≤ 140737488355328) (hcap : xs.length ≤ c) (hlen : (Lib.join (xs.map (·.data.toList)) sep.data.toList).length ≤ 140737488355328) :
  Calls Tryz.prog 65 #[.slice (some ⟨bk, o, none⟩) xs.length c, .string sep] w fun e w' => e = .returned (.string ⟨(Lib.join (xs.map (·.data.toList)) sep.data.toList).toArray⟩) ∧ Below w.heap.size w w' := Any.strings_Join Tryz.lays156 Tryz.Builder_Extra_156 bk o c xs sep w hcells hbk hN hcap hlen
def Tryz.lays106_ren : Go.Shelf.Ren := ⟨fun | 106 => 50 | 213 => 82 | 265 => 121 | n => n, fun | 9 => 9 | 3 => 3 | n => n, fun | n => n⟩
theorem Tryz.lays106 : Go.Proofs.Lays.n106 Tryz.prog Tryz.lays106_ren := {
 mixed := by kernel_rfl
 f106 := Tryz.func50.trans (congrArg some (by kernel_rfl))
 f213 := Tryz.func82.trans (congrArg some (by kernel_rfl))
 f265 := Tryz.func121.trans (congrArg some (by kernel_rfl))
 t3 := Tryz.underlying3
 a3 := Tryz.isAgg3
 z3 := Tryz.sizeOf3
 v3 := Tryz.zeroValue3
 t9 := Tryz.underlying9
 a9 := Tryz.isAgg9
 z9 := Tryz.sizeOf9
 v9 := Tryz.zeroValue9 }
open Go.RowKit in
theorem Tryz.strings_Compare (a b : ByteArray) (w : World) :
  Calls Tryz.prog 50 #[.string a, .string b] w fun e w' => e = .returned (.int .i64 (Lib.compareBytes a.data.toList b.data.toList)) ∧ w' = w := Any.strings_Compare Tryz.lays106 a b w
def Tryz.lays121_ren : Go.Shelf.Ren := ⟨fun | 121 => 64 | 214 => 91 | n => n, fun | 4 => 4 | 9 => 9 | n => n, fun | n => n⟩
theorem Tryz.lays121 : Go.Proofs.Lays.n121 Tryz.prog Tryz.lays121_ren := {
 mixed := by kernel_rfl
 f121 := Tryz.func64.trans (congrArg some (by kernel_rfl))
 f214 := Tryz.func91.trans (congrArg some (by kernel_rfl))
 t4 := Tryz.underlying4
 a4 := Tryz.isAgg4
 z4 := Tryz.sizeOf4
 v4 := Tryz.zeroValue4
 t9 := Tryz.underlying9
 a9 := Tryz.isAgg9
 z9 := Tryz.sizeOf9
 v9 := Tryz.zeroValue9 }
open Go.RowKit in
theorem Tryz.strconv_FormatBool (b : Bool) (w : World) :
  Calls Tryz.prog 64 #[.bool b] w fun e w' => e = .returned (.string ⟨(Lib.formatBool b).toArray⟩) ∧ w' = w := Any.strconv_FormatBool Tryz.lays121 b w
def Tryz.laysM173_ren : Go.Shelf.Ren := ⟨fun | 173 => 63 | 246 => 90 | 283 => 125 | 284 => 126 | 285 => 127 | 286 => 128 | 129 => 120 | 317 => 159 | 318 => 160 | 319 => 161 | 320 => 162 | 337 => 186 | 338 => 187 | n => n, fun | 2 => 2 | 3 => 3 | 9 => 9 | 4 => 4 | 171 => 138 | 0 => 0 | 53 => 130 | 37 => 98 | 5 => 5 | 173 => 140 | 212 => 167 | 51 => 128 | 20 => 20 | 213 => 168 | 46 => 90 | 232 => 234 | 233 => 235 | n => n, fun | 17 => 1 | 18 => 4 | 19 => 5 | n => n⟩
theorem Tryz.laysM173 : Go.Proofs.LaysM.n173 Tryz.prog Tryz.laysM173_ren := {
 mixed := by kernel_rfl
 f129 := Tryz.func120.trans (congrArg some (by kernel_rfl))
 f173 := Tryz.func63.trans (congrArg some (by kernel_rfl))
 f246 := Tryz.func90.trans (congrArg some (by kernel_rfl))
 f283 := Tryz.func125.trans (congrArg some (by kernel_rfl))
 f284 := Tryz.func126.trans (congrArg some (by kernel_rfl))
 f285 := Tryz.func127.trans (congrArg some (by kernel_rfl))
 f286 := Tryz.func128.trans (congrArg some (by kernel_rfl))
 f317 := Tryz.func159.trans (congrArg some (by kernel_rfl))
 f318 := Tryz.func160.trans (congrArg some (by kernel_rfl))
 f319 := Tryz.func161.trans (congrArg some (by kernel_rfl))
 f320 := Tryz.func162.trans (congrArg some (by kernel_rfl))
 f337 := Tryz.func186.trans (congrArg some (by kernel_rfl))
 f338 := Tryz.func187.trans (congrArg some (by kernel_rfl))
 t0 := Tryz.underlying0
 a0 := Tryz.isAgg0
 z0 := Tryz.sizeOf0
 v0 := Tryz.zeroValue0
 t2 := Tryz.underlying2
 a2 := Tryz.isAgg2
 z2 := Tryz.sizeOf2
 v2 := Tryz.zeroValue2
 t3 := Tryz.underlying3
 a3 := Tryz.isAgg3
 z3 := Tryz.sizeOf3
 v3 := Tryz.zeroValue3
 t4 := Tryz.underlying4
 a4 := Tryz.isAgg4
 z4 := Tryz.sizeOf4
 v4 := Tryz.zeroValue4
 t5 := Tryz.underlying5
 a5 := Tryz.isAgg5
 z5 := Tryz.sizeOf5
 v5 := Tryz.zeroValue5
 t9 := Tryz.underlying9
 a9 := Tryz.isAgg9
 z9 := Tryz.sizeOf9
 v9 := Tryz.zeroValue9
 t20 := Tryz.underlying20
 a20 := Tryz.isAgg20
 z20 := Tryz.sizeOf20
 v20 := Tryz.zeroValue20
 t37 := Tryz.underlying98
 a37 := Tryz.isAgg98
 z37 := Tryz.sizeOf98
 v37 := Tryz.zeroValue98
 t46 := Tryz.underlying90
 a46 := Tryz.isAgg90
 z46 := Tryz.sizeOf90
 v46 := Tryz.zeroValue90
 t51 := Tryz.underlying128
 a51 := Tryz.isAgg128
 z51 := Tryz.sizeOf128
 v51 := Tryz.zeroValue128
 t53 := Tryz.underlying130
 a53 := Tryz.isAgg130
 z53 := Tryz.sizeOf130
 v53 := Tryz.zeroValue130
 t171 := Tryz.underlying138
 a171 := Tryz.isAgg138
 z171 := Tryz.sizeOf138
 v171 := Tryz.zeroValue138
 t173 := Tryz.underlying140
 a173 := Tryz.isAgg140
 z173 := Tryz.sizeOf140
 v173 := Tryz.zeroValue140
 t212 := Tryz.underlying167
 a212 := Tryz.isAgg167
 z212 := Tryz.sizeOf167
 v212 := Tryz.zeroValue167
 t213 := Tryz.underlying168
 a213 := Tryz.isAgg168
 z213 := Tryz.sizeOf168
 t232 := Tryz.underlying234
 a232 := Tryz.isAgg234
 z232 := Tryz.sizeOf234
 v232 := Tryz.zeroValue234
 t233 := Tryz.underlying235
 a233 := Tryz.isAgg235
 z233 := Tryz.sizeOf235
 v233 := Tryz.zeroValue235
 g17 := by kernel_rfl
 g18 := by kernel_rfl
 g19 := by kernel_rfl
 i0 := by kernel_rfl
 i2 := by kernel_rfl
 i3 := by kernel_rfl
 i4 := by kernel_rfl
 i5 := by kernel_rfl
 i9 := by kernel_rfl
 i20 := by kernel_rfl
 i37 := by kernel_rfl
 i46 := by kernel_rfl
 i51 := by kernel_rfl
 i53 := by kernel_rfl
 i171 := by kernel_rfl
 i173 := by kernel_rfl
 i212 := by kernel_rfl
 i232 := by kernel_rfl
 i233 := by kernel_rfl
 m17 := by kernel_rfl
 m18 := by kernel_rfl
 m19 := by kernel_rfl }
open Go.RowKit Go.Sort Go.Lib in
theorem Tryz.strconv_FormatInt_10 (n : Int) (h0 : -9223372036854775808 ≤ n) (h1 : n ≤ 9223372036854775807) (w : World) (htab : Lib.TabIs Tryz.prog w "internal/strconv.uint64pow10" .u64 Lib.pow10Tab) :
  Calls Tryz.prog 63 #[.int .i64 n, .int .i64 10] w fun e w' => e = .returned (.string ⟨(Lib.itoa n).toArray⟩) ∧ ∃ k os, w' = grow (w.drewN k) os := Any.strconv_FormatInt_10 Tryz.laysM173 n h0 h1 w htab
def Tryz.lays190_ren : Go.Shelf.Ren := ⟨fun | 190 => 132 | 125 => 81 | 258 => 166 | 128 => 119 | 129 => 120 | 302 => 188 | 303 => 189 | 304 => 190 | 305 => 191 | 306 => 192 | 307 => 193 | 308 => 194 | 309 => 195 | 310 => 196 | 333 => 218 | 329 => 148 | 330 => 149 | 334 => 219 | 335 => 220 | 336 => 221 | 344 => 239 | n => n, fun | 31 => 22 | 9 => 9 | 3 => 3 | 46 => 90 | 0 => 0 | 51 => 128 | 53 => 130 | 4 => 4 | 183 => 122 | 182 => 121 | 131 => 109 | 5 => 5 | 218 => 149 | 222 => 57 | 228 => 177 | 229 => 85 | n => n, fun | n => n⟩
theorem Tryz.lays190 : Go.Proofs.Lays.n190 Tryz.prog Tryz.lays190_ren := {
 mixed := by kernel_rfl
 f125 := Tryz.func81.trans (congrArg some (by kernel_rfl))
 f128 := Tryz.func119.trans (congrArg some (by kernel_rfl))
 f129 := Tryz.func120.trans (congrArg some (by kernel_rfl))
 f190 := Tryz.func132.trans (congrArg some (by kernel_rfl))
 f258 := Tryz.func166.trans (congrArg some (by kernel_rfl))
 f302 := Tryz.func188.trans (congrArg some (by kernel_rfl))
 f303 := Tryz.func189.trans (congrArg some (by kernel_rfl))
 f304 := Tryz.func190.trans (congrArg some (by kernel_rfl))
 f305 := Tryz.func191.trans (congrArg some (by kernel_rfl))
 f306 := Tryz.func192.trans (congrArg some (by kernel_rfl))
 f307 := Tryz.func193.trans (congrArg some (by kernel_rfl))
 f308 := Tryz.func194.trans (congrArg some (by kernel_rfl))
 f309 := Tryz.func195.trans (congrArg some (by kernel_rfl))
 f310 := Tryz.func196.trans (congrArg some (by kernel_rfl))
 f329 := Tryz.func148.trans (congrArg some (by kernel_rfl))
 f330 := Tryz.func149.trans (congrArg some (by kernel_rfl))
 f333 := Tryz.func218.trans (congrArg some (by kernel_rfl))
 f334 := Tryz.func219.trans (congrArg some (by kernel_rfl))
 f335 := Tryz.func220.trans (congrArg some (by kernel_rfl))
 f336 := Tryz.func221.trans (congrArg some (by kernel_rfl))
 f344 := Tryz.func239.trans (congrArg some (by kernel_rfl))
 t0 := Tryz.underlying0
 a0 := Tryz.isAgg0
 z0 := Tryz.sizeOf0
 v0 := Tryz.zeroValue0
 t3 := Tryz.underlying3
 a3 := Tryz.isAgg3
 z3 := Tryz.sizeOf3
 v3 := Tryz.zeroValue3
 t4 := Tryz.underlying4
 a4 := Tryz.isAgg4
 z4 := Tryz.sizeOf4
 v4 := Tryz.zeroValue4
 t5 := Tryz.underlying5
 a5 := Tryz.isAgg5
 z5 := Tryz.sizeOf5
 v5 := Tryz.zeroValue5
 t9 := Tryz.underlying9
 a9 := Tryz.isAgg9
 z9 := Tryz.sizeOf9
 v9 := Tryz.zeroValue9
 t31 := Tryz.underlying22
 a31 := Tryz.isAgg22
 z31 := Tryz.sizeOf22
 v31 := Tryz.zeroValue22
 t46 := Tryz.underlying90
 a46 := Tryz.isAgg90
 z46 := Tryz.sizeOf90
 v46 := Tryz.zeroValue90
 t51 := Tryz.underlying128
 a51 := Tryz.isAgg128
 z51 := Tryz.sizeOf128
 v51 := Tryz.zeroValue128
 t53 := Tryz.underlying130
 a53 := Tryz.isAgg130
 z53 := Tryz.sizeOf130
 v53 := Tryz.zeroValue130
 t131 := Tryz.underlying109
 a131 := Tryz.isAgg109
 z131 := Tryz.sizeOf109
 v131 := Tryz.zeroValue109
 t182 := Tryz.underlying121
 a182 := Tryz.isAgg121
 z182 := Tryz.sizeOf121
 v182 := Tryz.zeroValue121
 t183 := Tryz.underlying122
 a183 := Tryz.isAgg122
 z183 := Tryz.sizeOf122
 v183 := Tryz.zeroValue122
 t218 := Tryz.underlying149
 a218 := Tryz.isAgg149
 z218 := Tryz.sizeOf149
 v218 := Tryz.zeroValue149
 t222 := Tryz.underlying57
 a222 := Tryz.isAgg57
 z222 := Tryz.sizeOf57
 v222 := Tryz.zeroValue57
 t228 := Tryz.underlying177
 a228 := Tryz.isAgg177
 z228 := Tryz.sizeOf177
 v228 := Tryz.zeroValue177
 t229 := Tryz.underlying85
 a229 := Tryz.isAgg85
 z229 := Tryz.sizeOf85
 v229 := Tryz.zeroValue85 }
open Go.Sort Go.RowKit in
theorem Tryz.slices_Sort_string (blk off cap : Nat) (ss : List (List UInt8)) (w : World) (hH : Holds encStr w blk off ss.toArray) (hblk : blk < w.heap.size) (hsz : ss.length < 4611686018427387904) :
  Calls Tryz.prog 132 #[.slice (some ⟨blk, off, none⟩) ss.length cap] w fun e w' =>
   e = .returned (.tuple #[]) ∧ ∃ n os, w' = grow (putRow encStr (Sort.ahead w n) blk off (ss.mergeSort fun x y => decide (x ≤ y)).toArray) os := Any.slices_Sort_string Tryz.lays190 blk off cap ss w hH hblk hsz
def Tryz.lays260_ren : Go.Shelf.Ren := ⟨fun | 260 => 228 | n => n, fun | 9 => 9 | 21 => 21 | 3 => 3 | 4 => 4 | 5 => 5 | 119 => 213 | 0 => 0 | 46 => 90 | 139 => 216 | 138 => 215 | n => n, fun | 3 => 2 | 4 => 3 | n => n⟩
theorem Tryz.lays260 : Go.Proofs.Lays.n260 Tryz.prog Tryz.lays260_ren := {
 mixed := by kernel_rfl
 f260 := Tryz.func228.trans (congrArg some (by kernel_rfl))
 t0 := Tryz.underlying0
 a0 := Tryz.isAgg0
 z0 := Tryz.sizeOf0
 v0 := Tryz.zeroValue0
 t3 := Tryz.underlying3
 a3 := Tryz.isAgg3
 z3 := Tryz.sizeOf3
 v3 := Tryz.zeroValue3
 t4 := Tryz.underlying4
 a4 := Tryz.isAgg4
 z4 := Tryz.sizeOf4
 v4 := Tryz.zeroValue4
 t5 := Tryz.underlying5
 a5 := Tryz.isAgg5
 z5 := Tryz.sizeOf5
 v5 := Tryz.zeroValue5
 t9 := Tryz.underlying9
 a9 := Tryz.isAgg9
 z9 := Tryz.sizeOf9
 v9 := Tryz.zeroValue9
 t21 := Tryz.underlying21
 a21 := Tryz.isAgg21
 z21 := Tryz.sizeOf21
 v21 := Tryz.zeroValue21
 t46 := Tryz.underlying90
 a46 := Tryz.isAgg90
 z46 := Tryz.sizeOf90
 v46 := Tryz.zeroValue90
 t119 := Tryz.underlying213
 a119 := Tryz.isAgg213
 z119 := Tryz.sizeOf213
 t138 := Tryz.underlying215
 a138 := Tryz.isAgg215
 z138 := Tryz.sizeOf215
 v138 := Tryz.zeroValue215
 t139 := Tryz.underlying216
 a139 := Tryz.isAgg216
 z139 := Tryz.sizeOf216
 v139 := Tryz.zeroValue216
 g3 := by kernel_rfl
 g4 := by kernel_rfl }
def Tryz.lays194_ren : Go.Shelf.Ren := ⟨fun | 194 => 99 | n => n, fun | 31 => 22 | 9 => 9 | 3 => 3 | 4 => 4 | 0 => 0 | n => n, fun | n => n⟩
theorem Tryz.lays194 : Go.Proofs.Lays.n194 Tryz.prog Tryz.lays194_ren := {
 mixed := by kernel_rfl
 f194 := Tryz.func99.trans (congrArg some (by kernel_rfl))
 t0 := Tryz.underlying0
 a0 := Tryz.isAgg0
 z0 := Tryz.sizeOf0
 v0 := Tryz.zeroValue0
 t3 := Tryz.underlying3
 a3 := Tryz.isAgg3
 z3 := Tryz.sizeOf3
 v3 := Tryz.zeroValue3
 t4 := Tryz.underlying4
 a4 := Tryz.isAgg4
 z4 := Tryz.sizeOf4
 v4 := Tryz.zeroValue4
 t9 := Tryz.underlying9
 a9 := Tryz.isAgg9
 z9 := Tryz.sizeOf9
 v9 := Tryz.zeroValue9
 t31 := Tryz.underlying22
 a31 := Tryz.isAgg22
 z31 := Tryz.sizeOf22
 v31 := Tryz.zeroValue22 }
open Go.RowKit Go.Lib Go.Sort in
theorem Tryz.slices_Compact_string (blk off cap : Nat) (zs : List (List UInt8)) (w : World) (hH : Holds encStr w blk off zs.toArray) (hsz : zs.length ≤ 9223372036854775807) (hcap : zs.length ≤ cap) :
  Calls Tryz.prog 99 #[.slice (some ⟨blk, off, none⟩) zs.length cap] w fun e w' => e = .returned (.slice (some ⟨blk, off, none⟩) (Lib.compact zs).length cap) ∧ ∃ q, w' = putRow encStr (Sort.ahead w q) blk off (Lib.compact zs ++ List.replicate (zs.length - (Lib.compact zs).length) []).toArray := Any.slices_Compact_string Tryz.lays194 blk off cap zs w hH hsz hcap
open Go.RowKit Go.Lib Go.Sort in
theorem Tryz.slices_Compact_string_empty (a : Option Addr) (cap : Nat) (w : World) :
  Calls Tryz.prog 99 #[.slice a 0 cap] w fun e w' => e = .returned (.slice a 0 cap) ∧ w' = w := Any.slices_Compact_string_empty Tryz.lays194 a cap w
def Tryz.laysSlF6_f48_ren : Go.Shelf.Ren := ⟨fun | 6 => 48 | 15 => 81 | 14 => 80 | 28 => 119 | 29 => 120 | 20 => 111 | 21 => 112 | 22 => 113 | 23 => 114 | 24 => 115 | 25 => 116 | 26 => 117 | 27 => 118 | 46 => 147 | 47 => 148 | 48 => 149 | 49 => 150 | 50 => 151 | 57 => 175 | n => n, fun | 22 => 62 | 24 => 3 | 25 => 65 | 3 => 3 | 39 => 90 | 0 => 0 | 53 => 128 | 55 => 130 | 4 => 4 | 46 => 122 | 45 => 121 | 50 => 109 | 5 => 5 | 9 => 9 | 66 => 149 | 70 => 57 | 76 => 177 | 77 => 85 | n => n, fun | n => n⟩
theorem Tryz.laysSlF6_f48 : Go.Proofs.SlLaysF.n6 Tryz.prog Tryz.laysSlF6_f48_ren := {
 mixed := by kernel_rfl
 f6 := ⟨Tryz.f48.name, by decide, Tryz.func48.trans (congrArg some (by kernel_rfl))⟩
 f14 := ⟨Tryz.f80.name, by decide, Tryz.func80.trans (congrArg some (by kernel_rfl))⟩
 f15 := Tryz.func81.trans (congrArg some (by kernel_rfl))
 f20 := ⟨Tryz.f111.name, by decide, Tryz.func111.trans (congrArg some (by kernel_rfl))⟩
 f21 := ⟨Tryz.f112.name, by decide, Tryz.func112.trans (congrArg some (by kernel_rfl))⟩
 f22 := ⟨Tryz.f113.name, by decide, Tryz.func113.trans (congrArg some (by kernel_rfl))⟩
 f23 := ⟨Tryz.f114.name, by decide, Tryz.func114.trans (congrArg some (by kernel_rfl))⟩
 f24 := ⟨Tryz.f115.name, by decide, Tryz.func115.trans (congrArg some (by kernel_rfl))⟩
 f25 := ⟨Tryz.f116.name, by decide, Tryz.func116.trans (congrArg some (by kernel_rfl))⟩
 f26 := ⟨Tryz.f117.name, by decide, Tryz.func117.trans (congrArg some (by kernel_rfl))⟩
 f27 := ⟨Tryz.f118.name, by decide, Tryz.func118.trans (congrArg some (by kernel_rfl))⟩
 f28 := Tryz.func119.trans (congrArg some (by kernel_rfl))
 f29 := Tryz.func120.trans (congrArg some (by kernel_rfl))
 f46 := ⟨Tryz.f147.name, by decide, Tryz.func147.trans (congrArg some (by kernel_rfl))⟩
 f47 := Tryz.func148.trans (congrArg some (by kernel_rfl))
 f48 := Tryz.func149.trans (congrArg some (by kernel_rfl))
 f49 := ⟨Tryz.f150.name, by decide, Tryz.func150.trans (congrArg some (by kernel_rfl))⟩
 f50 := ⟨Tryz.f151.name, by decide, Tryz.func151.trans (congrArg some (by kernel_rfl))⟩
 f57 := ⟨Tryz.f175.name, by decide, Tryz.func175.trans (congrArg some (by kernel_rfl))⟩
 t0 := Tryz.underlying0
 a0 := Tryz.isAgg0
 z0 := Tryz.sizeOf0
 v0 := Tryz.zeroValue0
 t3 := Tryz.underlying3
 a3 := Tryz.isAgg3
 z3 := Tryz.sizeOf3
 v3 := Tryz.zeroValue3
 t4 := Tryz.underlying4
 a4 := Tryz.isAgg4
 z4 := Tryz.sizeOf4
 v4 := Tryz.zeroValue4
 t5 := Tryz.underlying5
 a5 := Tryz.isAgg5
 z5 := Tryz.sizeOf5
 v5 := Tryz.zeroValue5
 t9 := Tryz.underlying9
 a9 := Tryz.isAgg9
 z9 := Tryz.sizeOf9
 v9 := Tryz.zeroValue9
 t22 := Tryz.underlying62
 a22 := Tryz.isAgg62
 z22 := Tryz.sizeOf62
 v22 := Tryz.zeroValue62
 a24 := Tryz.isAgg3
 z24 := Tryz.sizeOf3
 t25 := Tryz.underlying65
 a25 := Tryz.isAgg65
 z25 := Tryz.sizeOf65
 v25 := Tryz.zeroValue65
 t39 := Tryz.underlying90
 a39 := Tryz.isAgg90
 z39 := Tryz.sizeOf90
 v39 := Tryz.zeroValue90
 t45 := Tryz.underlying121
 a45 := Tryz.isAgg121
 z45 := Tryz.sizeOf121
 v45 := Tryz.zeroValue121
 t46 := Tryz.underlying122
 a46 := Tryz.isAgg122
 z46 := Tryz.sizeOf122
 v46 := Tryz.zeroValue122
 t50 := Tryz.underlying109
 a50 := Tryz.isAgg109
 z50 := Tryz.sizeOf109
 v50 := Tryz.zeroValue109
 t53 := Tryz.underlying128
 a53 := Tryz.isAgg128
 z53 := Tryz.sizeOf128
 v53 := Tryz.zeroValue128
 t55 := Tryz.underlying130
 a55 := Tryz.isAgg130
 z55 := Tryz.sizeOf130
 v55 := Tryz.zeroValue130
 t66 := Tryz.underlying149
 a66 := Tryz.isAgg149
 z66 := Tryz.sizeOf149
 v66 := Tryz.zeroValue149
 t70 := Tryz.underlying57
 a70 := Tryz.isAgg57
 z70 := Tryz.sizeOf57
 v70 := Tryz.zeroValue57
 t76 := Tryz.underlying177
 a76 := Tryz.isAgg177
 z76 := Tryz.sizeOf177
 v76 := Tryz.zeroValue177
 t77 := Tryz.underlying85
 a77 := Tryz.isAgg85
 z77 := Tryz.sizeOf85
 v77 := Tryz.zeroValue85 }
open Go.RowKit Go.Lib Go.Sort in
theorem Tryz.slices_SortFunc {α : Type} [Inhabited α] (enc : α → Value) (h1 : OneCell enc) (cf : α → α → Int) (hO : SWO (ltOf cf)) (g : Nat) (cb : Array Value) (blk off cap : Nat) (d : Array α) (w : World) (eg : ∀ args w, (callFunc g args).run Tryz.prog w = .ok (.enter g args) w) (hcmp : CmpLays1 Tryz.prog g cb enc cf blk off d.size w) (hH : Holds enc w blk off d) (hblk : blk < w.heap.size) (hsz : d.size < 4611686018427387904) :
  Calls Tryz.prog 48 #[.slice (some ⟨blk, off, none⟩) d.size cap, .func (.func g) #[] cb] w fun e w' =>
   e = .returned (.tuple #[]) ∧ ∃ d' n os, PermIn 0 d.size d d' ∧ SortedIn (ltOf cf) 0 d.size d' ∧ w' = sortWorld enc w blk off n d' os := Any.slices_SortFunc Tryz.laysSlF6_f48 enc h1 cf hO g cb blk off cap d w eg hcmp hH hblk hsz
end Go.Proofs
end
section
namespace Go.Lift
theorem fr_below {w w' : World} (h : RowKit.Below w.heap.size w w') : Fr noB w w' := ⟨h.os, h.output, h.size, fun k hk _ => h.block k hk⟩
def rowSays (P : Program) (t : TypeId) (size bytes : Nat) (z : Array Value) : Prop := ∃ i v, P.info? t = some i ∧ i.zero = some v ∧ i.size = size ∧ i.bytes = bytes ∧ v.cells = z
theorem rowSays_of {P : Program} {t : TypeId} {size bytes : Nat} {z : Array Value} (h : (P.info? t).map (fun i => (i.size, i.bytes, i.zero.map (·.cells))) = some (size, bytes, some z)) : rowSays P t size bytes z := by
 cases hi : P.info? t with
 | none => rw [hi] at h; cases h
 | some i =>
  rw [hi] at h
  simp only [Option.map_some, Option.some.injEq, Prod.mk.injEq] at h
  cases hz : i.zero with
  | none => rw [hz] at h; simp at h
  | some v => rw [hz] at h; exact ⟨i, v, hi, hz, h.1, h.2.1, by simpa using h.2.2⟩
end Go.Lift
namespace Go.Proofs.YtngfnokbdcjoeaaGreatDoor
open Go.Lift Go.Lex
theorem uInts : Tryz.prog.underlying 62 = some (.slice 3) := by kernel_rfl
structure Glob (w : World) : Prop where
 len : ∃ m : Int, w.cell? ⟨0, 0, none⟩ = some (.int .i64 m)
 tabs : Lib.Utf8Tabs 2 3 w
theorem Glob.fr {w w' : World} (h : Glob w) (F : Fr noB w w') : Glob w' :=
 ⟨h.len.imp fun _ hm => F.cell hm (fun h => h), fun c hc => F.cell (h.tabs.1 c hc) (fun h => h), fun i hi => ⟨F.cell (h.tabs.2 i hi).1 (fun h => h), F.cell (h.tabs.2 i hi).2 (fun h => h)⟩⟩
section
variable {w : World}
end
end Go.Proofs.YtngfnokbdcjoeaaGreatDoor
end
section
namespace Go.Lift
def bh (b : Nat) : Nat → Prop := fun k => b ≤ k
theorem Fr.sq {S : Nat → Prop} {a b c : World} (h : Fr S a b) (k : Fr S b c) : Fr S a c := h.then k fun _ _ h => h
theorem Fr.up {a c : World} (h : Fr noB a c) (b : Nat) : Fr (bh b) a c := h.mono fun _ _ h => h.elim
theorem Fr.one {a c : World} {b : Nat} (h : Fr (oneB b) a c) : Fr (bh b) a c := h.mono fun _ _ h => by unfold oneB at h; unfold bh; omega
section
variable {P : Program} {R : Ending → World → Prop} {w : World}
theorem appendC_ok {base : Nat} {t ty e : TypeId} {i : TypeInfo} {z : Value} {size bytes : Nat} (ht : P.underlying t = some (.slice e)) (hi : P.info? e = some i) (hz : i.zero = some z)
  (hsize : i.size = size) (hby : i.bytes = bytes) (hzs : z.cells.size = size) (hsz : 0 < size) {s : Sl} {n : Nat} {xs : List Value} (hown : w.ownsRow base e size (.slice s.a s.n s.c) n xs)
  {ad : Addr} {m c : Nat} {news : List Value} (hl : news.length = m * size) (hnews : Held w (ad, news)) (h1 : ∀ u ∈ news, u.oneCell' = true)
  (h63 : n + m ≤ maxLen) (hbytes : (n + m) * bytes ≤ 140737488355328) (hb : base ≤ w.heap.size) {k : Sl → G}
  (h : ∀ (s' : Sl) w', w'.ownsRow base e size (.slice s'.a s'.n s'.c) (n + m) (xs ++ news) → Fr (fun k => (Value.slice s.a s.n s.c).ownBlock = some k) w w' → k s' R w') :
  opG P (Builtin.append_ #[t, t] ty #[.slice s.a s.n s.c, .slice (some ad) m c]) (.one .slice) k R w := by
 obtain ⟨v', w', hr, h2, h3, _⟩ := run_append_own (P := P) w base t ty e i z size bytes ht hi hz hsize hby hzs hsz _ n xs hown ad m c news hl hnews h1 h63 hbytes hb
 obtain ⟨s', rfl, _, _⟩ := slice_of_own h2
 exact ⟨(s', ()), w', hr, h s' w' h2 (Fr.of_grown h3)⟩
end
end Go.Lift
namespace Go.Lex
end Go.Lex
namespace Go.Proofs.YtngfnokbdcjoeaaGreatDoor
open Go.Lift Go.Lex
def GlobB (b : Nat) (w : World) : Prop := ∃ w0, Glob w0 ∧ Fr noB w0 w ∧ w0.heap.size ≤ b
theorem GlobB.fr {b : Nat} {w w' : World} (h : GlobB b w) (F : Fr (bh b) w w') : GlobB b w' := by
 obtain ⟨w0, g, F0, hb⟩ := h
 exact ⟨w0, g, F0.then F fun x hx h => by unfold bh at h; omega, hb⟩
theorem GlobB.of {w0 w : World} (g : Glob w0) (F : Fr noB w0 w) {b : Nat} (hb : w0.heap.size ≤ b) : GlobB b w := ⟨w0, g, F, hb⟩
def tokCells (t : Tok) : List Value := [.int .i64 (t.kind : Int), .string (bs t.text), .int .i64 (t.at' : Int)]
def St (w : World) (b : Nat) (s : ByteArray) (i : Nat) (acc : List Tok) (e a : Int) : Prop :=
 ∃ l : Sl, Blk w b 161 [.string s, .int .i64 (i : Int), .slice l.a l.n l.c, .int .i64 e, .int .i64 a] ∧ w.ownsRow (b + 1) 96 3 (.slice l.a l.n l.c) acc.length (acc.flatMap tokCells)
theorem St.fr {w w' : World} {b : Nat} {s : ByteArray} {i : Nat} {acc : List Tok} {e a : Int} (h : St w b s i acc e a) (F : Fr noB w w') : St w' b s i acc e a := by
 obtain ⟨l, B, h⟩ := h
 exact ⟨l, B.fr F (fun h => h), own_fr0 h F⟩
section
variable {w : World} {b : Nat} {t : TypeId} {s : ByteArray} {i : Nat}
end
end Go.Proofs.YtngfnokbdcjoeaaGreatDoor
end
section
namespace Go.Lex
end Go.Lex
end
section
namespace Go.Lex
end Go.Lex
namespace Go.Proofs.YtngfnokbdcjoeaaGreatDoor
open Go.Lift Go.Lex
section
variable {w : World} {b : Nat} {t : TypeId} {s : ByteArray} {i : Nat}
end
end Go.Proofs.YtngfnokbdcjoeaaGreatDoor
end
section
namespace Go.Lex
open Go.Lib
end Go.Lex
end
section
namespace Go.Proofs.YtngfnokbdcjoeaaGreatDoor
open Go.Lift Go.Lex
section
variable {w : World}
end
end Go.Proofs.YtngfnokbdcjoeaaGreatDoor
end
section
namespace Go.Proofs.YtngfnokbdcjoeaaGreatDoor
open Go.Lift Go.Lex
section
variable {w : World} {R : Ending → World → Prop}
end
end Go.Proofs.YtngfnokbdcjoeaaGreatDoor
end
section
namespace Go.Lex
variable {c : UInt8} {r : List UInt8}
end Go.Lex
namespace Go.Lift
end Go.Lift
namespace Go.Proofs.YtngfnokbdcjoeaaGreatDoor
open Go.Lift Go.Lex
structure At (w0 w : World) (b m1 m8 : Nat) (s : ByteArray) (i j : Nat) (acc : List Tok) (e a : Int) : Prop where
 st : St w b s j acc e a
 b1 : Blk w m1 157 [.pointer (some ⟨b, 0, none⟩)]
 b8 : Blk w m8 3 [.int .i64 (i : Int)]
 n1 : m1 ≠ b
 n8 : m8 ≠ b
 fr : Fr (bh b) w0 w
section
variable {w0 w w' : World} {b m1 m8 : Nat} {s : ByteArray} {i j : Nat} {acc : List Tok} {e a : Int}
theorem At.go (A : At w0 w b m1 m8 s i j acc e a) (F : Fr noB w w') : At w0 w' b m1 m8 s i j acc e a :=
 ⟨A.st.fr F, A.b1.fr F (fun h => h), A.b8.fr F (fun h => h), A.n1, A.n8, A.fr.sq (F.up b)⟩
theorem At.set {j' : Nat} {e' a' : Int} (A : At w0 w b m1 m8 s i j acc e a) (S : St w' b s j' acc e' a') (F : Fr (oneB b) w w') : At w0 w' b m1 m8 s i j' acc e' a' :=
 ⟨S, A.b1.fr F (fun h => A.n1 h), A.b8.fr F (fun h => A.n8 h), A.n1, A.n8, A.fr.sq F.one⟩
end
end Go.Proofs.YtngfnokbdcjoeaaGreatDoor
end
section
namespace Go.Proofs.YtngfnokbdcjoeaaGreatDoor
open Go.Lift Go.Lex
section
variable {w : World} {b : Nat} {s : ByteArray} {i : Nat}
end
end Go.Proofs.YtngfnokbdcjoeaaGreatDoor
end
section
namespace Go.Lex
end Go.Lex
end
section
namespace Go.Lift
end Go.Lift
namespace Go.Proofs.YtngfnokbdcjoeaaGreatDoor
open Go.Lift Go.Lex
section
variable {w : World} {R : Ending → World → Prop}
end
end Go.Proofs.YtngfnokbdcjoeaaGreatDoor
end
section
namespace Go.Lift
theorem fr_growN (w : World) (n : Nat) (os : Array Obj) : Fr noB w (Go.Sort.grow (w.drewN n) os) := ⟨rfl, rfl, by simp [Go.Sort.grow], fun k hk _ => by
 show (w.heap ++ os)[k]? = _
 rw [Array.getElem?_append_left hk]⟩
theorem tab_fr {P : Program} {w w' : World} {n : String} {k : IntKind} {zs : List Int} (h : Lib.TabIs P w n k zs) (F : Fr noB w w') : Lib.TabIs P w' n k zs := by
 unfold Lib.TabIs World.var? at *
 cases hg : P.globalNamed n with
 | none => simp [hg] at h
 | some g =>
  simp only [hg, Option.bind_some] at h ⊢
  have hlt : g < w.heap.size := by
   rcases Nat.lt_or_ge g w.heap.size with h' | h'
   ·exact h'
   ·rw [Array.getElem?_eq_none h'] at h; cases h
  rw [F.blk g hlt (fun h => h)]
  exact h
end Go.Lift
namespace Go.Proofs.YtngfnokbdcjoeaaGreatDoor
open Go.Lift Go.Lex
structure GlobV (w : World) : Prop extends Glob w where
 pow : Lib.TabIs Tryz.prog w "internal/strconv.uint64pow10" .u64 Lib.pow10Tab
theorem GlobV.frV {w w' : World} (h : GlobV w) (F : Fr noB w w') : GlobV w' := ⟨h.toGlob.fr F, tab_fr h.pow F⟩
end Go.Proofs.YtngfnokbdcjoeaaGreatDoor
end
section
namespace Go.Proofs.YtngfnokbdcjoeaaGreatDoor
open Go.Lift Go.Lex
theorem first_eq : Go.Pinned.utf8First = Lib.firstData := by kernel_rfl
theorem accept_eq : (Rows.laid_unicode_utf8_acceptRanges : DataW Unit) = Lib.acceptData := by kernel_rfl
theorem globs0 {W : World} (hL : laidMetH Tryz.prog Rows.valueChecksRow.laid W) (hS : W.ShapedOpen Tryz.prog) : Glob W := by
 have hL := hL
 rw [MakeChecks.laidMetH_plain _ _ _ (by kernel_rfl)] at hL
 refine ⟨Go.Proofs.cell_of_shapedOpen_int (zero := #[.int .i64 0]) (t := 3) hS (of_decide_eq_true (by kernel_rfl)) (by kernel_rfl) rfl (by kernel_rfl) (by kernel_rfl) Tryz.underlying3, ?_⟩
 refine utf8Tabs_of_reads Tryz.lays260 ⟨by kernel_rfl, by kernel_rfl, by kernel_rfl, by kernel_rfl, by kernel_rfl, by kernel_rfl, by kernel_rfl⟩ ?_ ?_
 ·rw [← first_eq]
  exact Lib.laidMet.reads hL (List.mem_of_getElem? (i := 6) rfl)
 ·rw [← accept_eq]
  exact Lib.laidMet.reads hL (List.mem_of_getElem? (i := 3) rfl)
theorem tab_of_reads {P : Program} {W : World} {name : String} {k : IntKind} {zs : List Int} {g : Nat} {t e : TypeId} {n : Nat}
  (hg : P.globalNamed name = some g) (hty : (P.globals[g]?).map (·.type) = some t) (ht : P.underlying t = some (.array n e)) (he : P.underlying e = some (.int k)) (hce : P.cellsOf e = 1) (hct : P.cellsOf t = n)
  (h : Lib.VarReads P W name (Lib.tabData k zs)) : Lib.TabIs P W name k zs := by
 obtain ⟨g', t', cs, fuel, p, hg', ht', hvar, hd⟩ := h
 obtain rfl := Option.some.inj (hg.symm.trans hg')
 obtain rfl := Option.some.inj (hty.symm.trans ht')
 unfold Lib.TabIs
 rw [hvar, ← Lib.cells_of_tab ht he hce hct hd]
theorem pow_eq : (Rows.laid_internal_strconv_uint64pow10 : DataW Unit) = Lib.tabData .u64 Lib.pow10Tab := by kernel_rfl
theorem globs {W : World} (hL : laidMetH Tryz.prog Rows.valueChecksRow.laid W) (hS : W.ShapedOpen Tryz.prog) : GlobV W := by
 refine ⟨globs0 hL hS, ?_⟩
 rw [MakeChecks.laidMetH_plain _ _ _ (by kernel_rfl)] at hL
 have h := Lib.laidMet.reads hL (List.mem_of_getElem? (i := 2) rfl)
 rw [pow_eq] at h
 exact tab_of_reads (g := 1) (t := 167) (e := 130) (n := 20) (by kernel_rfl) (by kernel_rfl) (by kernel_rfl) (by kernel_rfl) (by kernel_rfl) (by kernel_rfl) h
noncomputable def doorWorld (os : Os) : World :=
 let w0 := World.doorLaid Tryz.prog 72 os
 { w0 with heap := w0.heap.modify 2 fun
   | .cells _ t frozen => .cells (Lib.firstTab.map fun z => Value.int .u8 z).toArray t frozen
   | o => o }
theorem door_met (os : Os) (args : Array Value) : laidMetH Tryz.prog Rows.valueChecksRow.laid ((doorWorld os).forCall (fun _ _ => 0) ⟨#[], args, []⟩).memory :=
 laidMetH_of_parts3 (fuel := 8) (laidMet_of_run' 8 (by kernel_rfl) (by kernel_rfl)) (by kernel_rfl) (by kernel_rfl)
end Go.Proofs.YtngfnokbdcjoeaaGreatDoor
end
section
namespace Go.Shp
open Go.Lex
inductive Shape where
 | mk (kind : Int) (of name : B) (names : List B) (parts : List Shape)
def Shape.kind : Shape → Int | .mk k _ _ _ _ => k
def Shape.of : Shape → B | .mk _ o _ _ _ => o
def Shape.name : Shape → B | .mk _ _ n _ _ => n
def Shape.names : Shape → List B | .mk _ _ _ ns _ => ns
def Shape.parts : Shape → List Shape | .mk _ _ _ _ ps => ps
mutual
def size : Shape → Nat
 | .mk _ _ _ _ ps => 1 + sizes ps
def sizes : List Shape → Nat
 | [] => 0
 | s :: r => size s + sizes r
end
mutual
def deep : Shape → Nat
 | .mk _ _ _ _ ps => 1 + deeps ps
def deeps : List Shape → Nat
 | [] => 0
 | s :: r => max (deep s) (deeps r)
end
def plainT (s : B) : Bool := s == [73, 110, 116] || s == [66, 111, 111, 108] || s == [84, 101, 120, 116] || s == [65, 110, 121]
def namedOk (ns : List B) (n : Nat) : Bool := decide (ns.length = n) && ns.all isName && decide ns.Nodup
def fits : Shape → Bool
 | .mk k of nm ns ps =>
  if k = 1 ∨ k = 2 ∨ k = 3 ∨ k = 4 then of.isEmpty && nm.isEmpty && ns.isEmpty && ps.isEmpty
  else if k = 5 then of.isEmpty && nm.isEmpty && ns.isEmpty && decide (ps.length = 1)
  else if k = 6 ∨ k = 7 then of.isEmpty && nm.isEmpty && namedOk ns ps.length
  else if k = 8 then of.isEmpty && nm.isEmpty && ns.isEmpty && decide (0 < ps.length)
  else if k = 9 then isUpper nm && ((of.isEmpty && !plainT nm) || isName of) && ns.isEmpty && ps.isEmpty
  else if k = 10 then isUpper nm && isName of && ns.isEmpty && ps.isEmpty
  else false
mutual
def allFit : Shape → Bool
 | .mk k o n ns ps => fits (.mk k o n ns ps) && allFits ps
def allFits : List Shape → Bool
 | [] => true
 | s :: r => allFit s && allFits r
end
def check (s : Shape) : Nat := if 400 < size s then 3 else if 40 < deep s then 91 else if allFit s then 0 else 70
def ltB (a b : B) : Bool := decide (Lib.compareBytes a b < 0)
def insertP (n : B) (p : Shape) : List (B × Shape) → List (B × Shape)
 | [] => [(n, p)]
 | (m, q) :: r => if ltB m n then (m, q) :: insertP n p r else (n, p) :: (m, q) :: r
def sortP : List (B × Shape) → List (B × Shape)
 | [] => []
 | (n, p) :: r => insertP n p (sortP r)
mutual
def sortS : Shape → Shape
 | .mk k o n ns ps =>
  if ns = [] then .mk k o n [] (sortL ps)
  else .mk k o n ((sortP (ns.zip (sortL ps))).map (·.1)) ((sortP (ns.zip (sortL ps))).map (·.2))
def sortL : List Shape → List Shape
 | [] => []
 | s :: r => sortS s :: sortL r
end
mutual
def eqS : Shape → Shape → Bool
 | .mk k o n ns ps, .mk k' o' n' ns' ps' => decide (k = k') && o == o' && n == n' && ns == ns' && eqL ps ps'
def eqL : List Shape → List Shape → Bool
 | [], [] => true
 | a :: r, b :: t => eqS a b && eqL r t
 | _, _ => false
end
def find : List B → List Shape → B → Option Shape
 | x :: ns, p :: ps, n => if x = n then some p else find ns ps n
 | _, _, _ => none
def funAll (f : Shape → Shape → Bool) : List Shape → List Shape → Bool
 | [x], [y] => f x y
 | x :: r, y :: t => f y x && funAll f r t
 | [], [] => true
 | _, _ => false
def withinF (f : Shape → Shape → Bool) (ns : List B) (ps : List Shape) (os : List B) (qs : List Shape) : Bool := match ns, ps with
 | n :: ns, p :: ps => (match find os qs n with
  | some q => f p q
  | none => false) && withinF f ns ps os qs
 | _, _ => true
def belowF : Nat → Shape → Shape → Bool
 | 0, _, _ => false
 | f + 1, .mk ka oa na nsa psa, .mk kb ob nb nsb psb =>
  if ka ≠ kb then false
  else if ka = 9 ∨ ka = 10 then oa == ob && na == nb
  else if ka = 6 then withinF (fun x y => belowF f y x) nsb psb nsa psa
  else if ka = 7 then withinF (belowF f) nsa psa nsb psb
  else funAll (belowF f) psa psb
def below (a b : Shape) : Bool := belowF (max (deep a) (deep b)) a b
def isBelow (a b : Shape) : Bool := check a == 0 && check b == 0 && below a b
end Go.Shp
end
section
namespace Go.Shp
open Go.Lex
theorem deep_mem : ∀ {l : List Shape} {s : Shape}, s ∈ l → deep s ≤ deeps l
 | x :: r, s, h => by
  unfold deeps
  rcases List.mem_cons.1 h with rfl | h
  ·exact Nat.le_max_left _ _
  ·exact Nat.le_trans (deep_mem h) (Nat.le_max_right _ _)
theorem size_mem : ∀ {l : List Shape} {s : Shape}, s ∈ l → size s ≤ sizes l
 | x :: r, s, h => by
  unfold sizes
  rcases List.mem_cons.1 h with rfl | h
  ·exact Nat.le_add_right _ _
  ·exact Nat.le_trans (size_mem h) (Nat.le_add_left _ _)
theorem deep_mk (k : Int) (o n : B) (ns : List B) (ps : List Shape) : deep (.mk k o n ns ps) = 1 + deeps ps := by rw [deep]
theorem size_mk (k : Int) (o n : B) (ns : List B) (ps : List Shape) : size (.mk k o n ns ps) = 1 + sizes ps := by rw [size]
theorem size_pos (s : Shape) : 1 ≤ size s := by cases s; rw [size_mk]; omega
theorem deep_pos (s : Shape) : 1 ≤ deep s := by cases s; rw [deep_mk]; omega
theorem sizes_len : ∀ l : List Shape, l.length ≤ sizes l
 | [] => Nat.le_refl _
 | s :: r => by
  have := sizes_len r
  have := size_pos s
  rw [sizes, List.length_cons]
  omega
mutual
theorem deep_size : ∀ s : Shape, deep s ≤ size s
 | .mk k o n ns ps => by
  have := deeps_sizes ps
  rw [deep_mk, size_mk]
  omega
theorem deeps_sizes : ∀ l : List Shape, deeps l ≤ sizes l
 | [] => Nat.le_refl _
 | s :: r => by
  have := deep_size s
  have := deeps_sizes r
  rw [deeps, sizes]
  omega
end
theorem find_mem : ∀ {ns : List B} {ps : List Shape} {n : B} {p : Shape}, find ns ps n = some p → p ∈ ps
 | [], _, _, _, h => by simp [find] at h
 | _ :: _, [], _, _, h => by simp [find] at h
 | x :: ns, q :: ps, n, p, h => by
  unfold find at h
  split at h
  ·cases h; exact List.mem_cons_self
  ·exact List.mem_cons_of_mem _ (find_mem h)
theorem withinF_congr {f g : Shape → Shape → Bool} {os : List B} {qs : List Shape} : ∀ {ns : List B} {ps : List Shape}, (∀ p ∈ ps, ∀ q ∈ qs, f p q = g p q) → withinF f ns ps os qs = withinF g ns ps os qs
 | [], _, _ => by simp [withinF]
 | _ :: _, [], _ => by simp [withinF]
 | n :: ns, p :: ps, h => by
  unfold withinF
  rw [withinF_congr fun p hp q hq => h p (List.mem_cons_of_mem _ hp) q hq]
  cases hf : find os qs n with
  | none => rfl
  | some q =>
   simp only []
   rw [h p List.mem_cons_self q (find_mem hf)]
end Go.Shp
end
