/- The library's contracts for strings.Cut, TrimPrefix, HasPrefix, Builder, strconv.ParseUint and FormatUint lie in this program, and as the walks use them. Condition: the library's tables lie as they are laid (LV). strings.Cut, TrimPrefix, HasPrefix, strconv.ParseUint and FormatUint in the words of decimal texts. Condition: the library's tables lie as they are laid (LV). -/
import Derived.Shelf.Strings.Prefix
import Derived.Shelf.Strings.Cut
import Derived.Shelf.Strings.Builder1
import Derived.Shelf.Pu.ParseUintPublic10
import Derived.Shelf.Strconv.Itoa2
import Derived.Lib.AppendIntMem
import Derived.Lib.ParseIntBCases
import Derived.Test.YtoblpcljhblnmaaGreatDoorBase
import Derived.Test.YtoblpcljhblnmaaGreatDoorPDec
import Derived.BigQuiet
import Derived.Lib.AtoiErrMem
namespace Go.Proofs.YtoblpcljhblnmaaGreatDoor
open Go.RowKit
def cutL_ren : Go.Shelf.Ren := ⟨fun | 145 => 95 | 220 => 141 | 217 => 196 | 266 => 217 | 219 => 178 | 225 => 197 | 224 => 198 | 267 => 199 | 314 => 218 | n => n, fun | 9 => 9 | 4 => 4 | 59 => 181 | 5 => 5 | 3 => 3 | 46 => 206 | 146 => 261 | 51 => 225 | n => n, fun | 1 => 0 | n => n⟩
set_option maxRecDepth 100000 in
theorem cutL : Go.Proofs.Lays.n145 Tryz.prog cutL_ren := {
  mixed := by kernel_rfl,
  f145 := Tryz.func95.trans (congrArg some (by kernel_rfl)),
  f217 := Tryz.func196.trans (congrArg some (by kernel_rfl)),
  f219 := Tryz.func178.trans (congrArg some (by kernel_rfl)),
  f220 := Tryz.func141.trans (congrArg some (by kernel_rfl)),
  f224 := Tryz.func198.trans (congrArg some (by kernel_rfl)),
  f225 := Tryz.func197.trans (congrArg some (by kernel_rfl)),
  f266 := Tryz.func217.trans (congrArg some (by kernel_rfl)),
  f267 := Tryz.func199.trans (congrArg some (by kernel_rfl)),
  f314 := Tryz.func218.trans (congrArg some (by kernel_rfl)),
  t3 := Tryz.underlying3,
  a3 := Tryz.isAgg3,
  z3 := Tryz.sizeOf3,
  v3 := Tryz.zeroValue3,
  t4 := Tryz.underlying4,
  a4 := Tryz.isAgg4,
  z4 := Tryz.sizeOf4,
  v4 := Tryz.zeroValue4,
  t5 := Tryz.underlying5,
  a5 := Tryz.isAgg5,
  z5 := Tryz.sizeOf5,
  v5 := Tryz.zeroValue5,
  t9 := Tryz.underlying9,
  a9 := Tryz.isAgg9,
  z9 := Tryz.sizeOf9,
  v9 := Tryz.zeroValue9,
  t46 := Tryz.underlying206,
  a46 := Tryz.isAgg206,
  z46 := Tryz.sizeOf206,
  v46 := Tryz.zeroValue206,
  t51 := Tryz.underlying225,
  a51 := Tryz.isAgg225,
  z51 := Tryz.sizeOf225,
  v51 := Tryz.zeroValue225,
  t59 := Tryz.underlying181,
  a59 := Tryz.isAgg181,
  z59 := Tryz.sizeOf181,
  v59 := Tryz.zeroValue181,
  t146 := Tryz.underlying261,
  a146 := Tryz.isAgg261,
  z146 := Tryz.sizeOf261,
  v146 := Tryz.zeroValue261,
  g1 := by kernel_rfl }
def trimL_ren : Go.Shelf.Ren := ⟨fun | 101 => 138 | 208 => 175 | 206 => 179 | n => n, fun | 9 => 9 | 4 => 4 | 3 => 3 | n => n, fun | n => n⟩
set_option maxRecDepth 100000 in
theorem trimL : Go.Proofs.Lays.n101 Tryz.prog trimL_ren := {
  mixed := by kernel_rfl,
  f101 := Tryz.func138.trans (congrArg some (by kernel_rfl)),
  f206 := Tryz.func179.trans (congrArg some (by kernel_rfl)),
  f208 := Tryz.func175.trans (congrArg some (by kernel_rfl)),
  t3 := Tryz.underlying3,
  a3 := Tryz.isAgg3,
  z3 := Tryz.sizeOf3,
  v3 := Tryz.zeroValue3,
  t4 := Tryz.underlying4,
  a4 := Tryz.isAgg4,
  z4 := Tryz.sizeOf4,
  v4 := Tryz.zeroValue4,
  t9 := Tryz.underlying9,
  a9 := Tryz.isAgg9,
  z9 := Tryz.sizeOf9,
  v9 := Tryz.zeroValue9 }
def prefL_ren : Go.Shelf.Ren := ⟨fun | 99 => 142 | 206 => 179 | n => n, fun | 9 => 9 | 4 => 4 | 3 => 3 | n => n, fun | n => n⟩
set_option maxRecDepth 100000 in
theorem prefL : Go.Proofs.Lays.n99 Tryz.prog prefL_ren := {
  mixed := by kernel_rfl,
  f99 := Tryz.func142.trans (congrArg some (by kernel_rfl)),
  f206 := Tryz.func179.trans (congrArg some (by kernel_rfl)),
  t3 := Tryz.underlying3,
  a3 := Tryz.isAgg3,
  z3 := Tryz.sizeOf3,
  v3 := Tryz.zeroValue3,
  t4 := Tryz.underlying4,
  a4 := Tryz.isAgg4,
  z4 := Tryz.sizeOf4,
  v4 := Tryz.zeroValue4,
  t9 := Tryz.underlying9,
  a9 := Tryz.isAgg9,
  z9 := Tryz.sizeOf9,
  v9 := Tryz.zeroValue9 }
def bwL_ren : Go.Shelf.Ren := ⟨fun | 166 => 165 | 240 => 189 | 276 => 213 | n => n, fun | 70 => 267 | 9 => 9 | 3 => 3 | 75 => 239 | 0 => 0 | 72 => 270 | 37 => 268 | 4 => 4 | 164 => 315 | 5 => 5 | 80 => 274 | 20 => 20 | n => n, fun | n => n⟩
set_option maxRecDepth 100000 in
theorem bwL : Go.Proofs.Lays.n166 Tryz.prog bwL_ren := {
  mixed := by kernel_rfl,
  f166 := Tryz.func165.trans (congrArg some (by kernel_rfl)),
  f240 := Tryz.func189.trans (congrArg some (by kernel_rfl)),
  f276 := Tryz.func213.trans (congrArg some (by kernel_rfl)),
  t0 := Tryz.underlying0,
  a0 := Tryz.isAgg0,
  z0 := Tryz.sizeOf0,
  v0 := Tryz.zeroValue0,
  t3 := Tryz.underlying3,
  a3 := Tryz.isAgg3,
  z3 := Tryz.sizeOf3,
  v3 := Tryz.zeroValue3,
  t4 := Tryz.underlying4,
  a4 := Tryz.isAgg4,
  z4 := Tryz.sizeOf4,
  v4 := Tryz.zeroValue4,
  t9 := Tryz.underlying9,
  a9 := Tryz.isAgg9,
  z9 := Tryz.sizeOf9,
  v9 := Tryz.zeroValue9,
  t20 := Tryz.underlying20,
  a20 := Tryz.isAgg20,
  z20 := Tryz.sizeOf20,
  v20 := Tryz.zeroValue20,
  t37 := Tryz.underlying268,
  a37 := Tryz.isAgg268,
  z37 := Tryz.sizeOf268,
  v37 := Tryz.zeroValue268,
  t70 := Tryz.underlying267,
  a70 := Tryz.isAgg267,
  z70 := Tryz.sizeOf267,
  v70 := Tryz.zeroValue267,
  t72 := Tryz.underlying270,
  a72 := Tryz.isAgg270,
  z72 := Tryz.sizeOf270,
  v72 := Tryz.zeroValue270,
  t75 := Tryz.underlying239,
  a75 := Tryz.isAgg239,
  z75 := Tryz.sizeOf239,
  v75 := Tryz.zeroValue239,
  t164 := Tryz.underlying315,
  a164 := Tryz.isAgg315,
  z164 := Tryz.sizeOf315,
  v164 := Tryz.zeroValue315 }
def bsL_ren : Go.Shelf.Ren := ⟨fun | 169 => 166 | n => n, fun | 70 => 267 | 9 => 9 | 0 => 0 | 72 => 270 | 37 => 268 | 127 => 295 | 3 => 3 | 5 => 5 | n => n, fun | n => n⟩
set_option maxRecDepth 100000 in
theorem bsL : Go.Proofs.Lays.n169 Tryz.prog bsL_ren := {
  mixed := by kernel_rfl,
  f169 := Tryz.func166.trans (congrArg some (by kernel_rfl)),
  t0 := Tryz.underlying0,
  a0 := Tryz.isAgg0,
  z0 := Tryz.sizeOf0,
  v0 := Tryz.zeroValue0,
  t3 := Tryz.underlying3,
  a3 := Tryz.isAgg3,
  z3 := Tryz.sizeOf3,
  v3 := Tryz.zeroValue3,
  t9 := Tryz.underlying9,
  a9 := Tryz.isAgg9,
  z9 := Tryz.sizeOf9,
  v9 := Tryz.zeroValue9,
  t37 := Tryz.underlying268,
  a37 := Tryz.isAgg268,
  z37 := Tryz.sizeOf268,
  v37 := Tryz.zeroValue268,
  t70 := Tryz.underlying267,
  a70 := Tryz.isAgg267,
  z70 := Tryz.sizeOf267,
  v70 := Tryz.zeroValue267,
  t72 := Tryz.underlying270,
  a72 := Tryz.isAgg270,
  z72 := Tryz.sizeOf270,
  v72 := Tryz.zeroValue270,
  t127 := Tryz.underlying295,
  a127 := Tryz.isAgg295,
  z127 := Tryz.sizeOf295,
  v127 := Tryz.zeroValue295 }
def puL_ren : Go.Shelf.Ren := ⟨fun | 14 => 143 | 16 => 180 | 17 => 181 | 19 => 200 | 20 => 201 | 21 => 202 | 22 => 203 | 23 => 204 | 24 => 205 | 25 => 219 | 27 => 221 | 26 => 220 | 28 => 228 | 29 => 231 | 30 => 209 | 31 => 210 | 32 => 211 | 33 => 212 | 35 => 223 | 34 => 222 | 36 => 224 | 37 => 225 | 38 => 226 | 39 => 229 | 40 => 230 | n => n, fun | 9 => 9 | 3 => 3 | 22 => 229 | 24 => 239 | 25 => 240 | 4 => 4 | 34 => 303 | 5 => 5 | 36 => 206 | 37 => 268 | 0 => 0 | 39 => 305 | 21 => 21 | 44 => 320 | 47 => 295 | 50 => 328 | 48 => 326 | 2 => 2 | 52 => 310 | 55 => 313 | 59 => 323 | 60 => 225 | 20 => 20 | 61 => 324 | 65 => 330 | 66 => 331 | 67 => 274 | n => n, fun | 0 => 1 | 1 => 2 | 2 => 3 | 3 => 4 | 4 => 5 | n => n⟩
set_option maxRecDepth 100000 in
theorem puL : Go.Proofs.LaysPu.n14 Tryz.prog puL_ren := {
  mixed := by kernel_rfl,
  f14 := Tryz.func143.trans (congrArg some (by kernel_rfl)),
  f16 := Tryz.func180.trans (congrArg some (by kernel_rfl)),
  f17 := Tryz.func181.trans (congrArg some (by kernel_rfl)),
  f19 := Tryz.func200.trans (congrArg some (by kernel_rfl)),
  f20 := Tryz.func201.trans (congrArg some (by kernel_rfl)),
  f21 := Tryz.func202.trans (congrArg some (by kernel_rfl)),
  f22 := Tryz.func203.trans (congrArg some (by kernel_rfl)),
  f23 := Tryz.func204.trans (congrArg some (by kernel_rfl)),
  f24 := Tryz.func205.trans (congrArg some (by kernel_rfl)),
  f25 := Tryz.func219.trans (congrArg some (by kernel_rfl)),
  f26 := Tryz.func220.trans (congrArg some (by kernel_rfl)),
  f27 := Tryz.func221.trans (congrArg some (by kernel_rfl)),
  f28 := Tryz.func228.trans (congrArg some (by kernel_rfl)),
  f29 := Tryz.func231.trans (congrArg some (by kernel_rfl)),
  f30 := Tryz.func209.trans (congrArg some (by kernel_rfl)),
  f31 := Tryz.func210.trans (congrArg some (by kernel_rfl)),
  f32 := Tryz.func211.trans (congrArg some (by kernel_rfl)),
  f33 := Tryz.func212.trans (congrArg some (by kernel_rfl)),
  f34 := Tryz.func222.trans (congrArg some (by kernel_rfl)),
  f35 := Tryz.func223.trans (congrArg some (by kernel_rfl)),
  f36 := Tryz.func224.trans (congrArg some (by kernel_rfl)),
  f37 := Tryz.func225.trans (congrArg some (by kernel_rfl)),
  f38 := Tryz.func226.trans (congrArg some (by kernel_rfl)),
  f39 := Tryz.func229.trans (congrArg some (by kernel_rfl)),
  f40 := Tryz.func230.trans (congrArg some (by kernel_rfl)),
  t0 := Tryz.underlying0,
  a0 := Tryz.isAgg0,
  z0 := Tryz.sizeOf0,
  v0 := Tryz.zeroValue0,
  i0 := by kernel_rfl,
  t2 := Tryz.underlying2,
  a2 := Tryz.isAgg2,
  z2 := Tryz.sizeOf2,
  v2 := Tryz.zeroValue2,
  i2 := by kernel_rfl,
  t3 := Tryz.underlying3,
  a3 := Tryz.isAgg3,
  z3 := Tryz.sizeOf3,
  v3 := Tryz.zeroValue3,
  i3 := by kernel_rfl,
  t4 := Tryz.underlying4,
  a4 := Tryz.isAgg4,
  z4 := Tryz.sizeOf4,
  v4 := Tryz.zeroValue4,
  i4 := by kernel_rfl,
  t5 := Tryz.underlying5,
  a5 := Tryz.isAgg5,
  z5 := Tryz.sizeOf5,
  v5 := Tryz.zeroValue5,
  i5 := by kernel_rfl,
  t9 := Tryz.underlying9,
  a9 := Tryz.isAgg9,
  z9 := Tryz.sizeOf9,
  v9 := Tryz.zeroValue9,
  i9 := by kernel_rfl,
  t20 := Tryz.underlying20,
  a20 := Tryz.isAgg20,
  z20 := Tryz.sizeOf20,
  v20 := Tryz.zeroValue20,
  i20 := by kernel_rfl,
  t21 := Tryz.underlying21,
  a21 := Tryz.isAgg21,
  z21 := Tryz.sizeOf21,
  v21 := Tryz.zeroValue21,
  i21 := by kernel_rfl,
  t22 := Tryz.underlying229,
  a22 := Tryz.isAgg229,
  z22 := Tryz.sizeOf229,
  v22 := Tryz.zeroValue229,
  i22 := by kernel_rfl,
  t24 := Tryz.underlying239,
  a24 := Tryz.isAgg239,
  z24 := Tryz.sizeOf239,
  v24 := Tryz.zeroValue239,
  i24 := by kernel_rfl,
  t25 := Tryz.underlying240,
  a25 := Tryz.isAgg240,
  z25 := Tryz.sizeOf240,
  v25 := Tryz.zeroValue240,
  i25 := by kernel_rfl,
  t34 := Tryz.underlying303,
  a34 := Tryz.isAgg303,
  z34 := Tryz.sizeOf303,
  v34 := Tryz.zeroValue303,
  i34 := by kernel_rfl,
  c34 := by kernel_rfl,
  t36 := Tryz.underlying206,
  a36 := Tryz.isAgg206,
  z36 := Tryz.sizeOf206,
  v36 := Tryz.zeroValue206,
  i36 := by kernel_rfl,
  t37 := Tryz.underlying268,
  a37 := Tryz.isAgg268,
  z37 := Tryz.sizeOf268,
  v37 := Tryz.zeroValue268,
  i37 := by kernel_rfl,
  t39 := Tryz.underlying305,
  a39 := Tryz.isAgg305,
  z39 := Tryz.sizeOf305,
  v39 := Tryz.zeroValue305,
  i39 := by kernel_rfl,
  t44 := Tryz.underlying320,
  a44 := Tryz.isAgg320,
  z44 := Tryz.sizeOf320,
  v44 := Tryz.zeroValue320,
  i44 := by kernel_rfl,
  t47 := Tryz.underlying295,
  a47 := Tryz.isAgg295,
  z47 := Tryz.sizeOf295,
  v47 := Tryz.zeroValue295,
  i47 := by kernel_rfl,
  t48 := Tryz.underlying326,
  a48 := Tryz.isAgg326,
  z48 := Tryz.sizeOf326,
  v48 := Tryz.zeroValue326,
  i48 := by kernel_rfl,
  t50 := Tryz.underlying328,
  a50 := Tryz.isAgg328,
  z50 := Tryz.sizeOf328,
  v50 := Tryz.zeroValue328,
  i50 := by kernel_rfl,
  t52 := Tryz.underlying310,
  a52 := Tryz.isAgg310,
  z52 := Tryz.sizeOf310,
  v52 := Tryz.zeroValue310,
  i52 := by kernel_rfl,
  t55 := Tryz.underlying313,
  a55 := Tryz.isAgg313,
  z55 := Tryz.sizeOf313,
  v55 := Tryz.zeroValue313,
  i55 := by kernel_rfl,
  t59 := Tryz.underlying323,
  a59 := Tryz.isAgg323,
  z59 := Tryz.sizeOf323,
  v59 := Tryz.zeroValue323,
  i59 := by kernel_rfl,
  t60 := Tryz.underlying225,
  a60 := Tryz.isAgg225,
  z60 := Tryz.sizeOf225,
  v60 := Tryz.zeroValue225,
  i60 := by kernel_rfl,
  t61 := Tryz.underlying324,
  a61 := Tryz.isAgg324,
  z61 := Tryz.sizeOf324,
  t65 := Tryz.underlying330,
  a65 := Tryz.isAgg330,
  z65 := Tryz.sizeOf330,
  v65 := Tryz.zeroValue330,
  i65 := by kernel_rfl,
  t66 := Tryz.underlying331,
  a66 := Tryz.isAgg331,
  z66 := Tryz.sizeOf331,
  v66 := Tryz.zeroValue331,
  i66 := by kernel_rfl,
  t67 := Tryz.underlying274,
  a67 := Tryz.isAgg274,
  z67 := Tryz.sizeOf274,
  v67 := Tryz.zeroValue274,
  i67 := by kernel_rfl,
  g0 := by kernel_rfl,
  m0 := by kernel_rfl,
  g1 := by kernel_rfl,
  m1 := by kernel_rfl,
  g2 := by kernel_rfl,
  m2 := by kernel_rfl,
  g3 := by kernel_rfl,
  m3 := by kernel_rfl,
  g4 := by kernel_rfl,
  m4 := by kernel_rfl }
def smallL_ren : Go.Shelf.Ren := ⟨fun | 283 => 209 | n => n, fun | 3 => 3 | 9 => 9 | 4 => 4 | n => n, fun | n => n⟩
set_option maxRecDepth 100000 in
theorem smallL : Go.Proofs.Lays.n283 Tryz.prog smallL_ren := {
  mixed := by kernel_rfl,
  f283 := Tryz.func209.trans (congrArg some (by kernel_rfl)),
  t3 := Tryz.underlying3,
  a3 := Tryz.isAgg3,
  z3 := Tryz.sizeOf3,
  v3 := Tryz.zeroValue3,
  t4 := Tryz.underlying4,
  a4 := Tryz.isAgg4,
  z4 := Tryz.sizeOf4,
  v4 := Tryz.zeroValue4,
  t9 := Tryz.underlying9,
  a9 := Tryz.isAgg9,
  z9 := Tryz.sizeOf9,
  v9 := Tryz.zeroValue9 }
def ndigL_ren : Go.Shelf.Ren := ⟨fun | 129 => 223 | 284 => 210 | 317 => 222 | 318 => 224 | n => n, fun | 53 => 229 | 3 => 3 | 4 => 4 | 46 => 206 | 5 => 5 | 9 => 9 | 212 => 323 | 0 => 0 | n => n, fun | 17 => 3 | n => n⟩
set_option maxRecDepth 100000 in
theorem ndigL : Go.Proofs.LaysM.n284 Tryz.prog ndigL_ren := {
  mixed := by kernel_rfl,
  f129 := Tryz.func223.trans (congrArg some (by kernel_rfl)),
  f284 := Tryz.func210.trans (congrArg some (by kernel_rfl)),
  f317 := Tryz.func222.trans (congrArg some (by kernel_rfl)),
  f318 := Tryz.func224.trans (congrArg some (by kernel_rfl)),
  t0 := Tryz.underlying0,
  a0 := Tryz.isAgg0,
  z0 := Tryz.sizeOf0,
  v0 := Tryz.zeroValue0,
  t3 := Tryz.underlying3,
  a3 := Tryz.isAgg3,
  z3 := Tryz.sizeOf3,
  v3 := Tryz.zeroValue3,
  t4 := Tryz.underlying4,
  a4 := Tryz.isAgg4,
  z4 := Tryz.sizeOf4,
  v4 := Tryz.zeroValue4,
  t5 := Tryz.underlying5,
  a5 := Tryz.isAgg5,
  z5 := Tryz.sizeOf5,
  v5 := Tryz.zeroValue5,
  t9 := Tryz.underlying9,
  a9 := Tryz.isAgg9,
  z9 := Tryz.sizeOf9,
  v9 := Tryz.zeroValue9,
  t46 := Tryz.underlying206,
  a46 := Tryz.isAgg206,
  z46 := Tryz.sizeOf206,
  v46 := Tryz.zeroValue206,
  t53 := Tryz.underlying229,
  a53 := Tryz.isAgg229,
  z53 := Tryz.sizeOf229,
  v53 := Tryz.zeroValue229,
  t212 := Tryz.underlying323,
  a212 := Tryz.isAgg323,
  z212 := Tryz.sizeOf323,
  v212 := Tryz.zeroValue323,
  g17 := by kernel_rfl,
  i0 := by kernel_rfl,
  i3 := by kernel_rfl,
  i4 := by kernel_rfl,
  i5 := by kernel_rfl,
  i9 := by kernel_rfl,
  i46 := by kernel_rfl,
  i53 := by kernel_rfl,
  i212 := by kernel_rfl,
  m17 := by kernel_rfl }
def fb10L_ren : Go.Shelf.Ren := ⟨fun | 285 => 211 | n => n, fun | 37 => 268 | 53 => 229 | 3 => 3 | 4 => 4 | 51 => 225 | 9 => 9 | 5 => 5 | 0 => 0 | n => n, fun | n => n⟩
set_option maxRecDepth 100000 in
theorem fb10L : Go.Proofs.Lays.n285 Tryz.prog fb10L_ren := {
  mixed := by kernel_rfl,
  f285 := Tryz.func211.trans (congrArg some (by kernel_rfl)),
  t0 := Tryz.underlying0,
  a0 := Tryz.isAgg0,
  z0 := Tryz.sizeOf0,
  v0 := Tryz.zeroValue0,
  t3 := Tryz.underlying3,
  a3 := Tryz.isAgg3,
  z3 := Tryz.sizeOf3,
  v3 := Tryz.zeroValue3,
  t4 := Tryz.underlying4,
  a4 := Tryz.isAgg4,
  z4 := Tryz.sizeOf4,
  v4 := Tryz.zeroValue4,
  t5 := Tryz.underlying5,
  a5 := Tryz.isAgg5,
  z5 := Tryz.sizeOf5,
  v5 := Tryz.zeroValue5,
  t9 := Tryz.underlying9,
  a9 := Tryz.isAgg9,
  z9 := Tryz.sizeOf9,
  v9 := Tryz.zeroValue9,
  t37 := Tryz.underlying268,
  a37 := Tryz.isAgg268,
  z37 := Tryz.sizeOf268,
  v37 := Tryz.zeroValue268,
  t51 := Tryz.underlying225,
  a51 := Tryz.isAgg225,
  z51 := Tryz.sizeOf225,
  v51 := Tryz.zeroValue225,
  t53 := Tryz.underlying229,
  a53 := Tryz.isAgg229,
  z53 := Tryz.sizeOf229,
  v53 := Tryz.zeroValue229 }
set_option maxRecDepth 100000 in
theorem bwX : Builder.Extra Tryz.prog bwL_ren := {
  sizeBuilder := by kernel_rfl,
  liesBuilder := by kernel_rfl,
  t5 := Tryz.underlying5,
  a5 := Tryz.isAgg5,
  z5 := Tryz.sizeOf5,
  v5 := Tryz.zeroValue5,
  infoByte := by kernel_rfl,
  cellsByte := by kernel_rfl,
  sizeByte := by kernel_rfl,
  neB5 := by decide +kernel }
set_option maxRecDepth 100000 in
theorem bsX : Builder.Extra Tryz.prog bsL_ren := {
  sizeBuilder := by kernel_rfl,
  liesBuilder := by kernel_rfl,
  t5 := Tryz.underlying5,
  a5 := Tryz.isAgg5,
  z5 := Tryz.sizeOf5,
  v5 := Tryz.zeroValue5,
  infoByte := by kernel_rfl,
  cellsByte := by kernel_rfl,
  sizeByte := by kernel_rfl,
  neB5 := by decide +kernel }
end Go.Proofs.YtoblpcljhblnmaaGreatDoor
namespace Go.Proofs.YtoblpcljhblnmaaGreatDoor
open Go.RowKit
structure LV (w : World) : Prop where
  tab : Lib.TabIs Tryz.prog w "internal/strconv.uint64pow10" .u64 Lib.pow10Tab
theorem LV.go {w w' : World} (h : LV w) (hb : Below w.heap.size w w') : LV w' := ⟨Lib.tabBelow_of_tabIs h.tab _ hb⟩
abbrev tx (l : List UInt8) : Value := .string ⟨l.toArray⟩
theorem tx_app (a b : List UInt8) : (⟨a.toArray⟩ : ByteArray) ++ ⟨b.toArray⟩ = ⟨(a ++ b).toArray⟩ := by
  have h : ((⟨a.toArray⟩ : ByteArray) ++ ⟨b.toArray⟩).data = (⟨(a ++ b).toArray⟩ : ByteArray).data := by simp [ByteArray.data_append]
  cases hx : ((⟨a.toArray⟩ : ByteArray) ++ ⟨b.toArray⟩) with
  | mk d => rw [hx] at h; simp only at h; rw [h]
theorem tx_size (l : List UInt8) : (⟨l.toArray⟩ : ByteArray).size = l.length := by simp [ByteArray.size]
theorem below_growL (B : Nat) (w : World) (k : Nat) (os : Array Obj) (hB : B ≤ w.heap.size) : Below B w (Go.Sort.grow (w.drewN k) os) :=
  ⟨rfl, rfl, rfl, by simp [Go.Sort.grow], fun i hi => by
    have : i < (w.drewN k).heap.size := by show i < w.heap.size; omega
    exact Go.Sort.heap_grow_old _ _ this⟩
theorem ixb_miss (c : UInt8) : ∀ (p : List UInt8), c ∉ p → Lib.indexByte p c = -1
  | [], _ => rfl
  | b :: p, h => by
    have hb : ¬ b = c := fun e => h (by rw [e]; simp)
    have ih := ixb_miss c p fun e => h (by simp [e])
    simp [Lib.indexByte, hb, ih]
theorem ixb_one (c : UInt8) (q : List UInt8) : ∀ (p : List UInt8), c ∉ p → Lib.indexByte (p ++ c :: q) c = p.length
  | [], _ => by simp [Lib.indexByte]
  | b :: p, h => by
    have hb : ¬ b = c := fun e => h (by rw [e]; simp)
    have ih := ixb_one c q p fun e => h (by simp [e])
    rw [List.cons_append]
    simp [Lib.indexByte, hb, ih]
    try omega
theorem idx1_any (s : List UInt8) (c : UInt8) (w : World) : Calls Tryz.prog 178 #[tx s, .string ⟨#[c]⟩] w fun e w' => e = .returned (.int .i64 (Lib.indexByte s c)) ∧ w' = w := Any.stringslite_Index_one { cutL with } ⟨s.toArray⟩ c w
theorem tx_from (l : List UInt8) (m : Int) (k : Nat) (hm : m = k) (hk : k ≤ l.length) (W : World) : (Instr.slice 9 (.string ⟨l.toArray⟩) (some (.int .i64 m)) none none).run Tryz.prog W = .ok (.string ⟨(l.drop k).toArray⟩) W := by
  subst hm
  rw [run_slice_string_l W 9 ⟨l.toArray⟩ Tryz.underlying9 .i64 _ (by omega) (by rw [tx_size]; omega)]
  have e : ((⟨l.toArray⟩ : ByteArray).extract ((k : Int).toNat) (⟨l.toArray⟩ : ByteArray).size).data.toList = l.drop k := by
    rw [Go.Lib.extract_to_end]
    simp
  rw [← e]
theorem tx_upto (l : List UInt8) (m : Int) (k : Nat) (hm : m = k) (hk : k ≤ l.length) (W : World) : (Instr.slice 9 (.string ⟨l.toArray⟩) none (some (.int .i64 m)) none).run Tryz.prog W = .ok (.string ⟨(l.take k).toArray⟩) W := by
  subst hm
  rw [run_slice_string_h W 9 ⟨l.toArray⟩ Tryz.underlying9 .i64 _ (by omega) (by rw [tx_size]; omega)]
  have e : ((⟨l.toArray⟩ : ByteArray).extract 0 ((k : Int).toNat)).data.toList = l.take k := by
    simp [ByteArray.extract, ByteArray.copySlice]
  rw [← e]
set_option maxRecDepth 100000 in
theorem cut0_any (s : List UInt8) (c : UInt8) (hs : s.length ≤ 9223372036854775807) (w : World) :
    Calls Tryz.prog 141 #[tx s, .string ⟨#[c]⟩] w fun e w' => e = .returned (.tuple #[tx (Lib.cut s [c]).1, tx (Lib.cut s [c]).2.1, .bool (Lib.cut s [c]).2.2]) ∧ Below w.heap.size w w' := by
  have HI := Lib.hid (idx1_any s c w)
  rcases Pl.cutR_cases s c with ⟨h, e⟩ | ⟨p, q, hp, hl, e⟩
  · rw [e]
    rw [ixb_miss c s h] at HI
    clear h e
    go_enter Tryz.func141, Tryz.ntmps141
    go_wp2_with fail
    refine HI.out.mono ?_
    rintro e w' ⟨rfl, rfl⟩
    go_wp2_with fail
    go_ret3
    exact ⟨rfl, Below.refl _ _⟩
  · rw [e]
    have hi : Lib.indexByte s c = (p.length : Int) := by rw [hl]; exact ixb_one c q p hp
    rw [hi] at HI
    obtain ⟨k, hk⟩ : ∃ k : Nat, k = p.length := ⟨_, rfl⟩
    rw [← hk] at HI
    have hks : k + 1 ≤ s.length := by rw [hk, hl]; simp
    have h1 := fun W => tx_upto s (k : Int) k rfl (by omega) W
    have h2 := fun W => tx_from s ((k : Int) + 1) (k + 1) (by omega) hks W
    have e1 : s.take k = p := by rw [hk, hl]; simp
    have e2 : s.drop (k + 1) = q := by rw [hk, hl, show p ++ c :: q = (p ++ [c]) ++ q by simp]; exact List.drop_left' (by simp)
    rw [e1] at h1
    rw [e2] at h2
    have wk : IntKind.i64.wrap ((k : Int) + 1) = (k : Int) + 1 := IntWalk.i64_in _ (by omega)
    have hsz : ((⟨#[c]⟩ : ByteArray).size : Int) = 1 := rfl
    clear hi hk hl hp e e1 e2
    go_enter Tryz.func141, Tryz.ntmps141
    go_wp2_with fail
    refine HI.out.mono ?_
    rintro e w' ⟨rfl, rfl⟩
    clear HI
    go_wp2_with fail
    go_quiet (fail)
    go_wp2_with fail
    go_ret3
    exact ⟨rfl, ⟨rfl, rfl, rfl, Nat.le_refl _, fun _ _ => rfl⟩⟩
theorem cutl_any (s : List UInt8) (c : UInt8) (hs : s.length ≤ 9223372036854775807) (w : World) :
    Calls Tryz.prog 95 #[tx s, .string ⟨#[c]⟩] w fun e w' => e = .returned (.tuple #[tx (Lib.cut s [c]).1, tx (Lib.cut s [c]).2.1, .bool (Lib.cut s [c]).2.2]) ∧ Below w.heap.size w w' := by
  have HI := Lib.hid (cut0_any s c hs w)
  generalize Lib.cut s [c] = r at *
  obtain ⟨p, q, b⟩ := r
  clear hs
  go_enter Tryz.func95, Tryz.ntmps95
  go_wp2_with fail
  refine HI.out.mono ?_
  rintro e w' ⟨rfl, hb⟩
  have HB := Lib.hid hb
  clear hb HI
  go_wp2_with fail
  go_ret3
  exact ⟨rfl, HB.out⟩
theorem pre_minus (s : List UInt8) : Lib.hasPrefix s [45] = decide (s.head? = some 45) := by
  cases s with
  | nil => rfl
  | cons c s =>
    unfold Lib.hasPrefix
    by_cases h : c = 45
    · subst h; simp [List.isPrefixOf]
    · simp [List.isPrefixOf, h, Ne.symm h]
theorem trim_minus (s : List UInt8) : Lib.trimPrefix s [45] = Pl.trimM s := by
  unfold Lib.trimPrefix Pl.trimM
  rw [pre_minus]
  cases s with
  | nil => simp
  | cons c s => simp
theorem trim_any (s : List UInt8) (w : World) : Calls Tryz.prog 138 #[tx s, .string ⟨#[45]⟩] w fun e w' => e = .returned (tx (Pl.trimM s)) ∧ w' = w := by
  have hh := Any.strings_TrimPrefix { trimL with } ⟨s.toArray⟩ ⟨#[45]⟩ w
  change Calls Tryz.prog 138 _ _ _ at hh
  refine hh.mono ?_
  rintro e w' ⟨rfl, rfl⟩
  refine ⟨?_, rfl⟩
  show Ending.returned (tx (Lib.trimPrefix s [45])) = _
  rw [trim_minus]
theorem pref_any (s : List UInt8) (w : World) : Calls Tryz.prog 142 #[tx s, .string ⟨#[45]⟩] w fun e w' => e = .returned (.bool (decide (s.head? = some 45))) ∧ w' = w := by
  have hh := Any.strings_HasPrefix { prefL with } ⟨s.toArray⟩ ⟨#[45]⟩ w
  change Calls Tryz.prog 142 _ _ _ at hh
  refine hh.mono ?_
  rintro e w' ⟨rfl, rfl⟩
  refine ⟨?_, rfl⟩
  show Ending.returned (.bool (Lib.hasPrefix s [45])) = _
  rw [pre_minus]
theorem parse_m (M : Nat) : ∀ (l : List UInt8) (acc : Nat), (∀ c ∈ l, Pl.Dg c) → acc * 10 ^ l.length + Pl.natOf l ≤ M → M < 1844674407370955162 → Lib.parseUintM M acc l = .ok (acc * 10 ^ l.length + Pl.natOf l)
  | [], acc, _, _, _ => by simp [Lib.parseUintM, Pl.natOf]
  | c :: r, acc, hd, hM, hb => by
    have hc := hd c (by simp)
    have hr := fun x hx => hd x (List.mem_cons_of_mem c hx)
    unfold Pl.Dg at hc
    have e1 : Pl.natOf (c :: r) = (c.toNat - 48) * 10 ^ r.length + Pl.natOf r := by
      have := Pl.natOf_append [c] r
      rw [List.singleton_append] at this
      rw [this]
      congr 1
      show (10 * 0 + (c.toNat - 48)) * _ = _
      rw [Nat.mul_zero, Nat.zero_add]
    have e2 : acc * 10 ^ (c :: r).length + Pl.natOf (c :: r) = (acc * 10 + (c.toNat - 48)) * 10 ^ r.length + Pl.natOf r := by
      rw [e1, List.length_cons, Nat.pow_succ, Nat.add_mul, Nat.mul_comm (10 ^ r.length) 10, ← Nat.mul_assoc]
      omega
    rw [e2] at hM ⊢
    have hp : 1 ≤ 10 ^ r.length := Nat.pow_pos (by omega)
    have h1 : acc * 10 + (c.toNat - 48) ≤ (acc * 10 + (c.toNat - 48)) * 10 ^ r.length := Nat.le_mul_of_pos_right _ hp
    rw [Lib.parseUintM, if_pos hc, if_neg (by omega), if_neg (by omega)]
    exact parse_m M r _ hr hM hb
theorem puint_any (l : List UInt8) (hl : l ≠ []) (hd : ∀ c ∈ l, Pl.Dg c) (h9 : l.length ≤ 9) (w : World) :
    Calls Tryz.prog 143 #[tx l, .int .i64 10, .int .i64 32] w fun e w' => e = .returned (.tuple #[.int .u64 (Pl.natOf l : Int), .nilIface]) ∧ Below w.heap.size w w' := by
  have hlt := Pl.natOf_lt hd
  have h10 : 10 ^ l.length ≤ 10 ^ 9 := Nat.pow_le_pow_right (by omega) h9
  have hok : Lib.parseUintB 32 (⟨l.toArray⟩ : ByteArray).data.toList = .ok (Pl.natOf l) := by
    show Lib.parseUintB 32 l = _
    unfold Lib.parseUintB
    rw [if_neg hl]
    have := parse_m (2 ^ 32 - 1) l 0 hd (by rw [Nat.zero_mul, Nat.zero_add]; omega) (by omega)
    rw [Nat.zero_mul, Nat.zero_add] at this
    exact this
  have hh := Any.strconv_ParseUint_10_at32_ok { puL with } ⟨l.toArray⟩ (by rw [tx_size]; omega) (Pl.natOf l) hok w
  change Calls Tryz.prog 143 _ _ _ at hh
  refine hh.mono ?_
  rintro e w' ⟨rfl, rfl | rfl⟩
  · exact ⟨rfl, Below.refl _ _⟩
  · exact ⟨rfl, Lib.bytesWorld_below _ _ _⟩
theorem tx_add (a b : List UInt8) (h : a.length + b.length ≤ 140737488355328) (W : World) : (Op.stringOp .add ⟨a.toArray⟩ ⟨b.toArray⟩).run Tryz.prog W = .ok (.string ⟨(a ++ b).toArray⟩) W := by
  rw [run_string_add_sum _ _ _ (by rw [tx_size, tx_size]; omega), tx_app]
theorem cells_app (a b : List UInt8) : Lib.byteCells a ++ Lib.strCells ⟨b.toArray⟩ = Lib.byteCells (a ++ b) := by
  unfold Lib.byteCells Lib.strCells
  simp
def BldIs (w : World) (B b : Nat) (l : List UInt8) : Prop := Lib.IsBuilder 270 5 B b (Lib.byteCells l) w
theorem bld_write {w : World} {B b : Nat} {l : List UInt8} (s : List UInt8) (h : BldIs w B b l) (hlen : l.length + s.length ≤ 140737488355328) (hB : B ≤ w.heap.size) :
    Calls Tryz.prog 165 #[.pointer (some ⟨b, 0, none⟩), tx s] w fun e w' => e = .returned (.tuple #[.int .i64 (s.length : Int), .nilIface]) ∧ BldIs w' B b (l ++ s) ∧ Below B w w' := by
  have hh := Any.Builder_WriteString { bwL with } bwX B b (Lib.byteCells l) ⟨s.toArray⟩ w h (by rw [Lib.byteCells_length, tx_size]; exact hlen) hB
  change Calls Tryz.prog 165 _ _ _ at hh
  refine hh.mono ?_
  rintro e w' ⟨rfl, hb, hbl⟩
  rw [cells_app] at hb
  exact ⟨by rw [tx_size], .inr hb, hbl⟩
theorem bld_text {w : World} {B b : Nat} {l : List UInt8} (h : BldIs w B b l) (hB : B ≤ w.heap.size) :
    Calls Tryz.prog 166 #[.pointer (some ⟨b, 0, none⟩)] w fun e w' => e = .returned (tx l) ∧ Below B w w' := by
  have hh := Any.Builder_String_any { bsL with } bsX B b l w h hB
  change Calls Tryz.prog 166 _ _ _ at hh
  exact hh
theorem BldIs.new_ (w : World) (B : Nat) (hB : B = w.heap.size) : BldIs (w.alloc (.cells #[.pointer none, .slice none 0 0] 270)) B B [] := by
  subst hB
  refine .inl ⟨Nat.le_refl _, .slice none 0 0, heap_alloc_new w _, World.ownsRow_nil _ _ _ _, by simp [Value.ownBlock]⟩
theorem BldIs.go {w w' : World} {B b : Nat} {l : List UInt8} (h : BldIs w B b l) (hb : Below w.heap.size w w') : BldIs w' B b l := by
  have key : ∀ p, Lib.BuilderAt 270 5 B b p (Lib.byteCells l) w → Lib.BuilderAt 270 5 B b p (Lib.byteCells l) w' := fun p h => by
    have hlt := h.lt
    obtain ⟨h1, v, h2, h3, h4⟩ := h
    exact ⟨h1, v, (hb.block b hlt).trans h2, own_go h3 hb, h4⟩
  exact h.elim (fun h => .inl (key _ h)) (fun h => .inr (key _ h))
end Go.Proofs.YtoblpcljhblnmaaGreatDoor
