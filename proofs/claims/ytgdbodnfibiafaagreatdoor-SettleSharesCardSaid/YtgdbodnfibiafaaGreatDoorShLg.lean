/- The library's contracts for strings.Cut, TrimPrefix, HasPrefix, Builder, strconv.ParseUint and FormatUint lie in this program, and as the walks use them. Condition: the library's tables lie as they are laid (LV). strings.Cut, TrimPrefix, HasPrefix, strconv.ParseUint and FormatUint in the words of decimal texts. Condition: the library's tables lie as they are laid (LV). -/
import Derived.Shelf.Strings.Prefix
import Derived.Shelf.Strings.Cut
import Derived.Shelf.Strings.Builder1
import Derived.Shelf.Pu.ParseUintPublic10
import Derived.Shelf.Strconv.Itoa2
import Derived.Lib.AppendIntMem
import Derived.Lib.ParseIntBCases
import Derived.Test.YtgdbodnfibiafaaGreatDoorBase
import Derived.Test.YtgdbodnfibiafaaGreatDoorPDec
import Derived.BigQuiet
import Derived.Lib.AtoiErrMem
namespace Go.Proofs.YtgdbodnfibiafaaGreatDoor
open Go.RowKit
def cutL_ren : Go.Shelf.Ren := ⟨fun | 145 => 44 | 220 => 61 | 217 => 87 | 266 => 104 | 219 => 78 | 225 => 88 | 224 => 89 | 267 => 90 | 314 => 105 | n => n, fun | 9 => 9 | 4 => 4 | 59 => 77 | 5 => 5 | 3 => 3 | 46 => 92 | 146 => 144 | 51 => 90 | n => n, fun | 1 => 0 | n => n⟩
set_option maxRecDepth 100000 in
theorem cutL : Go.Proofs.Lays.n145 Tryz.prog cutL_ren := {
  mixed := by kernel_rfl,
  f145 := Tryz.func44.trans (congrArg some (by kernel_rfl)),
  f217 := Tryz.func87.trans (congrArg some (by kernel_rfl)),
  f219 := Tryz.func78.trans (congrArg some (by kernel_rfl)),
  f220 := Tryz.func61.trans (congrArg some (by kernel_rfl)),
  f224 := Tryz.func89.trans (congrArg some (by kernel_rfl)),
  f225 := Tryz.func88.trans (congrArg some (by kernel_rfl)),
  f266 := Tryz.func104.trans (congrArg some (by kernel_rfl)),
  f267 := Tryz.func90.trans (congrArg some (by kernel_rfl)),
  f314 := Tryz.func105.trans (congrArg some (by kernel_rfl)),
  t3 := Tryz.underlying3,
  a3 := Tryz.isAgg3,
  z3 := Tryz.sizeOf3,
  v3 := Tryz.zeroValue3,
  t4 := Tryz.underlying4,
  a4 := Tryz.isAgg4,
  z4 := Tryz.sizeOf4,
  v4 := Tryz.zeroValue4,
  t5 := Tryz.underlying5,
  a5 := Tryz.isAgg5,
  z5 := Tryz.sizeOf5,
  v5 := Tryz.zeroValue5,
  t9 := Tryz.underlying9,
  a9 := Tryz.isAgg9,
  z9 := Tryz.sizeOf9,
  v9 := Tryz.zeroValue9,
  t46 := Tryz.underlying92,
  a46 := Tryz.isAgg92,
  z46 := Tryz.sizeOf92,
  v46 := Tryz.zeroValue92,
  t51 := Tryz.underlying90,
  a51 := Tryz.isAgg90,
  z51 := Tryz.sizeOf90,
  v51 := Tryz.zeroValue90,
  t59 := Tryz.underlying77,
  a59 := Tryz.isAgg77,
  z59 := Tryz.sizeOf77,
  v59 := Tryz.zeroValue77,
  t146 := Tryz.underlying144,
  a146 := Tryz.isAgg144,
  z146 := Tryz.sizeOf144,
  v146 := Tryz.zeroValue144,
  g1 := by kernel_rfl }
def trimL_ren : Go.Shelf.Ren := ⟨fun | 101 => 51 | 208 => 67 | 206 => 79 | n => n, fun | 9 => 9 | 4 => 4 | 3 => 3 | n => n, fun | n => n⟩
set_option maxRecDepth 100000 in
theorem trimL : Go.Proofs.Lays.n101 Tryz.prog trimL_ren := {
  mixed := by kernel_rfl,
  f101 := Tryz.func51.trans (congrArg some (by kernel_rfl)),
  f206 := Tryz.func79.trans (congrArg some (by kernel_rfl)),
  f208 := Tryz.func67.trans (congrArg some (by kernel_rfl)),
  t3 := Tryz.underlying3,
  a3 := Tryz.isAgg3,
  z3 := Tryz.sizeOf3,
  v3 := Tryz.zeroValue3,
  t4 := Tryz.underlying4,
  a4 := Tryz.isAgg4,
  z4 := Tryz.sizeOf4,
  v4 := Tryz.zeroValue4,
  t9 := Tryz.underlying9,
  a9 := Tryz.isAgg9,
  z9 := Tryz.sizeOf9,
  v9 := Tryz.zeroValue9 }
def prefL_ren : Go.Shelf.Ren := ⟨fun | 99 => 62 | 206 => 79 | n => n, fun | 9 => 9 | 4 => 4 | 3 => 3 | n => n, fun | n => n⟩
set_option maxRecDepth 100000 in
theorem prefL : Go.Proofs.Lays.n99 Tryz.prog prefL_ren := {
  mixed := by kernel_rfl,
  f99 := Tryz.func62.trans (congrArg some (by kernel_rfl)),
  f206 := Tryz.func79.trans (congrArg some (by kernel_rfl)),
  t3 := Tryz.underlying3,
  a3 := Tryz.isAgg3,
  z3 := Tryz.sizeOf3,
  v3 := Tryz.zeroValue3,
  t4 := Tryz.underlying4,
  a4 := Tryz.isAgg4,
  z4 := Tryz.sizeOf4,
  v4 := Tryz.zeroValue4,
  t9 := Tryz.underlying9,
  a9 := Tryz.isAgg9,
  z9 := Tryz.sizeOf9,
  v9 := Tryz.zeroValue9 }
def bwL_ren : Go.Shelf.Ren := ⟨fun | 166 => 76 | 240 => 86 | 276 => 103 | n => n, fun | 70 => 115 | 9 => 9 | 3 => 3 | 75 => 99 | 0 => 0 | 72 => 117 | 37 => 104 | 4 => 4 | 164 => 142 | 5 => 5 | 80 => 121 | 20 => 20 | n => n, fun | n => n⟩
set_option maxRecDepth 100000 in
theorem bwL : Go.Proofs.Lays.n166 Tryz.prog bwL_ren := {
  mixed := by kernel_rfl,
  f166 := Tryz.func76.trans (congrArg some (by kernel_rfl)),
  f240 := Tryz.func86.trans (congrArg some (by kernel_rfl)),
  f276 := Tryz.func103.trans (congrArg some (by kernel_rfl)),
  t0 := Tryz.underlying0,
  a0 := Tryz.isAgg0,
  z0 := Tryz.sizeOf0,
  v0 := Tryz.zeroValue0,
  t3 := Tryz.underlying3,
  a3 := Tryz.isAgg3,
  z3 := Tryz.sizeOf3,
  v3 := Tryz.zeroValue3,
  t4 := Tryz.underlying4,
  a4 := Tryz.isAgg4,
  z4 := Tryz.sizeOf4,
  v4 := Tryz.zeroValue4,
  t9 := Tryz.underlying9,
  a9 := Tryz.isAgg9,
  z9 := Tryz.sizeOf9,
  v9 := Tryz.zeroValue9,
  t20 := Tryz.underlying20,
  a20 := Tryz.isAgg20,
  z20 := Tryz.sizeOf20,
  v20 := Tryz.zeroValue20,
  t37 := Tryz.underlying104,
  a37 := Tryz.isAgg104,
  z37 := Tryz.sizeOf104,
  v37 := Tryz.zeroValue104,
  t70 := Tryz.underlying115,
  a70 := Tryz.isAgg115,
  z70 := Tryz.sizeOf115,
  v70 := Tryz.zeroValue115,
  t72 := Tryz.underlying117,
  a72 := Tryz.isAgg117,
  z72 := Tryz.sizeOf117,
  v72 := Tryz.zeroValue117,
  t75 := Tryz.underlying99,
  a75 := Tryz.isAgg99,
  z75 := Tryz.sizeOf99,
  v75 := Tryz.zeroValue99,
  t164 := Tryz.underlying142,
  a164 := Tryz.isAgg142,
  z164 := Tryz.sizeOf142,
  v164 := Tryz.zeroValue142 }
def bsL_ren : Go.Shelf.Ren := ⟨fun | 169 => 77 | n => n, fun | 70 => 115 | 9 => 9 | 0 => 0 | 72 => 117 | 37 => 104 | 127 => 127 | 3 => 3 | 5 => 5 | n => n, fun | n => n⟩
set_option maxRecDepth 100000 in
theorem bsL : Go.Proofs.Lays.n169 Tryz.prog bsL_ren := {
  mixed := by kernel_rfl,
  f169 := Tryz.func77.trans (congrArg some (by kernel_rfl)),
  t0 := Tryz.underlying0,
  a0 := Tryz.isAgg0,
  z0 := Tryz.sizeOf0,
  v0 := Tryz.zeroValue0,
  t3 := Tryz.underlying3,
  a3 := Tryz.isAgg3,
  z3 := Tryz.sizeOf3,
  v3 := Tryz.zeroValue3,
  t9 := Tryz.underlying9,
  a9 := Tryz.isAgg9,
  z9 := Tryz.sizeOf9,
  v9 := Tryz.zeroValue9,
  t37 := Tryz.underlying104,
  a37 := Tryz.isAgg104,
  z37 := Tryz.sizeOf104,
  v37 := Tryz.zeroValue104,
  t70 := Tryz.underlying115,
  a70 := Tryz.isAgg115,
  z70 := Tryz.sizeOf115,
  v70 := Tryz.zeroValue115,
  t72 := Tryz.underlying117,
  a72 := Tryz.isAgg117,
  z72 := Tryz.sizeOf117,
  v72 := Tryz.zeroValue117,
  t127 := Tryz.underlying127,
  a127 := Tryz.isAgg127,
  z127 := Tryz.sizeOf127,
  v127 := Tryz.zeroValue127 }
def puL_ren : Go.Shelf.Ren := ⟨fun | 14 => 63 | 16 => 80 | 17 => 81 | 19 => 91 | 20 => 92 | 21 => 93 | 22 => 94 | 23 => 95 | 24 => 96 | 25 => 106 | 27 => 108 | 26 => 107 | 28 => 114 | 29 => 117 | 30 => 99 | 31 => 100 | 32 => 101 | 33 => 102 | 35 => 110 | 34 => 109 | 36 => 111 | 37 => 112 | 38 => 113 | 39 => 115 | 40 => 116 | n => n, fun | 9 => 9 | 3 => 3 | 22 => 89 | 24 => 99 | 25 => 100 | 4 => 4 | 34 => 130 | 5 => 5 | 36 => 92 | 37 => 104 | 0 => 0 | 39 => 133 | 21 => 21 | 44 => 148 | 47 => 127 | 50 => 157 | 48 => 155 | 2 => 2 | 52 => 137 | 55 => 140 | 59 => 151 | 60 => 90 | 20 => 20 | 61 => 152 | 65 => 159 | 66 => 160 | 67 => 121 | n => n, fun | 0 => 1 | 1 => 2 | 2 => 3 | 3 => 4 | 4 => 5 | n => n⟩
set_option maxRecDepth 100000 in
theorem puL : Go.Proofs.LaysPu.n14 Tryz.prog puL_ren := {
  mixed := by kernel_rfl,
  f14 := Tryz.func63.trans (congrArg some (by kernel_rfl)),
  f16 := Tryz.func80.trans (congrArg some (by kernel_rfl)),
  f17 := Tryz.func81.trans (congrArg some (by kernel_rfl)),
  f19 := Tryz.func91.trans (congrArg some (by kernel_rfl)),
  f20 := Tryz.func92.trans (congrArg some (by kernel_rfl)),
  f21 := Tryz.func93.trans (congrArg some (by kernel_rfl)),
  f22 := Tryz.func94.trans (congrArg some (by kernel_rfl)),
  f23 := Tryz.func95.trans (congrArg some (by kernel_rfl)),
  f24 := Tryz.func96.trans (congrArg some (by kernel_rfl)),
  f25 := Tryz.func106.trans (congrArg some (by kernel_rfl)),
  f26 := Tryz.func107.trans (congrArg some (by kernel_rfl)),
  f27 := Tryz.func108.trans (congrArg some (by kernel_rfl)),
  f28 := Tryz.func114.trans (congrArg some (by kernel_rfl)),
  f29 := Tryz.func117.trans (congrArg some (by kernel_rfl)),
  f30 := Tryz.func99.trans (congrArg some (by kernel_rfl)),
  f31 := Tryz.func100.trans (congrArg some (by kernel_rfl)),
  f32 := Tryz.func101.trans (congrArg some (by kernel_rfl)),
  f33 := Tryz.func102.trans (congrArg some (by kernel_rfl)),
  f34 := Tryz.func109.trans (congrArg some (by kernel_rfl)),
  f35 := Tryz.func110.trans (congrArg some (by kernel_rfl)),
  f36 := Tryz.func111.trans (congrArg some (by kernel_rfl)),
  f37 := Tryz.func112.trans (congrArg some (by kernel_rfl)),
  f38 := Tryz.func113.trans (congrArg some (by kernel_rfl)),
  f39 := Tryz.func115.trans (congrArg some (by kernel_rfl)),
  f40 := Tryz.func116.trans (congrArg some (by kernel_rfl)),
  t0 := Tryz.underlying0,
  a0 := Tryz.isAgg0,
  z0 := Tryz.sizeOf0,
  v0 := Tryz.zeroValue0,
  i0 := by kernel_rfl,
  t2 := Tryz.underlying2,
  a2 := Tryz.isAgg2,
  z2 := Tryz.sizeOf2,
  v2 := Tryz.zeroValue2,
  i2 := by kernel_rfl,
  t3 := Tryz.underlying3,
  a3 := Tryz.isAgg3,
  z3 := Tryz.sizeOf3,
  v3 := Tryz.zeroValue3,
  i3 := by kernel_rfl,
  t4 := Tryz.underlying4,
  a4 := Tryz.isAgg4,
  z4 := Tryz.sizeOf4,
  v4 := Tryz.zeroValue4,
  i4 := by kernel_rfl,
  t5 := Tryz.underlying5,
  a5 := Tryz.isAgg5,
  z5 := Tryz.sizeOf5,
  v5 := Tryz.zeroValue5,
  i5 := by kernel_rfl,
  t9 := Tryz.underlying9,
  a9 := Tryz.isAgg9,
  z9 := Tryz.sizeOf9,
  v9 := Tryz.zeroValue9,
  i9 := by kernel_rfl,
  t20 := Tryz.underlying20,
  a20 := Tryz.isAgg20,
  z20 := Tryz.sizeOf20,
  v20 := Tryz.zeroValue20,
  i20 := by kernel_rfl,
  t21 := Tryz.underlying21,
  a21 := Tryz.isAgg21,
  z21 := Tryz.sizeOf21,
  v21 := Tryz.zeroValue21,
  i21 := by kernel_rfl,
  t22 := Tryz.underlying89,
  a22 := Tryz.isAgg89,
  z22 := Tryz.sizeOf89,
  v22 := Tryz.zeroValue89,
  i22 := by kernel_rfl,
  t24 := Tryz.underlying99,
  a24 := Tryz.isAgg99,
  z24 := Tryz.sizeOf99,
  v24 := Tryz.zeroValue99,
  i24 := by kernel_rfl,
  t25 := Tryz.underlying100,
  a25 := Tryz.isAgg100,
  z25 := Tryz.sizeOf100,
  v25 := Tryz.zeroValue100,
  i25 := by kernel_rfl,
  t34 := Tryz.underlying130,
  a34 := Tryz.isAgg130,
  z34 := Tryz.sizeOf130,
  v34 := Tryz.zeroValue130,
  i34 := by kernel_rfl,
  c34 := by kernel_rfl,
  t36 := Tryz.underlying92,
  a36 := Tryz.isAgg92,
  z36 := Tryz.sizeOf92,
  v36 := Tryz.zeroValue92,
  i36 := by kernel_rfl,
  t37 := Tryz.underlying104,
  a37 := Tryz.isAgg104,
  z37 := Tryz.sizeOf104,
  v37 := Tryz.zeroValue104,
  i37 := by kernel_rfl,
  t39 := Tryz.underlying133,
  a39 := Tryz.isAgg133,
  z39 := Tryz.sizeOf133,
  v39 := Tryz.zeroValue133,
  i39 := by kernel_rfl,
  t44 := Tryz.underlying148,
  a44 := Tryz.isAgg148,
  z44 := Tryz.sizeOf148,
  v44 := Tryz.zeroValue148,
  i44 := by kernel_rfl,
  t47 := Tryz.underlying127,
  a47 := Tryz.isAgg127,
  z47 := Tryz.sizeOf127,
  v47 := Tryz.zeroValue127,
  i47 := by kernel_rfl,
  t48 := Tryz.underlying155,
  a48 := Tryz.isAgg155,
  z48 := Tryz.sizeOf155,
  v48 := Tryz.zeroValue155,
  i48 := by kernel_rfl,
  t50 := Tryz.underlying157,
  a50 := Tryz.isAgg157,
  z50 := Tryz.sizeOf157,
  v50 := Tryz.zeroValue157,
  i50 := by kernel_rfl,
  t52 := Tryz.underlying137,
  a52 := Tryz.isAgg137,
  z52 := Tryz.sizeOf137,
  v52 := Tryz.zeroValue137,
  i52 := by kernel_rfl,
  t55 := Tryz.underlying140,
  a55 := Tryz.isAgg140,
  z55 := Tryz.sizeOf140,
  v55 := Tryz.zeroValue140,
  i55 := by kernel_rfl,
  t59 := Tryz.underlying151,
  a59 := Tryz.isAgg151,
  z59 := Tryz.sizeOf151,
  v59 := Tryz.zeroValue151,
  i59 := by kernel_rfl,
  t60 := Tryz.underlying90,
  a60 := Tryz.isAgg90,
  z60 := Tryz.sizeOf90,
  v60 := Tryz.zeroValue90,
  i60 := by kernel_rfl,
  t61 := Tryz.underlying152,
  a61 := Tryz.isAgg152,
  z61 := Tryz.sizeOf152,
  t65 := Tryz.underlying159,
  a65 := Tryz.isAgg159,
  z65 := Tryz.sizeOf159,
  v65 := Tryz.zeroValue159,
  i65 := by kernel_rfl,
  t66 := Tryz.underlying160,
  a66 := Tryz.isAgg160,
  z66 := Tryz.sizeOf160,
  v66 := Tryz.zeroValue160,
  i66 := by kernel_rfl,
  t67 := Tryz.underlying121,
  a67 := Tryz.isAgg121,
  z67 := Tryz.sizeOf121,
  v67 := Tryz.zeroValue121,
  i67 := by kernel_rfl,
  g0 := by kernel_rfl,
  m0 := by kernel_rfl,
  g1 := by kernel_rfl,
  m1 := by kernel_rfl,
  g2 := by kernel_rfl,
  m2 := by kernel_rfl,
  g3 := by kernel_rfl,
  m3 := by kernel_rfl,
  g4 := by kernel_rfl,
  m4 := by kernel_rfl }
def smallL_ren : Go.Shelf.Ren := ⟨fun | 283 => 99 | n => n, fun | 3 => 3 | 9 => 9 | 4 => 4 | n => n, fun | n => n⟩
set_option maxRecDepth 100000 in
theorem smallL : Go.Proofs.Lays.n283 Tryz.prog smallL_ren := {
  mixed := by kernel_rfl,
  f283 := Tryz.func99.trans (congrArg some (by kernel_rfl)),
  t3 := Tryz.underlying3,
  a3 := Tryz.isAgg3,
  z3 := Tryz.sizeOf3,
  v3 := Tryz.zeroValue3,
  t4 := Tryz.underlying4,
  a4 := Tryz.isAgg4,
  z4 := Tryz.sizeOf4,
  v4 := Tryz.zeroValue4,
  t9 := Tryz.underlying9,
  a9 := Tryz.isAgg9,
  z9 := Tryz.sizeOf9,
  v9 := Tryz.zeroValue9 }
def ndigL_ren : Go.Shelf.Ren := ⟨fun | 129 => 110 | 284 => 100 | 317 => 109 | 318 => 111 | n => n, fun | 53 => 89 | 3 => 3 | 4 => 4 | 46 => 92 | 5 => 5 | 9 => 9 | 212 => 151 | 0 => 0 | n => n, fun | 17 => 3 | n => n⟩
set_option maxRecDepth 100000 in
theorem ndigL : Go.Proofs.LaysM.n284 Tryz.prog ndigL_ren := {
  mixed := by kernel_rfl,
  f129 := Tryz.func110.trans (congrArg some (by kernel_rfl)),
  f284 := Tryz.func100.trans (congrArg some (by kernel_rfl)),
  f317 := Tryz.func109.trans (congrArg some (by kernel_rfl)),
  f318 := Tryz.func111.trans (congrArg some (by kernel_rfl)),
  t0 := Tryz.underlying0,
  a0 := Tryz.isAgg0,
  z0 := Tryz.sizeOf0,
  v0 := Tryz.zeroValue0,
  t3 := Tryz.underlying3,
  a3 := Tryz.isAgg3,
  z3 := Tryz.sizeOf3,
  v3 := Tryz.zeroValue3,
  t4 := Tryz.underlying4,
  a4 := Tryz.isAgg4,
  z4 := Tryz.sizeOf4,
  v4 := Tryz.zeroValue4,
  t5 := Tryz.underlying5,
  a5 := Tryz.isAgg5,
  z5 := Tryz.sizeOf5,
  v5 := Tryz.zeroValue5,
  t9 := Tryz.underlying9,
  a9 := Tryz.isAgg9,
  z9 := Tryz.sizeOf9,
  v9 := Tryz.zeroValue9,
  t46 := Tryz.underlying92,
  a46 := Tryz.isAgg92,
  z46 := Tryz.sizeOf92,
  v46 := Tryz.zeroValue92,
  t53 := Tryz.underlying89,
  a53 := Tryz.isAgg89,
  z53 := Tryz.sizeOf89,
  v53 := Tryz.zeroValue89,
  t212 := Tryz.underlying151,
  a212 := Tryz.isAgg151,
  z212 := Tryz.sizeOf151,
  v212 := Tryz.zeroValue151,
  g17 := by kernel_rfl,
  i0 := by kernel_rfl,
  i3 := by kernel_rfl,
  i4 := by kernel_rfl,
  i5 := by kernel_rfl,
  i9 := by kernel_rfl,
  i46 := by kernel_rfl,
  i53 := by kernel_rfl,
  i212 := by kernel_rfl,
  m17 := by kernel_rfl }
def fb10L_ren : Go.Shelf.Ren := ⟨fun | 285 => 101 | n => n, fun | 37 => 104 | 53 => 89 | 3 => 3 | 4 => 4 | 51 => 90 | 9 => 9 | 5 => 5 | 0 => 0 | n => n, fun | n => n⟩
set_option maxRecDepth 100000 in
theorem fb10L : Go.Proofs.Lays.n285 Tryz.prog fb10L_ren := {
  mixed := by kernel_rfl,
  f285 := Tryz.func101.trans (congrArg some (by kernel_rfl)),
  t0 := Tryz.underlying0,
  a0 := Tryz.isAgg0,
  z0 := Tryz.sizeOf0,
  v0 := Tryz.zeroValue0,
  t3 := Tryz.underlying3,
  a3 := Tryz.isAgg3,
  z3 := Tryz.sizeOf3,
  v3 := Tryz.zeroValue3,
  t4 := Tryz.underlying4,
  a4 := Tryz.isAgg4,
  z4 := Tryz.sizeOf4,
  v4 := Tryz.zeroValue4,
  t5 := Tryz.underlying5,
  a5 := Tryz.isAgg5,
  z5 := Tryz.sizeOf5,
  v5 := Tryz.zeroValue5,
  t9 := Tryz.underlying9,
  a9 := Tryz.isAgg9,
  z9 := Tryz.sizeOf9,
  v9 := Tryz.zeroValue9,
  t37 := Tryz.underlying104,
  a37 := Tryz.isAgg104,
  z37 := Tryz.sizeOf104,
  v37 := Tryz.zeroValue104,
  t51 := Tryz.underlying90,
  a51 := Tryz.isAgg90,
  z51 := Tryz.sizeOf90,
  v51 := Tryz.zeroValue90,
  t53 := Tryz.underlying89,
  a53 := Tryz.isAgg89,
  z53 := Tryz.sizeOf89,
  v53 := Tryz.zeroValue89 }
set_option maxRecDepth 100000 in
theorem bwX : Builder.Extra Tryz.prog bwL_ren := {
  sizeBuilder := by kernel_rfl,
  liesBuilder := by kernel_rfl,
  t5 := Tryz.underlying5,
  a5 := Tryz.isAgg5,
  z5 := Tryz.sizeOf5,
  v5 := Tryz.zeroValue5,
  infoByte := by kernel_rfl,
  cellsByte := by kernel_rfl,
  sizeByte := by kernel_rfl,
  neB5 := by decide +kernel }
set_option maxRecDepth 100000 in
theorem bsX : Builder.Extra Tryz.prog bsL_ren := {
  sizeBuilder := by kernel_rfl,
  liesBuilder := by kernel_rfl,
  t5 := Tryz.underlying5,
  a5 := Tryz.isAgg5,
  z5 := Tryz.sizeOf5,
  v5 := Tryz.zeroValue5,
  infoByte := by kernel_rfl,
  cellsByte := by kernel_rfl,
  sizeByte := by kernel_rfl,
  neB5 := by decide +kernel }
end Go.Proofs.YtgdbodnfibiafaaGreatDoor
namespace Go.Proofs.YtgdbodnfibiafaaGreatDoor
open Go.RowKit
/-- the library's variables that the road of numbers reads -/
structure LV (w : World) : Prop where
  tab : Lib.TabIs Tryz.prog w "internal/strconv.uint64pow10" .u64 Lib.pow10Tab
theorem LV.go {w w' : World} (h : LV w) (hb : Below w.heap.size w w') : LV w' := ⟨Lib.tabBelow_of_tabIs h.tab _ hb⟩
/-- a text as a value -/
abbrev tx (l : List UInt8) : Value := .string ⟨l.toArray⟩
theorem tx_data (s : ByteArray) : (.string s : Value) = tx s.data.toList := rfl
theorem tx_app (a b : List UInt8) : (⟨a.toArray⟩ : ByteArray) ++ ⟨b.toArray⟩ = ⟨(a ++ b).toArray⟩ := by
  have h : ((⟨a.toArray⟩ : ByteArray) ++ ⟨b.toArray⟩).data = (⟨(a ++ b).toArray⟩ : ByteArray).data := by simp [ByteArray.data_append]
  cases hx : ((⟨a.toArray⟩ : ByteArray) ++ ⟨b.toArray⟩) with
  | mk d => rw [hx] at h; simp only at h; rw [h]
theorem tx_size (l : List UInt8) : (⟨l.toArray⟩ : ByteArray).size = l.length := by simp [ByteArray.size]
theorem below_growL (B : Nat) (w : World) (k : Nat) (os : Array Obj) (hB : B ≤ w.heap.size) : Below B w (Go.Sort.grow (w.drewN k) os) :=
  ⟨rfl, rfl, rfl, by simp [Go.Sort.grow], fun i hi => by
    have : i < (w.drewN k).heap.size := by show i < w.heap.size; omega
    exact Go.Sort.heap_grow_old _ _ this⟩
theorem ixb_miss (c : UInt8) : ∀ (p : List UInt8), c ∉ p → Lib.indexByte p c = -1
  | [], _ => rfl
  | b :: p, h => by
    have hb : ¬ b = c := fun e => h (by rw [e]; simp)
    have ih := ixb_miss c p fun e => h (by simp [e])
    simp [Lib.indexByte, hb, ih]
theorem ixb_one (c : UInt8) (q : List UInt8) : ∀ (p : List UInt8), c ∉ p → Lib.indexByte (p ++ c :: q) c = p.length
  | [], _ => by simp [Lib.indexByte]
  | b :: p, h => by
    have hb : ¬ b = c := fun e => h (by rw [e]; simp)
    have ih := ixb_one c q p fun e => h (by simp [e])
    rw [List.cons_append]
    simp [Lib.indexByte, hb, ih]
    try omega
theorem idx1_any (s : List UInt8) (c : UInt8) (w : World) : Calls Tryz.prog 78 #[tx s, .string ⟨#[c]⟩] w fun e w' => e = .returned (.int .i64 (Lib.indexByte s c)) ∧ w' = w := Any.stringslite_Index_one { cutL with } ⟨s.toArray⟩ c w
theorem tx_from (l : List UInt8) (m : Int) (k : Nat) (hm : m = k) (hk : k ≤ l.length) (W : World) : (Instr.slice 9 (.string ⟨l.toArray⟩) (some (.int .i64 m)) none none).run Tryz.prog W = .ok (.string ⟨(l.drop k).toArray⟩) W := by
  subst hm
  rw [run_slice_string_l W 9 ⟨l.toArray⟩ Tryz.underlying9 .i64 _ (by omega) (by rw [tx_size]; omega)]
  have e : ((⟨l.toArray⟩ : ByteArray).extract ((k : Int).toNat) (⟨l.toArray⟩ : ByteArray).size).data.toList = l.drop k := by
    rw [Go.Lib.extract_to_end]
    simp
  rw [← e]
theorem tx_upto (l : List UInt8) (m : Int) (k : Nat) (hm : m = k) (hk : k ≤ l.length) (W : World) : (Instr.slice 9 (.string ⟨l.toArray⟩) none (some (.int .i64 m)) none).run Tryz.prog W = .ok (.string ⟨(l.take k).toArray⟩) W := by
  subst hm
  rw [run_slice_string_h W 9 ⟨l.toArray⟩ Tryz.underlying9 .i64 _ (by omega) (by rw [tx_size]; omega)]
  have e : ((⟨l.toArray⟩ : ByteArray).extract 0 ((k : Int).toNat)).data.toList = l.take k := by
    simp [ByteArray.extract, ByteArray.copySlice]
  rw [← e]
set_option maxRecDepth 100000 in
theorem cut0_any (s : List UInt8) (c : UInt8) (hs : s.length ≤ 9223372036854775807) (w : World) :
    Calls Tryz.prog 61 #[tx s, .string ⟨#[c]⟩] w fun e w' => e = .returned (.tuple #[tx (Lib.cut s [c]).1, tx (Lib.cut s [c]).2.1, .bool (Lib.cut s [c]).2.2]) ∧ Below w.heap.size w w' := by
  have HI := Lib.hid (idx1_any s c w)
  rcases Pl.cutR_cases s c with ⟨h, e⟩ | ⟨p, q, hp, hl, e⟩
  · rw [e]
    rw [ixb_miss c s h] at HI
    clear h e
    go_enter Tryz.func61, Tryz.ntmps61
    go_wp2_with fail
    refine HI.out.mono ?_
    rintro e w' ⟨rfl, rfl⟩
    go_wp2_with fail
    go_ret3
    exact ⟨rfl, Below.refl _ _⟩
  · rw [e]
    have hi : Lib.indexByte s c = (p.length : Int) := by rw [hl]; exact ixb_one c q p hp
    rw [hi] at HI
    obtain ⟨k, hk⟩ : ∃ k : Nat, k = p.length := ⟨_, rfl⟩
    rw [← hk] at HI
    have hks : k + 1 ≤ s.length := by rw [hk, hl]; simp
    have h1 := fun W => tx_upto s (k : Int) k rfl (by omega) W
    have h2 := fun W => tx_from s ((k : Int) + 1) (k + 1) (by omega) hks W
    have e1 : s.take k = p := by rw [hk, hl]; simp
    have e2 : s.drop (k + 1) = q := by rw [hk, hl, show p ++ c :: q = (p ++ [c]) ++ q by simp]; exact List.drop_left' (by simp)
    rw [e1] at h1
    rw [e2] at h2
    have wk : IntKind.i64.wrap ((k : Int) + 1) = (k : Int) + 1 := IntWalk.i64_in _ (by omega)
    have hsz : ((⟨#[c]⟩ : ByteArray).size : Int) = 1 := rfl
    clear hi hk hl hp e e1 e2
    go_enter Tryz.func61, Tryz.ntmps61
    go_wp2_with fail
    refine HI.out.mono ?_
    rintro e w' ⟨rfl, rfl⟩
    clear HI
    go_wp2_with fail
    go_quiet (fail)
    go_wp2_with fail
    go_ret3
    exact ⟨rfl, ⟨rfl, rfl, rfl, Nat.le_refl _, fun _ _ => rfl⟩⟩
theorem cutl_any (s : List UInt8) (c : UInt8) (hs : s.length ≤ 9223372036854775807) (w : World) :
    Calls Tryz.prog 44 #[tx s, .string ⟨#[c]⟩] w fun e w' => e = .returned (.tuple #[tx (Lib.cut s [c]).1, tx (Lib.cut s [c]).2.1, .bool (Lib.cut s [c]).2.2]) ∧ Below w.heap.size w w' := by
  have HI := Lib.hid (cut0_any s c hs w)
  generalize Lib.cut s [c] = r at *
  obtain ⟨p, q, b⟩ := r
  clear hs
  go_enter Tryz.func44, Tryz.ntmps44
  go_wp2_with fail
  refine HI.out.mono ?_
  rintro e w' ⟨rfl, hb⟩
  have HB := Lib.hid hb
  clear hb HI
  go_wp2_with fail
  go_ret3
  exact ⟨rfl, HB.out⟩
theorem pre_minus (s : List UInt8) : Lib.hasPrefix s [45] = decide (s.head? = some 45) := by
  cases s with
  | nil => rfl
  | cons c s =>
    unfold Lib.hasPrefix
    by_cases h : c = 45
    · subst h; simp [List.isPrefixOf]
    · simp [List.isPrefixOf, h, Ne.symm h]
theorem trim_minus (s : List UInt8) : Lib.trimPrefix s [45] = Pl.trimM s := by
  unfold Lib.trimPrefix Pl.trimM
  rw [pre_minus]
  cases s with
  | nil => simp
  | cons c s => simp
theorem trim_any (s : List UInt8) (w : World) : Calls Tryz.prog 51 #[tx s, .string ⟨#[45]⟩] w fun e w' => e = .returned (tx (Pl.trimM s)) ∧ w' = w := by
  have hh := Any.strings_TrimPrefix { trimL with } ⟨s.toArray⟩ ⟨#[45]⟩ w
  change Calls Tryz.prog 51 _ _ _ at hh
  refine hh.mono ?_
  rintro e w' ⟨rfl, rfl⟩
  refine ⟨?_, rfl⟩
  show Ending.returned (tx (Lib.trimPrefix s [45])) = _
  rw [trim_minus]
theorem pref_any (s : List UInt8) (w : World) : Calls Tryz.prog 62 #[tx s, .string ⟨#[45]⟩] w fun e w' => e = .returned (.bool (decide (s.head? = some 45))) ∧ w' = w := by
  have hh := Any.strings_HasPrefix { prefL with } ⟨s.toArray⟩ ⟨#[45]⟩ w
  change Calls Tryz.prog 62 _ _ _ at hh
  refine hh.mono ?_
  rintro e w' ⟨rfl, rfl⟩
  refine ⟨?_, rfl⟩
  show Ending.returned (.bool (Lib.hasPrefix s [45])) = _
  rw [pre_minus]
theorem parse_m (M : Nat) : ∀ (l : List UInt8) (acc : Nat), (∀ c ∈ l, Pl.Dg c) → acc * 10 ^ l.length + Pl.natOf l ≤ M → M < 1844674407370955162 → Lib.parseUintM M acc l = .ok (acc * 10 ^ l.length + Pl.natOf l)
  | [], acc, _, _, _ => by simp [Lib.parseUintM, Pl.natOf]
  | c :: r, acc, hd, hM, hb => by
    have hc := hd c (by simp)
    have hr := fun x hx => hd x (List.mem_cons_of_mem c hx)
    unfold Pl.Dg at hc
    have e1 : Pl.natOf (c :: r) = (c.toNat - 48) * 10 ^ r.length + Pl.natOf r := by
      have := Pl.natOf_append [c] r
      rw [List.singleton_append] at this
      rw [this]
      congr 1
      show (10 * 0 + (c.toNat - 48)) * _ = _
      rw [Nat.mul_zero, Nat.zero_add]
    have e2 : acc * 10 ^ (c :: r).length + Pl.natOf (c :: r) = (acc * 10 + (c.toNat - 48)) * 10 ^ r.length + Pl.natOf r := by
      rw [e1, List.length_cons, Nat.pow_succ, Nat.add_mul, Nat.mul_comm (10 ^ r.length) 10, ← Nat.mul_assoc]
      omega
    rw [e2] at hM ⊢
    have hp : 1 ≤ 10 ^ r.length := Nat.pow_pos (by omega)
    have h1 : acc * 10 + (c.toNat - 48) ≤ (acc * 10 + (c.toNat - 48)) * 10 ^ r.length := Nat.le_mul_of_pos_right _ hp
    rw [Lib.parseUintM, if_pos hc, if_neg (by omega), if_neg (by omega)]
    exact parse_m M r _ hr hM hb
theorem puint_any (l : List UInt8) (hl : l ≠ []) (hd : ∀ c ∈ l, Pl.Dg c) (h9 : l.length ≤ 9) (w : World) :
    Calls Tryz.prog 63 #[tx l, .int .i64 10, .int .i64 32] w fun e w' => e = .returned (.tuple #[.int .u64 (Pl.natOf l : Int), .nilIface]) ∧ Below w.heap.size w w' := by
  have hlt := Pl.natOf_lt hd
  have h10 : 10 ^ l.length ≤ 10 ^ 9 := Nat.pow_le_pow_right (by omega) h9
  have hok : Lib.parseUintB 32 (⟨l.toArray⟩ : ByteArray).data.toList = .ok (Pl.natOf l) := by
    show Lib.parseUintB 32 l = _
    unfold Lib.parseUintB
    rw [if_neg hl]
    have := parse_m (2 ^ 32 - 1) l 0 hd (by rw [Nat.zero_mul, Nat.zero_add]; omega) (by omega)
    rw [Nat.zero_mul, Nat.zero_add] at this
    exact this
  have hh := Any.strconv_ParseUint_10_at32_ok { puL with } ⟨l.toArray⟩ (by rw [tx_size]; omega) (Pl.natOf l) hok w
  change Calls Tryz.prog 63 _ _ _ at hh
  refine hh.mono ?_
  rintro e w' ⟨rfl, rfl | rfl⟩
  · exact ⟨rfl, Below.refl _ _⟩
  · exact ⟨rfl, Lib.bytesWorld_below _ _ _⟩
/-- texts put together -/
theorem tx_add (a b : List UInt8) (h : a.length + b.length ≤ 140737488355328) (W : World) : (Op.stringOp .add ⟨a.toArray⟩ ⟨b.toArray⟩).run Tryz.prog W = .ok (.string ⟨(a ++ b).toArray⟩) W := by
  rw [run_string_add_sum _ _ _ (by rw [tx_size, tx_size]; omega), tx_app]
theorem cells_app (a b : List UInt8) : Lib.byteCells a ++ Lib.strCells ⟨b.toArray⟩ = Lib.byteCells (a ++ b) := by
  unfold Lib.byteCells Lib.strCells
  simp
/-- a builder in its box that holds a text -/
def BldIs (w : World) (B b : Nat) (l : List UInt8) : Prop := Lib.IsBuilder 117 5 B b (Lib.byteCells l) w
theorem bld_write {w : World} {B b : Nat} {l : List UInt8} (s : List UInt8) (h : BldIs w B b l) (hlen : l.length + s.length ≤ 140737488355328) (hB : B ≤ w.heap.size) :
    Calls Tryz.prog 76 #[.pointer (some ⟨b, 0, none⟩), tx s] w fun e w' => e = .returned (.tuple #[.int .i64 (s.length : Int), .nilIface]) ∧ BldIs w' B b (l ++ s) ∧ Below B w w' := by
  have hh := Any.Builder_WriteString { bwL with } bwX B b (Lib.byteCells l) ⟨s.toArray⟩ w h (by rw [Lib.byteCells_length, tx_size]; exact hlen) hB
  change Calls Tryz.prog 76 _ _ _ at hh
  refine hh.mono ?_
  rintro e w' ⟨rfl, hb, hbl⟩
  rw [cells_app] at hb
  exact ⟨by rw [tx_size], .inr hb, hbl⟩
theorem bld_text {w : World} {B b : Nat} {l : List UInt8} (h : BldIs w B b l) (hB : B ≤ w.heap.size) :
    Calls Tryz.prog 77 #[.pointer (some ⟨b, 0, none⟩)] w fun e w' => e = .returned (tx l) ∧ Below B w w' := by
  have hh := Any.Builder_String_any { bsL with } bsX B b l w h hB
  change Calls Tryz.prog 77 _ _ _ at hh
  exact hh
theorem BldIs.new_ (w : World) (B : Nat) (hB : B = w.heap.size) : BldIs (w.alloc (.cells #[.pointer none, .slice none 0 0] 117)) B B [] := by
  subst hB
  refine .inl ⟨Nat.le_refl _, .slice none 0 0, heap_alloc_new w _, World.ownsRow_nil _ _ _ _, by simp [Value.ownBlock]⟩
theorem BldIs.go {w w' : World} {B b : Nat} {l : List UInt8} (h : BldIs w B b l) (hb : Below w.heap.size w w') : BldIs w' B b l := by
  have key : ∀ p, Lib.BuilderAt 117 5 B b p (Lib.byteCells l) w → Lib.BuilderAt 117 5 B b p (Lib.byteCells l) w' := fun p h => by
    have hlt := h.lt
    obtain ⟨h1, v, h2, h3, h4⟩ := h
    exact ⟨h1, v, (hb.block b hlt).trans h2, own_go h3 hb, h4⟩
  exact h.elim (fun h => .inl (key _ h)) (fun h => .inr (key _ h))
end Go.Proofs.YtgdbodnfibiafaaGreatDoor
