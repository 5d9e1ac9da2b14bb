/- Parts: TxL, Same, TxW, RecS, GrC, TieP. -/
import Derived.Test.YtflidfmpmakggaaGreatDoorMg02
import Derived.Shelf.Strings.OnBuilder
import Derived.Shelf.Strings.BuilderF
import Derived.Shelf.Strings.BuilderK
import Derived.Shelf.Strings.MapGrows
import Derived.Shelf.Strings.Replace
import Derived.Lib.SmallJoins
import Derived.Shelf.Strings.Prefix
import Derived.Shelf.Strconv.Itoa3
import Derived.Lib.AppendIntMem
import Derived.Shelf.Strconv.ErrVarAll
import Derived.Test.YtflidfmpmakggaaGreatDoorMg06
import Derived.Test.YtflidfmpmakggaaGreatDoorMg03
import Derived.Test.YtflidfmpmakggaaGreatDoorMg04
/- Contracts of the shelf on texts, laid: strings.Join, strings.Builder, strconv.Itoa. -/
namespace Go.Proofs.YtflidfmpmakggaaGreatDoor
open Go Go.Shelf Go.RowKit

-- written by shelflay.py for the seat YtflidfmpmakggaaGreatDoor
def joinLay_ren : Go.Shelf.Ren := ⟨fun | 156 => 67 | 165 => 116 | 166 => 48 | 169 => 50 | 240 => 100 | 241 => 170 | 276 => 151 | 277 => 216 | n => n, fun | 31 => 58 | 9 => 9 | 3 => 3 | 4 => 4 | 0 => 0 | 20 => 20 | 72 => 110 | 76 => 112 | 70 => 107 | 37 => 108 | 75 => 29 | 127 => 187 | 164 => 228 | 5 => 5 | 80 => 114 | n => n, fun | n => n⟩
theorem joinLay : Go.Proofs.Lays.n156 Tryz.prog joinLay_ren := {
  mixed := by kernel_rfl,
  f156 := Tryz.func67.trans (congrArg some (by kernel_rfl)),
  f165 := Tryz.func116.trans (congrArg some (by kernel_rfl)),
  f166 := Tryz.func48.trans (congrArg some (by kernel_rfl)),
  f169 := Tryz.func50.trans (congrArg some (by kernel_rfl)),
  f240 := Tryz.func100.trans (congrArg some (by kernel_rfl)),
  f241 := Tryz.func170.trans (congrArg some (by kernel_rfl)),
  f276 := Tryz.func151.trans (congrArg some (by kernel_rfl)),
  f277 := Tryz.func216.trans (congrArg some (by kernel_rfl)),
  t0 := Tryz.underlying0,
  a0 := Tryz.isAgg0,
  z0 := Tryz.sizeOf0,
  v0 := Tryz.zeroValue0,
  t3 := Tryz.underlying3,
  a3 := Tryz.isAgg3,
  z3 := Tryz.sizeOf3,
  v3 := Tryz.zeroValue3,
  t4 := Tryz.underlying4,
  a4 := Tryz.isAgg4,
  z4 := Tryz.sizeOf4,
  v4 := Tryz.zeroValue4,
  t9 := Tryz.underlying9,
  a9 := Tryz.isAgg9,
  z9 := Tryz.sizeOf9,
  v9 := Tryz.zeroValue9,
  t20 := Tryz.underlying20,
  a20 := Tryz.isAgg20,
  z20 := Tryz.sizeOf20,
  v20 := Tryz.zeroValue20,
  t31 := Tryz.underlying58,
  a31 := Tryz.isAgg58,
  z31 := Tryz.sizeOf58,
  v31 := Tryz.zeroValue58,
  t37 := Tryz.underlying108,
  a37 := Tryz.isAgg108,
  z37 := Tryz.sizeOf108,
  v37 := Tryz.zeroValue108,
  t70 := Tryz.underlying107,
  a70 := Tryz.isAgg107,
  z70 := Tryz.sizeOf107,
  v70 := Tryz.zeroValue107,
  t72 := Tryz.underlying110,
  a72 := Tryz.isAgg110,
  z72 := Tryz.sizeOf110,
  v72 := Tryz.zeroValue110,
  t75 := Tryz.underlying29,
  a75 := Tryz.isAgg29,
  z75 := Tryz.sizeOf29,
  v75 := Tryz.zeroValue29,
  t76 := Tryz.underlying112,
  a76 := Tryz.isAgg112,
  z76 := Tryz.sizeOf112,
  v76 := Tryz.zeroValue112,
  t127 := Tryz.underlying187,
  a127 := Tryz.isAgg187,
  z127 := Tryz.sizeOf187,
  v127 := Tryz.zeroValue187,
  t164 := Tryz.underlying228,
  a164 := Tryz.isAgg228,
  z164 := Tryz.sizeOf228,
  v164 := Tryz.zeroValue228 }
theorem joinLay_x : Builder.Extra Tryz.prog joinLay_ren := {
  sizeBuilder := by kernel_rfl,
  liesBuilder := by kernel_rfl,
  t5 := Tryz.underlying5,
  a5 := Tryz.isAgg5,
  z5 := Tryz.sizeOf5,
  v5 := Tryz.zeroValue5,
  infoByte := by kernel_rfl,
  cellsByte := by kernel_rfl,
  sizeByte := by kernel_rfl,
  neB5 := by decide }
-- written by shelflay.py for the seat YtflidfmpmakggaaGreatDoor
def bwrLay_ren : Go.Shelf.Ren := ⟨fun | 166 => 48 | 240 => 100 | 276 => 151 | n => n, fun | 70 => 107 | 9 => 9 | 3 => 3 | 75 => 29 | 0 => 0 | 72 => 110 | 37 => 108 | 4 => 4 | 164 => 228 | 80 => 114 | 5 => 5 | 20 => 20 | n => n, fun | n => n⟩
theorem bwrLay : Go.Proofs.Lays.n166 Tryz.prog bwrLay_ren := {
  mixed := by kernel_rfl,
  f166 := Tryz.func48.trans (congrArg some (by kernel_rfl)),
  f240 := Tryz.func100.trans (congrArg some (by kernel_rfl)),
  f276 := Tryz.func151.trans (congrArg some (by kernel_rfl)),
  t0 := Tryz.underlying0,
  a0 := Tryz.isAgg0,
  z0 := Tryz.sizeOf0,
  v0 := Tryz.zeroValue0,
  t3 := Tryz.underlying3,
  a3 := Tryz.isAgg3,
  z3 := Tryz.sizeOf3,
  v3 := Tryz.zeroValue3,
  t4 := Tryz.underlying4,
  a4 := Tryz.isAgg4,
  z4 := Tryz.sizeOf4,
  v4 := Tryz.zeroValue4,
  t9 := Tryz.underlying9,
  a9 := Tryz.isAgg9,
  z9 := Tryz.sizeOf9,
  v9 := Tryz.zeroValue9,
  t20 := Tryz.underlying20,
  a20 := Tryz.isAgg20,
  z20 := Tryz.sizeOf20,
  v20 := Tryz.zeroValue20,
  t37 := Tryz.underlying108,
  a37 := Tryz.isAgg108,
  z37 := Tryz.sizeOf108,
  v37 := Tryz.zeroValue108,
  t70 := Tryz.underlying107,
  a70 := Tryz.isAgg107,
  z70 := Tryz.sizeOf107,
  v70 := Tryz.zeroValue107,
  t72 := Tryz.underlying110,
  a72 := Tryz.isAgg110,
  z72 := Tryz.sizeOf110,
  v72 := Tryz.zeroValue110,
  t75 := Tryz.underlying29,
  a75 := Tryz.isAgg29,
  z75 := Tryz.sizeOf29,
  v75 := Tryz.zeroValue29,
  t164 := Tryz.underlying228,
  a164 := Tryz.isAgg228,
  z164 := Tryz.sizeOf228,
  v164 := Tryz.zeroValue228 }
theorem bwrLay_x : Builder.Extra Tryz.prog bwrLay_ren := {
  sizeBuilder := by kernel_rfl,
  liesBuilder := by kernel_rfl,
  t5 := Tryz.underlying5,
  a5 := Tryz.isAgg5,
  z5 := Tryz.sizeOf5,
  v5 := Tryz.zeroValue5,
  infoByte := by kernel_rfl,
  cellsByte := by kernel_rfl,
  sizeByte := by kernel_rfl,
  neB5 := by decide }
-- written by shelflay.py for the seat YtflidfmpmakggaaGreatDoor
def bstrLay_ren : Go.Shelf.Ren := ⟨fun | 169 => 50 | n => n, fun | 70 => 107 | 9 => 9 | 0 => 0 | 72 => 110 | 37 => 108 | 127 => 187 | 3 => 3 | 5 => 5 | 20 => 20 | n => n, fun | n => n⟩
theorem bstrLay : Go.Proofs.Lays.n169 Tryz.prog bstrLay_ren := {
  mixed := by kernel_rfl,
  f169 := Tryz.func50.trans (congrArg some (by kernel_rfl)),
  t0 := Tryz.underlying0,
  a0 := Tryz.isAgg0,
  z0 := Tryz.sizeOf0,
  v0 := Tryz.zeroValue0,
  t3 := Tryz.underlying3,
  a3 := Tryz.isAgg3,
  z3 := Tryz.sizeOf3,
  v3 := Tryz.zeroValue3,
  t9 := Tryz.underlying9,
  a9 := Tryz.isAgg9,
  z9 := Tryz.sizeOf9,
  v9 := Tryz.zeroValue9,
  t37 := Tryz.underlying108,
  a37 := Tryz.isAgg108,
  z37 := Tryz.sizeOf108,
  v37 := Tryz.zeroValue108,
  t70 := Tryz.underlying107,
  a70 := Tryz.isAgg107,
  z70 := Tryz.sizeOf107,
  v70 := Tryz.zeroValue107,
  t72 := Tryz.underlying110,
  a72 := Tryz.isAgg110,
  z72 := Tryz.sizeOf110,
  v72 := Tryz.zeroValue110,
  t127 := Tryz.underlying187,
  a127 := Tryz.isAgg187,
  z127 := Tryz.sizeOf187,
  v127 := Tryz.zeroValue187 }
theorem bstrLay_x : Builder.Extra Tryz.prog bstrLay_ren := {
  sizeBuilder := by kernel_rfl,
  liesBuilder := by kernel_rfl,
  t5 := Tryz.underlying5,
  a5 := Tryz.isAgg5,
  z5 := Tryz.sizeOf5,
  v5 := Tryz.zeroValue5,
  infoByte := by kernel_rfl,
  cellsByte := by kernel_rfl,
  sizeByte := by kernel_rfl,
  neB5 := by decide }
-- written by shelflay.py for the seat YtflidfmpmakggaaGreatDoor
def itoaSLay_ren : Go.Shelf.Ren := ⟨fun | 171 => 49 | 243 => 101 | 246 => 152 | 283 => 195 | 284 => 196 | 285 => 197 | 286 => 198 | 129 => 225 | 317 => 224 | 318 => 226 | 319 => 227 | 320 => 228 | 337 => 244 | 338 => 245 | n => n, fun | 3 => 3 | 9 => 9 | 2 => 2 | 4 => 4 | 171 => 272 | 0 => 0 | 53 => 273 | 37 => 108 | 5 => 5 | 173 => 276 | 212 => 305 | 51 => 306 | 20 => 20 | 213 => 307 | 46 => 293 | 232 => 335 | 233 => 336 | n => n, fun | 17 => 4 | 18 => 9 | 19 => 10 | n => n⟩
-- written by shelflay.py for the seat YtflidfmpmakggaaGreatDoor
def itoaLay_ren : Go.Shelf.Ren := ⟨fun | 171 => 49 | 243 => 101 | 246 => 152 | 283 => 195 | 284 => 196 | 285 => 197 | 286 => 198 | 129 => 225 | 317 => 224 | 318 => 226 | 319 => 227 | 320 => 228 | 337 => 244 | 338 => 245 | n => n, fun | 3 => 3 | 9 => 9 | 2 => 2 | 4 => 4 | 171 => 272 | 0 => 0 | 53 => 273 | 37 => 108 | 5 => 5 | 173 => 276 | 212 => 305 | 51 => 306 | 20 => 20 | 213 => 307 | 46 => 293 | 232 => 335 | 233 => 336 | n => n, fun | 17 => 4 | 18 => 9 | 19 => 10 | n => n⟩
theorem itoaLay : Go.Proofs.LaysM.n171 Tryz.prog itoaLay_ren := {
  mixed := by kernel_rfl,
  f129 := Tryz.func225.trans (congrArg some (by kernel_rfl)),
  f171 := Tryz.func49.trans (congrArg some (by kernel_rfl)),
  f243 := Tryz.func101.trans (congrArg some (by kernel_rfl)),
  f246 := Tryz.func152.trans (congrArg some (by kernel_rfl)),
  f283 := Tryz.func195.trans (congrArg some (by kernel_rfl)),
  f284 := Tryz.func196.trans (congrArg some (by kernel_rfl)),
  f285 := Tryz.func197.trans (congrArg some (by kernel_rfl)),
  f286 := Tryz.func198.trans (congrArg some (by kernel_rfl)),
  f317 := Tryz.func224.trans (congrArg some (by kernel_rfl)),
  f318 := Tryz.func226.trans (congrArg some (by kernel_rfl)),
  f319 := Tryz.func227.trans (congrArg some (by kernel_rfl)),
  f320 := Tryz.func228.trans (congrArg some (by kernel_rfl)),
  f337 := Tryz.func244.trans (congrArg some (by kernel_rfl)),
  f338 := Tryz.func245.trans (congrArg some (by kernel_rfl)),
  t0 := Tryz.underlying0,
  a0 := Tryz.isAgg0,
  z0 := Tryz.sizeOf0,
  v0 := Tryz.zeroValue0,
  t2 := Tryz.underlying2,
  a2 := Tryz.isAgg2,
  z2 := Tryz.sizeOf2,
  v2 := Tryz.zeroValue2,
  t3 := Tryz.underlying3,
  a3 := Tryz.isAgg3,
  z3 := Tryz.sizeOf3,
  v3 := Tryz.zeroValue3,
  t4 := Tryz.underlying4,
  a4 := Tryz.isAgg4,
  z4 := Tryz.sizeOf4,
  v4 := Tryz.zeroValue4,
  t5 := Tryz.underlying5,
  a5 := Tryz.isAgg5,
  z5 := Tryz.sizeOf5,
  v5 := Tryz.zeroValue5,
  t9 := Tryz.underlying9,
  a9 := Tryz.isAgg9,
  z9 := Tryz.sizeOf9,
  v9 := Tryz.zeroValue9,
  t20 := Tryz.underlying20,
  a20 := Tryz.isAgg20,
  z20 := Tryz.sizeOf20,
  v20 := Tryz.zeroValue20,
  t37 := Tryz.underlying108,
  a37 := Tryz.isAgg108,
  z37 := Tryz.sizeOf108,
  v37 := Tryz.zeroValue108,
  t46 := Tryz.underlying293,
  a46 := Tryz.isAgg293,
  z46 := Tryz.sizeOf293,
  v46 := Tryz.zeroValue293,
  t51 := Tryz.underlying306,
  a51 := Tryz.isAgg306,
  z51 := Tryz.sizeOf306,
  v51 := Tryz.zeroValue306,
  t53 := Tryz.underlying273,
  a53 := Tryz.isAgg273,
  z53 := Tryz.sizeOf273,
  v53 := Tryz.zeroValue273,
  t171 := Tryz.underlying272,
  a171 := Tryz.isAgg272,
  z171 := Tryz.sizeOf272,
  v171 := Tryz.zeroValue272,
  t173 := Tryz.underlying276,
  a173 := Tryz.isAgg276,
  z173 := Tryz.sizeOf276,
  v173 := Tryz.zeroValue276,
  t212 := Tryz.underlying305,
  a212 := Tryz.isAgg305,
  z212 := Tryz.sizeOf305,
  v212 := Tryz.zeroValue305,
  t213 := Tryz.underlying307,
  a213 := Tryz.isAgg307,
  z213 := Tryz.sizeOf307,
  t232 := Tryz.underlying335,
  a232 := Tryz.isAgg335,
  z232 := Tryz.sizeOf335,
  v232 := Tryz.zeroValue335,
  t233 := Tryz.underlying336,
  a233 := Tryz.isAgg336,
  z233 := Tryz.sizeOf336,
  v233 := Tryz.zeroValue336,
  g17 := by kernel_rfl,
  g18 := by kernel_rfl,
  g19 := by kernel_rfl,
  i0 := by kernel_rfl,
  i2 := by kernel_rfl,
  i3 := by kernel_rfl,
  i4 := by kernel_rfl,
  i5 := by kernel_rfl,
  i9 := by kernel_rfl,
  i20 := by kernel_rfl,
  i37 := by kernel_rfl,
  i46 := by kernel_rfl,
  i51 := by kernel_rfl,
  i53 := by kernel_rfl,
  i171 := by kernel_rfl,
  i173 := by kernel_rfl,
  i212 := by kernel_rfl,
  i232 := by kernel_rfl,
  i233 := by kernel_rfl,
  m17 := by kernel_rfl,
  m18 := by kernel_rfl,
  m19 := by kernel_rfl }
-- written by shelflay.py for the seat YtflidfmpmakggaaGreatDoor
def replLay_ren : Go.Shelf.Ren := ⟨fun | 155 => 150 | 154 => 194 | 138 => 172 | 165 => 116 | 143 => 173 | 166 => 48 | 197 => 218 | 169 => 50 | 195 => 217 | 218 => 219 | 240 => 100 | 241 => 170 | 219 => 159 | 260 => 239 | 276 => 151 | 277 => 216 | 217 => 157 | 225 => 203 | 224 => 204 | 267 => 205 | 266 => 202 | 314 => 229 | n => n, fun | 9 => 9 | 3 => 3 | 4 => 4 | 72 => 110 | 0 => 0 | 76 => 112 | 105 => 301 | 21 => 21 | 5 => 5 | 70 => 107 | 20 => 20 | 37 => 108 | 75 => 29 | 127 => 187 | 164 => 228 | 46 => 293 | 119 => 329 | 139 => 332 | 138 => 331 | 146 => 309 | 51 => 306 | 80 => 114 | n => n, fun | 1 => 3 | 3 => 7 | 4 => 8 | n => n⟩
theorem replLay : Go.Proofs.Lays.n155 Tryz.prog replLay_ren := {
  mixed := by kernel_rfl,
  f138 := Tryz.func172.trans (congrArg some (by kernel_rfl)),
  f143 := Tryz.func173.trans (congrArg some (by kernel_rfl)),
  f154 := Tryz.func194.trans (congrArg some (by kernel_rfl)),
  f155 := Tryz.func150.trans (congrArg some (by kernel_rfl)),
  f165 := Tryz.func116.trans (congrArg some (by kernel_rfl)),
  f166 := Tryz.func48.trans (congrArg some (by kernel_rfl)),
  f169 := Tryz.func50.trans (congrArg some (by kernel_rfl)),
  f195 := Tryz.func217.trans (congrArg some (by kernel_rfl)),
  f197 := Tryz.func218.trans (congrArg some (by kernel_rfl)),
  f217 := Tryz.func157.trans (congrArg some (by kernel_rfl)),
  f218 := Tryz.func219.trans (congrArg some (by kernel_rfl)),
  f219 := Tryz.func159.trans (congrArg some (by kernel_rfl)),
  f224 := Tryz.func204.trans (congrArg some (by kernel_rfl)),
  f225 := Tryz.func203.trans (congrArg some (by kernel_rfl)),
  f240 := Tryz.func100.trans (congrArg some (by kernel_rfl)),
  f241 := Tryz.func170.trans (congrArg some (by kernel_rfl)),
  f260 := Tryz.func239.trans (congrArg some (by kernel_rfl)),
  f266 := Tryz.func202.trans (congrArg some (by kernel_rfl)),
  f267 := Tryz.func205.trans (congrArg some (by kernel_rfl)),
  f276 := Tryz.func151.trans (congrArg some (by kernel_rfl)),
  f277 := Tryz.func216.trans (congrArg some (by kernel_rfl)),
  f314 := Tryz.func229.trans (congrArg some (by kernel_rfl)),
  t0 := Tryz.underlying0,
  a0 := Tryz.isAgg0,
  z0 := Tryz.sizeOf0,
  v0 := Tryz.zeroValue0,
  t3 := Tryz.underlying3,
  a3 := Tryz.isAgg3,
  z3 := Tryz.sizeOf3,
  v3 := Tryz.zeroValue3,
  t4 := Tryz.underlying4,
  a4 := Tryz.isAgg4,
  z4 := Tryz.sizeOf4,
  v4 := Tryz.zeroValue4,
  t5 := Tryz.underlying5,
  a5 := Tryz.isAgg5,
  z5 := Tryz.sizeOf5,
  v5 := Tryz.zeroValue5,
  t9 := Tryz.underlying9,
  a9 := Tryz.isAgg9,
  z9 := Tryz.sizeOf9,
  v9 := Tryz.zeroValue9,
  t20 := Tryz.underlying20,
  a20 := Tryz.isAgg20,
  z20 := Tryz.sizeOf20,
  v20 := Tryz.zeroValue20,
  t21 := Tryz.underlying21,
  a21 := Tryz.isAgg21,
  z21 := Tryz.sizeOf21,
  v21 := Tryz.zeroValue21,
  t37 := Tryz.underlying108,
  a37 := Tryz.isAgg108,
  z37 := Tryz.sizeOf108,
  v37 := Tryz.zeroValue108,
  t46 := Tryz.underlying293,
  a46 := Tryz.isAgg293,
  z46 := Tryz.sizeOf293,
  v46 := Tryz.zeroValue293,
  t51 := Tryz.underlying306,
  a51 := Tryz.isAgg306,
  z51 := Tryz.sizeOf306,
  v51 := Tryz.zeroValue306,
  t70 := Tryz.underlying107,
  a70 := Tryz.isAgg107,
  z70 := Tryz.sizeOf107,
  v70 := Tryz.zeroValue107,
  t72 := Tryz.underlying110,
  a72 := Tryz.isAgg110,
  z72 := Tryz.sizeOf110,
  v72 := Tryz.zeroValue110,
  t75 := Tryz.underlying29,
  a75 := Tryz.isAgg29,
  z75 := Tryz.sizeOf29,
  v75 := Tryz.zeroValue29,
  t76 := Tryz.underlying112,
  a76 := Tryz.isAgg112,
  z76 := Tryz.sizeOf112,
  v76 := Tryz.zeroValue112,
  t105 := Tryz.underlying301,
  a105 := Tryz.isAgg301,
  z105 := Tryz.sizeOf301,
  v105 := Tryz.zeroValue301,
  t119 := Tryz.underlying329,
  a119 := Tryz.isAgg329,
  z119 := Tryz.sizeOf329,
  t127 := Tryz.underlying187,
  a127 := Tryz.isAgg187,
  z127 := Tryz.sizeOf187,
  v127 := Tryz.zeroValue187,
  t138 := Tryz.underlying331,
  a138 := Tryz.isAgg331,
  z138 := Tryz.sizeOf331,
  v138 := Tryz.zeroValue331,
  t139 := Tryz.underlying332,
  a139 := Tryz.isAgg332,
  z139 := Tryz.sizeOf332,
  v139 := Tryz.zeroValue332,
  t146 := Tryz.underlying309,
  a146 := Tryz.isAgg309,
  z146 := Tryz.sizeOf309,
  v146 := Tryz.zeroValue309,
  t164 := Tryz.underlying228,
  a164 := Tryz.isAgg228,
  z164 := Tryz.sizeOf228,
  v164 := Tryz.zeroValue228,
  g1 := by kernel_rfl,
  g3 := by kernel_rfl,
  g4 := by kernel_rfl }
theorem replLay_x : Builder.Extra Tryz.prog replLay_ren := {
  sizeBuilder := by kernel_rfl,
  liesBuilder := by kernel_rfl,
  t5 := Tryz.underlying5,
  a5 := Tryz.isAgg5,
  z5 := Tryz.sizeOf5,
  v5 := Tryz.zeroValue5,
  infoByte := by kernel_rfl,
  cellsByte := by kernel_rfl,
  sizeByte := by kernel_rfl,
  neB5 := by decide }
-- written by shelflay.py for the seat YtflidfmpmakggaaGreatDoor
def atoiLay_ren : Go.Shelf.Ren := ⟨fun | 172 => 160 | 244 => 206 | 245 => 207 | 247 => 230 | 279 => 231 | 280 => 232 | 281 => 233 | 282 => 234 | 287 => 246 | 316 => 247 | 171 => 49 | 205 => 248 | 321 => 251 | 322 => 252 | 243 => 101 | 246 => 152 | 283 => 195 | 284 => 196 | 285 => 197 | 286 => 198 | 129 => 225 | 317 => 224 | 318 => 226 | 319 => 227 | 320 => 228 | 337 => 244 | 338 => 245 | n => n, fun | 9 => 9 | 3 => 3 | 75 => 29 | 76 => 112 | 4 => 4 | 5 => 5 | 167 => 311 | 37 => 108 | 0 => 0 | 85 => 312 | 2 => 2 | 168 => 314 | 53 => 273 | 175 => 324 | 46 => 293 | 210 => 328 | 127 => 187 | 145 => 340 | 143 => 338 | 21 => 21 | 171 => 272 | 173 => 276 | 212 => 305 | 51 => 306 | 20 => 20 | 213 => 307 | 232 => 335 | 233 => 336 | 80 => 114 | n => n, fun | 15 => 5 | 16 => 6 | 17 => 4 | 18 => 9 | 19 => 10 | n => n⟩
theorem atoiLay : Go.Proofs.LaysC.n172 Tryz.prog atoiLay_ren := {
  mixed := by kernel_rfl,
  f129 := Tryz.func225.trans (congrArg some (by kernel_rfl)),
  f171 := Tryz.func49.trans (congrArg some (by kernel_rfl)),
  f172 := Tryz.func160.trans (congrArg some (by kernel_rfl)),
  f205 := Tryz.func248.trans (congrArg some (by kernel_rfl)),
  f243 := Tryz.func101.trans (congrArg some (by kernel_rfl)),
  f244 := Tryz.func206.trans (congrArg some (by kernel_rfl)),
  f245 := Tryz.func207.trans (congrArg some (by kernel_rfl)),
  f246 := Tryz.func152.trans (congrArg some (by kernel_rfl)),
  f247 := Tryz.func230.trans (congrArg some (by kernel_rfl)),
  f279 := Tryz.func231.trans (congrArg some (by kernel_rfl)),
  f280 := Tryz.func232.trans (congrArg some (by kernel_rfl)),
  f281 := Tryz.func233.trans (congrArg some (by kernel_rfl)),
  f282 := Tryz.func234.trans (congrArg some (by kernel_rfl)),
  f283 := Tryz.func195.trans (congrArg some (by kernel_rfl)),
  f284 := Tryz.func196.trans (congrArg some (by kernel_rfl)),
  f285 := Tryz.func197.trans (congrArg some (by kernel_rfl)),
  f286 := Tryz.func198.trans (congrArg some (by kernel_rfl)),
  f287 := Tryz.func246.trans (congrArg some (by kernel_rfl)),
  f316 := Tryz.func247.trans (congrArg some (by kernel_rfl)),
  f317 := Tryz.func224.trans (congrArg some (by kernel_rfl)),
  f318 := Tryz.func226.trans (congrArg some (by kernel_rfl)),
  f319 := Tryz.func227.trans (congrArg some (by kernel_rfl)),
  f320 := Tryz.func228.trans (congrArg some (by kernel_rfl)),
  f321 := Tryz.func251.trans (congrArg some (by kernel_rfl)),
  f322 := Tryz.func252.trans (congrArg some (by kernel_rfl)),
  f337 := Tryz.func244.trans (congrArg some (by kernel_rfl)),
  f338 := Tryz.func245.trans (congrArg some (by kernel_rfl)),
  t0 := Tryz.underlying0,
  a0 := Tryz.isAgg0,
  z0 := Tryz.sizeOf0,
  v0 := Tryz.zeroValue0,
  t2 := Tryz.underlying2,
  a2 := Tryz.isAgg2,
  z2 := Tryz.sizeOf2,
  v2 := Tryz.zeroValue2,
  t3 := Tryz.underlying3,
  a3 := Tryz.isAgg3,
  z3 := Tryz.sizeOf3,
  v3 := Tryz.zeroValue3,
  t4 := Tryz.underlying4,
  a4 := Tryz.isAgg4,
  z4 := Tryz.sizeOf4,
  v4 := Tryz.zeroValue4,
  t5 := Tryz.underlying5,
  a5 := Tryz.isAgg5,
  z5 := Tryz.sizeOf5,
  v5 := Tryz.zeroValue5,
  t9 := Tryz.underlying9,
  a9 := Tryz.isAgg9,
  z9 := Tryz.sizeOf9,
  v9 := Tryz.zeroValue9,
  t20 := Tryz.underlying20,
  a20 := Tryz.isAgg20,
  z20 := Tryz.sizeOf20,
  v20 := Tryz.zeroValue20,
  t21 := Tryz.underlying21,
  a21 := Tryz.isAgg21,
  z21 := Tryz.sizeOf21,
  v21 := Tryz.zeroValue21,
  t37 := Tryz.underlying108,
  a37 := Tryz.isAgg108,
  z37 := Tryz.sizeOf108,
  v37 := Tryz.zeroValue108,
  t46 := Tryz.underlying293,
  a46 := Tryz.isAgg293,
  z46 := Tryz.sizeOf293,
  v46 := Tryz.zeroValue293,
  t51 := Tryz.underlying306,
  a51 := Tryz.isAgg306,
  z51 := Tryz.sizeOf306,
  v51 := Tryz.zeroValue306,
  t53 := Tryz.underlying273,
  a53 := Tryz.isAgg273,
  z53 := Tryz.sizeOf273,
  v53 := Tryz.zeroValue273,
  t75 := Tryz.underlying29,
  a75 := Tryz.isAgg29,
  z75 := Tryz.sizeOf29,
  v75 := Tryz.zeroValue29,
  t76 := Tryz.underlying112,
  a76 := Tryz.isAgg112,
  z76 := Tryz.sizeOf112,
  v76 := Tryz.zeroValue112,
  t85 := Tryz.underlying312,
  a85 := Tryz.isAgg312,
  z85 := Tryz.sizeOf312,
  v85 := Tryz.zeroValue312,
  t127 := Tryz.underlying187,
  a127 := Tryz.isAgg187,
  z127 := Tryz.sizeOf187,
  v127 := Tryz.zeroValue187,
  t143 := Tryz.underlying338,
  a143 := Tryz.isAgg338,
  z143 := Tryz.sizeOf338,
  v143 := Tryz.zeroValue338,
  t145 := Tryz.underlying340,
  a145 := Tryz.isAgg340,
  z145 := Tryz.sizeOf340,
  v145 := Tryz.zeroValue340,
  t167 := Tryz.underlying311,
  a167 := Tryz.isAgg311,
  z167 := Tryz.sizeOf311,
  v167 := Tryz.zeroValue311,
  t168 := Tryz.underlying314,
  a168 := Tryz.isAgg314,
  z168 := Tryz.sizeOf314,
  v168 := Tryz.zeroValue314,
  t171 := Tryz.underlying272,
  a171 := Tryz.isAgg272,
  z171 := Tryz.sizeOf272,
  v171 := Tryz.zeroValue272,
  t173 := Tryz.underlying276,
  a173 := Tryz.isAgg276,
  z173 := Tryz.sizeOf276,
  v173 := Tryz.zeroValue276,
  t175 := Tryz.underlying324,
  a175 := Tryz.isAgg324,
  z175 := Tryz.sizeOf324,
  v175 := Tryz.zeroValue324,
  t210 := Tryz.underlying328,
  a210 := Tryz.isAgg328,
  z210 := Tryz.sizeOf328,
  v210 := Tryz.zeroValue328,
  t212 := Tryz.underlying305,
  a212 := Tryz.isAgg305,
  z212 := Tryz.sizeOf305,
  v212 := Tryz.zeroValue305,
  t213 := Tryz.underlying307,
  a213 := Tryz.isAgg307,
  z213 := Tryz.sizeOf307,
  t232 := Tryz.underlying335,
  a232 := Tryz.isAgg335,
  z232 := Tryz.sizeOf335,
  v232 := Tryz.zeroValue335,
  t233 := Tryz.underlying336,
  a233 := Tryz.isAgg336,
  z233 := Tryz.sizeOf336,
  v233 := Tryz.zeroValue336,
  g15 := by kernel_rfl,
  g16 := by kernel_rfl,
  g17 := by kernel_rfl,
  g18 := by kernel_rfl,
  g19 := by kernel_rfl,
  t80 := Tryz.underlying114,
  a80 := Tryz.isAgg114,
  z80 := Tryz.sizeOf114,
  v80 := Tryz.zeroValue114,
  i0 := by kernel_rfl,
  i2 := by kernel_rfl,
  i3 := by kernel_rfl,
  i4 := by kernel_rfl,
  i5 := by kernel_rfl,
  i9 := by kernel_rfl,
  i20 := by kernel_rfl,
  i21 := by kernel_rfl,
  i37 := by kernel_rfl,
  i46 := by kernel_rfl,
  i51 := by kernel_rfl,
  i53 := by kernel_rfl,
  i75 := by kernel_rfl,
  i76 := by kernel_rfl,
  i80 := by kernel_rfl,
  i85 := by kernel_rfl,
  i127 := by kernel_rfl,
  i143 := by kernel_rfl,
  i145 := by kernel_rfl,
  i167 := by kernel_rfl,
  i168 := by kernel_rfl,
  i171 := by kernel_rfl,
  i173 := by kernel_rfl,
  i175 := by kernel_rfl,
  i210 := by kernel_rfl,
  i212 := by kernel_rfl,
  i232 := by kernel_rfl,
  i233 := by kernel_rfl,
  m15 := by kernel_rfl,
  m16 := by kernel_rfl,
  m17 := by kernel_rfl,
  m18 := by kernel_rfl,
  m19 := by kernel_rfl,
  c0 := by kernel_rfl,
  c2 := by kernel_rfl,
  c3 := by kernel_rfl,
  c4 := by kernel_rfl,
  c5 := by kernel_rfl,
  c9 := by kernel_rfl,
  c20 := by kernel_rfl,
  c21 := by kernel_rfl,
  c37 := by kernel_rfl,
  c46 := by kernel_rfl,
  c51 := by kernel_rfl,
  c53 := by kernel_rfl,
  c75 := by kernel_rfl,
  c76 := by kernel_rfl,
  c80 := by kernel_rfl,
  c85 := by kernel_rfl,
  c127 := by kernel_rfl,
  c143 := by kernel_rfl,
  c145 := by kernel_rfl,
  c167 := by kernel_rfl,
  c168 := by kernel_rfl,
  c171 := by kernel_rfl,
  c173 := by kernel_rfl,
  c175 := by kernel_rfl,
  c210 := by kernel_rfl,
  c212 := by kernel_rfl,
  c213 := by kernel_rfl,
  c232 := by kernel_rfl,
  c233 := by kernel_rfl }
-- written by shelflay.py for the seat YtflidfmpmakggaaGreatDoor
def hasPLay_ren : Go.Shelf.Ren := ⟨fun | 99 => 208 | 206 => 235 | n => n, fun | 9 => 9 | 4 => 4 | 3 => 3 | 20 => 20 | n => n, fun | n => n⟩
theorem hasPLay : Go.Proofs.Lays.n99 Tryz.prog hasPLay_ren := {
  mixed := by kernel_rfl,
  f99 := Tryz.func208.trans (congrArg some (by kernel_rfl)),
  f206 := Tryz.func235.trans (congrArg some (by kernel_rfl)),
  t3 := Tryz.underlying3,
  a3 := Tryz.isAgg3,
  z3 := Tryz.sizeOf3,
  v3 := Tryz.zeroValue3,
  t4 := Tryz.underlying4,
  a4 := Tryz.isAgg4,
  z4 := Tryz.sizeOf4,
  v4 := Tryz.zeroValue4,
  t9 := Tryz.underlying9,
  a9 := Tryz.isAgg9,
  z9 := Tryz.sizeOf9,
  v9 := Tryz.zeroValue9 }
-- written by shelflay.py for the seat YtflidfmpmakggaaGreatDoor
def trimPLay_ren : Go.Shelf.Ren := ⟨fun | 101 => 210 | 208 => 236 | 206 => 235 | n => n, fun | 9 => 9 | 4 => 4 | 3 => 3 | 20 => 20 | n => n, fun | n => n⟩
theorem trimPLay : Go.Proofs.Lays.n101 Tryz.prog trimPLay_ren := {
  mixed := by kernel_rfl,
  f101 := Tryz.func210.trans (congrArg some (by kernel_rfl)),
  f206 := Tryz.func235.trans (congrArg some (by kernel_rfl)),
  f208 := Tryz.func236.trans (congrArg some (by kernel_rfl)),
  t3 := Tryz.underlying3,
  a3 := Tryz.isAgg3,
  z3 := Tryz.sizeOf3,
  v3 := Tryz.zeroValue3,
  t4 := Tryz.underlying4,
  a4 := Tryz.isAgg4,
  z4 := Tryz.sizeOf4,
  v4 := Tryz.zeroValue4,
  t9 := Tryz.underlying9,
  a9 := Tryz.isAgg9,
  z9 := Tryz.sizeOf9,
  v9 := Tryz.zeroValue9 }

theorem tx_join (bk o c : Nat) (xs : List ByteArray) (sep : ByteArray) (w : World) (hcells : ∀ (j : Nat) x, xs[j]? = some x → w.cell? ⟨bk, o + j, none⟩ = some (.string x)) (hbk : bk < w.heap.size) (hN : xs.length ≤ 140737488355328) (hcap : xs.length ≤ c)
    (hlen : (Lib.join (xs.map (·.data.toList)) sep.data.toList).length ≤ 140737488355328) :
    Calls Tryz.prog 67 #[.slice (some ⟨bk, o, none⟩) xs.length c, .string sep] w fun e w' => e = .returned (.string ⟨(Lib.join (xs.map (·.data.toList)) sep.data.toList).toArray⟩) ∧ Below w.heap.size w w' :=
  Any.strings_Join joinLay joinLay_x bk o c xs sep w hcells hbk hN hcap hlen
/-- A builder of the call's own, and what is in it. -/
def Bld (B b : Nat) (l : List UInt8) (w : World) : Prop := Lib.IsBuilderF 110 5 B b (Lib.byteCells l) w
/-- The same, and what else stays. -/
theorem tx_writeK (B b : Nat) (l : List UInt8) (s : ByteArray) (w : World) (h : Bld B b l w) (hlen : l.length + s.size ≤ 140737488355328) (hB : B ≤ w.heap.size) :
    Calls Tryz.prog 48 #[.pointer (some ⟨b, 0, none⟩), .string s] w fun e w' => e = .returned (.tuple #[.int .i64 s.size, .nilIface]) ∧ Bld B b (l ++ s.data.toList) w' ∧ Below B w w' ∧ Lib.OthersKept 5 (some b) w w' := by
  refine (Any.Builder_WriteString_k bwrLay bwrLay_x B b (Lib.byteCells l) s w h (by rw [Lib.byteCells_length]; exact hlen) hB).mono fun e w' ⟨h1, h2, h3, h4⟩ => ⟨h1, .inr ?_, h3, h4⟩
  rw [Lib.byteCells_append]
  exact h2
theorem tx_string (B b : Nat) (l : List UInt8) (w : World) (h : Bld B b l w) (hB : B ≤ w.heap.size) :
    Calls Tryz.prog 50 #[.pointer (some ⟨b, 0, none⟩)] w fun e w' => e = .returned (.string ⟨l.toArray⟩) ∧ Below B w w' :=
  (Any.Builder_String_any_f bstrLay bstrLay_x B b l w h hB).mono fun _ _ ⟨h1, _, h3⟩ => ⟨h1, h3⟩
theorem Bld.below {B b : Nat} {l : List UInt8} {w w' : World} (h : Bld B b l w) (hb : Below w.heap.size w w') : Bld B b l w' := Lib.IsBuilderF.below h hb
theorem Bld.fresh {B : Nat} {w : World} (hB : B ≤ w.heap.size) : Bld B w.heap.size [] (w.alloc (.cells #[.pointer none, .slice none 0 0] 110)) :=
  .inl ⟨hB, .slice none 0 0, heap_alloc_new _ _, ⟨rfl, .inl ⟨rfl, rfl⟩⟩, by simp [Value.ownBlock]⟩
theorem tx_itoa (n : Int) (h0 : -9223372036854775808 ≤ n) (h1 : n ≤ 9223372036854775807) (w : World) (htab : Lib.TabIs Tryz.prog w "internal/strconv.uint64pow10" .u64 Lib.pow10Tab) :
    Calls Tryz.prog 49 #[.int .i64 n] w fun e w' => e = .returned (.string ⟨(Lib.itoa n).toArray⟩) ∧ Below w.heap.size w w' :=
  (Any.strconv_Itoa itoaLay n h0 h1 w htab).mono fun e w' ⟨h, k, os, hw⟩ => ⟨h, by rw [hw]; exact Lib.below_grow _ w (Nat.le_refl _) k os⟩
/-- What the library's texts lean on where they are written: the length up to which a text is searched by bytes; the powers of ten. -/
structure TxP (w : World) : Prop where
  len : ∃ m, w.cell? ⟨3, 0, none⟩ = some (.int .i64 m)
  tab : Lib.TabIs Tryz.prog w "internal/strconv.uint64pow10" .u64 Lib.pow10Tab
theorem TxP.below {w w' : World} (h : TxP w) (hb : Below w.heap.size w w') : TxP w' where
  len := by obtain ⟨m, hm⟩ := h.len; exact ⟨m, cell_below hb hm⟩
  tab := Joins.tab_stays (g := 4) (by kernel_rfl) h.tab hb (Nat.le_refl _)
/-- And where they are read: two errors. -/
structure TxOk (w : World) : Prop extends TxP w where
  sy : ∃ tp p, w.var? Tryz.prog "strconv.ErrSyntax" = some #[.iface tp p]
  ra : ∃ tp p, w.var? Tryz.prog "strconv.ErrRange" = some #[.iface tp p]
theorem TxOk.below {w w' : World} (h : TxOk w) (hb : Below w.heap.size w w') : TxOk w' where
  toTxP := h.toTxP.below hb
  sy := by obtain ⟨tp, p, hm⟩ := h.sy; exact ⟨tp, p, Joins.var_stays (g := 5) (by kernel_rfl) hm hb (Nat.le_refl _)⟩
  ra := by obtain ⟨tp, p, hm⟩ := h.ra; exact ⟨tp, p, Joins.var_stays (g := 6) (by kernel_rfl) hm hb (Nat.le_refl _)⟩
theorem tx_replace (s old new : ByteArray) (w : World) (h : TxP w) (hs : s.size < 4294967281) (h1 : 1 ≤ old.size) (hlen : s.size + Lib.countB s old * new.size ≤ 140737488355328) :
    Calls Tryz.prog 150 #[.string s, .string old, .string new] w fun e w' => e = .returned (.string ⟨(Lib.replaceAll s.data.toList old.data.toList new.data.toList).toArray⟩) ∧ Below w.heap.size w w' := by
  obtain ⟨m, hm⟩ := h.len
  exact Any.strings_ReplaceAll replLay replLay_x s old new m w hs hm h1 hlen
/-- What Atoi answers: the number; or an error. -/
def AtoiR (s : ByteArray) (w : World) (e : Ending) (w' : World) : Prop := Below w.heap.size w w' ∧ ((∃ v, Lib.atoiAll s.data.toList = .ok v ∧ e = .returned (.tuple #[.int .i64 v, .nilIface])) ∨ ((∀ v, Lib.atoiAll s.data.toList ≠ .ok v) ∧ ∃ n tp p, e = .returned (.tuple #[.int .i64 n, .iface tp p])))
theorem tx_atoi (s : ByteArray) (w : World) (h : TxOk w) (hs : s.size ≤ 281474976710656) : Calls Tryz.prog 160 #[.string s] w (AtoiR s w) := by
  cases hq : Lib.atoiAll s.data.toList with
  | ok v =>
    refine (Any.strconv_Atoi_ok atoiLay s (by omega) v hq w).mono fun e w' ⟨he, hw⟩ => ⟨?_, .inl ⟨v, hq, he⟩⟩
    rcases hw with rfl | ⟨t, rfl⟩
    · exact Below.refl _ _
    · exact Lib.bytesWorld_below _ _ _
  | «syntax» =>
    obtain ⟨tp, p, hv⟩ := h.sy
    refine (Any.strconv_Atoi_syntax_var atoiLay s hs hq tp p w hv).mono fun e w' ⟨N, he, _, _, hb⟩ => ⟨hb, .inr ⟨fun v hv => (by rw [hq] at hv; cases hv), _, _, _, he⟩⟩
  | range =>
    obtain ⟨tp, p, hv⟩ := h.ra
    refine (Any.strconv_Atoi_range_var atoiLay s hs hq tp p w hv).mono fun e w' ⟨N, he, _, _, hb⟩ => ⟨hb, .inr ⟨fun v hv => (by rw [hq] at hv; cases hv), _, _, _, he⟩⟩
theorem tx_hasPrefix (s p : ByteArray) (w : World) : Calls Tryz.prog 208 #[.string s, .string p] w fun e w' => e = .returned (.bool (Lib.hasPrefix s.data.toList p.data.toList)) ∧ w' = w :=
  Any.strings_HasPrefix hasPLay s p w
theorem tx_trimPrefix (s p : ByteArray) (w : World) : Calls Tryz.prog 210 #[.string s, .string p] w fun e w' => e = .returned (.string ⟨(Lib.trimPrefix s.data.toList p.data.toList).toArray⟩) ∧ w' = w :=
  Any.strings_TrimPrefix trimPLay s p w
open Go Go.RowKit

/-- All blocks of cells of type T are as they were. -/
def Same (T : TypeId) (w w' : World) : Prop := ∀ (k : Nat) c fr, w.heap[k]? = some (.cells c T fr) → w'.heap[k]? = some (.cells c T fr)
theorem Same.refl (T : TypeId) (w : World) : Same T w w := fun _ _ _ h => h
theorem Same.trans {T : TypeId} {a b c : World} (h : Same T a b) (k : Same T b c) : Same T a c := fun i x fr hx => k i x fr (h i x fr hx)
theorem Same.below {T : TypeId} {w w' : World} (hb : Below w.heap.size w w') : Same T w w' := fun k _ _ h => (hb.block k (Array.getElem?_eq_some_iff.1 h).1).trans h
theorem Same.alloc {T : TypeId} (w : World) (o : Obj) : Same T w (w.alloc o) := .below ((Below.refl _ _).alloc (Nat.le_refl _) _)
theorem Same.drewN {T : TypeId} (w : World) (n : Nat) : Same T w (w.drewN n) := fun _ _ _ h => h
theorem Same.drew {T : TypeId} (w : World) : Same T w w.drew := fun _ _ _ h => h
theorem Same.grown {T e : TypeId} {w w' : World} {B sz n : Nat} {v : Value} {xs : List Value} (ho : Own w B e sz v n xs) (hne : e ≠ T) (hg : w.grownBy w' v.ownBlock) : Same T w w' := fun k c fr h => by
  have hlt := (Array.getElem?_eq_some_iff.1 h).1
  refine (hg.block k hlt fun e' => ?_).trans h
  rcases ho.2 with ⟨rfl, _⟩ | ⟨g, o, cap, cur, rfl, _, hg2, _⟩
  · simp [Value.ownBlock] at e'
  · simp [Value.ownBlock] at e'
    subst e'
    rw [h] at hg2
    injection hg2 with hg2
    injection hg2 with _ h2 _
    exact hne h2.symm
theorem Same.setCell {T e : TypeId} {w : World} {p : Addr} {c : Array Value} {fr : Nat × Nat} (hp : w.heap[p.block]? = some (.cells c e fr)) (hne : e ≠ T) (u : Value) : Same T w (w.setCell p u) := fun k c' fr' h => by
  refine (Below.heap_setCell w p u k (fun e' => ?_)).trans h
  subst e'
  rw [h] at hp
  injection hp with hp
  injection hp with _ h2 _
  exact hne h2.symm
theorem Own.same {w w' : World} {B : Nat} {e : TypeId} {sz : Nat} {v : Value} {n : Nat} {xs : List Value} (h : Own w B e sz v n xs) (hs : Same e w w') : Own w' B e sz v n xs := by
  refine ⟨h.1, ?_⟩
  rcases h.2 with hn | ⟨g, o, cap, cur, rfl, hb, hg, rest⟩
  · exact .inl hn
  · exact .inr ⟨g, o, cap, cur, rfl, hb, hs g cur _ hg, rest⟩

/-- Nodes of which each one's record is the call's own. -/
def OwnNods (w : World) (B : Nat) : List Nod → List Value → Prop
  | [], xs => xs = []
  | d :: l, xs => ∃ u ys, xs = [.int .i64 d.id, .string d.kind, u] ++ ys ∧ I64 d.id ∧ Sm d.kind ∧ (∀ p ∈ d.props, p.ok) ∧ Own w B 181 4 u d.props.length (d.props.flatMap Prp.enc) ∧ OwnNods w B l ys
theorem OwnNods.same {w w' : World} {B : Nat} (hs : Same 181 w w') : ∀ {l : List Nod} {xs : List Value}, OwnNods w B l xs → OwnNods w' B l xs
  | [], _, h => h
  | _ :: _, _, h => by
    obtain ⟨u, ys, rfl, h1, h2, h3, h4, h5⟩ := h
    exact ⟨u, ys, rfl, h1, h2, h3, h4.same hs, h5.same hs⟩
theorem OwnNods.snoc {w : World} {B : Nat} {d : Nod} {u : Value} (h1 : I64 d.id) (h2 : Sm d.kind) (h3 : ∀ p ∈ d.props, p.ok) (h4 : Own w B 181 4 u d.props.length (d.props.flatMap Prp.enc)) :
    ∀ {l : List Nod} {xs : List Value}, OwnNods w B l xs → OwnNods w B (l ++ [d]) (xs ++ [.int .i64 d.id, .string d.kind, u])
  | [], xs, h => by rw [show xs = [] from h]; exact ⟨u, [], by simp, h1, h2, h3, h4, rfl⟩
  | e :: l, xs, h => by
    obtain ⟨v, ys, rfl, k1, k2, k3, k4, k5⟩ := h
    exact ⟨v, ys ++ [.int .i64 d.id, .string d.kind, u], by simp, k1, k2, k3, k4, k5.snoc h1 h2 h3 h4⟩
theorem OwnNods.row {w : World} {B : Nat} : ∀ {l : List Nod} {xs : List Value}, OwnNods w B l xs → Row nodL w l xs
  | [], _, h => h
  | _ :: _, _, h => by
    obtain ⟨u, ys, rfl, h1, h2, h3, h4, h5⟩ := h
    exact ⟨_, ys, rfl, ⟨u, rfl, h1, h2, h4.prps h3⟩, h5.row⟩
theorem Own.nods {w : World} {B B' : Nat} {e : TypeId} {v : Value} {l : List Nod} {xs : List Value} (h : Own w B e 3 v l.length xs) (hn : OwnNods w B' l xs) : Sl nodL w v l := Own.row (L := nodL) h hn.row
theorem Own.ne_block {w : World} {B : Nat} {e e' : TypeId} {sz n k : Nat} {v : Value} {xs : List Value} {c : Array Value} {fr : Nat × Nat} (ho : Own w B e sz v n xs) (h : w.heap[k]? = some (.cells c e' fr)) (hne : e' ≠ e) : some k ≠ v.ownBlock := by
  intro e1
  rcases ho.2 with ⟨rfl, _⟩ | ⟨g, o, cap, cur, rfl, _, hg2, _⟩
  · simp [Value.ownBlock] at e1
  · simp [Value.ownBlock] at e1
    subst e1
    rw [h] at hg2
    injection hg2 with hg2
    injection hg2 with _ h2 _
    exact hne h2
theorem grown_block {w w' : World} {k : Nat} {row : Option Nat} {o : Obj} (hg : w.grownBy w' row) (h : w.heap[k]? = some o) (hne : some k ≠ row) : w'.heap[k]? = some o :=
  (hg.block k (Array.getElem?_eq_some_iff.1 h).1 hne).trans h
theorem block_cell {w : World} {k : Nat} {c : Array Value} {T : TypeId} {fr : Nat × Nat} (h : w.heap[k]? = some (.cells c T fr)) (i : Nat) : w.cell? ⟨k, i, none⟩ = c[i]? := by
  simp [World.cell?, h]
theorem block_free {w : World} {k : Nat} {c : Array Value} {T : TypeId} (h : w.heap[k]? = some (.cells c T (0, 0))) (i : Nat) : w.frozen? ⟨k, i, none⟩ = false := by
  simp [World.frozen?, h]
theorem setCell_block {w : World} {k : Nat} {c : Array Value} {T : TypeId} {fr : Nat × Nat} (h : w.heap[k]? = some (.cells c T fr)) (i : Nat) (u : Value) : (w.setCell ⟨k, i, none⟩ u).heap[k]? = some (.cells (c.setIfInBounds i u) T fr) := by
  simp [World.setCell, Array.getElem?_modify, h]

theorem map_bs (xs : List (List UInt8)) : (xs.map bs).map (·.data.toList) = xs := by
  rw [List.map_map]
  conv => rhs; rw [← List.map_id xs]
  exact List.map_congr_left fun x _ => bs_list x
theorem list_bs (xs : List ByteArray) : (xs.map (·.data.toList)).map bs = xs := by
  rw [List.map_map]
  conv => rhs; rw [← List.map_id xs]
  exact List.map_congr_left fun x _ => bs_of x
/-- Words, in a row of the call's own. -/
def wv (xs : List (List UInt8)) : List Value := xs.map fun l => Value.string (bs l)
theorem wv_at {xs : List (List UInt8)} {j : Nat} {x : ByteArray} (h : (xs.map bs)[j]? = some x) : (wv xs)[j]? = some (.string x) := by
  rw [List.getElem?_map] at h
  obtain ⟨l, hl, rfl⟩ := Option.map_eq_some_iff.1 h
  unfold wv
  rw [List.getElem?_map, hl]; rfl
/-- What Join makes of them. -/
theorem join_own (B : Nat) (w : World) (bk o c : Nat) (xs : List (List UInt8)) (sep : List UInt8) (h : Own w B 9 1 (.slice (some ⟨bk, o, none⟩) xs.length c) xs.length (wv xs)) (hl : xs.length ≤ 1000) (hc : xs.length ≤ c) (hj : (Lib.join xs sep).length ≤ 1000000) :
    Calls Tryz.prog 67 #[.slice (some ⟨bk, o, none⟩) xs.length c, .string (bs sep)] w fun e w' => e = .returned (.string (bs (Lib.join xs sep))) ∧ Below w.heap.size w w' := by
  have h1 := tx_join bk o c (xs.map bs) (bs sep) w (fun j x hj => h.cell rfl (wv_at hj)) (h.lt bk rfl).2 (by rw [List.length_map]; omega) (by rw [List.length_map]; exact hc) (by rw [map_bs, bs_list]; omega)
  rw [map_bs, bs_list, List.length_map] at h1
  exact h1


/-! ### The order of names -/
theorem less_cmp : ∀ (a b : List UInt8), Op.bytesLess a b = decide (Lib.compareBytes a b < 0)
  | [], [] => by simp [Op.bytesLess, Lib.compareBytes]
  | [], _ :: _ => by simp [Op.bytesLess, Lib.compareBytes]
  | _ :: _, [] => by simp [Op.bytesLess, Lib.compareBytes]
  | x :: a, y :: b => by
    rw [Op.bytesLess, Lib.compareBytes, less_cmp a b]
    by_cases h1 : x < y
    · simp [h1]
    · by_cases h2 : y < x
      · have : x ≠ y := fun e => by subst e; exact absurd h2 h1
        simp [h1, h2, this]
      · have e : x = y := by
          apply UInt8.toNat_inj.1
          simp [UInt8.lt_iff_toNat_lt] at h1 h2
          omega
        subst e
        simp [h1]
theorem ltS_cmp (a b : ByteArray) : ltS a b = decide (cmpS a b < 0) := by
  unfold ltS cmpS
  rw [less_cmp, ByteArray.toList_eq, ByteArray.toList_eq]
theorem rec_ok {r : List Prp} (h : recE r = 0) : r.length ≤ 8 ∧ (∀ p ∈ r, prpE p = 0) ∧ chain prpLt r = true := by
  unfold recE at h
  by_cases h1 : 8 < r.length
  · rw [if_pos h1] at h; omega
  rw [if_neg h1] at h
  by_cases h2 : firstE prpE r = 0
  · rw [if_pos h2] at h
    cases hc : chain (fun a b : Prp => ltS a.name b.name) r with
    | true =>
      refine ⟨by omega, fun p hp => ?_, hc⟩
      have key : ∀ l : List Prp, firstE prpE l = 0 → ∀ p ∈ l, prpE p = 0 := by
        intro l
        induction l with
        | nil => intro _ p hp; simp at hp
        | cons a l ih =>
          intro h p hp
          rw [firstE] at h
          split at h
          · rename_i h0
            rcases List.mem_cons.1 hp with rfl | hp
            · exact h0
            · exact ih h p hp
          · rename_i h0; exact absurd h h0
      exact key r h2 p hp
    | false => rw [hc] at h; simp at h
  · rw [if_neg h2] at h; exact absurd h h2
/-! ### record.Get -/
theorem res3 {w w1 : World} {T : TypeId} {c0 c1 c2 : Value} (a b c : Value) (hB : Below w.heap.size w w1) (h : w1.heap[w.heap.size]? = some (.cells #[c0, c1, c2] T (0, 0))) :
    Below w.heap.size w (((w1.setCell ⟨w.heap.size, 0, none⟩ a).setCell ⟨w.heap.size, 1, none⟩ b).setCell ⟨w.heap.size, 2, none⟩ c) ∧
    (((w1.setCell ⟨w.heap.size, 0, none⟩ a).setCell ⟨w.heap.size, 1, none⟩ b).setCell ⟨w.heap.size, 2, none⟩ c).cell? ⟨w.heap.size, 0, none⟩ = some a ∧
    (((w1.setCell ⟨w.heap.size, 0, none⟩ a).setCell ⟨w.heap.size, 1, none⟩ b).setCell ⟨w.heap.size, 2, none⟩ c).cell? ⟨w.heap.size, 1, none⟩ = some b ∧
    (((w1.setCell ⟨w.heap.size, 0, none⟩ a).setCell ⟨w.heap.size, 1, none⟩ b).setCell ⟨w.heap.size, 2, none⟩ c).cell? ⟨w.heap.size, 2, none⟩ = some c := by
  have h3 := setCell_block (setCell_block (setCell_block h 0 a) 1 b) 2 c
  exact ⟨((hB.setCell (p := ⟨_, 0, none⟩) (Nat.le_refl _) _).setCell (p := ⟨_, 1, none⟩) (Nat.le_refl _) _).setCell (p := ⟨_, 2, none⟩) (Nat.le_refl _) _, block_cell h3 0, block_cell h3 1, block_cell h3 2⟩

/-! ### What a right graph gives -/
theorem nodsE_step {p : Option Nod} {n : Nod} {r : List Nod} (h : nodsE p (n :: r) = 0) : idB n.id = true ∧ nodE n = 0 ∧ nodsE (some n) r = 0 ∧ (∀ a, p = some a → nodLt a n = true) := by
  have h1 : idB n.id = true := by
    cases h1 : idB n.id with
    | true => rfl
    | false => unfold nodsE at h; rw [if_pos h1] at h; cases h
  have key : ∀ b : Bool, (if b = true then (7 : Int) else if nodE n = 0 then nodsE (some n) r else nodE n) = 0 → b = false ∧ nodE n = 0 ∧ nodsE (some n) r = 0 := by
    intro b hb
    cases b with
    | true => cases hb
    | false =>
      simp only [Bool.false_eq_true, if_false] at hb
      by_cases h3 : nodE n = 0
      · rw [if_pos h3] at hb; exact ⟨rfl, h3, hb⟩
      · rw [if_neg h3] at hb; exact absurd hb h3
  have hid : ¬ (idB n.id = false) := by simp [h1]
  cases p with
  | none =>
    unfold nodsE at h
    rw [if_neg hid] at h
    obtain ⟨_, k2, k3⟩ := key false h
    exact ⟨h1, k2, k3, fun a ha => by cases ha⟩
  | some q =>
    unfold nodsE at h
    rw [if_neg hid] at h
    obtain ⟨k1, k2, k3⟩ := key (decide (n.id ≤ q.id)) h
    refine ⟨h1, k2, k3, fun a ha => ?_⟩
    cases ha
    unfold nodLt
    simpa using k1
theorem nodsE_zero : ∀ {l : List Nod} {p : Option Nod}, nodsE p l = 0 → (∀ n ∈ l, idB n.id = true ∧ nodE n = 0) ∧ chain nodLt l = true ∧ (∀ a b, p = some a → l.head? = some b → nodLt a b = true)
  | [], p, _ => ⟨by simp, rfl, by simp⟩
  | n :: r, p, h => by
    obtain ⟨s1, s2, s3, s4⟩ := nodsE_step h
    obtain ⟨i1, i2, i3⟩ := nodsE_zero s3
    refine ⟨?_, ?_, ?_⟩
    · intro m hm
      rcases List.mem_cons.1 hm with rfl | hm
      · exact ⟨s1, s2⟩
      · exact i1 m hm
    · cases r with
      | nil => rfl
      | cons b r => simp only [chain, Bool.and_eq_true]; exact ⟨i3 n b rfl rfl, i2⟩
    · intro a b ha hb
      simp at hb
      subst hb
      exact s4 a ha
theorem grf_ok {g : Grf} (h : grfE g = 0) : g.nodes.length ≤ 60 ∧ g.ties.length ≤ 120 ∧ chain nodLt g.nodes = true ∧ ∀ n ∈ g.nodes, idB n.id = true ∧ nodE n = 0 := by
  unfold grfE at h
  by_cases h1 : 60 < g.nodes.length ∨ 120 < g.ties.length
  · rw [if_pos h1] at h; cases h
  rw [if_neg h1] at h
  by_cases h2 : nodsE none g.nodes = 0
  · obtain ⟨i1, i2, _⟩ := nodsE_zero h2
    exact ⟨by omega, by omega, i2, i1⟩
  · rw [if_neg h2] at h; exact absurd h h2


def tieLt (a b : Tie) : Bool := decide (tieO a b < 0)
theorem tiesE_step {p : Option Tie} {t : Tie} {r : List Tie} (h : tiesE p (t :: r) = 0) : tieE t = 0 ∧ tiesE (some t) r = 0 ∧ (∀ a, p = some a → tieLt a t = true) := by
  have e : tiesE p (t :: r) = if tieE t = 0 then (if (match p with | some q => decide (0 ≤ tieO q t) | none => false) then 7 else tiesE (some t) r) else tieE t := by cases p <;> rfl
  rw [e] at h
  by_cases h1 : tieE t = 0
  · rw [if_pos h1] at h
    cases p with
    | none => exact ⟨h1, h, fun a ha => by cases ha⟩
    | some q =>
      have h : (if decide (0 ≤ tieO q t) = true then (7 : Int) else tiesE (some t) r) = 0 := h
      by_cases h2 : 0 ≤ tieO q t
      · rw [if_pos (decide_eq_true h2)] at h; omega
      · rw [if_neg (fun x => h2 (of_decide_eq_true x))] at h
        exact ⟨h1, h, fun a ha => by cases ha; exact decide_eq_true (by omega)⟩
  · rw [if_neg h1] at h; exact absurd h h1
theorem tiesE_zero : ∀ {l : List Tie} {p : Option Tie}, tiesE p l = 0 → (∀ t ∈ l, tieE t = 0) ∧ chain tieLt l = true ∧ (∀ a b, p = some a → l.head? = some b → tieLt a b = true)
  | [], p, _ => ⟨by simp, rfl, by simp⟩
  | n :: r, p, h => by
    obtain ⟨s1, s3, s4⟩ := tiesE_step h
    obtain ⟨i1, i2, i3⟩ := tiesE_zero s3
    refine ⟨?_, ?_, ?_⟩
    · intro m hm
      rcases List.mem_cons.1 hm with rfl | hm
      · exact s1
      · exact i1 m hm
    · cases r with
      | nil => rfl
      | cons b r => simp only [chain, Bool.and_eq_true]; exact ⟨i3 n b rfl rfl, i2⟩
    · intro a b ha hb
      simp at hb
      subst hb
      exact s4 a ha
theorem grf_parts {g : Grf} (h : grfE g = 0) : nodsE none g.nodes = 0 ∧ tiesE none g.ties = 0 := by
  unfold grfE at h
  by_cases h1 : 60 < g.nodes.length ∨ 120 < g.ties.length
  · rw [if_pos h1] at h; cases h
  rw [if_neg h1] at h
  by_cases h2 : nodsE none g.nodes = 0
  · rw [if_pos h2] at h; exact ⟨h2, h⟩
  · rw [if_neg h2] at h; exact absurd h h2
theorem grf_ties {g : Grf} (h : grfE g = 0) : chain tieLt g.ties = true ∧ ∀ t ∈ g.ties, tieE t = 0 := by
  obtain ⟨i1, i2, _⟩ := tiesE_zero (grf_parts h).2
  exact ⟨i2, i1⟩
end Go.Proofs.YtflidfmpmakggaaGreatDoor
