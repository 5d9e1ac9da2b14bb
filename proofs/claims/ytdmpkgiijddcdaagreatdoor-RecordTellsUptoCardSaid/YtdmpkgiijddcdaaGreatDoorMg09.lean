/- Parts: TxL, VtP. -/
import Derived.Test.YtdmpkgiijddcdaaGreatDoorMg03
import Derived.Shelf.Strings.OnBuilder
import Derived.Shelf.Strings.BuilderF
import Derived.Shelf.Strings.BuilderK
import Derived.Shelf.Strings.MapGrows
import Derived.Shelf.Strings.Replace
import Derived.Lib.SmallJoins
import Derived.Shelf.Strings.Prefix
import Derived.Shelf.Strconv.Itoa3
import Derived.Lib.AppendIntMem
import Derived.Shelf.Strconv.ErrVarAll
import Derived.Test.YtdmpkgiijddcdaaGreatDoorMg01
import Derived.Lib.Replace
import Derived.Lib.CountLaws
/- Contracts of the shelf on texts, laid: strings.Join, strings.Builder, strconv.Itoa. -/
namespace Go.Proofs.YtdmpkgiijddcdaaGreatDoor
open Go Go.Shelf Go.RowKit

-- written by shelflay.py for the seat YtdmpkgiijddcdaaGreatDoor
def joinLay_ren : Go.Shelf.Ren := ⟨fun | 156 => 58 | 165 => 112 | 166 => 59 | 169 => 61 | 240 => 113 | 241 => 150 | 276 => 151 | 277 => 178 | n => n, fun | 31 => 32 | 9 => 9 | 3 => 3 | 4 => 4 | 0 => 0 | 20 => 20 | 72 => 123 | 76 => 54 | 70 => 120 | 37 => 121 | 75 => 27 | 127 => 179 | 164 => 204 | 5 => 5 | 80 => 128 | n => n, fun | n => n⟩
theorem joinLay : Go.Proofs.Lays.n156 Tryz.prog joinLay_ren := {
  mixed := by kernel_rfl,
  f156 := Tryz.func58.trans (congrArg some (by kernel_rfl)),
  f165 := Tryz.func112.trans (congrArg some (by kernel_rfl)),
  f166 := Tryz.func59.trans (congrArg some (by kernel_rfl)),
  f169 := Tryz.func61.trans (congrArg some (by kernel_rfl)),
  f240 := Tryz.func113.trans (congrArg some (by kernel_rfl)),
  f241 := Tryz.func150.trans (congrArg some (by kernel_rfl)),
  f276 := Tryz.func151.trans (congrArg some (by kernel_rfl)),
  f277 := Tryz.func178.trans (congrArg some (by kernel_rfl)),
  t0 := Tryz.underlying0,
  a0 := Tryz.isAgg0,
  z0 := Tryz.sizeOf0,
  v0 := Tryz.zeroValue0,
  t3 := Tryz.underlying3,
  a3 := Tryz.isAgg3,
  z3 := Tryz.sizeOf3,
  v3 := Tryz.zeroValue3,
  t4 := Tryz.underlying4,
  a4 := Tryz.isAgg4,
  z4 := Tryz.sizeOf4,
  v4 := Tryz.zeroValue4,
  t9 := Tryz.underlying9,
  a9 := Tryz.isAgg9,
  z9 := Tryz.sizeOf9,
  v9 := Tryz.zeroValue9,
  t20 := Tryz.underlying20,
  a20 := Tryz.isAgg20,
  z20 := Tryz.sizeOf20,
  v20 := Tryz.zeroValue20,
  t31 := Tryz.underlying32,
  a31 := Tryz.isAgg32,
  z31 := Tryz.sizeOf32,
  v31 := Tryz.zeroValue32,
  t37 := Tryz.underlying121,
  a37 := Tryz.isAgg121,
  z37 := Tryz.sizeOf121,
  v37 := Tryz.zeroValue121,
  t70 := Tryz.underlying120,
  a70 := Tryz.isAgg120,
  z70 := Tryz.sizeOf120,
  v70 := Tryz.zeroValue120,
  t72 := Tryz.underlying123,
  a72 := Tryz.isAgg123,
  z72 := Tryz.sizeOf123,
  v72 := Tryz.zeroValue123,
  t75 := Tryz.underlying27,
  a75 := Tryz.isAgg27,
  z75 := Tryz.sizeOf27,
  v75 := Tryz.zeroValue27,
  t76 := Tryz.underlying54,
  a76 := Tryz.isAgg54,
  z76 := Tryz.sizeOf54,
  v76 := Tryz.zeroValue54,
  t127 := Tryz.underlying179,
  a127 := Tryz.isAgg179,
  z127 := Tryz.sizeOf179,
  v127 := Tryz.zeroValue179,
  t164 := Tryz.underlying204,
  a164 := Tryz.isAgg204,
  z164 := Tryz.sizeOf204,
  v164 := Tryz.zeroValue204 }
theorem joinLay_x : Builder.Extra Tryz.prog joinLay_ren := {
  sizeBuilder := by kernel_rfl,
  liesBuilder := by kernel_rfl,
  t5 := Tryz.underlying5,
  a5 := Tryz.isAgg5,
  z5 := Tryz.sizeOf5,
  v5 := Tryz.zeroValue5,
  infoByte := by kernel_rfl,
  cellsByte := by kernel_rfl,
  sizeByte := by kernel_rfl,
  neB5 := by decide }
-- written by shelflay.py for the seat YtdmpkgiijddcdaaGreatDoor
-- written by shelflay.py for the seat YtdmpkgiijddcdaaGreatDoor
-- written by shelflay.py for the seat YtdmpkgiijddcdaaGreatDoor
def itoaSLay_ren : Go.Shelf.Ren := ⟨fun | 171 => 60 | 243 => 114 | 246 => 152 | 283 => 179 | 284 => 180 | 285 => 181 | 286 => 182 | 129 => 205 | 317 => 204 | 318 => 206 | 319 => 207 | 320 => 208 | 337 => 215 | 338 => 216 | n => n, fun | 3 => 3 | 9 => 9 | 2 => 2 | 4 => 4 | 171 => 240 | 0 => 0 | 53 => 241 | 37 => 121 | 5 => 5 | 173 => 244 | 212 => 277 | 51 => 278 | 20 => 20 | 213 => 279 | 46 => 228 | 232 => 295 | 233 => 296 | n => n, fun | 17 => 5 | 18 => 8 | 19 => 9 | n => n⟩
-- written by shelflay.py for the seat YtdmpkgiijddcdaaGreatDoor
def itoaLay_ren : Go.Shelf.Ren := ⟨fun | 171 => 60 | 243 => 114 | 246 => 152 | 283 => 179 | 284 => 180 | 285 => 181 | 286 => 182 | 129 => 205 | 317 => 204 | 318 => 206 | 319 => 207 | 320 => 208 | 337 => 215 | 338 => 216 | n => n, fun | 3 => 3 | 9 => 9 | 2 => 2 | 4 => 4 | 171 => 240 | 0 => 0 | 53 => 241 | 37 => 121 | 5 => 5 | 173 => 244 | 212 => 277 | 51 => 278 | 20 => 20 | 213 => 279 | 46 => 228 | 232 => 295 | 233 => 296 | n => n, fun | 17 => 5 | 18 => 8 | 19 => 9 | n => n⟩
theorem itoaLay : Go.Proofs.LaysM.n171 Tryz.prog itoaLay_ren := {
  mixed := by kernel_rfl,
  f129 := Tryz.func205.trans (congrArg some (by kernel_rfl)),
  f171 := Tryz.func60.trans (congrArg some (by kernel_rfl)),
  f243 := Tryz.func114.trans (congrArg some (by kernel_rfl)),
  f246 := Tryz.func152.trans (congrArg some (by kernel_rfl)),
  f283 := Tryz.func179.trans (congrArg some (by kernel_rfl)),
  f284 := Tryz.func180.trans (congrArg some (by kernel_rfl)),
  f285 := Tryz.func181.trans (congrArg some (by kernel_rfl)),
  f286 := Tryz.func182.trans (congrArg some (by kernel_rfl)),
  f317 := Tryz.func204.trans (congrArg some (by kernel_rfl)),
  f318 := Tryz.func206.trans (congrArg some (by kernel_rfl)),
  f319 := Tryz.func207.trans (congrArg some (by kernel_rfl)),
  f320 := Tryz.func208.trans (congrArg some (by kernel_rfl)),
  f337 := Tryz.func215.trans (congrArg some (by kernel_rfl)),
  f338 := Tryz.func216.trans (congrArg some (by kernel_rfl)),
  t0 := Tryz.underlying0,
  a0 := Tryz.isAgg0,
  z0 := Tryz.sizeOf0,
  v0 := Tryz.zeroValue0,
  t2 := Tryz.underlying2,
  a2 := Tryz.isAgg2,
  z2 := Tryz.sizeOf2,
  v2 := Tryz.zeroValue2,
  t3 := Tryz.underlying3,
  a3 := Tryz.isAgg3,
  z3 := Tryz.sizeOf3,
  v3 := Tryz.zeroValue3,
  t4 := Tryz.underlying4,
  a4 := Tryz.isAgg4,
  z4 := Tryz.sizeOf4,
  v4 := Tryz.zeroValue4,
  t5 := Tryz.underlying5,
  a5 := Tryz.isAgg5,
  z5 := Tryz.sizeOf5,
  v5 := Tryz.zeroValue5,
  t9 := Tryz.underlying9,
  a9 := Tryz.isAgg9,
  z9 := Tryz.sizeOf9,
  v9 := Tryz.zeroValue9,
  t20 := Tryz.underlying20,
  a20 := Tryz.isAgg20,
  z20 := Tryz.sizeOf20,
  v20 := Tryz.zeroValue20,
  t37 := Tryz.underlying121,
  a37 := Tryz.isAgg121,
  z37 := Tryz.sizeOf121,
  v37 := Tryz.zeroValue121,
  t46 := Tryz.underlying228,
  a46 := Tryz.isAgg228,
  z46 := Tryz.sizeOf228,
  v46 := Tryz.zeroValue228,
  t51 := Tryz.underlying278,
  a51 := Tryz.isAgg278,
  z51 := Tryz.sizeOf278,
  v51 := Tryz.zeroValue278,
  t53 := Tryz.underlying241,
  a53 := Tryz.isAgg241,
  z53 := Tryz.sizeOf241,
  v53 := Tryz.zeroValue241,
  t171 := Tryz.underlying240,
  a171 := Tryz.isAgg240,
  z171 := Tryz.sizeOf240,
  v171 := Tryz.zeroValue240,
  t173 := Tryz.underlying244,
  a173 := Tryz.isAgg244,
  z173 := Tryz.sizeOf244,
  v173 := Tryz.zeroValue244,
  t212 := Tryz.underlying277,
  a212 := Tryz.isAgg277,
  z212 := Tryz.sizeOf277,
  v212 := Tryz.zeroValue277,
  t213 := Tryz.underlying279,
  a213 := Tryz.isAgg279,
  z213 := Tryz.sizeOf279,
  t232 := Tryz.underlying295,
  a232 := Tryz.isAgg295,
  z232 := Tryz.sizeOf295,
  v232 := Tryz.zeroValue295,
  t233 := Tryz.underlying296,
  a233 := Tryz.isAgg296,
  z233 := Tryz.sizeOf296,
  v233 := Tryz.zeroValue296,
  g17 := by kernel_rfl,
  g18 := by kernel_rfl,
  g19 := by kernel_rfl,
  i0 := by kernel_rfl,
  i2 := by kernel_rfl,
  i3 := by kernel_rfl,
  i4 := by kernel_rfl,
  i5 := by kernel_rfl,
  i9 := by kernel_rfl,
  i20 := by kernel_rfl,
  i37 := by kernel_rfl,
  i46 := by kernel_rfl,
  i51 := by kernel_rfl,
  i53 := by kernel_rfl,
  i171 := by kernel_rfl,
  i173 := by kernel_rfl,
  i212 := by kernel_rfl,
  i232 := by kernel_rfl,
  i233 := by kernel_rfl,
  m17 := by kernel_rfl,
  m18 := by kernel_rfl,
  m19 := by kernel_rfl }
-- written by shelflay.py for the seat YtdmpkgiijddcdaaGreatDoor
def replLay_ren : Go.Shelf.Ren := ⟨fun | 155 => 67 | 154 => 117 | 138 => 145 | 165 => 112 | 143 => 146 | 166 => 59 | 197 => 157 | 169 => 61 | 195 => 175 | 218 => 176 | 240 => 113 | 241 => 150 | 219 => 166 | 260 => 186 | 276 => 151 | 277 => 178 | 217 => 142 | 225 => 192 | 224 => 193 | 267 => 194 | 266 => 174 | 314 => 211 | n => n, fun | 9 => 9 | 3 => 3 | 4 => 4 | 72 => 123 | 0 => 0 | 76 => 54 | 105 => 219 | 21 => 21 | 5 => 5 | 70 => 120 | 20 => 20 | 37 => 121 | 75 => 27 | 127 => 179 | 164 => 204 | 46 => 228 | 119 => 281 | 139 => 284 | 138 => 283 | 146 => 289 | 51 => 278 | 80 => 128 | n => n, fun | 1 => 4 | 3 => 6 | 4 => 7 | n => n⟩
theorem replLay : Go.Proofs.Lays.n155 Tryz.prog replLay_ren := {
  mixed := by kernel_rfl,
  f138 := Tryz.func145.trans (congrArg some (by kernel_rfl)),
  f143 := Tryz.func146.trans (congrArg some (by kernel_rfl)),
  f154 := Tryz.func117.trans (congrArg some (by kernel_rfl)),
  f155 := Tryz.func67.trans (congrArg some (by kernel_rfl)),
  f165 := Tryz.func112.trans (congrArg some (by kernel_rfl)),
  f166 := Tryz.func59.trans (congrArg some (by kernel_rfl)),
  f169 := Tryz.func61.trans (congrArg some (by kernel_rfl)),
  f195 := Tryz.func175.trans (congrArg some (by kernel_rfl)),
  f197 := Tryz.func157.trans (congrArg some (by kernel_rfl)),
  f217 := Tryz.func142.trans (congrArg some (by kernel_rfl)),
  f218 := Tryz.func176.trans (congrArg some (by kernel_rfl)),
  f219 := Tryz.func166.trans (congrArg some (by kernel_rfl)),
  f224 := Tryz.func193.trans (congrArg some (by kernel_rfl)),
  f225 := Tryz.func192.trans (congrArg some (by kernel_rfl)),
  f240 := Tryz.func113.trans (congrArg some (by kernel_rfl)),
  f241 := Tryz.func150.trans (congrArg some (by kernel_rfl)),
  f260 := Tryz.func186.trans (congrArg some (by kernel_rfl)),
  f266 := Tryz.func174.trans (congrArg some (by kernel_rfl)),
  f267 := Tryz.func194.trans (congrArg some (by kernel_rfl)),
  f276 := Tryz.func151.trans (congrArg some (by kernel_rfl)),
  f277 := Tryz.func178.trans (congrArg some (by kernel_rfl)),
  f314 := Tryz.func211.trans (congrArg some (by kernel_rfl)),
  t0 := Tryz.underlying0,
  a0 := Tryz.isAgg0,
  z0 := Tryz.sizeOf0,
  v0 := Tryz.zeroValue0,
  t3 := Tryz.underlying3,
  a3 := Tryz.isAgg3,
  z3 := Tryz.sizeOf3,
  v3 := Tryz.zeroValue3,
  t4 := Tryz.underlying4,
  a4 := Tryz.isAgg4,
  z4 := Tryz.sizeOf4,
  v4 := Tryz.zeroValue4,
  t5 := Tryz.underlying5,
  a5 := Tryz.isAgg5,
  z5 := Tryz.sizeOf5,
  v5 := Tryz.zeroValue5,
  t9 := Tryz.underlying9,
  a9 := Tryz.isAgg9,
  z9 := Tryz.sizeOf9,
  v9 := Tryz.zeroValue9,
  t20 := Tryz.underlying20,
  a20 := Tryz.isAgg20,
  z20 := Tryz.sizeOf20,
  v20 := Tryz.zeroValue20,
  t21 := Tryz.underlying21,
  a21 := Tryz.isAgg21,
  z21 := Tryz.sizeOf21,
  v21 := Tryz.zeroValue21,
  t37 := Tryz.underlying121,
  a37 := Tryz.isAgg121,
  z37 := Tryz.sizeOf121,
  v37 := Tryz.zeroValue121,
  t46 := Tryz.underlying228,
  a46 := Tryz.isAgg228,
  z46 := Tryz.sizeOf228,
  v46 := Tryz.zeroValue228,
  t51 := Tryz.underlying278,
  a51 := Tryz.isAgg278,
  z51 := Tryz.sizeOf278,
  v51 := Tryz.zeroValue278,
  t70 := Tryz.underlying120,
  a70 := Tryz.isAgg120,
  z70 := Tryz.sizeOf120,
  v70 := Tryz.zeroValue120,
  t72 := Tryz.underlying123,
  a72 := Tryz.isAgg123,
  z72 := Tryz.sizeOf123,
  v72 := Tryz.zeroValue123,
  t75 := Tryz.underlying27,
  a75 := Tryz.isAgg27,
  z75 := Tryz.sizeOf27,
  v75 := Tryz.zeroValue27,
  t76 := Tryz.underlying54,
  a76 := Tryz.isAgg54,
  z76 := Tryz.sizeOf54,
  v76 := Tryz.zeroValue54,
  t105 := Tryz.underlying219,
  a105 := Tryz.isAgg219,
  z105 := Tryz.sizeOf219,
  v105 := Tryz.zeroValue219,
  t119 := Tryz.underlying281,
  a119 := Tryz.isAgg281,
  z119 := Tryz.sizeOf281,
  t127 := Tryz.underlying179,
  a127 := Tryz.isAgg179,
  z127 := Tryz.sizeOf179,
  v127 := Tryz.zeroValue179,
  t138 := Tryz.underlying283,
  a138 := Tryz.isAgg283,
  z138 := Tryz.sizeOf283,
  v138 := Tryz.zeroValue283,
  t139 := Tryz.underlying284,
  a139 := Tryz.isAgg284,
  z139 := Tryz.sizeOf284,
  v139 := Tryz.zeroValue284,
  t146 := Tryz.underlying289,
  a146 := Tryz.isAgg289,
  z146 := Tryz.sizeOf289,
  v146 := Tryz.zeroValue289,
  t164 := Tryz.underlying204,
  a164 := Tryz.isAgg204,
  z164 := Tryz.sizeOf204,
  v164 := Tryz.zeroValue204,
  g1 := by kernel_rfl,
  g3 := by kernel_rfl,
  g4 := by kernel_rfl }
theorem replLay_x : Builder.Extra Tryz.prog replLay_ren := {
  sizeBuilder := by kernel_rfl,
  liesBuilder := by kernel_rfl,
  t5 := Tryz.underlying5,
  a5 := Tryz.isAgg5,
  z5 := Tryz.sizeOf5,
  v5 := Tryz.zeroValue5,
  infoByte := by kernel_rfl,
  cellsByte := by kernel_rfl,
  sizeByte := by kernel_rfl,
  neB5 := by decide }
-- written by shelflay.py for the seat YtdmpkgiijddcdaaGreatDoor
def atoiLay_ren : Go.Shelf.Ren := ⟨fun | 172 => 71 | 244 => 119 | 245 => 120 | 247 => 158 | 279 => 159 | 280 => 160 | 281 => 161 | 282 => 162 | 287 => 187 | 316 => 188 | 171 => 60 | 205 => 189 | 321 => 209 | 322 => 210 | 243 => 114 | 246 => 152 | 283 => 179 | 284 => 180 | 285 => 181 | 286 => 182 | 129 => 205 | 317 => 204 | 318 => 206 | 319 => 207 | 320 => 208 | 337 => 215 | 338 => 216 | n => n, fun | 9 => 9 | 3 => 3 | 75 => 27 | 76 => 54 | 4 => 4 | 5 => 5 | 167 => 221 | 37 => 121 | 0 => 0 | 85 => 222 | 2 => 2 | 168 => 224 | 53 => 241 | 175 => 260 | 46 => 228 | 210 => 264 | 127 => 179 | 145 => 288 | 143 => 286 | 21 => 21 | 171 => 240 | 173 => 244 | 212 => 277 | 51 => 278 | 20 => 20 | 213 => 279 | 232 => 295 | 233 => 296 | 80 => 128 | n => n, fun | 15 => 2 | 16 => 3 | 17 => 5 | 18 => 8 | 19 => 9 | n => n⟩
theorem atoiLay : Go.Proofs.LaysC.n172 Tryz.prog atoiLay_ren := {
  mixed := by kernel_rfl,
  f129 := Tryz.func205.trans (congrArg some (by kernel_rfl)),
  f171 := Tryz.func60.trans (congrArg some (by kernel_rfl)),
  f172 := Tryz.func71.trans (congrArg some (by kernel_rfl)),
  f205 := Tryz.func189.trans (congrArg some (by kernel_rfl)),
  f243 := Tryz.func114.trans (congrArg some (by kernel_rfl)),
  f244 := Tryz.func119.trans (congrArg some (by kernel_rfl)),
  f245 := Tryz.func120.trans (congrArg some (by kernel_rfl)),
  f246 := Tryz.func152.trans (congrArg some (by kernel_rfl)),
  f247 := Tryz.func158.trans (congrArg some (by kernel_rfl)),
  f279 := Tryz.func159.trans (congrArg some (by kernel_rfl)),
  f280 := Tryz.func160.trans (congrArg some (by kernel_rfl)),
  f281 := Tryz.func161.trans (congrArg some (by kernel_rfl)),
  f282 := Tryz.func162.trans (congrArg some (by kernel_rfl)),
  f283 := Tryz.func179.trans (congrArg some (by kernel_rfl)),
  f284 := Tryz.func180.trans (congrArg some (by kernel_rfl)),
  f285 := Tryz.func181.trans (congrArg some (by kernel_rfl)),
  f286 := Tryz.func182.trans (congrArg some (by kernel_rfl)),
  f287 := Tryz.func187.trans (congrArg some (by kernel_rfl)),
  f316 := Tryz.func188.trans (congrArg some (by kernel_rfl)),
  f317 := Tryz.func204.trans (congrArg some (by kernel_rfl)),
  f318 := Tryz.func206.trans (congrArg some (by kernel_rfl)),
  f319 := Tryz.func207.trans (congrArg some (by kernel_rfl)),
  f320 := Tryz.func208.trans (congrArg some (by kernel_rfl)),
  f321 := Tryz.func209.trans (congrArg some (by kernel_rfl)),
  f322 := Tryz.func210.trans (congrArg some (by kernel_rfl)),
  f337 := Tryz.func215.trans (congrArg some (by kernel_rfl)),
  f338 := Tryz.func216.trans (congrArg some (by kernel_rfl)),
  t0 := Tryz.underlying0,
  a0 := Tryz.isAgg0,
  z0 := Tryz.sizeOf0,
  v0 := Tryz.zeroValue0,
  t2 := Tryz.underlying2,
  a2 := Tryz.isAgg2,
  z2 := Tryz.sizeOf2,
  v2 := Tryz.zeroValue2,
  t3 := Tryz.underlying3,
  a3 := Tryz.isAgg3,
  z3 := Tryz.sizeOf3,
  v3 := Tryz.zeroValue3,
  t4 := Tryz.underlying4,
  a4 := Tryz.isAgg4,
  z4 := Tryz.sizeOf4,
  v4 := Tryz.zeroValue4,
  t5 := Tryz.underlying5,
  a5 := Tryz.isAgg5,
  z5 := Tryz.sizeOf5,
  v5 := Tryz.zeroValue5,
  t9 := Tryz.underlying9,
  a9 := Tryz.isAgg9,
  z9 := Tryz.sizeOf9,
  v9 := Tryz.zeroValue9,
  t20 := Tryz.underlying20,
  a20 := Tryz.isAgg20,
  z20 := Tryz.sizeOf20,
  v20 := Tryz.zeroValue20,
  t21 := Tryz.underlying21,
  a21 := Tryz.isAgg21,
  z21 := Tryz.sizeOf21,
  v21 := Tryz.zeroValue21,
  t37 := Tryz.underlying121,
  a37 := Tryz.isAgg121,
  z37 := Tryz.sizeOf121,
  v37 := Tryz.zeroValue121,
  t46 := Tryz.underlying228,
  a46 := Tryz.isAgg228,
  z46 := Tryz.sizeOf228,
  v46 := Tryz.zeroValue228,
  t51 := Tryz.underlying278,
  a51 := Tryz.isAgg278,
  z51 := Tryz.sizeOf278,
  v51 := Tryz.zeroValue278,
  t53 := Tryz.underlying241,
  a53 := Tryz.isAgg241,
  z53 := Tryz.sizeOf241,
  v53 := Tryz.zeroValue241,
  t75 := Tryz.underlying27,
  a75 := Tryz.isAgg27,
  z75 := Tryz.sizeOf27,
  v75 := Tryz.zeroValue27,
  t76 := Tryz.underlying54,
  a76 := Tryz.isAgg54,
  z76 := Tryz.sizeOf54,
  v76 := Tryz.zeroValue54,
  t85 := Tryz.underlying222,
  a85 := Tryz.isAgg222,
  z85 := Tryz.sizeOf222,
  v85 := Tryz.zeroValue222,
  t127 := Tryz.underlying179,
  a127 := Tryz.isAgg179,
  z127 := Tryz.sizeOf179,
  v127 := Tryz.zeroValue179,
  t143 := Tryz.underlying286,
  a143 := Tryz.isAgg286,
  z143 := Tryz.sizeOf286,
  v143 := Tryz.zeroValue286,
  t145 := Tryz.underlying288,
  a145 := Tryz.isAgg288,
  z145 := Tryz.sizeOf288,
  v145 := Tryz.zeroValue288,
  t167 := Tryz.underlying221,
  a167 := Tryz.isAgg221,
  z167 := Tryz.sizeOf221,
  v167 := Tryz.zeroValue221,
  t168 := Tryz.underlying224,
  a168 := Tryz.isAgg224,
  z168 := Tryz.sizeOf224,
  v168 := Tryz.zeroValue224,
  t171 := Tryz.underlying240,
  a171 := Tryz.isAgg240,
  z171 := Tryz.sizeOf240,
  v171 := Tryz.zeroValue240,
  t173 := Tryz.underlying244,
  a173 := Tryz.isAgg244,
  z173 := Tryz.sizeOf244,
  v173 := Tryz.zeroValue244,
  t175 := Tryz.underlying260,
  a175 := Tryz.isAgg260,
  z175 := Tryz.sizeOf260,
  v175 := Tryz.zeroValue260,
  t210 := Tryz.underlying264,
  a210 := Tryz.isAgg264,
  z210 := Tryz.sizeOf264,
  v210 := Tryz.zeroValue264,
  t212 := Tryz.underlying277,
  a212 := Tryz.isAgg277,
  z212 := Tryz.sizeOf277,
  v212 := Tryz.zeroValue277,
  t213 := Tryz.underlying279,
  a213 := Tryz.isAgg279,
  z213 := Tryz.sizeOf279,
  t232 := Tryz.underlying295,
  a232 := Tryz.isAgg295,
  z232 := Tryz.sizeOf295,
  v232 := Tryz.zeroValue295,
  t233 := Tryz.underlying296,
  a233 := Tryz.isAgg296,
  z233 := Tryz.sizeOf296,
  v233 := Tryz.zeroValue296,
  g15 := by kernel_rfl,
  g16 := by kernel_rfl,
  g17 := by kernel_rfl,
  g18 := by kernel_rfl,
  g19 := by kernel_rfl,
  t80 := Tryz.underlying128,
  a80 := Tryz.isAgg128,
  z80 := Tryz.sizeOf128,
  v80 := Tryz.zeroValue128,
  i0 := by kernel_rfl,
  i2 := by kernel_rfl,
  i3 := by kernel_rfl,
  i4 := by kernel_rfl,
  i5 := by kernel_rfl,
  i9 := by kernel_rfl,
  i20 := by kernel_rfl,
  i21 := by kernel_rfl,
  i37 := by kernel_rfl,
  i46 := by kernel_rfl,
  i51 := by kernel_rfl,
  i53 := by kernel_rfl,
  i75 := by kernel_rfl,
  i76 := by kernel_rfl,
  i80 := by kernel_rfl,
  i85 := by kernel_rfl,
  i127 := by kernel_rfl,
  i143 := by kernel_rfl,
  i145 := by kernel_rfl,
  i167 := by kernel_rfl,
  i168 := by kernel_rfl,
  i171 := by kernel_rfl,
  i173 := by kernel_rfl,
  i175 := by kernel_rfl,
  i210 := by kernel_rfl,
  i212 := by kernel_rfl,
  i232 := by kernel_rfl,
  i233 := by kernel_rfl,
  m15 := by kernel_rfl,
  m16 := by kernel_rfl,
  m17 := by kernel_rfl,
  m18 := by kernel_rfl,
  m19 := by kernel_rfl,
  c0 := by kernel_rfl,
  c2 := by kernel_rfl,
  c3 := by kernel_rfl,
  c4 := by kernel_rfl,
  c5 := by kernel_rfl,
  c9 := by kernel_rfl,
  c20 := by kernel_rfl,
  c21 := by kernel_rfl,
  c37 := by kernel_rfl,
  c46 := by kernel_rfl,
  c51 := by kernel_rfl,
  c53 := by kernel_rfl,
  c75 := by kernel_rfl,
  c76 := by kernel_rfl,
  c80 := by kernel_rfl,
  c85 := by kernel_rfl,
  c127 := by kernel_rfl,
  c143 := by kernel_rfl,
  c145 := by kernel_rfl,
  c167 := by kernel_rfl,
  c168 := by kernel_rfl,
  c171 := by kernel_rfl,
  c173 := by kernel_rfl,
  c175 := by kernel_rfl,
  c210 := by kernel_rfl,
  c212 := by kernel_rfl,
  c213 := by kernel_rfl,
  c232 := by kernel_rfl,
  c233 := by kernel_rfl }
-- written by shelflay.py for the seat YtdmpkgiijddcdaaGreatDoor
def hasPLay_ren : Go.Shelf.Ren := ⟨fun | 99 => 69 | 206 => 118 | n => n, fun | 9 => 9 | 4 => 4 | 3 => 3 | 20 => 20 | n => n, fun | n => n⟩
theorem hasPLay : Go.Proofs.Lays.n99 Tryz.prog hasPLay_ren := {
  mixed := by kernel_rfl,
  f99 := Tryz.func69.trans (congrArg some (by kernel_rfl)),
  f206 := Tryz.func118.trans (congrArg some (by kernel_rfl)),
  t3 := Tryz.underlying3,
  a3 := Tryz.isAgg3,
  z3 := Tryz.sizeOf3,
  v3 := Tryz.zeroValue3,
  t4 := Tryz.underlying4,
  a4 := Tryz.isAgg4,
  z4 := Tryz.sizeOf4,
  v4 := Tryz.zeroValue4,
  t9 := Tryz.underlying9,
  a9 := Tryz.isAgg9,
  z9 := Tryz.sizeOf9,
  v9 := Tryz.zeroValue9 }
-- written by shelflay.py for the seat YtdmpkgiijddcdaaGreatDoor
def trimPLay_ren : Go.Shelf.Ren := ⟨fun | 101 => 72 | 208 => 121 | 206 => 118 | n => n, fun | 9 => 9 | 4 => 4 | 3 => 3 | 20 => 20 | n => n, fun | n => n⟩
theorem trimPLay : Go.Proofs.Lays.n101 Tryz.prog trimPLay_ren := {
  mixed := by kernel_rfl,
  f101 := Tryz.func72.trans (congrArg some (by kernel_rfl)),
  f206 := Tryz.func118.trans (congrArg some (by kernel_rfl)),
  f208 := Tryz.func121.trans (congrArg some (by kernel_rfl)),
  t3 := Tryz.underlying3,
  a3 := Tryz.isAgg3,
  z3 := Tryz.sizeOf3,
  v3 := Tryz.zeroValue3,
  t4 := Tryz.underlying4,
  a4 := Tryz.isAgg4,
  z4 := Tryz.sizeOf4,
  v4 := Tryz.zeroValue4,
  t9 := Tryz.underlying9,
  a9 := Tryz.isAgg9,
  z9 := Tryz.sizeOf9,
  v9 := Tryz.zeroValue9 }

theorem tx_join (bk o c : Nat) (xs : List ByteArray) (sep : ByteArray) (w : World) (hcells : ∀ (j : Nat) x, xs[j]? = some x → w.cell? ⟨bk, o + j, none⟩ = some (.string x)) (hbk : bk < w.heap.size) (hN : xs.length ≤ 140737488355328) (hcap : xs.length ≤ c)
    (hlen : (Lib.join (xs.map (·.data.toList)) sep.data.toList).length ≤ 140737488355328) :
    Calls Tryz.prog 58 #[.slice (some ⟨bk, o, none⟩) xs.length c, .string sep] w fun e w' => e = .returned (.string ⟨(Lib.join (xs.map (·.data.toList)) sep.data.toList).toArray⟩) ∧ Below w.heap.size w w' :=
  Any.strings_Join joinLay joinLay_x bk o c xs sep w hcells hbk hN hcap hlen
theorem tx_itoa (n : Int) (h0 : -9223372036854775808 ≤ n) (h1 : n ≤ 9223372036854775807) (w : World) (htab : Lib.TabIs Tryz.prog w "internal/strconv.uint64pow10" .u64 Lib.pow10Tab) :
    Calls Tryz.prog 60 #[.int .i64 n] w fun e w' => e = .returned (.string ⟨(Lib.itoa n).toArray⟩) ∧ Below w.heap.size w w' :=
  (Any.strconv_Itoa itoaLay n h0 h1 w htab).mono fun e w' ⟨h, k, os, hw⟩ => ⟨h, by rw [hw]; exact Lib.below_grow _ w (Nat.le_refl _) k os⟩
/-- What the library's texts lean on where they are written: the length up to which a text is searched by bytes; the powers of ten. -/
structure TxP (w : World) : Prop where
  len : ∃ m, w.cell? ⟨4, 0, none⟩ = some (.int .i64 m)
  tab : Lib.TabIs Tryz.prog w "internal/strconv.uint64pow10" .u64 Lib.pow10Tab
theorem TxP.below {w w' : World} (h : TxP w) (hb : Below w.heap.size w w') : TxP w' where
  len := by obtain ⟨m, hm⟩ := h.len; exact ⟨m, cell_below hb hm⟩
  tab := Joins.tab_stays (g := 5) (by kernel_rfl) h.tab hb (Nat.le_refl _)
/-- And where they are read: two errors. -/
structure TxOk (w : World) : Prop extends TxP w where
  sy : ∃ tp p, w.var? Tryz.prog "strconv.ErrSyntax" = some #[.iface tp p]
  ra : ∃ tp p, w.var? Tryz.prog "strconv.ErrRange" = some #[.iface tp p]
theorem TxOk.below {w w' : World} (h : TxOk w) (hb : Below w.heap.size w w') : TxOk w' where
  toTxP := h.toTxP.below hb
  sy := by obtain ⟨tp, p, hm⟩ := h.sy; exact ⟨tp, p, Joins.var_stays (g := 2) (by kernel_rfl) hm hb (Nat.le_refl _)⟩
  ra := by obtain ⟨tp, p, hm⟩ := h.ra; exact ⟨tp, p, Joins.var_stays (g := 3) (by kernel_rfl) hm hb (Nat.le_refl _)⟩
theorem tx_replace (s old new : ByteArray) (w : World) (h : TxP w) (hs : s.size < 4294967281) (h1 : 1 ≤ old.size) (hlen : s.size + Lib.countB s old * new.size ≤ 140737488355328) :
    Calls Tryz.prog 67 #[.string s, .string old, .string new] w fun e w' => e = .returned (.string ⟨(Lib.replaceAll s.data.toList old.data.toList new.data.toList).toArray⟩) ∧ Below w.heap.size w w' := by
  obtain ⟨m, hm⟩ := h.len
  exact Any.strings_ReplaceAll replLay replLay_x s old new m w hs hm h1 hlen
/-- What Atoi answers: the number; or an error. -/
def AtoiR (s : ByteArray) (w : World) (e : Ending) (w' : World) : Prop := Below w.heap.size w w' ∧ ((∃ v, Lib.atoiAll s.data.toList = .ok v ∧ e = .returned (.tuple #[.int .i64 v, .nilIface])) ∨ ((∀ v, Lib.atoiAll s.data.toList ≠ .ok v) ∧ ∃ n tp p, e = .returned (.tuple #[.int .i64 n, .iface tp p])))
theorem tx_atoi (s : ByteArray) (w : World) (h : TxOk w) (hs : s.size ≤ 281474976710656) : Calls Tryz.prog 71 #[.string s] w (AtoiR s w) := by
  cases hq : Lib.atoiAll s.data.toList with
  | ok v =>
    refine (Any.strconv_Atoi_ok atoiLay s (by omega) v hq w).mono fun e w' ⟨he, hw⟩ => ⟨?_, .inl ⟨v, hq, he⟩⟩
    rcases hw with rfl | ⟨t, rfl⟩
    · exact Below.refl _ _
    · exact Lib.bytesWorld_below _ _ _
  | «syntax» =>
    obtain ⟨tp, p, hv⟩ := h.sy
    refine (Any.strconv_Atoi_syntax_var atoiLay s hs hq tp p w hv).mono fun e w' ⟨N, he, _, _, hb⟩ => ⟨hb, .inr ⟨fun v hv => (by rw [hq] at hv; cases hv), _, _, _, he⟩⟩
  | range =>
    obtain ⟨tp, p, hv⟩ := h.ra
    refine (Any.strconv_Atoi_range_var atoiLay s hs hq tp p w hv).mono fun e w' ⟨N, he, _, _, hb⟩ => ⟨hb, .inr ⟨fun v hv => (by rw [hq] at hv; cases hv), _, _, _, he⟩⟩
theorem tx_hasPrefix (s p : ByteArray) (w : World) : Calls Tryz.prog 69 #[.string s, .string p] w fun e w' => e = .returned (.bool (Lib.hasPrefix s.data.toList p.data.toList)) ∧ w' = w :=
  Any.strings_HasPrefix hasPLay s p w
theorem tx_trimPrefix (s p : ByteArray) (w : World) : Calls Tryz.prog 72 #[.string s, .string p] w fun e w' => e = .returned (.string ⟨(Lib.trimPrefix s.data.toList p.data.toList).toArray⟩) ∧ w' = w :=
  Any.strings_TrimPrefix trimPLay s p w
open Go

/-- Each quote twice. -/
def dbl : List UInt8 → List UInt8
  | [] => []
  | c :: l => if c = 39 then 39 :: 39 :: dbl l else c :: dbl l
theorem dbl_cons (c : UInt8) (l : List UInt8) : dbl (c :: l) = if c = 39 then 39 :: 39 :: dbl l else c :: dbl l := rfl
theorem dbl_append (a b : List UInt8) : dbl (a ++ b) = dbl a ++ dbl b := by
  induction a with
  | nil => rfl
  | cons c a ih =>
    show dbl (c :: (a ++ b)) = dbl (c :: a) ++ dbl b
    rw [dbl_cons, dbl_cons, ih]
    split <;> rfl
theorem dbl_none {a : List UInt8} (h : ∀ c ∈ a, c ≠ 39) : dbl a = a := by
  induction a with
  | nil => rfl
  | cons c a ih =>
    rw [dbl_cons, if_neg (h c (by simp)), ih fun x hx => h x (by simp [hx])]
theorem dbl_quote (l : List UInt8) : dbl (39 :: l) = 39 :: 39 :: dbl l := by
  rw [dbl_cons, if_pos rfl]
theorem dbl_len (l : List UInt8) : l.length ≤ (dbl l).length := by
  induction l with
  | nil => exact Nat.le_refl _
  | cons c l ih => rw [dbl_cons]; split <;> simp <;> omega
/-- A list has a first quote, or none. -/
theorem first_quote : ∀ l : List UInt8, (∀ c ∈ l, c ≠ 39) ∨ ∃ a r, l = a ++ 39 :: r ∧ ∀ c ∈ a, c ≠ 39
  | [] => .inl fun _ h => by cases h
  | c :: l => by
    by_cases hc : c = 39
    · exact .inr ⟨[], l, by rw [hc]; rfl, fun _ h => by cases h⟩
    · rcases first_quote l with h | ⟨a, r, rfl, h⟩
      · exact .inl fun x hx => by
          rcases List.mem_cons.1 hx with rfl | hx
          · exact hc
          · exact h x hx
      · exact .inr ⟨c :: a, r, rfl, fun x hx => by
          rcases List.mem_cons.1 hx with rfl | hx
          · exact hc
          · exact h x hx⟩
theorem occ_head_ne {s sub t : List UInt8} {i : Nat} (hs : sub = 39 :: t) (h : s[i]? ≠ some 39) : Lib.occAt s sub i = false := by
  cases hq : Lib.occAt s sub i with
  | false => rfl
  | true => exact absurd (Lib.occAt_head hs hq) h
theorem no_occ {a s t : List UInt8} (h : ∀ c ∈ a, c ≠ 39) : Lib.NoOcc (a ++ s) (39 :: t) a.length := fun j hj => by
  refine occ_head_ne rfl ?_
  rw [List.getElem?_append_left hj]
  intro e
  exact h _ (List.mem_of_getElem? e) rfl
theorem index_none_quote {a t : List UInt8} (h : ∀ c ∈ a, c ≠ 39) : Lib.index a (39 :: t) = -1 := by
  refine Lib.index_none fun j hj => occ_head_ne rfl ?_
  intro e
  exact h _ (List.mem_of_getElem? e) rfl
theorem index_quote1 {a r : List UInt8} (h : ∀ c ∈ a, c ≠ 39) : Lib.index (a ++ 39 :: r) [39] = a.length :=
  Lib.index_hit (no_occ h) (by simp) (by simp [Lib.occAt])
theorem index_quote2 {a r : List UInt8} (h : ∀ c ∈ a, c ≠ 39) : Lib.index (a ++ 39 :: 39 :: r) [39, 39] = a.length :=
  Lib.index_hit (no_occ h) (by simp) (by simp [Lib.occAt])
theorem drop_behind (a r : List UInt8) (c : UInt8) : (a ++ c :: r).drop (a.length + 1) = r := by simp
theorem drop_behind2 (a r : List UInt8) (c d : UInt8) : (a ++ c :: d :: r).drop (a.length + 2) = r := by simp
theorem doubled_k : ∀ (n : Nat) (s : List UInt8), s.length ≤ n → Lib.replaceK [39] [39, 39] (Lib.count s [39]) s = dbl s
  | n, s, hn => by
    rcases first_quote s with h | ⟨a, r, rfl, h⟩
    · rw [Lib.count_miss (index_none_quote h), dbl_none h]; rfl
    · cases n with
      | zero => simp at hn
      | succ n =>
        have hi := index_quote1 (r := r) h
        rw [Lib.count_hit (by simp) hi, Nat.add_comm, Lib.replaceK_hit _ _ _ _ _ hi]
        show (a ++ 39 :: r).take a.length ++ [39, 39] ++ Lib.replaceK [39] [39, 39] (Lib.count ((a ++ 39 :: r).drop (a.length + 1)) [39]) ((a ++ 39 :: r).drop (a.length + 1)) = _
        rw [drop_behind, doubled_k n r (by simp at hn; omega), List.take_left, dbl_append, dbl_none h, dbl_quote]
        simp
theorem replaceAll_eq {s old new : List UInt8} (hne : (old == new) = false) : Lib.replaceAll s old new = Lib.replaceK old new (Lib.count s old) s := by
  unfold Lib.replaceAll Lib.replace Lib.replaceNum
  rw [if_neg (by rw [hne]; simp), if_pos (.inl (by omega))]
/-- What the program doubles. -/
theorem doubled (s : List UInt8) : Lib.replaceAll s [39] [39, 39] = dbl s := by
  rw [replaceAll_eq (by decide), doubled_k s.length s (Nat.le_refl _)]
theorem halved_k : ∀ (n : Nat) (u : List UInt8), u.length ≤ n → Lib.replaceK [39, 39] [39] (Lib.count (dbl u) [39, 39]) (dbl u) = u
  | n, u, hn => by
    rcases first_quote u with h | ⟨a, r, rfl, h⟩
    · rw [dbl_none h, Lib.count_miss (index_none_quote h)]; rfl
    · cases n with
      | zero => simp at hn
      | succ n =>
        rw [dbl_append, dbl_none h, dbl_quote]
        have hi := index_quote2 (r := dbl r) h
        rw [Lib.count_hit (by simp) hi, Nat.add_comm, Lib.replaceK_hit _ _ _ _ _ hi]
        show (a ++ 39 :: 39 :: dbl r).take a.length ++ [39] ++ Lib.replaceK [39, 39] [39] (Lib.count ((a ++ 39 :: 39 :: dbl r).drop (a.length + 2)) [39, 39]) ((a ++ 39 :: 39 :: dbl r).drop (a.length + 2)) = _
        rw [drop_behind2, halved_k n r (by simp at hn; omega), List.take_left]
        simp
/-- What the program halves. -/
theorem halved (u : List UInt8) : Lib.replaceAll (dbl u) [39, 39] [39] = u := by
  rw [replaceAll_eq (by decide), halved_k u.length u (Nat.le_refl _)]
end Go.Proofs.YtdmpkgiijddcdaaGreatDoor
