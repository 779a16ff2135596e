/- ShelfP, RcO. -/
import Derived.Test.YthacjealoomioaaGreatDoorProg
import Derived.Test.YthacjealoomioaaGreatDoorZGd
import Derived.Shelf.SlSortCmp.NoneTotal
import Derived.Shelf.SlGeneric
import Derived.Ground.SlsfProg
import Derived.Ground.Names7Prog
import Derived.Ground.NamesProg
import Derived.Shelf.Spec.TrailingZeros
import Derived.Shelf.Strconv.AppendIntPublic10
import Derived.Shelf.Strconv.ErrVarParseInt
/-
  DERIVED: THE SHELF's CONTRACTS AT THIS DUMP, IN PLAIN WORDS (tools/lay-plain.mjs out of 'YthacjealoomioaaGreatDoorShelf.lean', which tools/lay-shelf.mjs wrote): THE SAME DECLARATIONS UNDER THE SAME NAMES: 'import', 'namespace', 'open', 'def', 'theorem' AND NOTHING ELSE: no command of the shelf's: FOR A HAND-IN. Each laying: the table of numbers ('.._ren') and one theorem, a field a fact of the dump's own or the kernel's comparison; each contract: ONE APPLICATION.
-/
namespace Go.Proofs
open Go.Shelf
def Tryz.sortInt_ren : Go.Shelf.Ren := ⟨fun | 6 => 87 | 15 => 115 | 14 => 114 | 28 => 138 | 29 => 139 | 20 => 123 | 21 => 131 | 22 => 132 | 23 => 133 | 24 => 134 | 25 => 135 | 26 => 136 | 27 => 137 | 46 => 151 | 47 => 152 | 48 => 153 | 49 => 154 | 50 => 155 | 57 => 164 | n => n, fun | 22 => 24 | 24 => 3 | 25 => 135 | 3 => 3 | 39 => 174 | 0 => 0 | 53 => 195 | 55 => 45 | 4 => 4 | 46 => 189 | 45 => 188 | 50 => 109 | 5 => 5 | 9 => 9 | 66 => 205 | 70 => 209 | 76 => 216 | 77 => 217 | n => n, fun | n => n⟩
theorem Tryz.sortInt : Go.Proofs.SlLaysF.n6 Tryz.prog Tryz.sortInt_ren := {
  mixed := by kernel_rfl
  f6 := ⟨Tryz.f87.name, by decide, Tryz.func87.trans (congrArg some (by kernel_rfl))⟩
  f14 := ⟨Tryz.f114.name, by decide, Tryz.func114.trans (congrArg some (by kernel_rfl))⟩
  f15 := Tryz.func115.trans (congrArg some (by kernel_rfl))
  f20 := ⟨Tryz.f123.name, by decide, Tryz.func123.trans (congrArg some (by kernel_rfl))⟩
  f21 := ⟨Tryz.f131.name, by decide, Tryz.func131.trans (congrArg some (by kernel_rfl))⟩
  f22 := ⟨Tryz.f132.name, by decide, Tryz.func132.trans (congrArg some (by kernel_rfl))⟩
  f23 := ⟨Tryz.f133.name, by decide, Tryz.func133.trans (congrArg some (by kernel_rfl))⟩
  f24 := ⟨Tryz.f134.name, by decide, Tryz.func134.trans (congrArg some (by kernel_rfl))⟩
  f25 := ⟨Tryz.f135.name, by decide, Tryz.func135.trans (congrArg some (by kernel_rfl))⟩
  f26 := ⟨Tryz.f136.name, by decide, Tryz.func136.trans (congrArg some (by kernel_rfl))⟩
  f27 := ⟨Tryz.f137.name, by decide, Tryz.func137.trans (congrArg some (by kernel_rfl))⟩
  f28 := Tryz.func138.trans (congrArg some (by kernel_rfl))
  f29 := Tryz.func139.trans (congrArg some (by kernel_rfl))
  f46 := ⟨Tryz.f151.name, by decide, Tryz.func151.trans (congrArg some (by kernel_rfl))⟩
  f47 := Tryz.func152.trans (congrArg some (by kernel_rfl))
  f48 := Tryz.func153.trans (congrArg some (by kernel_rfl))
  f49 := ⟨Tryz.f154.name, by decide, Tryz.func154.trans (congrArg some (by kernel_rfl))⟩
  f50 := ⟨Tryz.f155.name, by decide, Tryz.func155.trans (congrArg some (by kernel_rfl))⟩
  f57 := ⟨Tryz.f164.name, by decide, Tryz.func164.trans (congrArg some (by kernel_rfl))⟩
  t0 := Tryz.underlying0
  a0 := Tryz.isAgg0
  z0 := Tryz.sizeOf0
  v0 := Tryz.zeroValue0
  t3 := Tryz.underlying3
  a3 := Tryz.isAgg3
  z3 := Tryz.sizeOf3
  v3 := Tryz.zeroValue3
  t4 := Tryz.underlying4
  a4 := Tryz.isAgg4
  z4 := Tryz.sizeOf4
  v4 := Tryz.zeroValue4
  t5 := Tryz.underlying5
  a5 := Tryz.isAgg5
  z5 := Tryz.sizeOf5
  v5 := Tryz.zeroValue5
  t9 := Tryz.underlying9
  a9 := Tryz.isAgg9
  z9 := Tryz.sizeOf9
  v9 := Tryz.zeroValue9
  t22 := Tryz.underlying24
  a22 := Tryz.isAgg24
  z22 := Tryz.sizeOf24
  v22 := Tryz.zeroValue24
  a24 := Tryz.isAgg3
  z24 := Tryz.sizeOf3
  t25 := Tryz.underlying135
  a25 := Tryz.isAgg135
  z25 := Tryz.sizeOf135
  v25 := Tryz.zeroValue135
  t39 := Tryz.underlying174
  a39 := Tryz.isAgg174
  z39 := Tryz.sizeOf174
  v39 := Tryz.zeroValue174
  t45 := Tryz.underlying188
  a45 := Tryz.isAgg188
  z45 := Tryz.sizeOf188
  v45 := Tryz.zeroValue188
  t46 := Tryz.underlying189
  a46 := Tryz.isAgg189
  z46 := Tryz.sizeOf189
  v46 := Tryz.zeroValue189
  t50 := Tryz.underlying109
  a50 := Tryz.isAgg109
  z50 := Tryz.sizeOf109
  v50 := Tryz.zeroValue109
  t53 := Tryz.underlying195
  a53 := Tryz.isAgg195
  z53 := Tryz.sizeOf195
  v53 := Tryz.zeroValue195
  t55 := Tryz.underlying45
  a55 := Tryz.isAgg45
  z55 := Tryz.sizeOf45
  v55 := Tryz.zeroValue45
  t66 := Tryz.underlying205
  a66 := Tryz.isAgg205
  z66 := Tryz.sizeOf205
  v66 := Tryz.zeroValue205
  t70 := Tryz.underlying209
  a70 := Tryz.isAgg209
  z70 := Tryz.sizeOf209
  v70 := Tryz.zeroValue209
  t76 := Tryz.underlying216
  a76 := Tryz.isAgg216
  z76 := Tryz.sizeOf216
  v76 := Tryz.zeroValue216
  t77 := Tryz.underlying217
  a77 := Tryz.isAgg217
  z77 := Tryz.sizeOf217
  v77 := Tryz.zeroValue217 }
def Tryz.sortInt0_ren : Go.Shelf.Ren := ⟨fun | 6 => 87 | 15 => 115 | 14 => 114 | 28 => 138 | 29 => 139 | 20 => 123 | 21 => 131 | 22 => 132 | 23 => 133 | 24 => 134 | 25 => 135 | 26 => 136 | 27 => 137 | 46 => 151 | 47 => 152 | 48 => 153 | 49 => 154 | 50 => 155 | 57 => 164 | n => n, fun | 22 => 24 | 24 => 3 | 25 => 135 | 3 => 3 | 39 => 174 | 0 => 0 | 53 => 195 | 55 => 45 | 4 => 4 | 46 => 189 | 45 => 188 | 50 => 109 | 5 => 5 | 9 => 9 | 66 => 205 | 70 => 209 | 76 => 216 | 77 => 217 | n => n, fun | n => n⟩
theorem Tryz.sortInt0 : Go.Proofs.SlLaysF0.n6 Tryz.prog Tryz.sortInt0_ren := {
  mixed := by kernel_rfl
  f6 := ⟨Tryz.f87.name, by decide, Tryz.func87.trans (congrArg some (by kernel_rfl))⟩
  f14 := ⟨Tryz.f114.name, by decide, Tryz.func114.trans (congrArg some (by kernel_rfl))⟩
  f15 := Tryz.func115.trans (congrArg some (by kernel_rfl))
  f20 := ⟨Tryz.f123.name, by decide, Tryz.func123.trans (congrArg some (by kernel_rfl))⟩
  f21 := ⟨Tryz.f131.name, by decide, Tryz.func131.trans (congrArg some (by kernel_rfl))⟩
  f22 := ⟨Tryz.f132.name, by decide, Tryz.func132.trans (congrArg some (by kernel_rfl))⟩
  f23 := ⟨Tryz.f133.name, by decide, Tryz.func133.trans (congrArg some (by kernel_rfl))⟩
  f24 := ⟨Tryz.f134.name, by decide, Tryz.func134.trans (congrArg some (by kernel_rfl))⟩
  f25 := ⟨Tryz.f135.name, by decide, Tryz.func135.trans (congrArg some (by kernel_rfl))⟩
  f26 := ⟨Tryz.f136.name, by decide, Tryz.func136.trans (congrArg some (by kernel_rfl))⟩
  f27 := ⟨Tryz.f137.name, by decide, Tryz.func137.trans (congrArg some (by kernel_rfl))⟩
  f28 := Tryz.func138.trans (congrArg some (by kernel_rfl))
  f29 := Tryz.func139.trans (congrArg some (by kernel_rfl))
  f46 := ⟨Tryz.f151.name, by decide, Tryz.func151.trans (congrArg some (by kernel_rfl))⟩
  f47 := Tryz.func152.trans (congrArg some (by kernel_rfl))
  f48 := Tryz.func153.trans (congrArg some (by kernel_rfl))
  f49 := ⟨Tryz.f154.name, by decide, Tryz.func154.trans (congrArg some (by kernel_rfl))⟩
  f50 := ⟨Tryz.f155.name, by decide, Tryz.func155.trans (congrArg some (by kernel_rfl))⟩
  f57 := ⟨Tryz.f164.name, by decide, Tryz.func164.trans (congrArg some (by kernel_rfl))⟩
  t0 := Tryz.underlying0
  a0 := Tryz.isAgg0
  z0 := Tryz.sizeOf0
  v0 := Tryz.zeroValue0
  t3 := Tryz.underlying3
  a3 := Tryz.isAgg3
  z3 := Tryz.sizeOf3
  v3 := Tryz.zeroValue3
  t4 := Tryz.underlying4
  a4 := Tryz.isAgg4
  z4 := Tryz.sizeOf4
  v4 := Tryz.zeroValue4
  t5 := Tryz.underlying5
  a5 := Tryz.isAgg5
  z5 := Tryz.sizeOf5
  v5 := Tryz.zeroValue5
  t9 := Tryz.underlying9
  a9 := Tryz.isAgg9
  z9 := Tryz.sizeOf9
  v9 := Tryz.zeroValue9
  t22 := Tryz.underlying24
  a22 := Tryz.isAgg24
  z22 := Tryz.sizeOf24
  v22 := Tryz.zeroValue24
  t25 := Tryz.underlying135
  a25 := Tryz.isAgg135
  z25 := Tryz.sizeOf135
  v25 := Tryz.zeroValue135
  t39 := Tryz.underlying174
  a39 := Tryz.isAgg174
  z39 := Tryz.sizeOf174
  v39 := Tryz.zeroValue174
  t45 := Tryz.underlying188
  a45 := Tryz.isAgg188
  z45 := Tryz.sizeOf188
  v45 := Tryz.zeroValue188
  t46 := Tryz.underlying189
  a46 := Tryz.isAgg189
  z46 := Tryz.sizeOf189
  v46 := Tryz.zeroValue189
  t50 := Tryz.underlying109
  a50 := Tryz.isAgg109
  z50 := Tryz.sizeOf109
  v50 := Tryz.zeroValue109
  t53 := Tryz.underlying195
  a53 := Tryz.isAgg195
  z53 := Tryz.sizeOf195
  v53 := Tryz.zeroValue195
  t55 := Tryz.underlying45
  a55 := Tryz.isAgg45
  z55 := Tryz.sizeOf45
  v55 := Tryz.zeroValue45
  t66 := Tryz.underlying205
  a66 := Tryz.isAgg205
  z66 := Tryz.sizeOf205
  v66 := Tryz.zeroValue205
  t70 := Tryz.underlying209
  a70 := Tryz.isAgg209
  z70 := Tryz.sizeOf209
  v70 := Tryz.zeroValue209
  t76 := Tryz.underlying216
  a76 := Tryz.isAgg216
  z76 := Tryz.sizeOf216
  v76 := Tryz.zeroValue216
  t77 := Tryz.underlying217
  a77 := Tryz.isAgg217
  z77 := Tryz.sizeOf217
  v77 := Tryz.zeroValue217 }
def Tryz.tz_ren : Go.Shelf.Ren := ⟨fun | 27 => 141 | 28 => 156 | 29 => 157 | n => n, fun | 25 => 174 | 3 => 3 | 27 => 195 | 22 => 45 | 4 => 4 | 53 => 219 | 0 => 0 | 5 => 5 | 54 => 220 | n => n, fun | 0 => 3 | 1 => 4 | n => n⟩
theorem Tryz.tz : Go.Proofs.Lays7.n27 Tryz.prog Tryz.tz_ren := {
  mixed := by kernel_rfl
  f27 := Tryz.func141.trans (congrArg some (by kernel_rfl))
  f28 := Tryz.func156.trans (congrArg some (by kernel_rfl))
  f29 := Tryz.func157.trans (congrArg some (by kernel_rfl))
  t0 := Tryz.underlying0
  a0 := Tryz.isAgg0
  z0 := Tryz.sizeOf0
  v0 := Tryz.zeroValue0
  i0 := by kernel_rfl
  t3 := Tryz.underlying3
  a3 := Tryz.isAgg3
  z3 := Tryz.sizeOf3
  v3 := Tryz.zeroValue3
  i3 := by kernel_rfl
  t4 := Tryz.underlying4
  a4 := Tryz.isAgg4
  z4 := Tryz.sizeOf4
  v4 := Tryz.zeroValue4
  i4 := by kernel_rfl
  t5 := Tryz.underlying5
  a5 := Tryz.isAgg5
  z5 := Tryz.sizeOf5
  v5 := Tryz.zeroValue5
  i5 := by kernel_rfl
  t22 := Tryz.underlying45
  a22 := Tryz.isAgg45
  z22 := Tryz.sizeOf45
  v22 := Tryz.zeroValue45
  i22 := by kernel_rfl
  t25 := Tryz.underlying174
  a25 := Tryz.isAgg174
  z25 := Tryz.sizeOf174
  v25 := Tryz.zeroValue174
  i25 := by kernel_rfl
  t27 := Tryz.underlying195
  a27 := Tryz.isAgg195
  z27 := Tryz.sizeOf195
  v27 := Tryz.zeroValue195
  i27 := by kernel_rfl
  t53 := Tryz.underlying219
  a53 := Tryz.isAgg219
  z53 := Tryz.sizeOf219
  v53 := Tryz.zeroValue219
  i53 := by kernel_rfl
  t54 := Tryz.underlying220
  a54 := Tryz.isAgg220
  z54 := Tryz.sizeOf220
  g0 := by kernel_rfl
  g1 := by kernel_rfl }
def Tryz.appInt_ren : Go.Shelf.Ren := ⟨fun | 176 => 57 | 249 => 86 | 288 => 113 | 283 => 127 | 284 => 128 | 285 => 129 | 286 => 130 | 129 => 139 | 317 => 148 | 318 => 149 | 319 => 150 | 320 => 141 | 337 => 156 | 338 => 157 | n => n, fun | 37 => 56 | 2 => 2 | 3 => 3 | 53 => 45 | 4 => 4 | 9 => 9 | 171 => 183 | 0 => 0 | 173 => 186 | 212 => 203 | 51 => 195 | 5 => 5 | 20 => 20 | 213 => 204 | 46 => 174 | 232 => 219 | 233 => 220 | n => n, fun | 17 => 0 | 18 => 3 | 19 => 4 | n => n⟩
theorem Tryz.appInt : Go.Proofs.LaysM.n176 Tryz.prog Tryz.appInt_ren := {
  mixed := by kernel_rfl
  f129 := Tryz.func139.trans (congrArg some (by kernel_rfl))
  f176 := Tryz.func57.trans (congrArg some (by kernel_rfl))
  f249 := Tryz.func86.trans (congrArg some (by kernel_rfl))
  f283 := Tryz.func127.trans (congrArg some (by kernel_rfl))
  f284 := Tryz.func128.trans (congrArg some (by kernel_rfl))
  f285 := Tryz.func129.trans (congrArg some (by kernel_rfl))
  f286 := Tryz.func130.trans (congrArg some (by kernel_rfl))
  f288 := Tryz.func113.trans (congrArg some (by kernel_rfl))
  f317 := Tryz.func148.trans (congrArg some (by kernel_rfl))
  f318 := Tryz.func149.trans (congrArg some (by kernel_rfl))
  f319 := Tryz.func150.trans (congrArg some (by kernel_rfl))
  f320 := Tryz.func141.trans (congrArg some (by kernel_rfl))
  f337 := Tryz.func156.trans (congrArg some (by kernel_rfl))
  f338 := Tryz.func157.trans (congrArg some (by kernel_rfl))
  t0 := Tryz.underlying0
  a0 := Tryz.isAgg0
  z0 := Tryz.sizeOf0
  v0 := Tryz.zeroValue0
  t2 := Tryz.underlying2
  a2 := Tryz.isAgg2
  z2 := Tryz.sizeOf2
  v2 := Tryz.zeroValue2
  t3 := Tryz.underlying3
  a3 := Tryz.isAgg3
  z3 := Tryz.sizeOf3
  v3 := Tryz.zeroValue3
  t4 := Tryz.underlying4
  a4 := Tryz.isAgg4
  z4 := Tryz.sizeOf4
  v4 := Tryz.zeroValue4
  t5 := Tryz.underlying5
  a5 := Tryz.isAgg5
  z5 := Tryz.sizeOf5
  v5 := Tryz.zeroValue5
  t9 := Tryz.underlying9
  a9 := Tryz.isAgg9
  z9 := Tryz.sizeOf9
  v9 := Tryz.zeroValue9
  t20 := Tryz.underlying20
  a20 := Tryz.isAgg20
  z20 := Tryz.sizeOf20
  v20 := Tryz.zeroValue20
  t37 := Tryz.underlying56
  a37 := Tryz.isAgg56
  z37 := Tryz.sizeOf56
  v37 := Tryz.zeroValue56
  t46 := Tryz.underlying174
  a46 := Tryz.isAgg174
  z46 := Tryz.sizeOf174
  v46 := Tryz.zeroValue174
  t51 := Tryz.underlying195
  a51 := Tryz.isAgg195
  z51 := Tryz.sizeOf195
  v51 := Tryz.zeroValue195
  t53 := Tryz.underlying45
  a53 := Tryz.isAgg45
  z53 := Tryz.sizeOf45
  v53 := Tryz.zeroValue45
  t171 := Tryz.underlying183
  a171 := Tryz.isAgg183
  z171 := Tryz.sizeOf183
  v171 := Tryz.zeroValue183
  t173 := Tryz.underlying186
  a173 := Tryz.isAgg186
  z173 := Tryz.sizeOf186
  v173 := Tryz.zeroValue186
  t212 := Tryz.underlying203
  a212 := Tryz.isAgg203
  z212 := Tryz.sizeOf203
  v212 := Tryz.zeroValue203
  t213 := Tryz.underlying204
  a213 := Tryz.isAgg204
  z213 := Tryz.sizeOf204
  t232 := Tryz.underlying219
  a232 := Tryz.isAgg219
  z232 := Tryz.sizeOf219
  v232 := Tryz.zeroValue219
  t233 := Tryz.underlying220
  a233 := Tryz.isAgg220
  z233 := Tryz.sizeOf220
  v233 := Tryz.zeroValue220
  g17 := by kernel_rfl
  g18 := by kernel_rfl
  g19 := by kernel_rfl
  i0 := by kernel_rfl
  i2 := by kernel_rfl
  i3 := by kernel_rfl
  i4 := by kernel_rfl
  i5 := by kernel_rfl
  i9 := by kernel_rfl
  i20 := by kernel_rfl
  i37 := by kernel_rfl
  i46 := by kernel_rfl
  i51 := by kernel_rfl
  i53 := by kernel_rfl
  i171 := by kernel_rfl
  i173 := by kernel_rfl
  i212 := by kernel_rfl
  i232 := by kernel_rfl
  i233 := by kernel_rfl
  m17 := by kernel_rfl
  m18 := by kernel_rfl
  m19 := by kernel_rfl }
def Tryz.parInt_ren : Go.Shelf.Ren := ⟨fun | 174 => 109 | 247 => 121 | 245 => 122 | 287 => 142 | 279 => 143 | 280 => 144 | 281 => 145 | 282 => 146 | 321 => 158 | 322 => 159 | 316 => 160 | 171 => 162 | 205 => 161 | 243 => 165 | 246 => 166 | 283 => 127 | 284 => 128 | 285 => 129 | 286 => 130 | 129 => 139 | 317 => 148 | 318 => 149 | 319 => 150 | 320 => 141 | 337 => 156 | 338 => 157 | n => n, fun | 9 => 9 | 3 => 3 | 2 => 2 | 75 => 166 | 85 => 167 | 4 => 4 | 167 => 196 | 5 => 5 | 53 => 45 | 175 => 197 | 46 => 174 | 168 => 199 | 37 => 56 | 0 => 0 | 210 => 214 | 21 => 21 | 127 => 221 | 145 => 224 | 143 => 222 | 171 => 183 | 173 => 186 | 212 => 203 | 51 => 195 | 20 => 20 | 213 => 204 | 232 => 219 | 233 => 220 | 80 => 226 | n => n, fun | 15 => 1 | 16 => 2 | 17 => 0 | 18 => 3 | 19 => 4 | n => n⟩
theorem Tryz.parInt : Go.Proofs.LaysC.n174 Tryz.prog Tryz.parInt_ren := {
  mixed := by kernel_rfl
  f129 := Tryz.func139.trans (congrArg some (by kernel_rfl))
  f171 := Tryz.func162.trans (congrArg some (by kernel_rfl))
  f174 := Tryz.func109.trans (congrArg some (by kernel_rfl))
  f205 := Tryz.func161.trans (congrArg some (by kernel_rfl))
  f243 := Tryz.func165.trans (congrArg some (by kernel_rfl))
  f245 := Tryz.func122.trans (congrArg some (by kernel_rfl))
  f246 := Tryz.func166.trans (congrArg some (by kernel_rfl))
  f247 := Tryz.func121.trans (congrArg some (by kernel_rfl))
  f279 := Tryz.func143.trans (congrArg some (by kernel_rfl))
  f280 := Tryz.func144.trans (congrArg some (by kernel_rfl))
  f281 := Tryz.func145.trans (congrArg some (by kernel_rfl))
  f282 := Tryz.func146.trans (congrArg some (by kernel_rfl))
  f283 := Tryz.func127.trans (congrArg some (by kernel_rfl))
  f284 := Tryz.func128.trans (congrArg some (by kernel_rfl))
  f285 := Tryz.func129.trans (congrArg some (by kernel_rfl))
  f286 := Tryz.func130.trans (congrArg some (by kernel_rfl))
  f287 := Tryz.func142.trans (congrArg some (by kernel_rfl))
  f316 := Tryz.func160.trans (congrArg some (by kernel_rfl))
  f317 := Tryz.func148.trans (congrArg some (by kernel_rfl))
  f318 := Tryz.func149.trans (congrArg some (by kernel_rfl))
  f319 := Tryz.func150.trans (congrArg some (by kernel_rfl))
  f320 := Tryz.func141.trans (congrArg some (by kernel_rfl))
  f321 := Tryz.func158.trans (congrArg some (by kernel_rfl))
  f322 := Tryz.func159.trans (congrArg some (by kernel_rfl))
  f337 := Tryz.func156.trans (congrArg some (by kernel_rfl))
  f338 := Tryz.func157.trans (congrArg some (by kernel_rfl))
  t0 := Tryz.underlying0
  a0 := Tryz.isAgg0
  z0 := Tryz.sizeOf0
  v0 := Tryz.zeroValue0
  t2 := Tryz.underlying2
  a2 := Tryz.isAgg2
  z2 := Tryz.sizeOf2
  v2 := Tryz.zeroValue2
  t3 := Tryz.underlying3
  a3 := Tryz.isAgg3
  z3 := Tryz.sizeOf3
  v3 := Tryz.zeroValue3
  t4 := Tryz.underlying4
  a4 := Tryz.isAgg4
  z4 := Tryz.sizeOf4
  v4 := Tryz.zeroValue4
  t5 := Tryz.underlying5
  a5 := Tryz.isAgg5
  z5 := Tryz.sizeOf5
  v5 := Tryz.zeroValue5
  t9 := Tryz.underlying9
  a9 := Tryz.isAgg9
  z9 := Tryz.sizeOf9
  v9 := Tryz.zeroValue9
  t20 := Tryz.underlying20
  a20 := Tryz.isAgg20
  z20 := Tryz.sizeOf20
  v20 := Tryz.zeroValue20
  t21 := Tryz.underlying21
  a21 := Tryz.isAgg21
  z21 := Tryz.sizeOf21
  v21 := Tryz.zeroValue21
  t37 := Tryz.underlying56
  a37 := Tryz.isAgg56
  z37 := Tryz.sizeOf56
  v37 := Tryz.zeroValue56
  t46 := Tryz.underlying174
  a46 := Tryz.isAgg174
  z46 := Tryz.sizeOf174
  v46 := Tryz.zeroValue174
  t51 := Tryz.underlying195
  a51 := Tryz.isAgg195
  z51 := Tryz.sizeOf195
  v51 := Tryz.zeroValue195
  t53 := Tryz.underlying45
  a53 := Tryz.isAgg45
  z53 := Tryz.sizeOf45
  v53 := Tryz.zeroValue45
  t75 := Tryz.underlying166
  a75 := Tryz.isAgg166
  z75 := Tryz.sizeOf166
  v75 := Tryz.zeroValue166
  t85 := Tryz.underlying167
  a85 := Tryz.isAgg167
  z85 := Tryz.sizeOf167
  v85 := Tryz.zeroValue167
  t127 := Tryz.underlying221
  a127 := Tryz.isAgg221
  z127 := Tryz.sizeOf221
  v127 := Tryz.zeroValue221
  t143 := Tryz.underlying222
  a143 := Tryz.isAgg222
  z143 := Tryz.sizeOf222
  v143 := Tryz.zeroValue222
  t145 := Tryz.underlying224
  a145 := Tryz.isAgg224
  z145 := Tryz.sizeOf224
  v145 := Tryz.zeroValue224
  t167 := Tryz.underlying196
  a167 := Tryz.isAgg196
  z167 := Tryz.sizeOf196
  v167 := Tryz.zeroValue196
  t168 := Tryz.underlying199
  a168 := Tryz.isAgg199
  z168 := Tryz.sizeOf199
  v168 := Tryz.zeroValue199
  t171 := Tryz.underlying183
  a171 := Tryz.isAgg183
  z171 := Tryz.sizeOf183
  v171 := Tryz.zeroValue183
  t173 := Tryz.underlying186
  a173 := Tryz.isAgg186
  z173 := Tryz.sizeOf186
  v173 := Tryz.zeroValue186
  t175 := Tryz.underlying197
  a175 := Tryz.isAgg197
  z175 := Tryz.sizeOf197
  v175 := Tryz.zeroValue197
  t210 := Tryz.underlying214
  a210 := Tryz.isAgg214
  z210 := Tryz.sizeOf214
  v210 := Tryz.zeroValue214
  t212 := Tryz.underlying203
  a212 := Tryz.isAgg203
  z212 := Tryz.sizeOf203
  v212 := Tryz.zeroValue203
  t213 := Tryz.underlying204
  a213 := Tryz.isAgg204
  z213 := Tryz.sizeOf204
  t232 := Tryz.underlying219
  a232 := Tryz.isAgg219
  z232 := Tryz.sizeOf219
  v232 := Tryz.zeroValue219
  t233 := Tryz.underlying220
  a233 := Tryz.isAgg220
  z233 := Tryz.sizeOf220
  v233 := Tryz.zeroValue220
  g15 := by kernel_rfl
  g16 := by kernel_rfl
  g17 := by kernel_rfl
  g18 := by kernel_rfl
  g19 := by kernel_rfl
  t80 := Tryz.underlying226
  a80 := Tryz.isAgg226
  z80 := Tryz.sizeOf226
  v80 := Tryz.zeroValue226
  i0 := by kernel_rfl
  i2 := by kernel_rfl
  i3 := by kernel_rfl
  i4 := by kernel_rfl
  i5 := by kernel_rfl
  i9 := by kernel_rfl
  i20 := by kernel_rfl
  i21 := by kernel_rfl
  i37 := by kernel_rfl
  i46 := by kernel_rfl
  i51 := by kernel_rfl
  i53 := by kernel_rfl
  i75 := by kernel_rfl
  i80 := by kernel_rfl
  i85 := by kernel_rfl
  i127 := by kernel_rfl
  i143 := by kernel_rfl
  i145 := by kernel_rfl
  i167 := by kernel_rfl
  i168 := by kernel_rfl
  i171 := by kernel_rfl
  i173 := by kernel_rfl
  i175 := by kernel_rfl
  i210 := by kernel_rfl
  i212 := by kernel_rfl
  i232 := by kernel_rfl
  i233 := by kernel_rfl
  m15 := by kernel_rfl
  m16 := by kernel_rfl
  m17 := by kernel_rfl
  m18 := by kernel_rfl
  m19 := by kernel_rfl
  c0 := by kernel_rfl
  c2 := by kernel_rfl
  c3 := by kernel_rfl
  c4 := by kernel_rfl
  c5 := by kernel_rfl
  c9 := by kernel_rfl
  c20 := by kernel_rfl
  c21 := by kernel_rfl
  c37 := by kernel_rfl
  c46 := by kernel_rfl
  c51 := by kernel_rfl
  c53 := by kernel_rfl
  c75 := by kernel_rfl
  c80 := by kernel_rfl
  c85 := by kernel_rfl
  c127 := by kernel_rfl
  c143 := by kernel_rfl
  c145 := by kernel_rfl
  c167 := by kernel_rfl
  c168 := by kernel_rfl
  c171 := by kernel_rfl
  c173 := by kernel_rfl
  c175 := by kernel_rfl
  c210 := by kernel_rfl
  c212 := by kernel_rfl
  c213 := by kernel_rfl
  c232 := by kernel_rfl
  c233 := by kernel_rfl }
end Go.Proofs

/- The library's sort of a row of numbers by a function of the program's. -/
namespace Go.Proofs.YthacjealoomioaaGreatDoor
set_option linter.unusedVariables false
set_option linter.unusedSimpArgs false
open Go.RowKit Go.Shelf Go.Lib Go.Sort

theorem owns_blk {w : World} {b : Nat} {T : TypeId} {cs : List Value} (h : Blk w b T cs) (hl : cs.length ≤ 1000000000) : w.ownsRow 0 T 1 (.slice (some ⟨b, 0, none⟩) cs.length cs.length) cs.length cs :=
  ⟨by simp, .inr ⟨b, cs.length, cs.toArray, rfl, Nat.zero_le _, h, Nat.le_refl _, by unfold maxLen; omega, by simp, by simp⟩⟩

def encS (L : List Nat) (x : {x // x ∈ L}) : Value := .int .i64 ((x.1 : Nat) : Int)

theorem mod_sorted1 {α : Type} [Inhabited α] {enc : α → Value} (w : World) (g n : Nat) (d : Array α) (os : Array Obj) : Mod (fun x => x = g) w (sortWorld enc w g 0 n d os) := by
  refine ⟨rfl, rfl, rfl, ?_, fun x hx hne => ?_⟩
  · unfold sortWorld grow; simp [Go.Sort.ahead]
  · unfold sortWorld grow putRow mapBlock
    simp only
    rw [Array.getElem?_append_left (by simpa [Go.Sort.ahead] using hx), Array.getElem?_modify, if_neg (fun e => hne e.symm)]
    rfl

/-- Behind the sort the row is the program's own, and holds what the sort laid. -/
theorem owns_sorted1 {α : Type} [Inhabited α] {enc : α → Value} {w : World} {e : TypeId} {g n cap : Nat} {xs : List Value} (h : w.ownsRow 0 e 1 (.slice (some ⟨g, 0, none⟩) n cap) n xs) (l' : List α)
    (hl : l'.length = n) (q : Nat) (os : Array Obj) : (sortWorld enc w g 0 q l'.toArray os).ownsRow 0 e 1 (.slice (some ⟨g, 0, none⟩) n cap) n (l'.map enc) := by
  refine ⟨by simp [hl], ?_⟩
  rcases h.2 with ⟨h', _⟩ | ⟨g', cap', cur, h', hb, hg, hnc, hcm, hs, htake⟩
  · simp at h'
  · simp only [Value.slice.injEq, Option.some.injEq, Addr.mk.injEq, and_true, true_and] at h'
    obtain ⟨rfl, rfl⟩ := h'
    have hlt : g < w.heap.size := (Array.getElem?_eq_some_iff.1 hg).1
    refine .inr ⟨g, cap, putCells enc 0 l'.toArray cur, rfl, hb, ?_, by omega, hcm, by simp [putCells, hs], ?_⟩
    · unfold sortWorld grow putRow mapBlock
      simp only
      rw [Array.getElem?_append_left (by simpa [Go.Sort.ahead] using hlt), Array.getElem?_modify, if_pos rfl]
      have : (Go.Sort.ahead w q).heap[g]? = some (Obj.cells cur e (0, 0)) := hg
      rw [this]; rfl
    · apply List.ext_getElem?
      intro j
      rw [List.getElem?_take]
      by_cases hj : j < n * 1
      · have hj' : j < l'.length := by omega
        have hjc : j < cur.size := by omega
        rw [if_pos hj, List.getElem?_map, List.getElem?_eq_getElem hj']
        simp [putCells, Array.getElem?_mapIdx, hjc, hj']
      · rw [if_neg hj, List.getElem?_eq_none (by simp; omega)]

set_option maxHeartbeats 1000000 in
theorem sortN_ok (w : World) (g n cap : Nat) (L : List Nat) (hown : w.ownsRow 0 3 1 (.slice (some ⟨g, 0, none⟩) n cap) n (natV L)) (hL : L.length = n) (h0 : 0 < n) (hn : n ≤ 1000000000)
    (R : Nat → Nat → Prop) [DecidableRel R] (irr : ∀ a, ¬ R a a) (tr : ∀ a b c, R a b → R b c → R a c) (tot : ∀ x ∈ L, ∀ y ∈ L, ¬ R x y → ¬ R y x → x = y)
    (cf : Nat → Nat → Int) (hcf : ∀ x ∈ L, ∀ y ∈ L, cf x y < 0 ↔ R x y) (fk : Nat) (cb : Array Value) (eg : ∀ args w, (callFunc fk args).run Tryz.prog w = .ok (.enter fk args) w)
    (hcmp : ∀ W, Mod (fun x => x = g) w W → ∀ x ∈ L, ∀ y ∈ L, Calls Tryz.prog fk (#[.int .i64 (x : Int), .int .i64 (y : Int)] ++ cb) W fun e w' => e = .returned (.int .i64 (cf x y)) ∧ ∃ q os', w' = grow (W.drewN q) os')
    (S : List Nat) (hp : S.Perm L) (hs : S.Pairwise R) :
    Calls Tryz.prog 87 #[.slice (some ⟨g, 0, none⟩) n cap, .func (.func fk) #[] cb] w (fun e w' => e = .returned (.tuple #[]) ∧ w'.ownsRow 0 3 1 (.slice (some ⟨g, 0, none⟩) n cap) n (natV S) ∧ Mod (fun x => x = g) w w') := by
  obtain ⟨g', cap', hv, _, _, hgl, hcell, hfr⟩ := owns_form hown h0
  injection hv with e1 _ e3
  injection e1 with e1
  injection e1 with e1
  subst e1
  have hne : ∃ x, x ∈ L := ⟨L[0]'(by omega), List.getElem_mem _⟩
  obtain ⟨x0, hx0⟩ := hne
  letI : Inhabited {x // x ∈ L} := ⟨⟨x0, hx0⟩⟩
  have hlt : ∀ x y : {x // x ∈ L}, ltOf (fun x y : {x // x ∈ L} => cf x.1 y.1) x y = decide (R x.1 y.1) := fun x y => by
    unfold ltOf
    by_cases h : R x.1 y.1
    · rw [decide_eq_true h]; exact decide_eq_true ((hcf _ x.2 _ y.2).2 h)
    · rw [decide_eq_false h]; exact decide_eq_false (fun e => h ((hcf _ x.2 _ y.2).1 e))
  have hswo : SWO (ltOf (fun x y : {x // x ∈ L} => cf x.1 y.1)) := by
    refine ⟨fun x => ?_, fun x y z h1 h2 => ?_, fun x y z h1 h2 => ?_⟩
    · rw [hlt]; exact decide_eq_false (irr _)
    · rw [hlt] at *; exact decide_eq_true (tr _ _ _ (of_decide_eq_true h1) (of_decide_eq_true h2))
    · rw [hlt] at *
      have a1 := of_decide_eq_false h1
      have a2 := of_decide_eq_false h2
      refine decide_eq_false fun h3 => ?_
      by_cases c : R y.1 x.1
      · by_cases c2 : R z.1 y.1
        · exact irr _ (tr _ _ _ h3 (tr _ _ _ c2 c))
        · have := tot _ y.2 _ z.2 a2 c2
          rw [← this] at h3
          exact a1 h3
      · have := tot _ x.2 _ y.2 a1 c
        rw [this] at h3
        exact a2 h3
  have hT : ∀ x y : {x // x ∈ L}, ltOf (fun x y : {x // x ∈ L} => cf x.1 y.1) x y = false → ltOf (fun x y : {x // x ∈ L} => cf x.1 y.1) y x = false → x = y := fun x y h1 h2 => by
    rw [hlt] at *
    exact Subtype.ext (tot _ x.2 _ y.2 (of_decide_eq_false h1) (of_decide_eq_false h2))
  have hH : Holds (encS L) w g 0 L.attach.toArray := by
    intro j hj
    have hj' : j < n := by simpa [hL] using hj
    rw [Nat.zero_add]
    refine ⟨?_, hfr j⟩
    rw [hcell j (by omega), natV_get (by omega), getElem!_pos _ j hj]
    have hjL : j < L.length := by omega
    simp [encS, hjL]
  have hcon := Any.slices_SortFunc_total Tryz.sortInt (encS L) (fun _ => rfl) (fun x y : {x // x ∈ L} => cf x.1 y.1) hswo fk cb g 0 cap L.attach.toArray w eg
    (fun m os dk _ x y => hcmp _ (mod_sorted1 w g m dk os) x.1 x.2 y.1 y.2) hH hgl (by simp; omega) hT
  change Calls Tryz.prog 87 _ _ _ at hcon
  rw [List.size_toArray, List.length_attach, hL] at hcon
  refine hcon.mono ?_
  rintro e w' ⟨rfl, q, os, rfl⟩
  have hms : ((L.attach.mergeSort fun x y => !ltOf (fun x y : {x // x ∈ L} => cf x.1 y.1) y x).map Subtype.val) = S := by
    have p1 : (L.attach.mergeSort fun x y => !ltOf (fun x y : {x // x ∈ L} => cf x.1 y.1) y x).Perm L.attach := List.mergeSort_perm _ _
    have p2 : ((L.attach.mergeSort fun x y => !ltOf (fun x y : {x // x ∈ L} => cf x.1 y.1) y x).map Subtype.val).Perm L := by
      have := p1.map Subtype.val
      rw [List.attach_map_subtype_val] at this
      exact this
    refine strict_unique irr tr ?_ hs (p2.trans hp.symm)
    have h2 := List.pairwise_mergeSort (le := fun x y => !ltOf (fun x y : {x // x ∈ L} => cf x.1 y.1) y x) (fun a b c hab hbc => by
        simp only [Bool.not_eq_true'] at *
        exact hswo.ntrans _ _ _ hbc hab) (fun a b => by
        simp only [hlt, Bool.or_eq_true, Bool.not_eq_true', decide_eq_false_iff_not]
        by_cases h : R b.1 a.1
        · exact .inr (fun h' => irr _ (tr _ _ _ h h'))
        · exact .inl h) L.attach
    have hSn : S.Nodup := List.Pairwise.imp (S := fun a b => a ≠ b) (fun {a b} hab e => irr a (by rw [← e] at hab; exact hab)) hs
    have hnd : ((L.attach.mergeSort fun x y => !ltOf (fun x y : {x // x ∈ L} => cf x.1 y.1) y x).map Subtype.val).Nodup := (p2.trans hp.symm).nodup_iff.2 hSn
    rw [List.nodup_iff_pairwise_ne, List.pairwise_map] at hnd
    rw [List.pairwise_map]
    refine List.Pairwise.imp₂ (R := fun a b => (!ltOf (fun x y : {x // x ∈ L} => cf x.1 y.1) b a) = true) (S := fun a b => a.1 ≠ b.1) (fun a b hab hne => ?_) h2 hnd
    simp only [hlt, Bool.not_eq_true', decide_eq_false_iff_not] at hab
    exact Classical.byContradiction fun hc => hne (tot _ a.2 _ b.2 hc hab)
  have hlen : (L.attach.mergeSort fun x y => !ltOf (fun x y : {x // x ∈ L} => cf x.1 y.1) y x).length = n := by rw [List.length_mergeSort, List.length_attach, hL]
  have ho := owns_sorted1 (enc := encS L) hown _ hlen q os
  have hval : ((L.attach.mergeSort fun x y => !ltOf (fun x y : {x // x ∈ L} => cf x.1 y.1) y x).map (encS L)) = natV S := by
    rw [← hms]
    unfold natV
    rw [List.map_map]
    rfl
  rw [hval] at ho
  rw [List.toList_toArray]
  exact ⟨rfl, ho, mod_sorted1 w g q _ os⟩

set_option maxHeartbeats 400000 in
theorem sortN_none (w : World) (ao : Option Addr) (cap : Nat) (fv : Value) : Calls Tryz.prog 87 #[.slice ao 0 cap, fv] w (fun e w' => e = .returned (.tuple #[]) ∧ w' = w) := by
  have hcon := AnyF.slices_SortFunc_none Tryz.sortInt0 ao cap fv w
  change Calls Tryz.prog 87 _ _ _ at hcon
  exact hcon

end Go.Proofs.YthacjealoomioaaGreatDoor
