/- My own texts Shelf, Tab, VFrame, StDigits, Keep0, Name, as far as this claim needs them. -/
import Derived.Test.YtplekbpmfaghbaaGreatDoorZd1
import Derived.Shelf.Strings.Builder1
import Derived.Shelf.Strings.Builder2
import Derived.Shelf.Strings.OnBuilder
import Derived.Shelf.Small.Strs
import Derived.Shelf.Strconv.Atoi
import Derived.Shelf.Strconv.Itoa0
import Derived.Shelf.Strconv.Itoa1
import Derived.Shelf.LaysM
import Derived.Shelf.Strconv.Itoa2
import Derived.Shelf.Strconv.Itoa3
import Derived.Shelf.Strconv.AtoiErrFast
import Derived.Shelf.Strconv.ParseIntEmpty
import Derived.Shelf.Strconv.AtoiFail
import Derived.Shelf.Strconv.Clone
import Derived.Shelf.Strconv.SyntaxError
import Derived.Shelf.LaysC
import Derived.Shelf.Strconv.ToError
import Derived.Shelf.Strconv.Lower
import Derived.Shelf.Strconv.ParseUint10
import Derived.Shelf.Strconv.ParseUint10Empty
import Derived.Shelf.Strconv.ParseUint10Any
import Derived.Shelf.Strconv.ParseInt10
import Derived.Shelf.Strconv.AtoiLong
import Derived.Shelf.Strconv.AtoiInnerAll
import Derived.Shelf.Strconv.RangeError
import Derived.Shelf.Strconv.ToErrorRange
import Derived.Shelf.Strconv.AtoiAll
import Derived.Shelf.Strconv.ErrVarAll
import Derived.Shelf.Strings.Search1
import Derived.Shelf.Strings.Search2
import Derived.Shelf.Strings.Cut
import Derived.Shelf.Strings.Shaped
import Derived.Shelf.Strings.Prefix
import Derived.Test.YtplekbpmfaghbaaGreatDoorProg
import Derived.Lib.AppendIntMem
import Derived.Lib.ItoaLen
import Derived.Test.YtplekbpmfaghbaaGreatDoorRows
import Derived.OpenShut
import Derived.ChangeOld
import Derived.ChangeSame
import Derived.ChangeVars
import Derived.JoinedOf
import Derived.LaidLaws
import Derived.LaidHandle
import Derived.Stop.LaidErr
import Derived.Lib.LaidTab
import Derived.Below
import Derived.Lib.TrimU
import Derived.Lib.OthersKept
import Derived.Deep.LoopGhost
set_option linter.unusedVariables false
set_option linter.unusedSimpArgs false
namespace Go.Proofs
open Go.Shelf
def Tryz.lays156_ren : Go.Shelf.Ren := ⟨fun | 156 => 112 | 165 => 152 | 166 => 83 | 169 => 85 | 240 => 121 | 241 => 178 | 276 => 156 | 277 => 192 | n => n, fun | 31 => 81 | 9 => 9 | 3 => 3 | 4 => 4 | 0 => 0 | 20 => 20 | 72 => 161 | 76 => 162 | 70 => 158 | 37 => 159 | 75 => 57 | 127 => 200 | 164 => 230 | 5 => 5 | 80 => 65 | n => n, fun | n => n⟩
theorem Tryz.lays156 : Go.Proofs.Lays.n156 Tryz.prog Tryz.lays156_ren := {
  mixed := by kernel_rfl
  f156 := Tryz.func112.trans (congrArg some (by kernel_rfl))
  f165 := Tryz.func152.trans (congrArg some (by kernel_rfl))
  f166 := Tryz.func83.trans (congrArg some (by kernel_rfl))
  f169 := Tryz.func85.trans (congrArg some (by kernel_rfl))
  f240 := Tryz.func121.trans (congrArg some (by kernel_rfl))
  f241 := Tryz.func178.trans (congrArg some (by kernel_rfl))
  f276 := Tryz.func156.trans (congrArg some (by kernel_rfl))
  f277 := Tryz.func192.trans (congrArg some (by kernel_rfl))
  t0 := Tryz.underlying0
  a0 := Tryz.isAgg0
  z0 := Tryz.sizeOf0
  v0 := Tryz.zeroValue0
  t3 := Tryz.underlying3
  a3 := Tryz.isAgg3
  z3 := Tryz.sizeOf3
  v3 := Tryz.zeroValue3
  t4 := Tryz.underlying4
  a4 := Tryz.isAgg4
  z4 := Tryz.sizeOf4
  v4 := Tryz.zeroValue4
  t9 := Tryz.underlying9
  a9 := Tryz.isAgg9
  z9 := Tryz.sizeOf9
  v9 := Tryz.zeroValue9
  t20 := Tryz.underlying20
  a20 := Tryz.isAgg20
  z20 := Tryz.sizeOf20
  v20 := Tryz.zeroValue20
  t31 := Tryz.underlying81
  a31 := Tryz.isAgg81
  z31 := Tryz.sizeOf81
  v31 := Tryz.zeroValue81
  t37 := Tryz.underlying159
  a37 := Tryz.isAgg159
  z37 := Tryz.sizeOf159
  v37 := Tryz.zeroValue159
  t70 := Tryz.underlying158
  a70 := Tryz.isAgg158
  z70 := Tryz.sizeOf158
  v70 := Tryz.zeroValue158
  t72 := Tryz.underlying161
  a72 := Tryz.isAgg161
  z72 := Tryz.sizeOf161
  v72 := Tryz.zeroValue161
  t75 := Tryz.underlying57
  a75 := Tryz.isAgg57
  z75 := Tryz.sizeOf57
  v75 := Tryz.zeroValue57
  t76 := Tryz.underlying162
  a76 := Tryz.isAgg162
  z76 := Tryz.sizeOf162
  v76 := Tryz.zeroValue162
  t127 := Tryz.underlying200
  a127 := Tryz.isAgg200
  z127 := Tryz.sizeOf200
  v127 := Tryz.zeroValue200
  t164 := Tryz.underlying230
  a164 := Tryz.isAgg230
  z164 := Tryz.sizeOf230
  v164 := Tryz.zeroValue230 }
theorem Tryz.Builder_Extra_156 : Builder.Extra Tryz.prog Tryz.lays156_ren := {
  sizeBuilder := by kernel_rfl
  liesBuilder := by kernel_rfl
  t5 := Tryz.underlying5
  a5 := Tryz.isAgg5
  z5 := Tryz.sizeOf5
  v5 := Tryz.zeroValue5
  infoByte := by kernel_rfl
  cellsByte := by kernel_rfl
  sizeByte := by kernel_rfl
  neB5 := by decide }
open Go.RowKit in
theorem Tryz.strings_Join_none (a : Option Addr) (c : Nat) (sep : ByteArray) (w : World) :
    Calls Tryz.prog 112 #[.slice a 0 c, .string sep] w fun e w' => e = .returned (.string ⟨#[]⟩) ∧ w' = w := Any.strings_Join_none Tryz.lays156 Tryz.Builder_Extra_156 a c sep w
open Go.RowKit in
theorem Tryz.strings_Join (bk o c : Nat) (xs : List ByteArray) (sep : ByteArray) (w : World) (hcells : ∀ (j : Nat) x, xs[j]? = some x → w.cell? ⟨bk, o + j, none⟩ = some (.string x)) (hbk : bk < w.heap.size) (hN : xs.length ≤ 140737488355328) (hcap : xs.length ≤ c) (hlen : (Lib.join (xs.map (·.data.toList)) sep.data.toList).length ≤ 140737488355328) :
    Calls Tryz.prog 112 #[.slice (some ⟨bk, o, none⟩) xs.length c, .string sep] w fun e w' => e = .returned (.string ⟨(Lib.join (xs.map (·.data.toList)) sep.data.toList).toArray⟩) ∧ Below w.heap.size w w' := Any.strings_Join Tryz.lays156 Tryz.Builder_Extra_156 bk o c xs sep w hcells hbk hN hcap hlen
def Tryz.lays137_ren : Go.Shelf.Ren := ⟨fun | 137 => 197 | 217 => 206 | 266 => 223 | n => n, fun | 9 => 9 | 5 => 5 | 3 => 3 | n => n, fun | n => n⟩
theorem Tryz.lays137 : Go.Proofs.Lays.n137 Tryz.prog Tryz.lays137_ren := {
  mixed := by kernel_rfl
  f137 := Tryz.func197.trans (congrArg some (by kernel_rfl))
  f217 := Tryz.func206.trans (congrArg some (by kernel_rfl))
  f266 := Tryz.func223.trans (congrArg some (by kernel_rfl))
  t3 := Tryz.underlying3
  a3 := Tryz.isAgg3
  z3 := Tryz.sizeOf3
  v3 := Tryz.zeroValue3
  t5 := Tryz.underlying5
  a5 := Tryz.isAgg5
  z5 := Tryz.sizeOf5
  v5 := Tryz.zeroValue5
  t9 := Tryz.underlying9
  a9 := Tryz.isAgg9
  z9 := Tryz.sizeOf9
  v9 := Tryz.zeroValue9 }
open Go.RowKit in
theorem Tryz.strings_IndexByte (s : ByteArray) (c : Int) (w : World) :
    Calls Tryz.prog 197 #[.string s, .int .u8 c] w fun e w' => e = .returned (.int .i64 (Lib.indexByte s.data.toList c.toNat.toUInt8)) ∧ w' = w := Any.strings_IndexByte Tryz.lays137 s c w
def Tryz.laysM171_ren : Go.Shelf.Ren := ⟨fun | 171 => 179 | 243 => 193 | 246 => 202 | 283 => 213 | 284 => 214 | 285 => 215 | 286 => 216 | 129 => 226 | 317 => 225 | 318 => 227 | 319 => 228 | 320 => 229 | 337 => 236 | 338 => 237 | n => n, fun | 3 => 3 | 9 => 9 | 2 => 2 | 4 => 4 | 171 => 276 | 0 => 0 | 53 => 277 | 37 => 159 | 5 => 5 | 173 => 280 | 212 => 291 | 51 => 292 | 20 => 20 | 213 => 293 | 46 => 84 | 232 => 308 | 233 => 309 | n => n, fun | 17 => 8 | 18 => 11 | 19 => 12 | n => n⟩
theorem Tryz.laysM171 : Go.Proofs.LaysM.n171 Tryz.prog Tryz.laysM171_ren := {
  mixed := by kernel_rfl
  f129 := Tryz.func226.trans (congrArg some (by kernel_rfl))
  f171 := Tryz.func179.trans (congrArg some (by kernel_rfl))
  f243 := Tryz.func193.trans (congrArg some (by kernel_rfl))
  f246 := Tryz.func202.trans (congrArg some (by kernel_rfl))
  f283 := Tryz.func213.trans (congrArg some (by kernel_rfl))
  f284 := Tryz.func214.trans (congrArg some (by kernel_rfl))
  f285 := Tryz.func215.trans (congrArg some (by kernel_rfl))
  f286 := Tryz.func216.trans (congrArg some (by kernel_rfl))
  f317 := Tryz.func225.trans (congrArg some (by kernel_rfl))
  f318 := Tryz.func227.trans (congrArg some (by kernel_rfl))
  f319 := Tryz.func228.trans (congrArg some (by kernel_rfl))
  f320 := Tryz.func229.trans (congrArg some (by kernel_rfl))
  f337 := Tryz.func236.trans (congrArg some (by kernel_rfl))
  f338 := Tryz.func237.trans (congrArg some (by kernel_rfl))
  t0 := Tryz.underlying0
  a0 := Tryz.isAgg0
  z0 := Tryz.sizeOf0
  v0 := Tryz.zeroValue0
  t2 := Tryz.underlying2
  a2 := Tryz.isAgg2
  z2 := Tryz.sizeOf2
  v2 := Tryz.zeroValue2
  t3 := Tryz.underlying3
  a3 := Tryz.isAgg3
  z3 := Tryz.sizeOf3
  v3 := Tryz.zeroValue3
  t4 := Tryz.underlying4
  a4 := Tryz.isAgg4
  z4 := Tryz.sizeOf4
  v4 := Tryz.zeroValue4
  t5 := Tryz.underlying5
  a5 := Tryz.isAgg5
  z5 := Tryz.sizeOf5
  v5 := Tryz.zeroValue5
  t9 := Tryz.underlying9
  a9 := Tryz.isAgg9
  z9 := Tryz.sizeOf9
  v9 := Tryz.zeroValue9
  t20 := Tryz.underlying20
  a20 := Tryz.isAgg20
  z20 := Tryz.sizeOf20
  v20 := Tryz.zeroValue20
  t37 := Tryz.underlying159
  a37 := Tryz.isAgg159
  z37 := Tryz.sizeOf159
  v37 := Tryz.zeroValue159
  t46 := Tryz.underlying84
  a46 := Tryz.isAgg84
  z46 := Tryz.sizeOf84
  v46 := Tryz.zeroValue84
  t51 := Tryz.underlying292
  a51 := Tryz.isAgg292
  z51 := Tryz.sizeOf292
  v51 := Tryz.zeroValue292
  t53 := Tryz.underlying277
  a53 := Tryz.isAgg277
  z53 := Tryz.sizeOf277
  v53 := Tryz.zeroValue277
  t171 := Tryz.underlying276
  a171 := Tryz.isAgg276
  z171 := Tryz.sizeOf276
  v171 := Tryz.zeroValue276
  t173 := Tryz.underlying280
  a173 := Tryz.isAgg280
  z173 := Tryz.sizeOf280
  v173 := Tryz.zeroValue280
  t212 := Tryz.underlying291
  a212 := Tryz.isAgg291
  z212 := Tryz.sizeOf291
  v212 := Tryz.zeroValue291
  t213 := Tryz.underlying293
  a213 := Tryz.isAgg293
  z213 := Tryz.sizeOf293
  t232 := Tryz.underlying308
  a232 := Tryz.isAgg308
  z232 := Tryz.sizeOf308
  v232 := Tryz.zeroValue308
  t233 := Tryz.underlying309
  a233 := Tryz.isAgg309
  z233 := Tryz.sizeOf309
  v233 := Tryz.zeroValue309
  g17 := by kernel_rfl
  g18 := by kernel_rfl
  g19 := by kernel_rfl
  i0 := by kernel_rfl
  i2 := by kernel_rfl
  i3 := by kernel_rfl
  i4 := by kernel_rfl
  i5 := by kernel_rfl
  i9 := by kernel_rfl
  i20 := by kernel_rfl
  i37 := by kernel_rfl
  i46 := by kernel_rfl
  i51 := by kernel_rfl
  i53 := by kernel_rfl
  i171 := by kernel_rfl
  i173 := by kernel_rfl
  i212 := by kernel_rfl
  i232 := by kernel_rfl
  i233 := by kernel_rfl
  m17 := by kernel_rfl
  m18 := by kernel_rfl
  m19 := by kernel_rfl }
open Go.RowKit Go.Sort Go.Lib in
theorem Tryz.strconv_Itoa (n : Int) (h0 : -9223372036854775808 ≤ n) (h1 : n ≤ 9223372036854775807) (w : World) (htab : Lib.TabIs Tryz.prog w "internal/strconv.uint64pow10" .u64 Lib.pow10Tab) :
    Calls Tryz.prog 179 #[.int .i64 n] w fun e w' => e = .returned (.string ⟨(Lib.itoa n).toArray⟩) ∧ ∃ k os, w' = grow (w.drewN k) os := Any.strconv_Itoa Tryz.laysM171 n h0 h1 w htab
def Tryz.laysC172_ren : Go.Shelf.Ren := ⟨fun | 172 => 194 | 244 => 203 | 245 => 204 | 247 => 217 | 279 => 218 | 280 => 219 | 281 => 220 | 282 => 221 | 287 => 230 | 316 => 231 | 171 => 179 | 205 => 232 | 321 => 238 | 322 => 239 | 243 => 193 | 246 => 202 | 283 => 213 | 284 => 214 | 285 => 215 | 286 => 216 | 129 => 226 | 317 => 225 | 318 => 227 | 319 => 228 | 320 => 229 | 337 => 236 | 338 => 237 | n => n, fun | 9 => 9 | 3 => 3 | 75 => 57 | 76 => 162 | 4 => 4 | 5 => 5 | 167 => 282 | 37 => 159 | 0 => 0 | 85 => 283 | 2 => 2 | 168 => 285 | 53 => 277 | 175 => 295 | 46 => 84 | 210 => 299 | 127 => 200 | 145 => 305 | 143 => 303 | 21 => 21 | 171 => 276 | 173 => 280 | 212 => 291 | 51 => 292 | 20 => 20 | 213 => 293 | 232 => 308 | 233 => 309 | 80 => 65 | n => n, fun | 15 => 9 | 16 => 10 | 17 => 8 | 18 => 11 | 19 => 12 | n => n⟩
theorem Tryz.laysC172 : Go.Proofs.LaysC.n172 Tryz.prog Tryz.laysC172_ren := {
  mixed := by kernel_rfl
  f129 := Tryz.func226.trans (congrArg some (by kernel_rfl))
  f171 := Tryz.func179.trans (congrArg some (by kernel_rfl))
  f172 := Tryz.func194.trans (congrArg some (by kernel_rfl))
  f205 := Tryz.func232.trans (congrArg some (by kernel_rfl))
  f243 := Tryz.func193.trans (congrArg some (by kernel_rfl))
  f244 := Tryz.func203.trans (congrArg some (by kernel_rfl))
  f245 := Tryz.func204.trans (congrArg some (by kernel_rfl))
  f246 := Tryz.func202.trans (congrArg some (by kernel_rfl))
  f247 := Tryz.func217.trans (congrArg some (by kernel_rfl))
  f279 := Tryz.func218.trans (congrArg some (by kernel_rfl))
  f280 := Tryz.func219.trans (congrArg some (by kernel_rfl))
  f281 := Tryz.func220.trans (congrArg some (by kernel_rfl))
  f282 := Tryz.func221.trans (congrArg some (by kernel_rfl))
  f283 := Tryz.func213.trans (congrArg some (by kernel_rfl))
  f284 := Tryz.func214.trans (congrArg some (by kernel_rfl))
  f285 := Tryz.func215.trans (congrArg some (by kernel_rfl))
  f286 := Tryz.func216.trans (congrArg some (by kernel_rfl))
  f287 := Tryz.func230.trans (congrArg some (by kernel_rfl))
  f316 := Tryz.func231.trans (congrArg some (by kernel_rfl))
  f317 := Tryz.func225.trans (congrArg some (by kernel_rfl))
  f318 := Tryz.func227.trans (congrArg some (by kernel_rfl))
  f319 := Tryz.func228.trans (congrArg some (by kernel_rfl))
  f320 := Tryz.func229.trans (congrArg some (by kernel_rfl))
  f321 := Tryz.func238.trans (congrArg some (by kernel_rfl))
  f322 := Tryz.func239.trans (congrArg some (by kernel_rfl))
  f337 := Tryz.func236.trans (congrArg some (by kernel_rfl))
  f338 := Tryz.func237.trans (congrArg some (by kernel_rfl))
  t0 := Tryz.underlying0
  a0 := Tryz.isAgg0
  z0 := Tryz.sizeOf0
  v0 := Tryz.zeroValue0
  t2 := Tryz.underlying2
  a2 := Tryz.isAgg2
  z2 := Tryz.sizeOf2
  v2 := Tryz.zeroValue2
  t3 := Tryz.underlying3
  a3 := Tryz.isAgg3
  z3 := Tryz.sizeOf3
  v3 := Tryz.zeroValue3
  t4 := Tryz.underlying4
  a4 := Tryz.isAgg4
  z4 := Tryz.sizeOf4
  v4 := Tryz.zeroValue4
  t5 := Tryz.underlying5
  a5 := Tryz.isAgg5
  z5 := Tryz.sizeOf5
  v5 := Tryz.zeroValue5
  t9 := Tryz.underlying9
  a9 := Tryz.isAgg9
  z9 := Tryz.sizeOf9
  v9 := Tryz.zeroValue9
  t20 := Tryz.underlying20
  a20 := Tryz.isAgg20
  z20 := Tryz.sizeOf20
  v20 := Tryz.zeroValue20
  t21 := Tryz.underlying21
  a21 := Tryz.isAgg21
  z21 := Tryz.sizeOf21
  v21 := Tryz.zeroValue21
  t37 := Tryz.underlying159
  a37 := Tryz.isAgg159
  z37 := Tryz.sizeOf159
  v37 := Tryz.zeroValue159
  t46 := Tryz.underlying84
  a46 := Tryz.isAgg84
  z46 := Tryz.sizeOf84
  v46 := Tryz.zeroValue84
  t51 := Tryz.underlying292
  a51 := Tryz.isAgg292
  z51 := Tryz.sizeOf292
  v51 := Tryz.zeroValue292
  t53 := Tryz.underlying277
  a53 := Tryz.isAgg277
  z53 := Tryz.sizeOf277
  v53 := Tryz.zeroValue277
  t75 := Tryz.underlying57
  a75 := Tryz.isAgg57
  z75 := Tryz.sizeOf57
  v75 := Tryz.zeroValue57
  t76 := Tryz.underlying162
  a76 := Tryz.isAgg162
  z76 := Tryz.sizeOf162
  v76 := Tryz.zeroValue162
  t85 := Tryz.underlying283
  a85 := Tryz.isAgg283
  z85 := Tryz.sizeOf283
  v85 := Tryz.zeroValue283
  t127 := Tryz.underlying200
  a127 := Tryz.isAgg200
  z127 := Tryz.sizeOf200
  v127 := Tryz.zeroValue200
  t143 := Tryz.underlying303
  a143 := Tryz.isAgg303
  z143 := Tryz.sizeOf303
  v143 := Tryz.zeroValue303
  t145 := Tryz.underlying305
  a145 := Tryz.isAgg305
  z145 := Tryz.sizeOf305
  v145 := Tryz.zeroValue305
  t167 := Tryz.underlying282
  a167 := Tryz.isAgg282
  z167 := Tryz.sizeOf282
  v167 := Tryz.zeroValue282
  t168 := Tryz.underlying285
  a168 := Tryz.isAgg285
  z168 := Tryz.sizeOf285
  v168 := Tryz.zeroValue285
  t171 := Tryz.underlying276
  a171 := Tryz.isAgg276
  z171 := Tryz.sizeOf276
  v171 := Tryz.zeroValue276
  t173 := Tryz.underlying280
  a173 := Tryz.isAgg280
  z173 := Tryz.sizeOf280
  v173 := Tryz.zeroValue280
  t175 := Tryz.underlying295
  a175 := Tryz.isAgg295
  z175 := Tryz.sizeOf295
  v175 := Tryz.zeroValue295
  t210 := Tryz.underlying299
  a210 := Tryz.isAgg299
  z210 := Tryz.sizeOf299
  v210 := Tryz.zeroValue299
  t212 := Tryz.underlying291
  a212 := Tryz.isAgg291
  z212 := Tryz.sizeOf291
  v212 := Tryz.zeroValue291
  t213 := Tryz.underlying293
  a213 := Tryz.isAgg293
  z213 := Tryz.sizeOf293
  t232 := Tryz.underlying308
  a232 := Tryz.isAgg308
  z232 := Tryz.sizeOf308
  v232 := Tryz.zeroValue308
  t233 := Tryz.underlying309
  a233 := Tryz.isAgg309
  z233 := Tryz.sizeOf309
  v233 := Tryz.zeroValue309
  g15 := by kernel_rfl
  g16 := by kernel_rfl
  g17 := by kernel_rfl
  g18 := by kernel_rfl
  g19 := by kernel_rfl
  t80 := Tryz.underlying65
  a80 := Tryz.isAgg65
  z80 := Tryz.sizeOf65
  v80 := Tryz.zeroValue65
  i0 := by kernel_rfl
  i2 := by kernel_rfl
  i3 := by kernel_rfl
  i4 := by kernel_rfl
  i5 := by kernel_rfl
  i9 := by kernel_rfl
  i20 := by kernel_rfl
  i21 := by kernel_rfl
  i37 := by kernel_rfl
  i46 := by kernel_rfl
  i51 := by kernel_rfl
  i53 := by kernel_rfl
  i75 := by kernel_rfl
  i76 := by kernel_rfl
  i80 := by kernel_rfl
  i85 := by kernel_rfl
  i127 := by kernel_rfl
  i143 := by kernel_rfl
  i145 := by kernel_rfl
  i167 := by kernel_rfl
  i168 := by kernel_rfl
  i171 := by kernel_rfl
  i173 := by kernel_rfl
  i175 := by kernel_rfl
  i210 := by kernel_rfl
  i212 := by kernel_rfl
  i232 := by kernel_rfl
  i233 := by kernel_rfl
  m15 := by kernel_rfl
  m16 := by kernel_rfl
  m17 := by kernel_rfl
  m18 := by kernel_rfl
  m19 := by kernel_rfl
  c0 := by kernel_rfl
  c2 := by kernel_rfl
  c3 := by kernel_rfl
  c4 := by kernel_rfl
  c5 := by kernel_rfl
  c9 := by kernel_rfl
  c20 := by kernel_rfl
  c21 := by kernel_rfl
  c37 := by kernel_rfl
  c46 := by kernel_rfl
  c51 := by kernel_rfl
  c53 := by kernel_rfl
  c75 := by kernel_rfl
  c76 := by kernel_rfl
  c80 := by kernel_rfl
  c85 := by kernel_rfl
  c127 := by kernel_rfl
  c143 := by kernel_rfl
  c145 := by kernel_rfl
  c167 := by kernel_rfl
  c168 := by kernel_rfl
  c171 := by kernel_rfl
  c173 := by kernel_rfl
  c175 := by kernel_rfl
  c210 := by kernel_rfl
  c212 := by kernel_rfl
  c213 := by kernel_rfl
  c232 := by kernel_rfl
  c233 := by kernel_rfl }
open Go.RowKit in
theorem Tryz.strconv_Atoi_ok (s : ByteArray) (hmax : s.size ≤ 9223372036854775806) (v : Int) (h : Lib.atoiAll s.data.toList = .ok v) (w : World) :
    Calls Tryz.prog 194 #[.string s] w fun e w' => e = .returned (.tuple #[.int .i64 v, .nilIface]) ∧ (w' = w ∨ ∃ t, w' = Lib.bytesWorld w 5 t) := Any.strconv_Atoi_ok Tryz.laysC172 s hmax v h w
def Tryz.lays99_ren : Go.Shelf.Ren := ⟨fun | 99 => 201 | 206 => 212 | n => n, fun | 9 => 9 | 4 => 4 | 3 => 3 | n => n, fun | n => n⟩
theorem Tryz.lays99 : Go.Proofs.Lays.n99 Tryz.prog Tryz.lays99_ren := {
  mixed := by kernel_rfl
  f99 := Tryz.func201.trans (congrArg some (by kernel_rfl))
  f206 := Tryz.func212.trans (congrArg some (by kernel_rfl))
  t3 := Tryz.underlying3
  a3 := Tryz.isAgg3
  z3 := Tryz.sizeOf3
  v3 := Tryz.zeroValue3
  t4 := Tryz.underlying4
  a4 := Tryz.isAgg4
  z4 := Tryz.sizeOf4
  v4 := Tryz.zeroValue4
  t9 := Tryz.underlying9
  a9 := Tryz.isAgg9
  z9 := Tryz.sizeOf9
  v9 := Tryz.zeroValue9 }
open Go.RowKit Go.Lib in
theorem Tryz.strings_HasPrefix (s p : ByteArray) (w : World) :
    Calls Tryz.prog 201 #[.string s, .string p] w fun e w' => e = .returned (.bool (Lib.hasPrefix s.data.toList p.data.toList)) ∧ w' = w := Any.strings_HasPrefix Tryz.lays99 s p w
end Go.Proofs

namespace Go.Proofs.YtplekbpmfaghbaaGreatDoor
open Go.RowKit
def RetV (v : Value) (w : World) (e : Ending) (w' : World) : Prop := e = .returned v ∧ Below w.heap.size w w'
def TabW (w : World) : Prop := ∀ W, Below w.heap.size w W → Lib.TabIs Tryz.prog W "internal/strconv.uint64pow10" .u64 Lib.pow10Tab
theorem TabW.of {w : World} (h : Lib.TabIs Tryz.prog w "internal/strconv.uint64pow10" .u64 Lib.pow10Tab) : TabW w := Lib.tabBelow_of_tabIs h
theorem TabW.on {w W : World} (h : TabW w) (hb : Below w.heap.size w W) : TabW W := fun _ hb' => h _ (hb.trans (hb'.mono hb.size))
theorem itoa_any (n : Int) (hn : fits n) (w : World) (h : TabW w) : Calls Tryz.prog 179 #[.int .i64 n] w (fun e w' => ∃ s : ByteArray, Hid (s = ⟨(Lib.itoa n).toArray⟩) ∧ s.size ≤ 21 ∧ e = .returned (.string s) ∧ Below w.heap.size w w') := by
  have hn' : -9223372036854775808 ≤ n ∧ n ≤ 9223372036854775807 := by
    unfold fits at hn; simp [Lit.wf, IntKind.min, IntKind.max, IntKind.signed, IntKind.bits] at hn; omega
  refine (Tryz.strconv_Itoa n hn'.1 hn'.2 w (h w (Below.refl _ _))).mono ?_
  rintro e w' ⟨rfl, k, os, rfl⟩
  exact ⟨_, rfl, by have := Lib.itoa_length_le n hn'.1 hn'.2; simpa [ByteArray.size] using this, rfl, Lib.below_grow _ _ (Nat.le_refl _) _ _⟩
end Go.Proofs.YtplekbpmfaghbaaGreatDoor

namespace Go.Proofs.YtplekbpmfaghbaaGreatDoor
open Go.ChangeShapes Go.WideShapes Go.ChangeAt Go.RowKit
set_option linter.unusedVariables false
theorem own : ownKnob Tryz.prog.godebug = none := by kernel_rfl
theorem laidOut : laidOutB Tryz.prog = true := by kernel_rfl
theorem u_bool : Tryz.prog.underlying 4 = some .bool := by kernel_rfl
def laid {H : Type} : List (String × DataW H) := [("math/bits.deBruijn32tab", Rows.laid_math_bits_deBruijn32tab), ("math/bits.deBruijn64tab", Rows.laid_math_bits_deBruijn64tab), ("internal/strconv.uint64pow10", Rows.laid_internal_strconv_uint64pow10)]
theorem gP : Tryz.prog.globalNamed "internal/strconv.uint64pow10" = some 8 := by kernel_rfl
theorem gPT : (Tryz.prog.globals[8]?).map (·.type) = some 291 := by kernel_rfl
theorem pow_eq : (Rows.laid_internal_strconv_uint64pow10 : DataW Unit) = Lib.tabData .u64 Lib.pow10Tab := by kernel_rfl
end Go.Proofs.YtplekbpmfaghbaaGreatDoor

namespace Go.Proofs.YtplekbpmfaghbaaGreatDoor
open Go.RowKit
theorem fits_iff (n : Int) : fits n ↔ -9223372036854775808 ≤ n ∧ n ≤ 9223372036854775807 := by
  unfold fits; simp [Lit.wf, IntKind.min, IntKind.max, IntKind.signed, IntKind.bits]
end Go.Proofs.YtplekbpmfaghbaaGreatDoor

namespace Go.Proofs.YtplekbpmfaghbaaGreatDoor
open Go.RowKit
theorem SliceIs.keep {α : Type} {E : Enc α} {w w' : World} {A : Option Addr} {n c : Nat} {l : List α} (h : SliceIs E w w.heap.size A n c l) (hb : Below w.heap.size w w') : SliceIs E w' w'.heap.size A n c l :=
  (h.below hb).mono hb.size (fun _ _ => rfl)
theorem below_next {w W W' : World} (h : Below w.heap.size w W) (h' : Below W.heap.size W W') : Below w.heap.size w W' := h.trans (h'.mono h.size)
end Go.Proofs.YtplekbpmfaghbaaGreatDoor

namespace Go.Proofs.YtplekbpmfaghbaaGreatDoor
open Go.RowKit
def RetSameB (b : Bool) (w : World) (e : Ending) (w' : World) : Prop := e = .returned (.bool b) ∧ w' = w
/-- a name's byte -/
def nameB (n : Nat) : Bool := (decide (97 ≤ n) && decide (n ≤ 122)) || (decide (48 ≤ n) && decide (n ≤ 57)) || decide (n = 95)
set_option maxRecDepth 100000 in
theorem strange_any (r : Nat) (w : World) : Calls Tryz.prog 145 #[.int .i32 r] w (RetBool (!nameB r) w) := by
  by_cases h1 : 97 ≤ r <;> by_cases h2 : r ≤ 122 <;> by_cases h3 : 48 ≤ r <;> by_cases h4 : r ≤ 57 <;> by_cases h5 : r = 95 <;> (try (exfalso; omega))
  all_goals
    have z1 : (97 : Int) ≤ (r : Int) ↔ 97 ≤ r := by omega
    have z2 : (r : Int) ≤ 122 ↔ r ≤ 122 := by omega
    have z3 : (48 : Int) ≤ (r : Int) ↔ 48 ≤ r := by omega
    have z4 : (r : Int) ≤ 57 ↔ r ≤ 57 := by omega
    have z5 : ((r : Int) == 95) = decide (r = 95) := by rw [Bool.eq_iff_iff]; simp; omega
    go_enter Tryz.func145, Tryz.ntmps145
    go_wp2
    go_ret
    exact ⟨by simp [nameB, h1, h2, h3, h4, h5], Below.refl _ _⟩
def lowB (n : Nat) : Bool := decide (97 ≤ n) && decide (n ≤ 122)
set_option maxRecDepth 100000 in
theorem letter_any (r : Nat) (w : World) : Calls Tryz.prog 146 #[.int .u8 r] w (RetBool (lowB r) w) := by
  by_cases h1 : 97 ≤ r <;> by_cases h2 : r ≤ 122 <;> (try (exfalso; omega))
  all_goals
    have z1 : (97 : Int) ≤ (r : Int) ↔ 97 ≤ r := by omega
    have z2 : (r : Int) ≤ 122 ↔ r ≤ 122 := by omega
    go_enter Tryz.func146, Tryz.ntmps146
    go_wp2
    go_ret
    exact ⟨by simp [lowB, h1, h2], Below.refl _ _⟩
def byteAt (s : ByteArray) (i : Nat) : Nat := (s.get! i).toNat
theorem byteAt_eq {s : ByteArray} {i : Nat} (h : i < s.size) : (s[i]'h).toNat = byteAt s i := by
  obtain ⟨d⟩ := s
  show (d[i]'h).toNat = (d[i]!).toNat
  rw [getElem!_pos d i h]
def allN (s : ByteArray) : Bool := decide (∀ i, i < s.size → nameB (byteAt s i) = true)
theorem allN_false {s : ByteArray} {i : Nat} (hi : i < s.size) (h : nameB (byteAt s i) = false) : allN s = false := by
  simp only [allN, decide_eq_false_iff_not]
  intro h'; rw [h' i hi] at h; cases h
/-- what is decoded at a place: the byte, or a rune that is no name's -/
theorem decode_name (s : ByteArray) (i : Nat) : (nameB (Utf8.decode s i).1 = nameB (byteAt s i)) ∧ (nameB (byteAt s i) = true → (Utf8.decode s i).2 = 1) := by
  have hb : ∀ n, 128 ≤ n → nameB n = false := by
    intro n hn
    simp only [nameB, Bool.or_eq_false_iff, Bool.and_eq_false_iff, decide_eq_false_iff_not]
    omega
  by_cases h : byteAt s i < 128
  · have : Utf8.decode s i = (byteAt s i, 1) := by
      unfold Utf8.decode
      simp only [Nat.add_zero]
      exact if_pos h
    rw [this]; exact ⟨rfl, fun _ => rfl⟩
  · have h1 : 128 ≤ (Utf8.decode s i).1 := by
      unfold Utf8.decode
      simp only [Nat.add_zero]
      rw [if_neg (show ¬ (s.get! i).toNat < 128 from h)]
      repeat' split
      all_goals first | (simp only [ge_iff_le, Bool.and_eq_true, decide_eq_true_eq] at *; omega) | (simp [Utf8.runeError])
    rw [hb _ h1, hb _ (by omega)]
    exact ⟨rfl, fun h => by cases h⟩
def IdxPost (s : ByteArray) (w : World) (e : Ending) (w' : World) : Prop := ∃ k : Int, e = .returned (.int .i64 k) ∧ decide (0 ≤ k) = !allN s ∧ Below w.heap.size w w'
set_option maxRecDepth 100000 in
set_option maxHeartbeats 400000 in
theorem indexFunc_any (s : ByteArray) (w : World) : Calls Tryz.prog 190 #[.string s, .func (.func 145) #[] #[], .bool true] w (IdxPost s w) := by
  go_enter Tryz.func190, Tryz.ntmps190
  go_wp2
  go_loopg [] s.size (fun gf wx => ∃ pos : Nat, wx.heap[w.heap.size]? = some (.stringIter s pos) ∧ Below w.heap.size w wx ∧ Hid (∀ i, i < pos → nameB (byteAt s i) = true) ∧ pos + gf = s.size)
  case atStart => exact ⟨0, World.iter_heap w s 0, (Below.refl _ w).alloc (Nat.le_refl _) _, fun i h => by omega, by omega⟩
  case round =>
    obtain ⟨pos, hit, hbw, hpre, hfu⟩ := hrel
    by_cases hps : pos < s.size
    · have hnx : ∀ ty, (Instr.next (.pointer (some ⟨w.heap.size, 0, none⟩)) true ty).run Tryz.prog wr = _ := fun ty => Lib.run_next_any_at wr w.heap.size s pos ty hit hps
      obtain ⟨hd1, hd2⟩ := decode_name s pos
      have hit2 := Lib.iterAt_heap wr w.heap.size s pos (pos + (Utf8.decode s pos).2) hit
      have hbw2 := Lib.below_iterAt hbw (k := w.heap.size) (Nat.le_refl _) s (pos + (Utf8.decode s pos).2)
      have cS := strange_any (Utf8.decode s pos).1 (wr.iterAt w.heap.size s (pos + (Utf8.decode s pos).2))
      rw [hd1] at cS
      generalize (Utf8.decode s pos).1 = R at *
      cases hn : nameB (byteAt s pos) with
      | true =>
        rw [hd2 hn] at *
        rw [hn] at cS
        have Hn := Lib.hid hn
        have cS := Lib.hid cS
        have hit2 := Lib.hid hit2
        have hbw2 := Lib.hid hbw2
        clear hn hd1 hd2 hit
        go_wp2_with fail
        refine cS.out.mono ?_
        rintro e w1 ⟨rfl, hb⟩
        go_wp2_with fail
        go_roundg (gk - 1)
        case measure => omega
        case rel => exact ⟨pos + 1, (hb.block _ ((Array.getElem?_eq_some_iff.1 hit2.out).1)).trans hit2.out, below_next hbw2.out hb, fun i hi => by
            by_cases h : i < pos
            · exact hpre.out i h
            · rw [show i = pos by omega]; exact Hn.out, by omega⟩
      | false =>
        rw [hn] at cS
        have Hn := Lib.hid (allN_false hps hn)
        have cS := Lib.hid cS
        have hbw2 := Lib.hid hbw2
        clear hn hd1 hd2 hit hit2
        go_wp2_with fail
        refine cS.out.mono ?_
        rintro e w1 ⟨rfl, hb⟩
        go_wp2_with fail
        go_ret
        exact ⟨_, rfl, by rw [Hn.out]; simp, below_next hbw2.out hb⟩
    · have hnx : ∀ ty, (Instr.next (.pointer (some ⟨w.heap.size, 0, none⟩)) true ty).run Tryz.prog wr = _ := fun ty => Lib.run_next_end_at wr w.heap.size s pos ty hit hps
      go_wp2_with fail
      go_ret
      exact ⟨_, rfl, by
        have : allN s = true := by
          simp only [allN, decide_eq_true_eq]
          exact fun i hi => hpre.out i (by omega)
        rw [this]; rfl, hbw⟩
def ContPost (s : ByteArray) (w : World) (e : Ending) (w' : World) : Prop := e = .returned (.bool (!allN s)) ∧ Below w.heap.size w w'
set_option maxRecDepth 100000 in
theorem containsFunc_any (s : ByteArray) (w : World) : Calls Tryz.prog 147 #[.string s, .func (.func 145) #[] #[]] w (ContPost s w) := by
  have hi : Calls Tryz.prog 173 #[.string s, .func (.func 145) #[] #[]] w (IdxPost s w) := by
    go_enter Tryz.func173, Tryz.ntmps173
    go_wp2_with fail
    refine (indexFunc_any s w).mono ?_
    rintro e w1 ⟨k, rfl, hk, hb⟩
    go_wp2_with fail
    go_ret
    exact ⟨k, rfl, hk, hb⟩
  go_enter Tryz.func147, Tryz.ntmps147
  go_wp2_with fail
  refine hi.mono ?_
  rintro e w1 ⟨k, rfl, hk, hb⟩
  have Hk := Lib.hid hk
  clear hk
  go_wp2_with fail
  go_ret
  exact ⟨by rw [← Hk.out]; rfl, hb⟩
/-- is a text a name -/
def nameOk (s : ByteArray) : Bool := decide (1 ≤ s.size) && decide (s.size ≤ 32) && lowB (byteAt s 0) && allN s
set_option maxRecDepth 100000 in
set_option maxHeartbeats 400000 in
theorem name_any (s : ByteArray) (w : World) : Calls Tryz.prog 107 #[.string s] w (RetBool (nameOk s) w) := by
  by_cases h0 : s.size = 0
  · have hl0 : s.toList = [] := by
      rw [ByteArray.toList_eq]
      exact List.eq_nil_of_length_eq_zero h0
    have he : s.toList.isEmpty = true := by rw [hl0]; rfl
    have HR : Hid (nameOk s = false) := by show nameOk s = false; simp [nameOk, h0]
    go_enter Tryz.func107, Tryz.ntmps107
    go_wp2_with fail
    go_ret
    exact ⟨by rw [HR.out]; rfl, Below.refl _ _⟩
  · have hl0 : s.toList ≠ [] := by
      rw [ByteArray.toList_eq]
      intro h
      exact h0 (congrArg List.length h)
    have he : s.toList.isEmpty = false := by simpa using hl0
    by_cases h32 : s.size ≤ 32
    · have z1 : (s.size : Int) ≤ 32 ↔ s.size ≤ 32 := by omega
      have hlt : 0 < s.size := by omega
      cases hlow : lowB (byteAt s 0) with
      | true =>
        have HR : Hid (nameOk s = allN s) := by show nameOk s = allN s; simp [nameOk, h32, hlow]; omega
        have cl := letter_any (byteAt s 0) w
        rw [hlow, ← byteAt_eq hlt] at cl
        have cl := Lib.hid cl
        clear hlow
        go_enter Tryz.func107, Tryz.ntmps107
        go_wp2_with fail
        refine cl.out.mono ?_
        rintro e w1 ⟨rfl, hb⟩
        go_wp2_with fail
        refine (containsFunc_any s w1).mono ?_
        rintro e w2 ⟨rfl, hb2⟩
        go_wp2_with fail
        go_ret
        exact ⟨by rw [HR.out, ← Bool.not_not (allN s)]; rfl, below_next hb hb2⟩
      | false =>
        have HR : Hid (nameOk s = false) := by show nameOk s = false; simp [nameOk, hlow]
        have cl := letter_any (byteAt s 0) w
        rw [hlow, ← byteAt_eq hlt] at cl
        have cl := Lib.hid cl
        clear hlow
        go_enter Tryz.func107, Tryz.ntmps107
        go_wp2_with fail
        refine cl.out.mono ?_
        rintro e w1 ⟨rfl, hb⟩
        go_wp2_with fail
        go_ret
        exact ⟨by rw [HR.out]; rfl, hb⟩
    · have z1 : ¬ (s.size : Int) ≤ 32 := by omega
      have HR : Hid (nameOk s = false) := by show nameOk s = false; simp [nameOk, h32]
      go_enter Tryz.func107, Tryz.ntmps107
      go_wp2_with fail
      go_ret
      exact ⟨by rw [HR.out]; rfl, Below.refl _ _⟩
/-- is a value right -/
def rightB (v : GV) : Bool := if v.k = 1 then decide (v.s.size = 0) && decide (-2147483647 ≤ v.n) && decide (v.n ≤ 2147483647) else if v.k = 2 then decide (v.n = 0) && nameOk v.s else false
set_option maxRecDepth 100000 in
theorem bounded_any (n : Int) (w : World) : Calls Tryz.prog 106 #[.int .i64 n] w (RetBool (decide (-2147483647 ≤ n) && decide (n ≤ 2147483647)) w) := by
  by_cases h1 : -2147483647 ≤ n <;> by_cases h2 : n ≤ 2147483647 <;> (try (exfalso; omega))
  all_goals
    go_enter Tryz.func106, Tryz.ntmps106
    go_wp2
    go_ret
    exact ⟨by simp [h1, h2], Below.refl _ _⟩
set_option maxRecDepth 100000 in
set_option maxHeartbeats 400000 in
theorem right_any (v : GV) (w : World) : Calls Tryz.prog 60 #[v.v] w (RetBool (rightB v) w) := by
  by_cases h1 : v.k = 1
  · have z1 : (v.k == 1) = true := by simp [h1]
    have hb := Lib.hid (bounded_any v.n)
    have Hk := Lib.hid h1
    clear h1
    have ze : v.s.toList.isEmpty = decide (v.s.size = 0) := by
      rw [ByteArray.toList_eq, Bool.eq_iff_iff]
      simp only [List.isEmpty_iff, decide_eq_true_eq]
      exact ⟨fun h => congrArg List.length h, fun h => List.eq_nil_of_length_eq_zero h⟩
    by_cases hs : v.s.size = 0
    · have HR : Hid (rightB v = (decide (-2147483647 ≤ v.n) && decide (v.n ≤ 2147483647))) := by
        show rightB v = _
        simp [rightB, Hk.out, hs]
      go_enter Tryz.func60, Tryz.ntmps60
      go_wp2_with fail
      refine (hb.out _).mono ?_
      rintro e w1 ⟨rfl, hb⟩
      go_wp2_with fail
      go_ret
      exact ⟨by rw [HR.out]; rfl, below_next (belowA (Below.refl _ _) _) hb⟩
    · have HR : Hid (rightB v = false) := by show rightB v = false; simp [rightB, Hk.out, hs]
      go_enter Tryz.func60, Tryz.ntmps60
      go_wp2_with fail
      go_ret
      exact ⟨by rw [HR.out]; rfl, belowA (Below.refl _ _) _⟩
  · have z1 : (v.k == 1) = false := by simp [h1]
    have Hk := Lib.hid h1
    clear h1
    by_cases h2 : v.k = 2
    · have z2 : (v.k == 2) = true := by simp [h2]
      have Hk2 := Lib.hid h2
      clear h2
      by_cases h3 : v.n = 0
      · have z3 : (v.n == 0) = true := by simp [h3]
        have HR : Hid (rightB v = nameOk v.s) := by show rightB v = _; simp [rightB, Hk2.out, h3]
        clear h3
        go_enter Tryz.func60, Tryz.ntmps60
        go_wp2_with fail
        refine (name_any v.s _).mono ?_
        rintro e w1 ⟨rfl, hb⟩
        go_wp2_with fail
        go_ret
        exact ⟨by rw [HR.out]; rfl, below_next (belowA (Below.refl _ _) _) hb⟩
      · have z3 : (v.n == 0) = false := by simp [h3]
        have HR : Hid (rightB v = false) := by show rightB v = _; simp [rightB, Hk2.out, h3]
        clear h3
        go_enter Tryz.func60, Tryz.ntmps60
        go_wp2_with fail
        go_ret
        exact ⟨by rw [HR.out]; rfl, belowA (Below.refl _ _) _⟩
    · have z2 : (v.k == 2) = false := by simp [h2]
      have HR : Hid (rightB v = false) := by show rightB v = false; simp [rightB, Hk.out, h2]
      clear h2
      go_enter Tryz.func60, Tryz.ntmps60
      go_wp2_with fail
      go_ret
      exact ⟨by rw [HR.out]; rfl, belowA (Below.refl _ _) _⟩
end Go.Proofs.YtplekbpmfaghbaaGreatDoor
