/- My own texts Shelf, Tab, VFrame, StDigits, Keep0, Name, VParseLaw, VParse, as far as this claim needs them. -/
import Derived.Test.YtaeedepojpablaaGreatDoorZq1
import Derived.Shelf.Small.Strs
import Derived.Shelf.Small.Wraps
import Derived.Shelf.Strconv.Atoi
import Derived.Shelf.Strconv.Itoa0
import Derived.Shelf.Strconv.Itoa1
import Derived.Shelf.LaysM
import Derived.Shelf.Strconv.Itoa2
import Derived.Shelf.Strconv.Itoa3
import Derived.Shelf.Strconv.AtoiErrFast
import Derived.Shelf.Strconv.ParseIntEmpty
import Derived.Shelf.Strconv.AtoiFail
import Derived.Shelf.Strconv.Clone
import Derived.Shelf.Strconv.SyntaxError
import Derived.Shelf.LaysC
import Derived.Shelf.Strconv.ToError
import Derived.Shelf.Strconv.Lower
import Derived.Shelf.Strconv.ParseUint10
import Derived.Shelf.Strconv.ParseUint10Empty
import Derived.Shelf.Strconv.ParseUint10Any
import Derived.Shelf.Strconv.ParseInt10
import Derived.Shelf.Strconv.AtoiLong
import Derived.Shelf.Strconv.AtoiInnerAll
import Derived.Shelf.Strconv.RangeError
import Derived.Shelf.Strconv.ToErrorRange
import Derived.Shelf.Strconv.AtoiAll
import Derived.Shelf.Strconv.ErrVarAll
import Derived.Shelf.Strings.Search1
import Derived.Shelf.Strings.Search2
import Derived.Shelf.Strings.Cut
import Derived.Shelf.Strings.Shaped
import Derived.Shelf.Strings.Prefix
import Derived.Lib.AppendIntMem
import Derived.Lib.ItoaLen
import Derived.Test.YtaeedepojpablaaGreatDoorRows
import Derived.OpenShut
import Derived.ChangeOld
import Derived.ChangeSame
import Derived.ChangeVars
import Derived.JoinedOf
import Derived.LaidLaws
import Derived.LaidHandle
import Derived.Stop.LaidErr
import Derived.Lib.LaidTab
import Derived.Below
import Derived.Lib.TrimU
import Derived.Lib.OthersKept
import Derived.Deep.LoopGhost
import Derived.Lib.AtoiTie
import Derived.Lib.ItoaNum
import Derived.Lib.ItoaMem
import Derived.Laws.BitsAllLaws
import Derived.Laws.IdiomStrings
import Derived.Deep.DeepCutAuto
set_option linter.unusedVariables false
set_option linter.unusedSimpArgs false
set_option maxRecDepth 1000000
set_option maxHeartbeats 16000000
namespace Go.Proofs
open Go.Shelf
def Tryz.lays137_ren : Go.Shelf.Ren := ⟨fun | 137 => 162 | 217 => 188 | 266 => 218 | n => n, fun | 9 => 9 | 5 => 5 | 3 => 3 | n => n, fun | n => n⟩
theorem Tryz.lays137 : Go.Proofs.Lays.n137 Tryz.prog Tryz.lays137_ren := {
 mixed := by kernel_rfl
 f137 := Tryz.func162.trans (congrArg some (by kernel_rfl))
 f217 := Tryz.func188.trans (congrArg some (by kernel_rfl))
 f266 := Tryz.func218.trans (congrArg some (by kernel_rfl))
 t3 := Tryz.underlying3
 a3 := Tryz.isAgg3
 z3 := Tryz.sizeOf3
 v3 := Tryz.zeroValue3
 t5 := Tryz.underlying5
 a5 := Tryz.isAgg5
 z5 := Tryz.sizeOf5
 v5 := Tryz.zeroValue5
 t9 := Tryz.underlying9
 a9 := Tryz.isAgg9
 z9 := Tryz.sizeOf9
 v9 := Tryz.zeroValue9 }
open Go.RowKit in
theorem Tryz.strings_IndexByte (s : ByteArray) (c : Int) (w : World) :
 Calls Tryz.prog 162 #[.string s, .int .u8 c] w fun e w' => e = .returned (.int .i64 (Lib.indexByte s.data.toList c.toNat.toUInt8)) ∧ w' = w := Any.strings_IndexByte Tryz.lays137 s c w
def Tryz.laysM171_ren : Go.Shelf.Ren := ⟨fun | 171 => 194 | 243 => 220 | 246 => 238 | 283 => 255 | 284 => 256 | 285 => 257 | 286 => 258 | 129 => 217 | 317 => 268 | 318 => 269 | 319 => 270 | 320 => 271 | 337 => 275 | 338 => 276 | n => n, fun | 3 => 3 | 9 => 9 | 2 => 2 | 4 => 4 | 171 => 342 | 0 => 0 | 53 => 300 | 37 => 303 | 5 => 5 | 173 => 344 | 212 => 356 | 51 => 298 | 20 => 20 | 213 => 357 | 46 => 278 | 232 => 367 | 233 => 368 | n => n, fun | 17 => 7 | 18 => 8 | 19 => 9 | n => n⟩
theorem Tryz.laysM171 : Go.Proofs.LaysM.n171 Tryz.prog Tryz.laysM171_ren := {
 mixed := by kernel_rfl
 f129 := Tryz.func217.trans (congrArg some (by kernel_rfl))
 f171 := Tryz.func194.trans (congrArg some (by kernel_rfl))
 f243 := Tryz.func220.trans (congrArg some (by kernel_rfl))
 f246 := Tryz.func238.trans (congrArg some (by kernel_rfl))
 f283 := Tryz.func255.trans (congrArg some (by kernel_rfl))
 f284 := Tryz.func256.trans (congrArg some (by kernel_rfl))
 f285 := Tryz.func257.trans (congrArg some (by kernel_rfl))
 f286 := Tryz.func258.trans (congrArg some (by kernel_rfl))
 f317 := Tryz.func268.trans (congrArg some (by kernel_rfl))
 f318 := Tryz.func269.trans (congrArg some (by kernel_rfl))
 f319 := Tryz.func270.trans (congrArg some (by kernel_rfl))
 f320 := Tryz.func271.trans (congrArg some (by kernel_rfl))
 f337 := Tryz.func275.trans (congrArg some (by kernel_rfl))
 f338 := Tryz.func276.trans (congrArg some (by kernel_rfl))
 t0 := Tryz.underlying0
 a0 := Tryz.isAgg0
 z0 := Tryz.sizeOf0
 v0 := Tryz.zeroValue0
 t2 := Tryz.underlying2
 a2 := Tryz.isAgg2
 z2 := Tryz.sizeOf2
 v2 := Tryz.zeroValue2
 t3 := Tryz.underlying3
 a3 := Tryz.isAgg3
 z3 := Tryz.sizeOf3
 v3 := Tryz.zeroValue3
 t4 := Tryz.underlying4
 a4 := Tryz.isAgg4
 z4 := Tryz.sizeOf4
 v4 := Tryz.zeroValue4
 t5 := Tryz.underlying5
 a5 := Tryz.isAgg5
 z5 := Tryz.sizeOf5
 v5 := Tryz.zeroValue5
 t9 := Tryz.underlying9
 a9 := Tryz.isAgg9
 z9 := Tryz.sizeOf9
 v9 := Tryz.zeroValue9
 t20 := Tryz.underlying20
 a20 := Tryz.isAgg20
 z20 := Tryz.sizeOf20
 v20 := Tryz.zeroValue20
 t37 := Tryz.underlying303
 a37 := Tryz.isAgg303
 z37 := Tryz.sizeOf303
 v37 := Tryz.zeroValue303
 t46 := Tryz.underlying278
 a46 := Tryz.isAgg278
 z46 := Tryz.sizeOf278
 v46 := Tryz.zeroValue278
 t51 := Tryz.underlying298
 a51 := Tryz.isAgg298
 z51 := Tryz.sizeOf298
 v51 := Tryz.zeroValue298
 t53 := Tryz.underlying300
 a53 := Tryz.isAgg300
 z53 := Tryz.sizeOf300
 v53 := Tryz.zeroValue300
 t171 := Tryz.underlying342
 a171 := Tryz.isAgg342
 z171 := Tryz.sizeOf342
 v171 := Tryz.zeroValue342
 t173 := Tryz.underlying344
 a173 := Tryz.isAgg344
 z173 := Tryz.sizeOf344
 v173 := Tryz.zeroValue344
 t212 := Tryz.underlying356
 a212 := Tryz.isAgg356
 z212 := Tryz.sizeOf356
 v212 := Tryz.zeroValue356
 t213 := Tryz.underlying357
 a213 := Tryz.isAgg357
 z213 := Tryz.sizeOf357
 t232 := Tryz.underlying367
 a232 := Tryz.isAgg367
 z232 := Tryz.sizeOf367
 v232 := Tryz.zeroValue367
 t233 := Tryz.underlying368
 a233 := Tryz.isAgg368
 z233 := Tryz.sizeOf368
 v233 := Tryz.zeroValue368
 g17 := by kernel_rfl
 g18 := by kernel_rfl
 g19 := by kernel_rfl
 i0 := by kernel_rfl
 i2 := by kernel_rfl
 i3 := by kernel_rfl
 i4 := by kernel_rfl
 i5 := by kernel_rfl
 i9 := by kernel_rfl
 i20 := by kernel_rfl
 i37 := by kernel_rfl
 i46 := by kernel_rfl
 i51 := by kernel_rfl
 i53 := by kernel_rfl
 i171 := by kernel_rfl
 i173 := by kernel_rfl
 i212 := by kernel_rfl
 i232 := by kernel_rfl
 i233 := by kernel_rfl
 m17 := by kernel_rfl
 m18 := by kernel_rfl
 m19 := by kernel_rfl }
open Go.RowKit Go.Sort Go.Lib in
theorem Tryz.strconv_Itoa (n : Int) (h0 : -9223372036854775808 ≤ n) (h1 : n ≤ 9223372036854775807) (w : World) (htab : Lib.TabIs Tryz.prog w "internal/strconv.uint64pow10" .u64 Lib.pow10Tab) :
 Calls Tryz.prog 194 #[.int .i64 n] w fun e w' => e = .returned (.string ⟨(Lib.itoa n).toArray⟩) ∧ ∃ k os, w' = grow (w.drewN k) os := Any.strconv_Itoa Tryz.laysM171 n h0 h1 w htab
def Tryz.laysC172_ren : Go.Shelf.Ren := ⟨fun | 172 => 167 | 244 => 196 | 245 => 197 | 247 => 221 | 279 => 222 | 280 => 223 | 281 => 224 | 282 => 225 | 287 => 239 | 316 => 240 | 171 => 194 | 205 => 241 | 321 => 259 | 322 => 260 | 243 => 220 | 246 => 238 | 283 => 255 | 284 => 256 | 285 => 257 | 286 => 258 | 129 => 217 | 317 => 268 | 318 => 269 | 319 => 270 | 320 => 271 | 337 => 275 | 338 => 276 | n => n, fun | 9 => 9 | 3 => 3 | 75 => 28 | 76 => 36 | 4 => 4 | 5 => 5 | 167 => 302 | 37 => 303 | 0 => 0 | 85 => 304 | 2 => 2 | 168 => 306 | 53 => 300 | 175 => 323 | 46 => 278 | 210 => 327 | 127 => 347 | 145 => 350 | 143 => 348 | 21 => 21 | 171 => 342 | 173 => 344 | 212 => 356 | 51 => 298 | 20 => 20 | 213 => 357 | 232 => 367 | 233 => 368 | 80 => 372 | n => n, fun | 15 => 5 | 16 => 6 | 17 => 7 | 18 => 8 | 19 => 9 | n => n⟩
theorem Tryz.laysC172 : Go.Proofs.LaysC.n172 Tryz.prog Tryz.laysC172_ren := {
 mixed := by kernel_rfl
 f129 := Tryz.func217.trans (congrArg some (by kernel_rfl))
 f171 := Tryz.func194.trans (congrArg some (by kernel_rfl))
 f172 := Tryz.func167.trans (congrArg some (by kernel_rfl))
 f205 := Tryz.func241.trans (congrArg some (by kernel_rfl))
 f243 := Tryz.func220.trans (congrArg some (by kernel_rfl))
 f244 := Tryz.func196.trans (congrArg some (by kernel_rfl))
 f245 := Tryz.func197.trans (congrArg some (by kernel_rfl))
 f246 := Tryz.func238.trans (congrArg some (by kernel_rfl))
 f247 := Tryz.func221.trans (congrArg some (by kernel_rfl))
 f279 := Tryz.func222.trans (congrArg some (by kernel_rfl))
 f280 := Tryz.func223.trans (congrArg some (by kernel_rfl))
 f281 := Tryz.func224.trans (congrArg some (by kernel_rfl))
 f282 := Tryz.func225.trans (congrArg some (by kernel_rfl))
 f283 := Tryz.func255.trans (congrArg some (by kernel_rfl))
 f284 := Tryz.func256.trans (congrArg some (by kernel_rfl))
 f285 := Tryz.func257.trans (congrArg some (by kernel_rfl))
 f286 := Tryz.func258.trans (congrArg some (by kernel_rfl))
 f287 := Tryz.func239.trans (congrArg some (by kernel_rfl))
 f316 := Tryz.func240.trans (congrArg some (by kernel_rfl))
 f317 := Tryz.func268.trans (congrArg some (by kernel_rfl))
 f318 := Tryz.func269.trans (congrArg some (by kernel_rfl))
 f319 := Tryz.func270.trans (congrArg some (by kernel_rfl))
 f320 := Tryz.func271.trans (congrArg some (by kernel_rfl))
 f321 := Tryz.func259.trans (congrArg some (by kernel_rfl))
 f322 := Tryz.func260.trans (congrArg some (by kernel_rfl))
 f337 := Tryz.func275.trans (congrArg some (by kernel_rfl))
 f338 := Tryz.func276.trans (congrArg some (by kernel_rfl))
 t0 := Tryz.underlying0
 a0 := Tryz.isAgg0
 z0 := Tryz.sizeOf0
 v0 := Tryz.zeroValue0
 t2 := Tryz.underlying2
 a2 := Tryz.isAgg2
 z2 := Tryz.sizeOf2
 v2 := Tryz.zeroValue2
 t3 := Tryz.underlying3
 a3 := Tryz.isAgg3
 z3 := Tryz.sizeOf3
 v3 := Tryz.zeroValue3
 t4 := Tryz.underlying4
 a4 := Tryz.isAgg4
 z4 := Tryz.sizeOf4
 v4 := Tryz.zeroValue4
 t5 := Tryz.underlying5
 a5 := Tryz.isAgg5
 z5 := Tryz.sizeOf5
 v5 := Tryz.zeroValue5
 t9 := Tryz.underlying9
 a9 := Tryz.isAgg9
 z9 := Tryz.sizeOf9
 v9 := Tryz.zeroValue9
 t20 := Tryz.underlying20
 a20 := Tryz.isAgg20
 z20 := Tryz.sizeOf20
 v20 := Tryz.zeroValue20
 t21 := Tryz.underlying21
 a21 := Tryz.isAgg21
 z21 := Tryz.sizeOf21
 v21 := Tryz.zeroValue21
 t37 := Tryz.underlying303
 a37 := Tryz.isAgg303
 z37 := Tryz.sizeOf303
 v37 := Tryz.zeroValue303
 t46 := Tryz.underlying278
 a46 := Tryz.isAgg278
 z46 := Tryz.sizeOf278
 v46 := Tryz.zeroValue278
 t51 := Tryz.underlying298
 a51 := Tryz.isAgg298
 z51 := Tryz.sizeOf298
 v51 := Tryz.zeroValue298
 t53 := Tryz.underlying300
 a53 := Tryz.isAgg300
 z53 := Tryz.sizeOf300
 v53 := Tryz.zeroValue300
 t75 := Tryz.underlying28
 a75 := Tryz.isAgg28
 z75 := Tryz.sizeOf28
 v75 := Tryz.zeroValue28
 t76 := Tryz.underlying36
 a76 := Tryz.isAgg36
 z76 := Tryz.sizeOf36
 v76 := Tryz.zeroValue36
 t85 := Tryz.underlying304
 a85 := Tryz.isAgg304
 z85 := Tryz.sizeOf304
 v85 := Tryz.zeroValue304
 t127 := Tryz.underlying347
 a127 := Tryz.isAgg347
 z127 := Tryz.sizeOf347
 v127 := Tryz.zeroValue347
 t143 := Tryz.underlying348
 a143 := Tryz.isAgg348
 z143 := Tryz.sizeOf348
 v143 := Tryz.zeroValue348
 t145 := Tryz.underlying350
 a145 := Tryz.isAgg350
 z145 := Tryz.sizeOf350
 v145 := Tryz.zeroValue350
 t167 := Tryz.underlying302
 a167 := Tryz.isAgg302
 z167 := Tryz.sizeOf302
 v167 := Tryz.zeroValue302
 t168 := Tryz.underlying306
 a168 := Tryz.isAgg306
 z168 := Tryz.sizeOf306
 v168 := Tryz.zeroValue306
 t171 := Tryz.underlying342
 a171 := Tryz.isAgg342
 z171 := Tryz.sizeOf342
 v171 := Tryz.zeroValue342
 t173 := Tryz.underlying344
 a173 := Tryz.isAgg344
 z173 := Tryz.sizeOf344
 v173 := Tryz.zeroValue344
 t175 := Tryz.underlying323
 a175 := Tryz.isAgg323
 z175 := Tryz.sizeOf323
 v175 := Tryz.zeroValue323
 t210 := Tryz.underlying327
 a210 := Tryz.isAgg327
 z210 := Tryz.sizeOf327
 v210 := Tryz.zeroValue327
 t212 := Tryz.underlying356
 a212 := Tryz.isAgg356
 z212 := Tryz.sizeOf356
 v212 := Tryz.zeroValue356
 t213 := Tryz.underlying357
 a213 := Tryz.isAgg357
 z213 := Tryz.sizeOf357
 t232 := Tryz.underlying367
 a232 := Tryz.isAgg367
 z232 := Tryz.sizeOf367
 v232 := Tryz.zeroValue367
 t233 := Tryz.underlying368
 a233 := Tryz.isAgg368
 z233 := Tryz.sizeOf368
 v233 := Tryz.zeroValue368
 g15 := by kernel_rfl
 g16 := by kernel_rfl
 g17 := by kernel_rfl
 g18 := by kernel_rfl
 g19 := by kernel_rfl
 t80 := Tryz.underlying372
 a80 := Tryz.isAgg372
 z80 := Tryz.sizeOf372
 v80 := Tryz.zeroValue372
 i0 := by kernel_rfl
 i2 := by kernel_rfl
 i3 := by kernel_rfl
 i4 := by kernel_rfl
 i5 := by kernel_rfl
 i9 := by kernel_rfl
 i20 := by kernel_rfl
 i21 := by kernel_rfl
 i37 := by kernel_rfl
 i46 := by kernel_rfl
 i51 := by kernel_rfl
 i53 := by kernel_rfl
 i75 := by kernel_rfl
 i76 := by kernel_rfl
 i80 := by kernel_rfl
 i85 := by kernel_rfl
 i127 := by kernel_rfl
 i143 := by kernel_rfl
 i145 := by kernel_rfl
 i167 := by kernel_rfl
 i168 := by kernel_rfl
 i171 := by kernel_rfl
 i173 := by kernel_rfl
 i175 := by kernel_rfl
 i210 := by kernel_rfl
 i212 := by kernel_rfl
 i232 := by kernel_rfl
 i233 := by kernel_rfl
 m15 := by kernel_rfl
 m16 := by kernel_rfl
 m17 := by kernel_rfl
 m18 := by kernel_rfl
 m19 := by kernel_rfl
 c0 := by kernel_rfl
 c2 := by kernel_rfl
 c3 := by kernel_rfl
 c4 := by kernel_rfl
 c5 := by kernel_rfl
 c9 := by kernel_rfl
 c20 := by kernel_rfl
 c21 := by kernel_rfl
 c37 := by kernel_rfl
 c46 := by kernel_rfl
 c51 := by kernel_rfl
 c53 := by kernel_rfl
 c75 := by kernel_rfl
 c76 := by kernel_rfl
 c80 := by kernel_rfl
 c85 := by kernel_rfl
 c127 := by kernel_rfl
 c143 := by kernel_rfl
 c145 := by kernel_rfl
 c167 := by kernel_rfl
 c168 := by kernel_rfl
 c171 := by kernel_rfl
 c173 := by kernel_rfl
 c175 := by kernel_rfl
 c210 := by kernel_rfl
 c212 := by kernel_rfl
 c213 := by kernel_rfl
 c232 := by kernel_rfl
 c233 := by kernel_rfl }
open Go.RowKit in
theorem Tryz.strconv_Atoi_ok (s : ByteArray) (hmax : s.size ≤ 9223372036854775806) (v : Int) (h : Lib.atoiAll s.data.toList = .ok v) (w : World) :
 Calls Tryz.prog 167 #[.string s] w fun e w' => e = .returned (.tuple #[.int .i64 v, .nilIface]) ∧ (w' = w ∨ ∃ t, w' = Lib.bytesWorld w 5 t) := Any.strconv_Atoi_ok Tryz.laysC172 s hmax v h w
def Tryz.lays99_ren : Go.Shelf.Ren := ⟨fun | 99 => 166 | 206 => 195 | n => n, fun | 9 => 9 | 4 => 4 | 3 => 3 | n => n, fun | n => n⟩
theorem Tryz.lays99 : Go.Proofs.Lays.n99 Tryz.prog Tryz.lays99_ren := {
 mixed := by kernel_rfl
 f99 := Tryz.func166.trans (congrArg some (by kernel_rfl))
 f206 := Tryz.func195.trans (congrArg some (by kernel_rfl))
 t3 := Tryz.underlying3
 a3 := Tryz.isAgg3
 z3 := Tryz.sizeOf3
 v3 := Tryz.zeroValue3
 t4 := Tryz.underlying4
 a4 := Tryz.isAgg4
 z4 := Tryz.sizeOf4
 v4 := Tryz.zeroValue4
 t9 := Tryz.underlying9
 a9 := Tryz.isAgg9
 z9 := Tryz.sizeOf9
 v9 := Tryz.zeroValue9 }
open Go.RowKit Go.Lib in
theorem Tryz.strings_HasPrefix (s p : ByteArray) (w : World) :
 Calls Tryz.prog 166 #[.string s, .string p] w fun e w' => e = .returned (.bool (Lib.hasPrefix s.data.toList p.data.toList)) ∧ w' = w := Any.strings_HasPrefix Tryz.lays99 s p w
end Go.Proofs

namespace Go.Proofs.YtaeedepojpablaaGreatDoor
open Go.RowKit
def RetV (v : Value) (w : World) (e : Ending) (w' : World) : Prop := e = .returned v ∧ Below w.heap.size w w'
def TabW (w : World) : Prop := ∀ W, Below w.heap.size w W → Lib.TabIs Tryz.prog W "internal/strconv.uint64pow10" .u64 Lib.pow10Tab
theorem TabW.of {w : World} (h : Lib.TabIs Tryz.prog w "internal/strconv.uint64pow10" .u64 Lib.pow10Tab) : TabW w := Lib.tabBelow_of_tabIs h
theorem TabW.on {w W : World} (h : TabW w) (hb : Below w.heap.size w W) : TabW W := fun _ hb' => h _ (hb.trans (hb'.mono hb.size))
theorem itoa_any (n : Int) (hn : fits n) (w : World) (h : TabW w) : Calls Tryz.prog 194 #[.int .i64 n] w (fun e w' => ∃ s : ByteArray, Hid (s = ⟨(Lib.itoa n).toArray⟩) ∧ s.size ≤ 21 ∧ e = .returned (.string s) ∧ Below w.heap.size w w') := by
 have hn' : -9223372036854775808 ≤ n ∧ n ≤ 9223372036854775807 := by
  unfold fits at hn; simp [Lit.wf, IntKind.min, IntKind.max, IntKind.signed, IntKind.bits] at hn; omega
 refine (Tryz.strconv_Itoa n hn'.1 hn'.2 w (h w (Below.refl _ _))).mono ?_; rintro e w' ⟨rfl, k, os, rfl⟩; exact ⟨_, rfl, by have := Lib.itoa_length_le n hn'.1 hn'.2; simpa [ByteArray.size] using this, rfl, Lib.below_grow _ _ (Nat.le_refl _) _ _⟩
end Go.Proofs.YtaeedepojpablaaGreatDoor

namespace Go.Proofs.YtaeedepojpablaaGreatDoor
open Go.ChangeShapes Go.WideShapes Go.ChangeAt Go.RowKit
set_option linter.unusedVariables false
theorem own : ownKnob Tryz.prog.godebug = none := by kernel_rfl
theorem laidOut : laidOutB Tryz.prog = true := by kernel_rfl
theorem u_bool : Tryz.prog.underlying 4 = some .bool := by kernel_rfl
theorem gP : Tryz.prog.globalNamed "internal/strconv.uint64pow10" = some 7 := by kernel_rfl
theorem gPT : (Tryz.prog.globals[7]?).map (·.type) = some 356 := by kernel_rfl
theorem pow_eq : (Rows.laid_internal_strconv_uint64pow10 : DataW Unit) = Lib.tabData .u64 Lib.pow10Tab := by kernel_rfl
end Go.Proofs.YtaeedepojpablaaGreatDoor

namespace Go.Proofs.YtaeedepojpablaaGreatDoor
open Go.RowKit
theorem fits_iff (n : Int) : fits n ↔ -9223372036854775808 ≤ n ∧ n ≤ 9223372036854775807 := by
 unfold fits; simp [Lit.wf, IntKind.min, IntKind.max, IntKind.signed, IntKind.bits]
end Go.Proofs.YtaeedepojpablaaGreatDoor

namespace Go.Proofs.YtaeedepojpablaaGreatDoor
open Go.RowKit
theorem SliceIs.keep {α : Type} {E : Enc α} {w w' : World} {A : Option Addr} {n c : Nat} {l : List α} (h : SliceIs E w w.heap.size A n c l) (hb : Below w.heap.size w w') : SliceIs E w' w'.heap.size A n c l :=
 (h.below hb).mono hb.size (fun _ _ => rfl)
theorem below_next {w W W' : World} (h : Below w.heap.size w W) (h' : Below W.heap.size W W') : Below w.heap.size w W' := h.trans (h'.mono h.size)
end Go.Proofs.YtaeedepojpablaaGreatDoor

namespace Go.Proofs.YtaeedepojpablaaGreatDoor
open Go.RowKit
def RetSameB (b : Bool) (w : World) (e : Ending) (w' : World) : Prop := e = .returned (.bool b) ∧ w' = w
def nameB (n : Nat) : Bool := (decide (97 ≤ n) && decide (n ≤ 122)) || (decide (48 ≤ n) && decide (n ≤ 57)) || decide (n = 95)
theorem strange_any (r : Nat) (w : World) : Calls Tryz.prog 200 #[.int .i32 r] w (RetBool (!nameB r) w) := by
 by_cases h1 : 97 ≤ r <;> by_cases h2 : r ≤ 122 <;> by_cases h3 : 48 ≤ r <;> by_cases h4 : r ≤ 57 <;> by_cases h5 : r = 95 <;> (try (exfalso; omega))
 all_goals
  have z1 : (97 : Int) ≤ (r : Int) ↔ 97 ≤ r := by omega
  have z2 : (r : Int) ≤ 122 ↔ r ≤ 122 := by omega
  have z3 : (48 : Int) ≤ (r : Int) ↔ 48 ≤ r := by omega
  have z4 : (r : Int) ≤ 57 ↔ r ≤ 57 := by omega
  have z5 : ((r : Int) == 95) = decide (r = 95) := by rw [Bool.eq_iff_iff]; simp; omega
  go_enter Tryz.func200, Tryz.ntmps200
  go_wp2
  go_ret; exact ⟨by simp [nameB, h1, h2, h3, h4, h5], Below.refl _ _⟩
def lowB (n : Nat) : Bool := decide (97 ≤ n) && decide (n ≤ 122)
theorem letter_any (r : Nat) (w : World) : Calls Tryz.prog 201 #[.int .u8 r] w (RetBool (lowB r) w) := by
 by_cases h1 : 97 ≤ r <;> by_cases h2 : r ≤ 122 <;> (try (exfalso; omega))
 all_goals
  have z1 : (97 : Int) ≤ (r : Int) ↔ 97 ≤ r := by omega
  have z2 : (r : Int) ≤ 122 ↔ r ≤ 122 := by omega
  go_enter Tryz.func201, Tryz.ntmps201
  go_wp2
  go_ret; exact ⟨by simp [lowB, h1, h2], Below.refl _ _⟩
def byteAt (s : ByteArray) (i : Nat) : Nat := (s.get! i).toNat
theorem byteAt_eq {s : ByteArray} {i : Nat} (h : i < s.size) : (s[i]'h).toNat = byteAt s i := by
 obtain ⟨d⟩ := s; show (d[i]'h).toNat = (d[i]!).toNat; rw [getElem!_pos d i h]
def allN (s : ByteArray) : Bool := decide (∀ i, i < s.size → nameB (byteAt s i) = true)
theorem allN_false {s : ByteArray} {i : Nat} (hi : i < s.size) (h : nameB (byteAt s i) = false) : allN s = false := by
 simp only [allN, decide_eq_false_iff_not]; intro h'; rw [h' i hi] at h; cases h
theorem decode_name (s : ByteArray) (i : Nat) : (nameB (Utf8.decode s i).1 = nameB (byteAt s i)) ∧ (nameB (byteAt s i) = true → (Utf8.decode s i).2 = 1) := by
 have hb : ∀ n, 128 ≤ n → nameB n = false := by
  intro n hn; simp only [nameB, Bool.or_eq_false_iff, Bool.and_eq_false_iff, decide_eq_false_iff_not]; omega
 by_cases h : byteAt s i < 128
 ·have : Utf8.decode s i = (byteAt s i, 1) := by
   unfold Utf8.decode; simp only [Nat.add_zero]; exact if_pos h
  rw [this]; exact ⟨rfl, fun _ => rfl⟩
 ·have h1 : 128 ≤ (Utf8.decode s i).1 := by
   unfold Utf8.decode; simp only [Nat.add_zero]; rw [if_neg (show ¬ (s.get! i).toNat < 128 from h)]; repeat' split
   all_goals first | (simp only [ge_iff_le, Bool.and_eq_true, decide_eq_true_eq] at *; omega) | (simp [Utf8.runeError])
  rw [hb _ h1, hb _ (by omega)]; exact ⟨rfl, fun h => by cases h⟩
def IdxPost (s : ByteArray) (w : World) (e : Ending) (w' : World) : Prop := ∃ k : Int, e = .returned (.int .i64 k) ∧ decide (0 ≤ k) = !allN s ∧ Below w.heap.size w w'
theorem indexFunc_any (s : ByteArray) (w : World) : Calls Tryz.prog 242 #[.string s, .func (.func 200) #[] #[], .bool true] w (IdxPost s w) := by
 go_enter Tryz.func242, Tryz.ntmps242
 go_wp2
 go_loopg [] s.size (fun gf wx => ∃ pos : Nat, wx.heap[w.heap.size]? = some (.stringIter s pos) ∧ Below w.heap.size w wx ∧ Hid (∀ i, i < pos → nameB (byteAt s i) = true) ∧ pos + gf = s.size)
 case atStart => exact ⟨0, World.iter_heap w s 0, (Below.refl _ w).alloc (Nat.le_refl _) _, fun i h => by omega, by omega⟩
 case round =>
  obtain ⟨pos, hit, hbw, hpre, hfu⟩ := hrel; by_cases hps : pos < s.size
  ·have hnx : ∀ ty, (Instr.next (.pointer (some ⟨w.heap.size, 0, none⟩)) true ty).run Tryz.prog wr = _ := fun ty => Lib.run_next_any_at wr w.heap.size s pos ty hit hps
   obtain ⟨hd1, hd2⟩ := decode_name s pos; have hit2 := Lib.iterAt_heap wr w.heap.size s pos (pos + (Utf8.decode s pos).2) hit; have hbw2 := Lib.below_iterAt hbw (k := w.heap.size) (Nat.le_refl _) s (pos + (Utf8.decode s pos).2); have cS := strange_any (Utf8.decode s pos).1 (wr.iterAt w.heap.size s (pos + (Utf8.decode s pos).2)); rw [hd1] at cS; generalize (Utf8.decode s pos).1 = R at *; cases hn : nameB (byteAt s pos) with
   | true =>
     rw [hd2 hn] at *; rw [hn] at cS; have Hn := hZ9 hn; have cS := hZ9 cS; have hit2 := hZ9 hit2; have hbw2 := hZ9 hbw2; clear hn hd1 hd2 hit; go_wp2_with fail
     refine cS.out.mono ?_; rintro e w1 ⟨rfl, hb⟩; go_wp2_with fail
     go_roundg (gk - 1)
     case measure => omega
     case rel => exact ⟨pos + 1, (hb.block _ ((glt hit2.out))).trans hit2.out, below_next hbw2.out hb, fun i hi => by
      by_cases h : i < pos
      ·exact hpre.out i h
      ·rw [show i = pos by omega]; exact Hn.out, by omega⟩
   | false =>
     rw [hn] at cS; have Hn := hZ9 (allN_false hps hn); have cS := hZ9 cS; have hbw2 := hZ9 hbw2; clear hn hd1 hd2 hit hit2; go_wp2_with fail
     refine cS.out.mono ?_; rintro e w1 ⟨rfl, hb⟩; go_wp2_with fail
     go_ret; exact ⟨_, rfl, by rw [Hn.out]; simp, below_next hbw2.out hb⟩
  ·have hnx : ∀ ty, (Instr.next (.pointer (some ⟨w.heap.size, 0, none⟩)) true ty).run Tryz.prog wr = _ := fun ty => Lib.run_next_end_at wr w.heap.size s pos ty hit hps
   go_wp2_with fail
   go_ret
   exact ⟨_, rfl, by
    have : allN s = true := by
     simp only [allN, decide_eq_true_eq]; exact fun i hi => hpre.out i (by omega)
    rw [this]; rfl, hbw⟩
def ContPost (s : ByteArray) (w : World) (e : Ending) (w' : World) : Prop := e = .returned (.bool (!allN s)) ∧ Below w.heap.size w w'
theorem containsFunc_any (s : ByteArray) (w : World) : Calls Tryz.prog 202 #[.string s, .func (.func 200) #[] #[]] w (ContPost s w) := by
 have hi : Calls Tryz.prog 227 #[.string s, .func (.func 200) #[] #[]] w (IdxPost s w) := by
  go_enter Tryz.func227, Tryz.ntmps227
  go_wp2_with fail
  refine (indexFunc_any s w).mono ?_; rintro e w1 ⟨k, rfl, hk, hb⟩; go_wp2_with fail
  go_ret; exact ⟨k, rfl, hk, hb⟩
 go_enter Tryz.func202, Tryz.ntmps202
 go_wp2_with fail
 refine hi.mono ?_; rintro e w1 ⟨k, rfl, hk, hb⟩; have Hk := hZ9 hk; clear hk; go_wp2_with fail
 go_ret; exact ⟨by rw [← Hk.out]; rfl, hb⟩
def nameOk (s : ByteArray) : Bool := decide (1 ≤ s.size) && decide (s.size ≤ 32) && lowB (byteAt s 0) && allN s
theorem name_any (s : ByteArray) (w : World) : Calls Tryz.prog 179 #[.string s] w (RetBool (nameOk s) w) := by
 by_cases h0 : s.size = 0
 ·have hl0 : s.toList = [] := by
   rw [ByteArray.toList_eq]; exact List.eq_nil_of_length_eq_zero h0
  have he : s.toList.isEmpty = true := by rw [hl0]; rfl
  have HR : Hid (nameOk s = false) := by show nameOk s = false; simp [nameOk, h0]
  go_enter Tryz.func179, Tryz.ntmps179
  go_wp2_with fail
  go_ret; exact ⟨by rw [HR.out]; rfl, Below.refl _ _⟩
 ·have hl0 : s.toList ≠ [] := by
   rw [ByteArray.toList_eq]; intro h; exact h0 (congrArg List.length h)
  have he : s.toList.isEmpty = false := by simpa using hl0
  by_cases h32 : s.size ≤ 32
  ·have z1 : (s.size : Int) ≤ 32 ↔ s.size ≤ 32 := by omega
   have hlt : 0 < s.size := by omega
   cases hlow : lowB (byteAt s 0) with
   | true =>
     have HR : Hid (nameOk s = allN s) := by show nameOk s = allN s; simp [nameOk, h32, hlow]; omega
     have cl := letter_any (byteAt s 0) w; rw [hlow, ← byteAt_eq hlt] at cl; have cl := hZ9 cl; clear hlow; go_enter Tryz.func179, Tryz.ntmps179
     go_wp2_with fail
     refine cl.out.mono ?_; rintro e w1 ⟨rfl, hb⟩; go_wp2_with fail
     refine (containsFunc_any s w1).mono ?_; rintro e w2 ⟨rfl, hb2⟩; go_wp2_with fail
     go_ret; exact ⟨by rw [HR.out, ← Bool.not_not (allN s)]; rfl, below_next hb hb2⟩
   | false =>
     have HR : Hid (nameOk s = false) := by show nameOk s = false; simp [nameOk, hlow]
     have cl := letter_any (byteAt s 0) w; rw [hlow, ← byteAt_eq hlt] at cl; have cl := hZ9 cl; clear hlow; go_enter Tryz.func179, Tryz.ntmps179
     go_wp2_with fail
     refine cl.out.mono ?_; rintro e w1 ⟨rfl, hb⟩; go_wp2_with fail
     go_ret; exact ⟨by rw [HR.out]; rfl, hb⟩
  ·have z1 : ¬ (s.size : Int) ≤ 32 := by omega
   have HR : Hid (nameOk s = false) := by show nameOk s = false; simp [nameOk, h32]
   go_enter Tryz.func179, Tryz.ntmps179
   go_wp2_with fail
   go_ret; exact ⟨by rw [HR.out]; rfl, Below.refl _ _⟩
def rightB (v : GV) : Bool := if v.k = 1 then decide (v.s.size = 0) && decide (-2147483647 ≤ v.n) && decide (v.n ≤ 2147483647) else if v.k = 2 then decide (v.n = 0) && nameOk v.s else false
theorem bounded_any (n : Int) (w : World) : Calls Tryz.prog 178 #[.int .i64 n] w (RetBool (decide (-2147483647 ≤ n) && decide (n ≤ 2147483647)) w) := by
 by_cases h1 : -2147483647 ≤ n <;> by_cases h2 : n ≤ 2147483647 <;> (try (exfalso; omega))
 all_goals
  go_enter Tryz.func178, Tryz.ntmps178
  go_wp2
  go_ret; exact ⟨by simp [h1, h2], Below.refl _ _⟩
theorem right_any (v : GV) (w : World) : Calls Tryz.prog 146 #[v.v] w (RetBool (rightB v) w) := by
 by_cases h1 : v.k = 1
 ·have z1 : (v.k == 1) = true := by simp [h1]
  have hb := hZ9 (bounded_any v.n); have Hk := hZ9 h1; clear h1
  have ze : v.s.toList.isEmpty = decide (v.s.size = 0) := by
   rw [ByteArray.toList_eq, Bool.eq_iff_iff]; simp only [List.isEmpty_iff, decide_eq_true_eq]; exact ⟨fun h => congrArg List.length h, fun h => List.eq_nil_of_length_eq_zero h⟩
  by_cases hs : v.s.size = 0
  ·have HR : Hid (rightB v = (decide (-2147483647 ≤ v.n) && decide (v.n ≤ 2147483647))) := by
    show rightB v = _; simp [rightB, Hk.out, hs]
   go_enter Tryz.func146, Tryz.ntmps146
   go_wp2_with fail
   refine (hb.out _).mono ?_; rintro e w1 ⟨rfl, hb⟩; go_wp2_with fail
   go_ret; exact ⟨by rw [HR.out]; rfl, below_next (belowA (Below.refl _ _) _) hb⟩
  ·have HR : Hid (rightB v = false) := by show rightB v = false; simp [rightB, Hk.out, hs]
   go_enter Tryz.func146, Tryz.ntmps146
   go_wp2_with fail
   go_ret; exact ⟨by rw [HR.out]; rfl, belowA (Below.refl _ _) _⟩
 ·have z1 : (v.k == 1) = false := by simp [h1]
  have Hk := hZ9 h1; clear h1; by_cases h2 : v.k = 2
  ·have z2 : (v.k == 2) = true := by simp [h2]
   have Hk2 := hZ9 h2; clear h2; by_cases h3 : v.n = 0
   ·have z3 : (v.n == 0) = true := by simp [h3]
    have HR : Hid (rightB v = nameOk v.s) := by show rightB v = _; simp [rightB, Hk2.out, h3]
    clear h3; go_enter Tryz.func146, Tryz.ntmps146
    go_wp2_with fail
    refine (name_any v.s _).mono ?_; rintro e w1 ⟨rfl, hb⟩; go_wp2_with fail
    go_ret; exact ⟨by rw [HR.out]; rfl, below_next (belowA (Below.refl _ _) _) hb⟩
   ·have z3 : (v.n == 0) = false := by simp [h3]
    have HR : Hid (rightB v = false) := by show rightB v = _; simp [rightB, Hk2.out, h3]
    clear h3; go_enter Tryz.func146, Tryz.ntmps146
    go_wp2_with fail
    go_ret; exact ⟨by rw [HR.out]; rfl, belowA (Below.refl _ _) _⟩
  ·have z2 : (v.k == 2) = false := by simp [h2]
   have HR : Hid (rightB v = false) := by show rightB v = false; simp [rightB, Hk.out, h2]
   clear h2; go_enter Tryz.func146, Tryz.ntmps146
   go_wp2_with fail
   go_ret; exact ⟨by rw [HR.out]; rfl, belowA (Below.refl _ _) _⟩
end Go.Proofs.YtaeedepojpablaaGreatDoor

namespace Go.Proofs.YtaeedepojpablaaGreatDoor
open Go.Lib
theorem decFrom_append : ∀ (l m : List UInt8) (a : Nat), decFrom a (l ++ m) = (decFrom a l).bind (fun n => decFrom n m)
 | [], m, a => by simp [decFrom]
 | b :: l, m, a => by
   simp only [List.cons_append, decFrom]; cases digitVal b with
   | none => rfl
   | some d => exact decFrom_append l m _
theorem digit_u8 {d : Nat} (h : d < 10) : digitVal (UInt8.ofNat (48 + d)) = some d := by
 have : (UInt8.ofNat (48 + d)).toNat = 48 + d := by simp; omega
 unfold digitVal; rw [if_pos (by omega)]; congr 1; omega
theorem dec_digits : ∀ n : Nat, decFrom 0 (decDigits n) = some n := by
 intro n; induction n using Nat.strongRecOn with
 | _ n ih =>
   rw [decDigits]; split
   ·rename_i h
    simp only [decFrom, digit_u8 h]; simp
   ·rename_i h
    rw [decFrom_append, ih (n / 10) (by omega)]; simp only [Option.bind_some, decFrom, digit_u8 (Nat.mod_lt n (by omega))]; congr 1; omega
theorem digits_ne (n : Nat) : decDigits n ≠ [] := by
 rw [decDigits]; split <;> simp
theorem digits_first : ∀ n : Nat, 1 ≤ n → ∃ c r, decDigits n = c :: r ∧ 49 ≤ c.toNat ∧ c.toNat ≤ 57 := by
 intro n; induction n using Nat.strongRecOn with
 | _ n ih =>
   intro h1; rw [decDigits]; split
   ·rename_i h
    have : (UInt8.ofNat (48 + n)).toNat = 48 + n := by simp; omega
    exact ⟨_, [], rfl, by omega, by omega⟩
   ·rename_i h
    obtain ⟨c, r, e, h2, h3⟩ := ih (n / 10) (by omega) (by omega); exact ⟨c, _, by rw [e]; rfl, h2, h3⟩
theorem digits_zero : decDigits 0 = [48] := by rw [decDigits]; rfl
theorem digits_len : ∀ (k n : Nat), n < 10 ^ (k + 1) → (decDigits n).length ≤ k + 1 := by
 intro k; induction k with
 | zero => intro n h; rw [decDigits, dif_pos (by simpa using h)]; simp
 | succ k ih =>
   intro n h; rw [decDigits]; split
   ·simp
   ·have := ih (n / 10) (by rw [Nat.pow_succ] at h; omega); simp; omega
theorem digitVal_some {c : UInt8} {d : Nat} (h : digitVal c = some d) : d < 10 ∧ c = UInt8.ofNat (48 + d) := by
 unfold digitVal at h; split at h
 ·rename_i hc
  injection h with h
  refine ⟨by omega, ?_⟩; apply UInt8.toNat_inj.1; have : (UInt8.ofNat (48 + d)).toNat = 48 + d := by simp; omega
  rw [this]; omega
 ·cases h
theorem digits_back : ∀ (k : Nat) (t : List UInt8) (n : Nat), t.length = k → t ≠ [] → (∀ c r, t = c :: r → c = 48 → r = []) → decFrom 0 t = some n → decDigits n = t := by
 intro k; induction k with
 | zero => intro t n hl hn; exact absurd (List.eq_nil_of_length_eq_zero hl) hn
 | succ k ih =>
   intro t n hl hn h0 hd
   obtain ⟨t', c, rfl⟩ : ∃ t' c, t = t' ++ [c] := by
    rcases List.eq_nil_or_concat t with h | ⟨l, b, h⟩
    ·exact absurd h hn
    ·exact ⟨l, b, by simpa using h⟩
   rw [decFrom_append] at hd; cases hn' : decFrom 0 t' with
   | none => rw [hn'] at hd; cases hd
   | some m =>
     rw [hn'] at hd; simp only [Option.bind_some, decFrom] at hd; cases hc : digitVal c with
     | none => rw [hc] at hd; cases hd
     | some d =>
       rw [hc] at hd; injection hd with hd
       obtain ⟨hd10, rfl⟩ := digitVal_some hc; cases ht : t' with
       | nil =>
         subst ht; simp only [decFrom] at hn'; injection hn' with hn'
         subst hn'; rw [decDigits, dif_pos (by omega)]; rw [← hd]; simp
       | cons a r =>
         have h0' : ∀ c r, t' = c :: r → c = 48 → r = [] := by
          intro c' r' e e48; have := h0 c' (r' ++ [UInt8.ofNat (48 + d)]) (by rw [e]; rfl) e48; simp at this
         have hm := ih t' m (by simpa using hl) (by rw [ht]; simp) h0' hn'
         have hm1 : 1 ≤ m := by
          rcases Nat.eq_zero_or_pos m with h | h
          ·subst h; rw [digits_zero] at hm; have := h0 48 [UInt8.ofNat (48 + d)] (by rw [← hm]; rfl) rfl; simp at this
          ·exact h
         rw [← ht, ← hm]; rw [decDigits, dif_neg (by omega)]; rw [show n / 10 = m by omega, show n % 10 = d by omega]
def magOf (t : List UInt8) : Option Nat := match decFrom 0 t with
    | some n => if 2147483647 < n then none else some n
    | none => none
def refMag (t : List UInt8) (neg : Bool) : Option Nat :=
 if t.length = 0 ∨ 10 < t.length ∨ (t.head? = some 48 ∧ (1 < t.length ∨ neg = true)) then none
 else magOf t
def refNum (l : List UInt8) : Option Int :=
 if l.head? = some 45 then (refMag l.tail true).map fun (n : Nat) => -(n : Int) else (refMag l false).map fun (n : Nat) => (n : Int)
def bnd31 (n : Int) : Bool := decide (-2147483647 ≤ n) && decide (n ≤ 2147483647)
def ownNum (l : List UInt8) : Option Int :=
 match atoiAll l with
 | .ok n => if itoa n = l ∧ bnd31 n = true then some n else none
 | _ => none
theorem refMag_some {t : List UInt8} {neg : Bool} {n : Nat} (h : refMag t neg = some n) : decDigits n = t ∧ n ≤ 2147483647 ∧ (neg = true → 1 ≤ n) := by
 unfold refMag at h; split at h
 ·cases h
 ·rename_i hc
  simp only [not_or] at hc; obtain ⟨h1, h2, h3⟩ := hc; unfold magOf at h; cases hd : decFrom 0 t with
  | none => rw [hd] at h; cases h
  | some m =>
    rw [hd] at h; simp only at h; split at h
    ·cases h
    ·injection h with h
     subst h
     have hb := digits_back t.length t m rfl (by intro e; subst e; simp at h1) (by
      intro c r e e48; subst e; subst e48
      by_cases hr : r = []
      ·exact hr
      ·exact absurd ⟨rfl, .inl (by cases r with | nil => exact absurd rfl hr | cons => simp)⟩ h3) hd
     refine ⟨hb, by omega, fun hn => ?_⟩; rcases Nat.eq_zero_or_pos m with h | h
     ·subst h; rw [digits_zero] at hb; exact absurd ⟨by rw [← hb]; rfl, .inr hn⟩ h3
     ·exact h
theorem refMag_digits {n : Nat} {neg : Bool} (h : n ≤ 2147483647) (h1 : neg = true → 1 ≤ n) : refMag (decDigits n) neg = some n := by
 unfold refMag; have hl := digits_len 9 n (by omega); have hn : (decDigits n).length ≠ 0 := fun e => digits_ne n (List.eq_nil_of_length_eq_zero e)
 rw [if_neg]
 ·unfold magOf; rw [dec_digits]; simp only; rw [if_neg (by omega)]
 ·simp only [not_or, not_and]; refine ⟨hn, by omega, fun h48 => ?_⟩; rcases Nat.eq_zero_or_pos n with e | e
  ·subst e; rw [digits_zero]; simp
   cases neg
   ·rfl
   ·exact absurd (h1 rfl) (by omega)
  ·obtain ⟨c, r, e', h2, h3⟩ := digits_first n e; rw [e'] at h48; simp at h48
   subst h48; simp at h2
theorem itoa_pos (n : Nat) : itoa (n : Int) = decDigits n := itoa_nonneg n
theorem atoi_digits (n : Nat) (h : n ≤ 2147483647) : atoiAll (decDigits n) = .ok (n : Int) := by
 rw [atoiAll_short _ (by have := digits_len 9 n (by omega); omega)]; have hd := dec_digits n; have hne := digits_ne n
 have hne' : (decDigits n).isEmpty = false := by
  cases h : decDigits n with
  | nil => exact absurd h hne
  | cons => rfl
 have hN : decNat (decDigits n) = some n := by unfold decNat; rw [hne']; exact hd
 have hA : atoi (decDigits n) = some (n : Int) := by
  have hc : ∃ c r, decDigits n = c :: r ∧ 48 ≤ c.toNat := by
   rcases Nat.eq_zero_or_pos n with e | e
   ·subst e; exact ⟨48, [], digits_zero, by decide⟩
   ·obtain ⟨c, r, e', h2, h3⟩ := digits_first n e; exact ⟨c, r, e', by omega⟩
  obtain ⟨c, r, e, hc⟩ := hc; rw [e] at hN ⊢; unfold atoi
  have e1 : (c == 45) = false := by
   rw [Bool.eq_false_iff]; intro h; rw [beq_iff_eq] at h; subst h; simp at hc
  have e2 : (c == 43) = false := by
   rw [Bool.eq_false_iff]; intro h; rw [beq_iff_eq] at h; subst h; simp at hc
  simp only [e1, e2, Bool.false_eq_true, if_false, hN, Option.map_some]
 rw [hA]; rfl
theorem atoi_neg (n : Nat) (h : n ≤ 2147483647) : atoiAll (45 :: decDigits n) = .ok (-(n : Int)) := by
 rw [atoiAll_short _ (by have := digits_len 9 n (by omega); simp; omega)]; have hd := dec_digits n; have hne := digits_ne n
 have hne' : (decDigits n).isEmpty = false := by
  cases h : decDigits n with
  | nil => exact absurd h hne
  | cons => rfl
 have hN : decNat (decDigits n) = some n := by unfold decNat; rw [hne']; exact hd
 unfold atoi; simp [hN, NumEnd.ofOption]
theorem refNum_itoa {n : Int} (h1 : -2147483647 ≤ n) (h2 : n ≤ 2147483647) : refNum (itoa n) = some n ∧ atoiAll (itoa n) = .ok n := by
 by_cases hn : n < 0
 ·obtain ⟨m, rfl⟩ : ∃ m : Nat, n = -(m : Int) := ⟨n.natAbs, by omega⟩
  rw [itoa_neg m (by omega)]; refine ⟨?_, atoi_neg m (by omega)⟩; unfold refNum; simp only [List.head?_cons, if_true, List.tail_cons, refMag_digits (n := m) (neg := true) (by omega) (fun _ => by omega), Option.map_some]
 ·obtain ⟨m, rfl⟩ : ∃ m : Nat, n = (m : Int) := ⟨n.toNat, by omega⟩
  rw [itoa_pos]; refine ⟨?_, atoi_digits m (by omega)⟩; unfold refNum
  have hh : (decDigits m).head? ≠ some 45 := by
   rcases Nat.eq_zero_or_pos m with e | e
   ·subst e; rw [digits_zero]; decide
   ·obtain ⟨c, r, e', h3, h4⟩ := digits_first m e; rw [e']; simp; intro e; subst e; simp at h3
  rw [if_neg hh, refMag_digits (n := m) (neg := false) (by omega) (fun h => by cases h)]; rfl
theorem refNum_some {l : List UInt8} {n : Int} (h : refNum l = some n) : l = itoa n ∧ -2147483647 ≤ n ∧ n ≤ 2147483647 := by
 unfold refNum at h; split at h
 ·rename_i h45
  obtain ⟨m, hm, rfl⟩ := Option.map_eq_some_iff.1 h; obtain ⟨e, hle, h1⟩ := refMag_some hm; have h1 := h1 rfl; rw [itoa_neg m h1, e]; refine ⟨?_, by omega, by omega⟩; cases l with
  | nil => cases h45
  | cons c r => simp at h45; subst h45; rfl
 ·obtain ⟨m, hm, rfl⟩ := Option.map_eq_some_iff.1 h; obtain ⟨e, hle, h1⟩ := refMag_some hm; rw [itoa_pos, e]; exact ⟨rfl, by omega, by omega⟩
theorem own_eq_ref (l : List UInt8) : ownNum l = refNum l := by
 cases hr : refNum l with
 | some n =>
   obtain ⟨e, h1, h2⟩ := refNum_some hr; have ha := (refNum_itoa h1 h2).2; rw [← e] at ha; unfold ownNum; rw [ha]; simp only; rw [if_pos ⟨e.symm, by simp [bnd31, h1, h2]⟩]
 | none =>
   unfold ownNum; cases ha : atoiAll l
   ·rename_i n
    simp only; rw [if_neg]; rintro ⟨e, hb⟩; simp [bnd31] at hb
    have := (refNum_itoa hb.1 hb.2).1; rw [e, hr] at this; cases this
   ·rfl
   ·rfl
end Go.Proofs.YtaeedepojpablaaGreatDoor

namespace Go.Proofs.YtaeedepojpablaaGreatDoor
open Go.RowKit
def gv0 : GV := ⟨0, 0, ⟨#[]⟩⟩
theorem toList_mk (l : List UInt8) : (⟨l.toArray⟩ : ByteArray).toList = l := by rw [ByteArray.toList_eq]
theorem bytes_back (s : ByteArray) : (⟨s.toList.toArray⟩ : ByteArray) = s := by
 rw [ByteArray.toList_eq]
theorem ba_get {s : ByteArray} {k : Nat} (h : k < s.size) : s.toList[k]? = some (s[k]'h) := by
 rw [ByteArray.toList_eq, List.getElem?_eq_getElem (h := show k < s.data.toList.length from by simpa using h)]; rfl
theorem ba_len (s : ByteArray) : s.toList.length = s.size := by rw [ByteArray.toList_eq]; rfl
theorem ba_head {s : ByteArray} (h : 0 < s.size) : s.toList.head? = some (s[0]'h) := by
 rw [List.head?_eq_getElem?]; exact ba_get h
def ErrIs (W : World) (g : Nat) : Prop := ∃ tp p, W.cell? ⟨g, 0, none⟩ = some (.iface tp p)
def ErrW (W : World) : Prop := ErrIs W 5 ∧ ErrIs W 6
theorem ErrW.on {W W' : World} (h : ErrW W) (hb : Below W.heap.size W W') : ErrW W' := by
 obtain ⟨⟨t1, p1, h1⟩, ⟨t2, p2, h2⟩⟩ := h; exact ⟨⟨t1, p1, below_cell hb h1⟩, ⟨t2, p2, below_cell hb h2⟩⟩
def AtoiPost (s : ByteArray) (w : World) (e : Ending) (w' : World) : Prop :=
 ∃ n : Int, ∃ ev : Value, fits n ∧ e = .returned (.tuple #[.int .i64 n, ev]) ∧ Below w.heap.size w w' ∧
   ((Lib.atoiAll s.toList = .ok n ∧ ev = .nilIface) ∨ ((∀ m, Lib.atoiAll s.toList ≠ .ok m) ∧ ∃ T p, ev = .iface T p))
theorem fits_of {n : Int} (h1 : -9223372036854775808 ≤ n) (h2 : n ≤ 9223372036854775807) : fits n := (fits_iff n).2 ⟨h1, h2⟩
theorem atoi_any (s : ByteArray) (hs : s.size ≤ 140737488351232) (w : World) (h : ErrW w) : Calls Tryz.prog 167 #[.string s] w (AtoiPost s w) := by
 obtain ⟨⟨t1, p1, h1⟩, ⟨t2, p2, h2⟩⟩ := h; have el : s.data.toList = s.toList := (ByteArray.toList_eq s).symm; cases ha : Lib.atoiAll s.toList
 ·rename_i v
  refine (Tryz.strconv_Atoi_ok s (by omega) v (by rw [el]; exact ha) w).mono ?_; rintro e w' ⟨rfl, hw⟩; have hb := Lib.atoiAll_bounds ha; refine ⟨v, .nilIface, fits_of hb.1 hb.2, rfl, ?_, .inl ⟨ha, rfl⟩⟩; rcases hw with rfl | ⟨t, rfl⟩
  ·exact Below.refl _ _
  ·exact Lib.bytesWorld_below _ _ _
 ·refine (Any.strconv_Atoi_syntax Tryz.laysC172 s (by omega) (by rw [el]; exact ha) _ w h1 (.inr ⟨_, _, rfl⟩)).mono ?_; rintro e w' ⟨N, rfl, -, -, hb⟩; exact ⟨0, _, by unfold fits; decide, rfl, hb, .inr ⟨(fun m e => by rw [ha] at e; cases e), _, _, rfl⟩⟩
 ·refine (Any.strconv_Atoi_range Tryz.laysC172 s (by omega) (by rw [el]; exact ha) _ w h2 (.inr ⟨_, _, rfl⟩)).mono ?_; rintro e w' ⟨N, rfl, -, -, hb⟩; exact ⟨_, _, by unfold Lib.atoiSat; split <;> (unfold fits; decide), rfl, hb, .inr ⟨(fun m e => by rw [ha] at e; cases e), _, _, rfl⟩⟩
end Go.Proofs.YtaeedepojpablaaGreatDoor
