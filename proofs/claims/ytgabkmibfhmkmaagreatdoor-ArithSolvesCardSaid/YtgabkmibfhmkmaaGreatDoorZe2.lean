/- My own texts Open, Num, Shelf, Tab, VFrame, StDigits, Keep0, as far as this claim needs them. -/
import Derived.Test.YtgabkmibfhmkmaaGreatDoorZe1
import Derived.SizedLaws
import Derived.ProofKit
import Derived.Deep.Slices
import Derived.Test.YtgabkmibfhmkmaaGreatDoorProg
import Derived.Shelf.Strings.Builder1
import Derived.Shelf.Strings.Builder2
import Derived.Shelf.Strings.OnBuilder
import Derived.Shelf.Small.Bits
import Derived.Shelf.Small.Strs
import Derived.Shelf.Small.Wraps
import Derived.Shelf.Strings.BuilderF
import Derived.Shelf.Strings.BuilderK
import Derived.Shelf.Strconv.Atoi
import Derived.Shelf.Strconv.Itoa0
import Derived.Shelf.Strconv.Itoa1
import Derived.Shelf.LaysM
import Derived.Shelf.Strconv.Itoa2
import Derived.Shelf.Strconv.Itoa3
import Derived.Shelf.Strconv.AtoiErrFast
import Derived.Shelf.Strconv.ParseIntEmpty
import Derived.Shelf.Strconv.AtoiFail
import Derived.Shelf.Strconv.Clone
import Derived.Shelf.Strconv.SyntaxError
import Derived.Shelf.LaysC
import Derived.Shelf.Strconv.ToError
import Derived.Shelf.Strconv.Lower
import Derived.Shelf.Strconv.ParseUint10
import Derived.Shelf.Strconv.ParseUint10Empty
import Derived.Shelf.Strconv.ParseUint10Any
import Derived.Shelf.Strconv.ParseInt10
import Derived.Shelf.Strconv.AtoiLong
import Derived.Shelf.Strconv.AtoiInnerAll
import Derived.Shelf.Strconv.RangeError
import Derived.Shelf.Strconv.ToErrorRange
import Derived.Shelf.Strconv.AtoiAll
import Derived.Shelf.Strconv.ErrVarAll
import Derived.Shelf.Strings.Search1
import Derived.Shelf.Strings.Search2
import Derived.Shelf.Strings.Cut
import Derived.Shelf.Strings.Shaped
import Derived.Shelf.Strings.Prefix
import Derived.Shelf.Slices.Reverse
import Derived.Ground.Names2Prog
import Derived.Shelf.Slices.SearchI
import Derived.Shelf.Slices.Delete
import Derived.Shelf.Slices.Cells
import Derived.Shelf.Slices.Empties
import Derived.Lib.AppendIntMem
import Derived.Lib.ItoaLen
import Derived.Test.YtgabkmibfhmkmaaGreatDoorRows
import Derived.OpenShut
import Derived.ChangeOld
import Derived.ChangeSame
import Derived.ChangeVars
import Derived.JoinedOf
import Derived.LaidLaws
import Derived.LaidHandle
import Derived.Stop.LaidErr
import Derived.Lib.LaidTab
import Derived.Below
set_option linter.unusedVariables false
set_option linter.unusedSimpArgs false
namespace Go.Proofs.YtgabkmibfhmkmaaGreatDoor
open Go.RowKit
/-- what is read at type t lies in cells as E says -/
def Opens {α : Type} (P : Program) (t : TypeId) (E : Enc α) : Prop :=
  ∀ (H : Type) (enc : TypeId × Value → H) (w : World) (fuel : Nat) (cs : List Value) (x : DataW H × List MemPlace),
    DataW.trod enc P w 0 (fun _ => true) true fuel t cs = some x → (∀ n ∈ x.1.weights P t, n ≤ reachBytes) → ∃ y : α, E.ok w w.heap.size cs y
theorem reach_eq : reachBytes = reachN := by decide
def fieldsOf (P : Program) (t : TypeId) : List (TypeId × Nat × Nat) := match P.underlying t with
  | some (.struct fs) => fs.toList.map fun f => (f.type, f.offset, P.cellsOf f.type)
  | _ => []
theorem opens_int {P : Program} {t : TypeId} (h : P.underlying t = some (.int .i64)) : Opens P t Enc.int := by
  intro H enc w fuel cs x hx _
  obtain ⟨n, rfl, _, hw⟩ := DataW.trod_int h hx
  exact ⟨n, rfl, hw⟩
theorem opens_str {P : Program} {t : TypeId} (h : P.underlying t = some .string) : Opens P t Enc.str := by
  intro H enc w fuel cs x hx hwt
  obtain ⟨s, rfl, rfl, _⟩ := DataW.trod_string h hx
  refine ⟨s, rfl, ?_⟩
  have := hwt s.data.toList.length (by simp [DataW.weights])
  rw [reach_eq] at this
  simpa using this
theorem choose_list {α : Type} {Q : Nat → α → Prop} : ∀ n : Nat, (∀ i, i < n → ∃ x, Q i x) → ∃ l : List α, l.length = n ∧ ∀ i x, l[i]? = some x → Q i x
  | 0, _ => ⟨[], rfl, fun i x h => by simp at h⟩
  | n + 1, h => by
    obtain ⟨l, hl, hq⟩ := choose_list n (fun i hi => h i (by omega))
    obtain ⟨x, hx⟩ := h n (by omega)
    refine ⟨l ++ [x], by simp [hl], fun i y hy => ?_⟩
    by_cases hi : i < l.length
    · rw [List.getElem?_append_left hi] at hy
      exact hq i y hy
    · have hil : i < (l ++ [x]).length := (List.getElem?_eq_some_iff.1 hy).1
      simp at hil
      obtain rfl : i = n := by omega
      rw [List.getElem?_append_right (by omega)] at hy
      simp [hl] at hy
      exact hy ▸ hx
theorem weights_all {H : Type} {P : Program} {e : TypeId} {l : List (DataW H)} {d : DataW H} (h : d ∈ l) : ∀ n ∈ d.weights P e, n ∈ DataW.weightsAll P e l := by
  induction l with
  | nil => cases h
  | cons a l ih =>
    intro n hn
    simp only [DataW.weightsAll, List.mem_append]
    rcases List.mem_cons.1 h with rfl | h
    · exact .inl hn
    · exact .inr (ih h n hn)
theorem opens_slice {α : Type} {P : Program} {t e : TypeId} {E : Enc α} (h : P.underlying t = some (.slice e)) (he : Opens P e E) (hc : P.cellsOf e = E.sz) (hz : 0 < E.sz) (hb : 0 < P.bytesOf e) : Opens P t (Enc.slice E) := by
  intro H enc w fuel cs x hx hwt
  rcases Go.Deep.open_slice h hx with ⟨rfl, _⟩ | ⟨a, len, cap, m, n, D, Pl, rfl, _, hl, hm, hmm, rfl, hi⟩
  · exact ⟨[], none, 0, 0, rfl, SliceIs.nil⟩
  · simp only [if_true] at hmm
    subst hmm
    have hw0 := hwt ((len + (m - len)) * P.bytesOf e) (by simp [DataW.weights, h])
    have hle : len ≤ reachN := by
      rw [reach_eq] at hw0
      have : len + (m - len) ≤ (len + (m - len)) * P.bytesOf e := Nat.le_mul_of_pos_right _ hb
      omega
    obtain ⟨l, hll, hq⟩ := choose_list (Q := fun i y => ∃ cs', w.cells? 0 (a.add (i * P.cellsOf e)) (P.cellsOf e) = some cs' ∧ E.ok w w.heap.size cs' y) len (fun i hil => by
      obtain ⟨cs', h1, h2⟩ := hi i (by omega)
      obtain ⟨y, hy⟩ := he H enc w n cs' _ h2 (fun q hq => hwt q (by
        simp only [DataW.weights, h, List.mem_cons, List.mem_append]
        exact .inr (.inl (weights_all (List.mem_map.2 ⟨i, List.mem_range.2 hil, rfl⟩) q hq))))
      exact ⟨y, cs', h1, hy⟩)
    refine ⟨l, some a, len, m, rfl, hll, hl, hm, hle, ?_⟩
    by_cases h0 : len = 0
    · exact .inl (List.eq_nil_of_length_eq_zero (by omega))
    · right
      have hcell : ∀ i y, l[i]? = some y → ∃ cs', E.ok w w.heap.size cs' y ∧ ∀ j v, cs'[j]? = some v → w.cell? (a.add (i * E.sz + j)) = some v := by
        intro i y hy
        obtain ⟨cs', h1, h2⟩ := hq i y hy
        refine ⟨cs', h2, fun j v hj => ?_⟩
        obtain ⟨_, hcl, hat⟩ := World.cells?_some h1
        have hjl : j < P.cellsOf e := by rw [← hcl]; exact (List.getElem?_eq_some_iff.1 hj).1
        have := hat j hjl
        rw [hj, Go.Deep.add_add, hc] at this
        exact this
      have hex : ∃ y, l[0]? = some y := by
        rw [List.getElem?_eq_getElem (by omega)]
        exact ⟨_, rfl⟩
      obtain ⟨y, hy⟩ := hex
      obtain ⟨cs', h1, h2⟩ := hcell 0 y hy
      have hlen := E.len h1
      obtain ⟨v, hv⟩ : ∃ v, cs'[0]? = some v := by
        rw [List.getElem?_eq_getElem (by omega)]
        exact ⟨_, rfl⟩
      have hc0 := h2 0 v hv
      obtain ⟨b, off, spot⟩ := a
      obtain rfl : spot = none := by simpa [Addr.add] using World.cell?_spot hc0
      refine ⟨b, off, rfl, ?_, fun i y hy => ?_⟩
      · exact World.block_lt_of_cell? w _ (by simpa [Addr.add] using hc0)
      · obtain ⟨cs', h1, h2⟩ := hcell i y hy
        refine ⟨cs', h1, fun j v hj => ?_⟩
        have h3 := h2 j v hj
        rw [Nat.add_assoc]
        unfold Addr.add at h3
        split at h3
        · rename_i h0
          rw [h0]
          exact h3
        · exact h3
/-- a struct read: its fields, each by itself -/
theorem open_fields {H : Type} {enc : TypeId × Value → H} {P : Program} {w : World} {t : TypeId} {fuel : Nat} {cs : List Value} {x : DataW H × List MemPlace} {fl : List (TypeId × Nat × Nat)} (hf : fieldsOf P t = fl) (h0 : fl ≠ [])
    (hx : DataW.trod enc P w 0 (fun _ => true) true fuel t cs = some x) (hwt : ∀ n ∈ x.1.weights P t, n ≤ reachBytes) :
    cs.length = P.cellsOf t ∧ ∀ (j : Nat) (f : TypeId × Nat × Nat), fl[j]? = some f → ∃ y n, DataW.trod enc P w 0 (fun _ => true) true n f.1 ((cs.drop f.2.1).take f.2.2) = some y ∧ ∀ n ∈ y.1.weights P f.1, n ≤ reachBytes := by
  unfold fieldsOf at hf
  split at hf
  · rename_i fs hs
    obtain ⟨xs, n, _, rfl, hl, hlen, hat⟩ := DataW.trod_struct hs hx
    refine ⟨hl, fun j f hj => ?_⟩
    subst hf
    rw [List.getElem?_map, Option.map_eq_some_iff] at hj
    obtain ⟨fd, hfd, rfl⟩ := hj
    have hfd' : fs[j]? = some fd := by simpa using hfd
    have h1 := hat j fd hfd'
    have hjl : j < fs.size := (Array.getElem?_eq_some_iff.1 hfd').1
    have hxj : xs[j]? = some (xs[j]'(by omega)) := List.getElem?_eq_getElem (by omega)
    refine ⟨_, n, h1.trans hxj, fun q hq => hwt q ?_⟩
    simp only [DataW.weights, hs]
    exact DataW.weights_mem_each (j := j) (t := fd.type) (d := (xs[j]'(by omega)).1) (by simp [hfd']) (by simp [hxj]) q hq
  · exact absurd hf.symm h0
theorem opens_val {P : Program} {t a b c : TypeId} (hf : fieldsOf P t = [(a, 0, 1), (b, 1, 1), (c, 2, 1)]) (hz : P.cellsOf t = 3) (ha : P.underlying a = some (.int .i64)) (hb : P.underlying b = some (.int .i64)) (hc : P.underlying c = some .string) : Opens P t Enc.val := by
  intro H enc w fuel cs x hx hwt
  obtain ⟨hl, hat⟩ := open_fields hf (by simp) hx hwt
  rw [hz] at hl
  match cs, hl with
  | [u0, u1, u2], _ =>
    obtain ⟨y, n, h, hw⟩ := hat 0 _ rfl
    obtain ⟨k, e0, f0⟩ := opens_int ha _ _ _ _ _ _ h hw
    obtain ⟨y, n, h, hw⟩ := hat 1 _ rfl
    obtain ⟨i, e1, f1⟩ := opens_int hb _ _ _ _ _ _ h hw
    obtain ⟨y, n, h, hw⟩ := hat 2 _ rfl
    obtain ⟨s, e2, f2⟩ := opens_str hc _ _ _ _ _ _ h hw
    simp at e0 e1 e2
    subst e0 e1 e2
    exact ⟨⟨k, i, s⟩, rfl, f0, f1, f2⟩
theorem opens_told {P : Program} {t a b : TypeId} (hf : fieldsOf P t = [(a, 0, 1), (b, 1, 3)]) (hz : P.cellsOf t = 4) (ha : P.underlying a = some .string) (hb : Opens P b Enc.val) : Opens P t Enc.told := by
  intro H enc w fuel cs x hx hwt
  obtain ⟨hl, hat⟩ := open_fields hf (by simp) hx hwt
  rw [hz] at hl
  match cs, hl with
  | [u0, u1, u2, u3], _ =>
    obtain ⟨y, n, h, hw⟩ := hat 0 _ rfl
    obtain ⟨s, e0, f0⟩ := opens_str ha _ _ _ _ _ _ h hw
    obtain ⟨y, n, h, hw⟩ := hat 1 _ rfl
    obtain ⟨v, e1, f1⟩ := hb _ _ _ _ _ _ h hw
    simp at e0 e1
    obtain ⟨rfl, rfl, rfl⟩ := e1
    subst e0
    exact ⟨⟨s, v⟩, rfl, f0, f1⟩
/-- an argument that is a slice -/
theorem open_arg {α : Type} {H : Type} {enc : TypeId × Value → H} {P : Program} {w : World} {E : Enc α} {t : TypeId} {A : Option Addr} {n c : Nat} {d : DataW H} {p : List MemPlace} (ho : Opens P t (Enc.slice E))
    (h : DataW.Trod enc P w 0 (fun _ => true) true t (.slice A n c) d p) (hwt : ∀ n ∈ d.weights P t, n ≤ reachBytes) : ∃ l, SliceIs E w w.heap.size A n c l := by
  obtain ⟨fuel, hf⟩ := h
  obtain ⟨l, A', n', c', e, hs⟩ := ho H enc w fuel _ _ hf hwt
  simp [Value.cells] at e
  obtain ⟨rfl, rfl, rfl⟩ := e
  exact ⟨l, hs⟩
end Go.Proofs.YtgabkmibfhmkmaaGreatDoor

namespace Go.Proofs.YtgabkmibfhmkmaaGreatDoor
open Go.RowKit
def RetInt (n : Int) (w : World) (e : Ending) (w' : World) : Prop := e = .returned (.int .i64 n) ∧ Below w.heap.size w w'
def RetBool (b : Bool) (w : World) (e : Ending) (w' : World) : Prop := e = .returned (.bool b) ∧ Below w.heap.size w w'
set_option maxRecDepth 100000 in
set_option maxHeartbeats 400000 in
theorem num_any (n : Int) (w : World) : Calls Tryz.prog 28 #[errV 66 n] w (RetInt n w) := by
  by_cases h : n = 0
  · subst h
    simp only [errV, if_true]
    go_enter Tryz.func28, Tryz.ntmps28
    go_wp2
    go_ret
    exact ⟨rfl, Below.refl _ _⟩
  · simp only [errV, if_neg h]
    have h1 : ((n : Int) != 0) = true := by simp [h]
    have ta : ∀ w, (Instr.typeAssert (.iface 66 (.int .i64 n)) 57 66 true).run Tryz.prog w = .ok (.tuple #[.int .i64 n, .bool true]) w := fun _ => by kernel_rfl
    clear h
    go_enter Tryz.func28, Tryz.ntmps28
    go_wp2
    go_ret
    exact ⟨rfl, Below.refl _ _⟩
theorem GV.beq_iff (x y : GV) : x.beq y = true ↔ x = y := by
  cases x; cases y
  simp [GV.beq, toList_inj]
theorem GV.beq_self (x : GV) : x.beq x = true := (GV.beq_iff x x).2 rfl
instance : DecidableEq GV := fun x y => if h : x.beq y = true then isTrue ((GV.beq_iff x y).1 h) else isFalse (fun e => h ((GV.beq_iff x y).2 e))
theorem GV.beq_dec (x y : GV) : x.beq y = decide (x = y) := by
  rw [Bool.eq_iff_iff]; simp [GV.beq_iff]
theorem run_eql_value (x y : GV) (w : World) : (binOp .eql 28 x.v y.v).run Tryz.prog w = .ok (.bool (x.beq y)) w := by
  rw [run_eql_struct, run_equalIn_agg (ht := by kernel_rfl) (hp := by kernel_rfl)]
  simp [go_sem, GV.beq]
  by_cases h1 : x.k = y.k <;> by_cases h2 : x.n = y.n <;> by_cases h3 : x.s.toList = y.s.toList <;> simp [h1, h2, h3]
theorem run_neq_value (x y : GV) (w : World) : (binOp .neq 28 x.v y.v).run Tryz.prog w = .ok (.bool (!x.beq y)) w := by
  rw [run_neq_struct, run_equalIn_agg (ht := by kernel_rfl) (hp := by kernel_rfl)]
  simp [go_sem, GV.beq]
  by_cases h1 : x.k = y.k <;> by_cases h2 : x.n = y.n <;> by_cases h3 : x.s.toList = y.s.toList <;> simp [h1, h2, h3]
end Go.Proofs.YtgabkmibfhmkmaaGreatDoor

namespace Go.Proofs
open Go.Shelf
def Tryz.lays137_ren : Go.Shelf.Ren := ⟨fun | 137 => 344 | 217 => 361 | 266 => 379 | n => n, fun | 9 => 9 | 5 => 5 | 3 => 3 | n => n, fun | n => n⟩
theorem Tryz.lays137 : Go.Proofs.Lays.n137 Tryz.prog Tryz.lays137_ren := {
  mixed := by kernel_rfl
  f137 := Tryz.func344.trans (congrArg some (by kernel_rfl))
  f217 := Tryz.func361.trans (congrArg some (by kernel_rfl))
  f266 := Tryz.func379.trans (congrArg some (by kernel_rfl))
  t3 := Tryz.underlying3
  a3 := Tryz.isAgg3
  z3 := Tryz.sizeOf3
  v3 := Tryz.zeroValue3
  t5 := Tryz.underlying5
  a5 := Tryz.isAgg5
  z5 := Tryz.sizeOf5
  v5 := Tryz.zeroValue5
  t9 := Tryz.underlying9
  a9 := Tryz.isAgg9
  z9 := Tryz.sizeOf9
  v9 := Tryz.zeroValue9 }
open Go.RowKit in
theorem Tryz.strings_IndexByte (s : ByteArray) (c : Int) (w : World) :
    Calls Tryz.prog 344 #[.string s, .int .u8 c] w fun e w' => e = .returned (.int .i64 (Lib.indexByte s.data.toList c.toNat.toUInt8)) ∧ w' = w := Any.strings_IndexByte Tryz.lays137 s c w
def Tryz.laysM171_ren : Go.Shelf.Ren := ⟨fun | 171 => 316 | 243 => 343 | 246 => 360 | 283 => 375 | 284 => 376 | 285 => 377 | 286 => 378 | 129 => 306 | 317 => 384 | 318 => 385 | 319 => 386 | 320 => 387 | 337 => 393 | 338 => 394 | n => n, fun | 3 => 3 | 9 => 9 | 2 => 2 | 4 => 4 | 171 => 442 | 0 => 0 | 53 => 385 | 37 => 339 | 5 => 5 | 173 => 444 | 212 => 454 | 51 => 383 | 20 => 20 | 213 => 455 | 46 => 106 | 232 => 462 | 233 => 463 | n => n, fun | 17 => 10 | 18 => 11 | 19 => 12 | n => n⟩
theorem Tryz.laysM171 : Go.Proofs.LaysM.n171 Tryz.prog Tryz.laysM171_ren := {
  mixed := by kernel_rfl
  f129 := Tryz.func306.trans (congrArg some (by kernel_rfl))
  f171 := Tryz.func316.trans (congrArg some (by kernel_rfl))
  f243 := Tryz.func343.trans (congrArg some (by kernel_rfl))
  f246 := Tryz.func360.trans (congrArg some (by kernel_rfl))
  f283 := Tryz.func375.trans (congrArg some (by kernel_rfl))
  f284 := Tryz.func376.trans (congrArg some (by kernel_rfl))
  f285 := Tryz.func377.trans (congrArg some (by kernel_rfl))
  f286 := Tryz.func378.trans (congrArg some (by kernel_rfl))
  f317 := Tryz.func384.trans (congrArg some (by kernel_rfl))
  f318 := Tryz.func385.trans (congrArg some (by kernel_rfl))
  f319 := Tryz.func386.trans (congrArg some (by kernel_rfl))
  f320 := Tryz.func387.trans (congrArg some (by kernel_rfl))
  f337 := Tryz.func393.trans (congrArg some (by kernel_rfl))
  f338 := Tryz.func394.trans (congrArg some (by kernel_rfl))
  t0 := Tryz.underlying0
  a0 := Tryz.isAgg0
  z0 := Tryz.sizeOf0
  v0 := Tryz.zeroValue0
  t2 := Tryz.underlying2
  a2 := Tryz.isAgg2
  z2 := Tryz.sizeOf2
  v2 := Tryz.zeroValue2
  t3 := Tryz.underlying3
  a3 := Tryz.isAgg3
  z3 := Tryz.sizeOf3
  v3 := Tryz.zeroValue3
  t4 := Tryz.underlying4
  a4 := Tryz.isAgg4
  z4 := Tryz.sizeOf4
  v4 := Tryz.zeroValue4
  t5 := Tryz.underlying5
  a5 := Tryz.isAgg5
  z5 := Tryz.sizeOf5
  v5 := Tryz.zeroValue5
  t9 := Tryz.underlying9
  a9 := Tryz.isAgg9
  z9 := Tryz.sizeOf9
  v9 := Tryz.zeroValue9
  t20 := Tryz.underlying20
  a20 := Tryz.isAgg20
  z20 := Tryz.sizeOf20
  v20 := Tryz.zeroValue20
  t37 := Tryz.underlying339
  a37 := Tryz.isAgg339
  z37 := Tryz.sizeOf339
  v37 := Tryz.zeroValue339
  t46 := Tryz.underlying106
  a46 := Tryz.isAgg106
  z46 := Tryz.sizeOf106
  v46 := Tryz.zeroValue106
  t51 := Tryz.underlying383
  a51 := Tryz.isAgg383
  z51 := Tryz.sizeOf383
  v51 := Tryz.zeroValue383
  t53 := Tryz.underlying385
  a53 := Tryz.isAgg385
  z53 := Tryz.sizeOf385
  v53 := Tryz.zeroValue385
  t171 := Tryz.underlying442
  a171 := Tryz.isAgg442
  z171 := Tryz.sizeOf442
  v171 := Tryz.zeroValue442
  t173 := Tryz.underlying444
  a173 := Tryz.isAgg444
  z173 := Tryz.sizeOf444
  v173 := Tryz.zeroValue444
  t212 := Tryz.underlying454
  a212 := Tryz.isAgg454
  z212 := Tryz.sizeOf454
  v212 := Tryz.zeroValue454
  t213 := Tryz.underlying455
  a213 := Tryz.isAgg455
  z213 := Tryz.sizeOf455
  t232 := Tryz.underlying462
  a232 := Tryz.isAgg462
  z232 := Tryz.sizeOf462
  v232 := Tryz.zeroValue462
  t233 := Tryz.underlying463
  a233 := Tryz.isAgg463
  z233 := Tryz.sizeOf463
  v233 := Tryz.zeroValue463
  g17 := by kernel_rfl
  g18 := by kernel_rfl
  g19 := by kernel_rfl
  i0 := by kernel_rfl
  i2 := by kernel_rfl
  i3 := by kernel_rfl
  i4 := by kernel_rfl
  i5 := by kernel_rfl
  i9 := by kernel_rfl
  i20 := by kernel_rfl
  i37 := by kernel_rfl
  i46 := by kernel_rfl
  i51 := by kernel_rfl
  i53 := by kernel_rfl
  i171 := by kernel_rfl
  i173 := by kernel_rfl
  i212 := by kernel_rfl
  i232 := by kernel_rfl
  i233 := by kernel_rfl
  m17 := by kernel_rfl
  m18 := by kernel_rfl
  m19 := by kernel_rfl }
open Go.RowKit Go.Sort Go.Lib in
theorem Tryz.strconv_Itoa (n : Int) (h0 : -9223372036854775808 ≤ n) (h1 : n ≤ 9223372036854775807) (w : World) (htab : Lib.TabIs Tryz.prog w "internal/strconv.uint64pow10" .u64 Lib.pow10Tab) :
    Calls Tryz.prog 316 #[.int .i64 n] w fun e w' => e = .returned (.string ⟨(Lib.itoa n).toArray⟩) ∧ ∃ k os, w' = grow (w.drewN k) os := Any.strconv_Itoa Tryz.laysM171 n h0 h1 w htab
def Tryz.laysC172_ren : Go.Shelf.Ren := ⟨fun | 172 => 337 | 244 => 356 | 245 => 357 | 247 => 369 | 279 => 370 | 280 => 371 | 281 => 372 | 282 => 373 | 287 => 381 | 316 => 382 | 171 => 316 | 205 => 383 | 321 => 391 | 322 => 392 | 243 => 343 | 246 => 360 | 283 => 375 | 284 => 376 | 285 => 377 | 286 => 378 | 129 => 306 | 317 => 384 | 318 => 385 | 319 => 386 | 320 => 387 | 337 => 393 | 338 => 394 | n => n, fun | 9 => 9 | 3 => 3 | 75 => 57 | 76 => 121 | 4 => 4 | 5 => 5 | 167 => 436 | 37 => 339 | 0 => 0 | 85 => 437 | 2 => 2 | 168 => 439 | 53 => 385 | 175 => 447 | 46 => 106 | 210 => 451 | 127 => 393 | 145 => 459 | 143 => 457 | 21 => 21 | 171 => 442 | 173 => 444 | 212 => 454 | 51 => 383 | 20 => 20 | 213 => 455 | 232 => 462 | 233 => 463 | 80 => 85 | n => n, fun | 15 => 8 | 16 => 9 | 17 => 10 | 18 => 11 | 19 => 12 | n => n⟩
theorem Tryz.laysC172 : Go.Proofs.LaysC.n172 Tryz.prog Tryz.laysC172_ren := {
  mixed := by kernel_rfl
  f129 := Tryz.func306.trans (congrArg some (by kernel_rfl))
  f171 := Tryz.func316.trans (congrArg some (by kernel_rfl))
  f172 := Tryz.func337.trans (congrArg some (by kernel_rfl))
  f205 := Tryz.func383.trans (congrArg some (by kernel_rfl))
  f243 := Tryz.func343.trans (congrArg some (by kernel_rfl))
  f244 := Tryz.func356.trans (congrArg some (by kernel_rfl))
  f245 := Tryz.func357.trans (congrArg some (by kernel_rfl))
  f246 := Tryz.func360.trans (congrArg some (by kernel_rfl))
  f247 := Tryz.func369.trans (congrArg some (by kernel_rfl))
  f279 := Tryz.func370.trans (congrArg some (by kernel_rfl))
  f280 := Tryz.func371.trans (congrArg some (by kernel_rfl))
  f281 := Tryz.func372.trans (congrArg some (by kernel_rfl))
  f282 := Tryz.func373.trans (congrArg some (by kernel_rfl))
  f283 := Tryz.func375.trans (congrArg some (by kernel_rfl))
  f284 := Tryz.func376.trans (congrArg some (by kernel_rfl))
  f285 := Tryz.func377.trans (congrArg some (by kernel_rfl))
  f286 := Tryz.func378.trans (congrArg some (by kernel_rfl))
  f287 := Tryz.func381.trans (congrArg some (by kernel_rfl))
  f316 := Tryz.func382.trans (congrArg some (by kernel_rfl))
  f317 := Tryz.func384.trans (congrArg some (by kernel_rfl))
  f318 := Tryz.func385.trans (congrArg some (by kernel_rfl))
  f319 := Tryz.func386.trans (congrArg some (by kernel_rfl))
  f320 := Tryz.func387.trans (congrArg some (by kernel_rfl))
  f321 := Tryz.func391.trans (congrArg some (by kernel_rfl))
  f322 := Tryz.func392.trans (congrArg some (by kernel_rfl))
  f337 := Tryz.func393.trans (congrArg some (by kernel_rfl))
  f338 := Tryz.func394.trans (congrArg some (by kernel_rfl))
  t0 := Tryz.underlying0
  a0 := Tryz.isAgg0
  z0 := Tryz.sizeOf0
  v0 := Tryz.zeroValue0
  t2 := Tryz.underlying2
  a2 := Tryz.isAgg2
  z2 := Tryz.sizeOf2
  v2 := Tryz.zeroValue2
  t3 := Tryz.underlying3
  a3 := Tryz.isAgg3
  z3 := Tryz.sizeOf3
  v3 := Tryz.zeroValue3
  t4 := Tryz.underlying4
  a4 := Tryz.isAgg4
  z4 := Tryz.sizeOf4
  v4 := Tryz.zeroValue4
  t5 := Tryz.underlying5
  a5 := Tryz.isAgg5
  z5 := Tryz.sizeOf5
  v5 := Tryz.zeroValue5
  t9 := Tryz.underlying9
  a9 := Tryz.isAgg9
  z9 := Tryz.sizeOf9
  v9 := Tryz.zeroValue9
  t20 := Tryz.underlying20
  a20 := Tryz.isAgg20
  z20 := Tryz.sizeOf20
  v20 := Tryz.zeroValue20
  t21 := Tryz.underlying21
  a21 := Tryz.isAgg21
  z21 := Tryz.sizeOf21
  v21 := Tryz.zeroValue21
  t37 := Tryz.underlying339
  a37 := Tryz.isAgg339
  z37 := Tryz.sizeOf339
  v37 := Tryz.zeroValue339
  t46 := Tryz.underlying106
  a46 := Tryz.isAgg106
  z46 := Tryz.sizeOf106
  v46 := Tryz.zeroValue106
  t51 := Tryz.underlying383
  a51 := Tryz.isAgg383
  z51 := Tryz.sizeOf383
  v51 := Tryz.zeroValue383
  t53 := Tryz.underlying385
  a53 := Tryz.isAgg385
  z53 := Tryz.sizeOf385
  v53 := Tryz.zeroValue385
  t75 := Tryz.underlying57
  a75 := Tryz.isAgg57
  z75 := Tryz.sizeOf57
  v75 := Tryz.zeroValue57
  t76 := Tryz.underlying121
  a76 := Tryz.isAgg121
  z76 := Tryz.sizeOf121
  v76 := Tryz.zeroValue121
  t85 := Tryz.underlying437
  a85 := Tryz.isAgg437
  z85 := Tryz.sizeOf437
  v85 := Tryz.zeroValue437
  t127 := Tryz.underlying393
  a127 := Tryz.isAgg393
  z127 := Tryz.sizeOf393
  v127 := Tryz.zeroValue393
  t143 := Tryz.underlying457
  a143 := Tryz.isAgg457
  z143 := Tryz.sizeOf457
  v143 := Tryz.zeroValue457
  t145 := Tryz.underlying459
  a145 := Tryz.isAgg459
  z145 := Tryz.sizeOf459
  v145 := Tryz.zeroValue459
  t167 := Tryz.underlying436
  a167 := Tryz.isAgg436
  z167 := Tryz.sizeOf436
  v167 := Tryz.zeroValue436
  t168 := Tryz.underlying439
  a168 := Tryz.isAgg439
  z168 := Tryz.sizeOf439
  v168 := Tryz.zeroValue439
  t171 := Tryz.underlying442
  a171 := Tryz.isAgg442
  z171 := Tryz.sizeOf442
  v171 := Tryz.zeroValue442
  t173 := Tryz.underlying444
  a173 := Tryz.isAgg444
  z173 := Tryz.sizeOf444
  v173 := Tryz.zeroValue444
  t175 := Tryz.underlying447
  a175 := Tryz.isAgg447
  z175 := Tryz.sizeOf447
  v175 := Tryz.zeroValue447
  t210 := Tryz.underlying451
  a210 := Tryz.isAgg451
  z210 := Tryz.sizeOf451
  v210 := Tryz.zeroValue451
  t212 := Tryz.underlying454
  a212 := Tryz.isAgg454
  z212 := Tryz.sizeOf454
  v212 := Tryz.zeroValue454
  t213 := Tryz.underlying455
  a213 := Tryz.isAgg455
  z213 := Tryz.sizeOf455
  t232 := Tryz.underlying462
  a232 := Tryz.isAgg462
  z232 := Tryz.sizeOf462
  v232 := Tryz.zeroValue462
  t233 := Tryz.underlying463
  a233 := Tryz.isAgg463
  z233 := Tryz.sizeOf463
  v233 := Tryz.zeroValue463
  g15 := by kernel_rfl
  g16 := by kernel_rfl
  g17 := by kernel_rfl
  g18 := by kernel_rfl
  g19 := by kernel_rfl
  t80 := Tryz.underlying85
  a80 := Tryz.isAgg85
  z80 := Tryz.sizeOf85
  v80 := Tryz.zeroValue85
  i0 := by kernel_rfl
  i2 := by kernel_rfl
  i3 := by kernel_rfl
  i4 := by kernel_rfl
  i5 := by kernel_rfl
  i9 := by kernel_rfl
  i20 := by kernel_rfl
  i21 := by kernel_rfl
  i37 := by kernel_rfl
  i46 := by kernel_rfl
  i51 := by kernel_rfl
  i53 := by kernel_rfl
  i75 := by kernel_rfl
  i76 := by kernel_rfl
  i80 := by kernel_rfl
  i85 := by kernel_rfl
  i127 := by kernel_rfl
  i143 := by kernel_rfl
  i145 := by kernel_rfl
  i167 := by kernel_rfl
  i168 := by kernel_rfl
  i171 := by kernel_rfl
  i173 := by kernel_rfl
  i175 := by kernel_rfl
  i210 := by kernel_rfl
  i212 := by kernel_rfl
  i232 := by kernel_rfl
  i233 := by kernel_rfl
  m15 := by kernel_rfl
  m16 := by kernel_rfl
  m17 := by kernel_rfl
  m18 := by kernel_rfl
  m19 := by kernel_rfl
  c0 := by kernel_rfl
  c2 := by kernel_rfl
  c3 := by kernel_rfl
  c4 := by kernel_rfl
  c5 := by kernel_rfl
  c9 := by kernel_rfl
  c20 := by kernel_rfl
  c21 := by kernel_rfl
  c37 := by kernel_rfl
  c46 := by kernel_rfl
  c51 := by kernel_rfl
  c53 := by kernel_rfl
  c75 := by kernel_rfl
  c76 := by kernel_rfl
  c80 := by kernel_rfl
  c85 := by kernel_rfl
  c127 := by kernel_rfl
  c143 := by kernel_rfl
  c145 := by kernel_rfl
  c167 := by kernel_rfl
  c168 := by kernel_rfl
  c171 := by kernel_rfl
  c173 := by kernel_rfl
  c175 := by kernel_rfl
  c210 := by kernel_rfl
  c212 := by kernel_rfl
  c213 := by kernel_rfl
  c232 := by kernel_rfl
  c233 := by kernel_rfl }
open Go.RowKit in
theorem Tryz.strconv_Atoi_ok (s : ByteArray) (hmax : s.size ≤ 9223372036854775806) (v : Int) (h : Lib.atoiAll s.data.toList = .ok v) (w : World) :
    Calls Tryz.prog 337 #[.string s] w fun e w' => e = .returned (.tuple #[.int .i64 v, .nilIface]) ∧ (w' = w ∨ ∃ t, w' = Lib.bytesWorld w 5 t) := Any.strconv_Atoi_ok Tryz.laysC172 s hmax v h w
def Tryz.lays99_ren : Go.Shelf.Ren := ⟨fun | 99 => 348 | 206 => 366 | n => n, fun | 9 => 9 | 4 => 4 | 3 => 3 | n => n, fun | n => n⟩
theorem Tryz.lays99 : Go.Proofs.Lays.n99 Tryz.prog Tryz.lays99_ren := {
  mixed := by kernel_rfl
  f99 := Tryz.func348.trans (congrArg some (by kernel_rfl))
  f206 := Tryz.func366.trans (congrArg some (by kernel_rfl))
  t3 := Tryz.underlying3
  a3 := Tryz.isAgg3
  z3 := Tryz.sizeOf3
  v3 := Tryz.zeroValue3
  t4 := Tryz.underlying4
  a4 := Tryz.isAgg4
  z4 := Tryz.sizeOf4
  v4 := Tryz.zeroValue4
  t9 := Tryz.underlying9
  a9 := Tryz.isAgg9
  z9 := Tryz.sizeOf9
  v9 := Tryz.zeroValue9 }
open Go.RowKit Go.Lib in
theorem Tryz.strings_HasPrefix (s p : ByteArray) (w : World) :
    Calls Tryz.prog 348 #[.string s, .string p] w fun e w' => e = .returned (.bool (Lib.hasPrefix s.data.toList p.data.toList)) ∧ w' = w := Any.strings_HasPrefix Tryz.lays99 s p w
end Go.Proofs

namespace Go.Proofs.YtgabkmibfhmkmaaGreatDoor
open Go.RowKit
def RetV (v : Value) (w : World) (e : Ending) (w' : World) : Prop := e = .returned v ∧ Below w.heap.size w w'
def TabW (w : World) : Prop := ∀ W, Below w.heap.size w W → Lib.TabIs Tryz.prog W "internal/strconv.uint64pow10" .u64 Lib.pow10Tab
theorem TabW.of {w : World} (h : Lib.TabIs Tryz.prog w "internal/strconv.uint64pow10" .u64 Lib.pow10Tab) : TabW w := Lib.tabBelow_of_tabIs h
theorem TabW.on {w W : World} (h : TabW w) (hb : Below w.heap.size w W) : TabW W := fun _ hb' => h _ (hb.trans (hb'.mono hb.size))
theorem itoa_any (n : Int) (hn : fits n) (w : World) (h : TabW w) : Calls Tryz.prog 316 #[.int .i64 n] w (fun e w' => ∃ s : ByteArray, Hid (s = ⟨(Lib.itoa n).toArray⟩) ∧ s.size ≤ 21 ∧ e = .returned (.string s) ∧ Below w.heap.size w w') := by
  have hn' : -9223372036854775808 ≤ n ∧ n ≤ 9223372036854775807 := by
    unfold fits at hn; simp [Lit.wf, IntKind.min, IntKind.max, IntKind.signed, IntKind.bits] at hn; omega
  refine (Tryz.strconv_Itoa n hn'.1 hn'.2 w (h w (Below.refl _ _))).mono ?_
  rintro e w' ⟨rfl, k, os, rfl⟩
  exact ⟨_, rfl, by have := Lib.itoa_length_le n hn'.1 hn'.2; simpa [ByteArray.size] using this, rfl, Lib.below_grow _ _ (Nat.le_refl _) _ _⟩
end Go.Proofs.YtgabkmibfhmkmaaGreatDoor

namespace Go.Proofs.YtgabkmibfhmkmaaGreatDoor
open Go.ChangeShapes Go.WideShapes Go.ChangeAt Go.RowKit
set_option linter.unusedVariables false
theorem own : ownKnob Tryz.prog.godebug = none := by kernel_rfl
theorem laidOut : laidOutB Tryz.prog = true := by kernel_rfl
theorem u_bool : Tryz.prog.underlying 4 = some .bool := by kernel_rfl
def laid {H : Type} : List (String × DataW H) := [("math/bits.deBruijn32tab", Rows.laid_math_bits_deBruijn32tab), ("math/bits.deBruijn64tab", Rows.laid_math_bits_deBruijn64tab), ("internal/strconv.uint64pow10", Rows.laid_internal_strconv_uint64pow10)]
theorem gP : Tryz.prog.globalNamed "internal/strconv.uint64pow10" = some 10 := by kernel_rfl
theorem gPT : (Tryz.prog.globals[10]?).map (·.type) = some 454 := by kernel_rfl
theorem pow_eq : (Rows.laid_internal_strconv_uint64pow10 : DataW Unit) = Lib.tabData .u64 Lib.pow10Tab := by kernel_rfl
end Go.Proofs.YtgabkmibfhmkmaaGreatDoor

namespace Go.Proofs.YtgabkmibfhmkmaaGreatDoor
open Go.RowKit
theorem fits_iff (n : Int) : fits n ↔ -9223372036854775808 ≤ n ∧ n ≤ 9223372036854775807 := by
  unfold fits; simp [Lit.wf, IntKind.min, IntKind.max, IntKind.signed, IntKind.bits]
end Go.Proofs.YtgabkmibfhmkmaaGreatDoor

namespace Go.Proofs.YtgabkmibfhmkmaaGreatDoor
open Go.RowKit
theorem SliceIs.keep {α : Type} {E : Enc α} {w w' : World} {A : Option Addr} {n c : Nat} {l : List α} (h : SliceIs E w w.heap.size A n c l) (hb : Below w.heap.size w w') : SliceIs E w' w'.heap.size A n c l :=
  (h.below hb).mono hb.size (fun _ _ => rfl)
theorem below_next {w W W' : World} (h : Below w.heap.size w W) (h' : Below W.heap.size W W') : Below w.heap.size w W' := h.trans (h'.mono h.size)
end Go.Proofs.YtgabkmibfhmkmaaGreatDoor
