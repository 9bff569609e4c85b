/- Merged by my own program of: Open, Num, Shelf, Tab, VFrame, StDigits, Keep0. -/
import Derived.Test.YtplekbpmfaghbaaGreatDoorMa1
import Derived.SizedLaws
import Derived.ProofKit
import Derived.Deep.Slices
import Derived.Test.YtplekbpmfaghbaaGreatDoorProg
import Derived.Shelf.Strings.Builder1
import Derived.Shelf.Strings.Builder2
import Derived.Shelf.Strings.OnBuilder
import Derived.Shelf.Small.Strs
import Derived.Shelf.Strconv.Atoi
import Derived.Shelf.Strconv.Itoa0
import Derived.Shelf.Strconv.Itoa1
import Derived.Shelf.LaysM
import Derived.Shelf.Strconv.Itoa2
import Derived.Shelf.Strconv.Itoa3
import Derived.Shelf.Strconv.AtoiErrFast
import Derived.Shelf.Strconv.ParseIntEmpty
import Derived.Shelf.Strconv.AtoiFail
import Derived.Shelf.Strconv.Clone
import Derived.Shelf.Strconv.SyntaxError
import Derived.Shelf.LaysC
import Derived.Shelf.Strconv.ToError
import Derived.Shelf.Strconv.Lower
import Derived.Shelf.Strconv.ParseUint10
import Derived.Shelf.Strconv.ParseUint10Empty
import Derived.Shelf.Strconv.ParseUint10Any
import Derived.Shelf.Strconv.ParseInt10
import Derived.Shelf.Strconv.AtoiLong
import Derived.Shelf.Strconv.AtoiInnerAll
import Derived.Shelf.Strconv.RangeError
import Derived.Shelf.Strconv.ToErrorRange
import Derived.Shelf.Strconv.AtoiAll
import Derived.Shelf.Strconv.ErrVarAll
import Derived.Shelf.Strings.Search1
import Derived.Shelf.Strings.Search2
import Derived.Shelf.Strings.Cut
import Derived.Shelf.Strings.Shaped
import Derived.Shelf.Strings.Prefix
import Derived.Lib.AppendIntMem
import Derived.Lib.ItoaLen
import Derived.Test.YtplekbpmfaghbaaGreatDoorRows
import Derived.OpenShut
import Derived.ChangeOld
import Derived.ChangeSame
import Derived.ChangeVars
import Derived.JoinedOf
import Derived.LaidLaws
import Derived.LaidHandle
import Derived.Stop.LaidErr
import Derived.Lib.LaidTab
import Derived.Below
/- My own: from the reading of an argument ('trod' and its weights) to the lists of XBase. Nothing of any program. -/
namespace Go.Proofs.YtplekbpmfaghbaaGreatDoor
open Go.RowKit

/-- what is read at type t lies in cells as E says -/
def Opens {α : Type} (P : Program) (t : TypeId) (E : Enc α) : Prop :=
  ∀ (H : Type) (enc : TypeId × Value → H) (w : World) (fuel : Nat) (cs : List Value) (x : DataW H × List MemPlace),
    DataW.trod enc P w 0 (fun _ => true) true fuel t cs = some x → (∀ n ∈ x.1.weights P t, n ≤ reachBytes) → ∃ y : α, E.ok w w.heap.size cs y

theorem reach_eq : reachBytes = reachN := by decide
def fieldsOf (P : Program) (t : TypeId) : List (TypeId × Nat × Nat) := match P.underlying t with
  | some (.struct fs) => fs.toList.map fun f => (f.type, f.offset, P.cellsOf f.type)
  | _ => []

theorem opens_int {P : Program} {t : TypeId} (h : P.underlying t = some (.int .i64)) : Opens P t Enc.int := by
  intro H enc w fuel cs x hx _
  obtain ⟨n, rfl, _, hw⟩ := DataW.trod_int h hx
  exact ⟨n, rfl, hw⟩
theorem opens_str {P : Program} {t : TypeId} (h : P.underlying t = some .string) : Opens P t Enc.str := by
  intro H enc w fuel cs x hx hwt
  obtain ⟨s, rfl, rfl, _⟩ := DataW.trod_string h hx
  refine ⟨s, rfl, ?_⟩
  have := hwt s.data.toList.length (by simp [DataW.weights])
  rw [reach_eq] at this
  simpa using this

theorem choose_list {α : Type} {Q : Nat → α → Prop} : ∀ n : Nat, (∀ i, i < n → ∃ x, Q i x) → ∃ l : List α, l.length = n ∧ ∀ i x, l[i]? = some x → Q i x
  | 0, _ => ⟨[], rfl, fun i x h => by simp at h⟩
  | n + 1, h => by
    obtain ⟨l, hl, hq⟩ := choose_list n (fun i hi => h i (by omega))
    obtain ⟨x, hx⟩ := h n (by omega)
    refine ⟨l ++ [x], by simp [hl], fun i y hy => ?_⟩
    by_cases hi : i < l.length
    · rw [List.getElem?_append_left hi] at hy
      exact hq i y hy
    · have hil : i < (l ++ [x]).length := (List.getElem?_eq_some_iff.1 hy).1
      simp at hil
      obtain rfl : i = n := by omega
      rw [List.getElem?_append_right (by omega)] at hy
      simp [hl] at hy
      exact hy ▸ hx

theorem weights_all {H : Type} {P : Program} {e : TypeId} {l : List (DataW H)} {d : DataW H} (h : d ∈ l) : ∀ n ∈ d.weights P e, n ∈ DataW.weightsAll P e l := by
  induction l with
  | nil => cases h
  | cons a l ih =>
    intro n hn
    simp only [DataW.weightsAll, List.mem_append]
    rcases List.mem_cons.1 h with rfl | h
    · exact .inl hn
    · exact .inr (ih h n hn)

theorem opens_slice {α : Type} {P : Program} {t e : TypeId} {E : Enc α} (h : P.underlying t = some (.slice e)) (he : Opens P e E) (hc : P.cellsOf e = E.sz) (hz : 0 < E.sz) (hb : 0 < P.bytesOf e) : Opens P t (Enc.slice E) := by
  intro H enc w fuel cs x hx hwt
  rcases Go.Deep.open_slice h hx with ⟨rfl, _⟩ | ⟨a, len, cap, m, n, D, Pl, rfl, _, hl, hm, hmm, rfl, hi⟩
  · exact ⟨[], none, 0, 0, rfl, SliceIs.nil⟩
  · simp only [if_true] at hmm
    subst hmm
    have hw0 := hwt ((len + (m - len)) * P.bytesOf e) (by simp [DataW.weights, h])
    have hle : len ≤ reachN := by
      rw [reach_eq] at hw0
      have : len + (m - len) ≤ (len + (m - len)) * P.bytesOf e := Nat.le_mul_of_pos_right _ hb
      omega
    obtain ⟨l, hll, hq⟩ := choose_list (Q := fun i y => ∃ cs', w.cells? 0 (a.add (i * P.cellsOf e)) (P.cellsOf e) = some cs' ∧ E.ok w w.heap.size cs' y) len (fun i hil => by
      obtain ⟨cs', h1, h2⟩ := hi i (by omega)
      obtain ⟨y, hy⟩ := he H enc w n cs' _ h2 (fun q hq => hwt q (by
        simp only [DataW.weights, h, List.mem_cons, List.mem_append]
        exact .inr (.inl (weights_all (List.mem_map.2 ⟨i, List.mem_range.2 hil, rfl⟩) q hq))))
      exact ⟨y, cs', h1, hy⟩)
    refine ⟨l, some a, len, m, rfl, hll, hl, hm, hle, ?_⟩
    by_cases h0 : len = 0
    · exact .inl (List.eq_nil_of_length_eq_zero (by omega))
    · right
      have hcell : ∀ i y, l[i]? = some y → ∃ cs', E.ok w w.heap.size cs' y ∧ ∀ j v, cs'[j]? = some v → w.cell? (a.add (i * E.sz + j)) = some v := by
        intro i y hy
        obtain ⟨cs', h1, h2⟩ := hq i y hy
        refine ⟨cs', h2, fun j v hj => ?_⟩
        obtain ⟨_, hcl, hat⟩ := World.cells?_some h1
        have hjl : j < P.cellsOf e := by rw [← hcl]; exact (List.getElem?_eq_some_iff.1 hj).1
        have := hat j hjl
        rw [hj, Go.Deep.add_add, hc] at this
        exact this
      have hex : ∃ y, l[0]? = some y := by
        rw [List.getElem?_eq_getElem (by omega)]
        exact ⟨_, rfl⟩
      obtain ⟨y, hy⟩ := hex
      obtain ⟨cs', h1, h2⟩ := hcell 0 y hy
      have hlen := E.len h1
      obtain ⟨v, hv⟩ : ∃ v, cs'[0]? = some v := by
        rw [List.getElem?_eq_getElem (by omega)]
        exact ⟨_, rfl⟩
      have hc0 := h2 0 v hv
      obtain ⟨b, off, spot⟩ := a
      obtain rfl : spot = none := by simpa [Addr.add] using World.cell?_spot hc0
      refine ⟨b, off, rfl, ?_, fun i y hy => ?_⟩
      · exact World.block_lt_of_cell? w _ (by simpa [Addr.add] using hc0)
      · obtain ⟨cs', h1, h2⟩ := hcell i y hy
        refine ⟨cs', h1, fun j v hj => ?_⟩
        have h3 := h2 j v hj
        rw [Nat.add_assoc]
        unfold Addr.add at h3
        split at h3
        · rename_i h0
          rw [h0]
          exact h3
        · exact h3

/-- a struct read: its fields, each by itself -/
theorem open_fields {H : Type} {enc : TypeId × Value → H} {P : Program} {w : World} {t : TypeId} {fuel : Nat} {cs : List Value} {x : DataW H × List MemPlace} {fl : List (TypeId × Nat × Nat)} (hf : fieldsOf P t = fl) (h0 : fl ≠ [])
    (hx : DataW.trod enc P w 0 (fun _ => true) true fuel t cs = some x) (hwt : ∀ n ∈ x.1.weights P t, n ≤ reachBytes) :
    cs.length = P.cellsOf t ∧ ∀ (j : Nat) (f : TypeId × Nat × Nat), fl[j]? = some f → ∃ y n, DataW.trod enc P w 0 (fun _ => true) true n f.1 ((cs.drop f.2.1).take f.2.2) = some y ∧ ∀ n ∈ y.1.weights P f.1, n ≤ reachBytes := by
  unfold fieldsOf at hf
  split at hf
  · rename_i fs hs
    obtain ⟨xs, n, _, rfl, hl, hlen, hat⟩ := DataW.trod_struct hs hx
    refine ⟨hl, fun j f hj => ?_⟩
    subst hf
    rw [List.getElem?_map, Option.map_eq_some_iff] at hj
    obtain ⟨fd, hfd, rfl⟩ := hj
    have hfd' : fs[j]? = some fd := by simpa using hfd
    have h1 := hat j fd hfd'
    have hjl : j < fs.size := (Array.getElem?_eq_some_iff.1 hfd').1
    have hxj : xs[j]? = some (xs[j]'(by omega)) := List.getElem?_eq_getElem (by omega)
    refine ⟨_, n, h1.trans hxj, fun q hq => hwt q ?_⟩
    simp only [DataW.weights, hs]
    exact DataW.weights_mem_each (j := j) (t := fd.type) (d := (xs[j]'(by omega)).1) (by simp [hfd']) (by simp [hxj]) q hq
  · exact absurd hf.symm h0

theorem opens_val {P : Program} {t a b c : TypeId} (hf : fieldsOf P t = [(a, 0, 1), (b, 1, 1), (c, 2, 1)]) (hz : P.cellsOf t = 3) (ha : P.underlying a = some (.int .i64)) (hb : P.underlying b = some (.int .i64)) (hc : P.underlying c = some .string) : Opens P t Enc.val := by
  intro H enc w fuel cs x hx hwt
  obtain ⟨hl, hat⟩ := open_fields hf (by simp) hx hwt
  rw [hz] at hl
  match cs, hl with
  | [u0, u1, u2], _ =>
    obtain ⟨y, n, h, hw⟩ := hat 0 _ rfl
    obtain ⟨k, e0, f0⟩ := opens_int ha _ _ _ _ _ _ h hw
    obtain ⟨y, n, h, hw⟩ := hat 1 _ rfl
    obtain ⟨i, e1, f1⟩ := opens_int hb _ _ _ _ _ _ h hw
    obtain ⟨y, n, h, hw⟩ := hat 2 _ rfl
    obtain ⟨s, e2, f2⟩ := opens_str hc _ _ _ _ _ _ h hw
    simp at e0 e1 e2
    subst e0 e1 e2
    exact ⟨⟨k, i, s⟩, rfl, f0, f1, f2⟩

theorem opens_told {P : Program} {t a b : TypeId} (hf : fieldsOf P t = [(a, 0, 1), (b, 1, 3)]) (hz : P.cellsOf t = 4) (ha : P.underlying a = some .string) (hb : Opens P b Enc.val) : Opens P t Enc.told := by
  intro H enc w fuel cs x hx hwt
  obtain ⟨hl, hat⟩ := open_fields hf (by simp) hx hwt
  rw [hz] at hl
  match cs, hl with
  | [u0, u1, u2, u3], _ =>
    obtain ⟨y, n, h, hw⟩ := hat 0 _ rfl
    obtain ⟨s, e0, f0⟩ := opens_str ha _ _ _ _ _ _ h hw
    obtain ⟨y, n, h, hw⟩ := hat 1 _ rfl
    obtain ⟨v, e1, f1⟩ := hb _ _ _ _ _ _ h hw
    simp at e0 e1
    obtain ⟨rfl, rfl, rfl⟩ := e1
    subst e0
    exact ⟨⟨s, v⟩, rfl, f0, f1⟩

/-- an argument that is a slice -/
theorem open_arg {α : Type} {H : Type} {enc : TypeId × Value → H} {P : Program} {w : World} {E : Enc α} {t : TypeId} {A : Option Addr} {n c : Nat} {d : DataW H} {p : List MemPlace} (ho : Opens P t (Enc.slice E))
    (h : DataW.Trod enc P w 0 (fun _ => true) true t (.slice A n c) d p) (hwt : ∀ n ∈ d.weights P t, n ≤ reachBytes) : ∃ l, SliceIs E w w.heap.size A n c l := by
  obtain ⟨fuel, hf⟩ := h
  obtain ⟨l, A', n', c', e, hs⟩ := ho H enc w fuel _ _ hf hwt
  simp [Value.cells] at e
  obtain ⟨rfl, rfl, rfl⟩ := e
  exact ⟨l, hs⟩
end Go.Proofs.YtplekbpmfaghbaaGreatDoor

/- corollarynum: errors as numbers, lists side by side (where they are alike). -/
namespace Go.Proofs.YtplekbpmfaghbaaGreatDoor
open Go.RowKit

def RetInt (n : Int) (w : World) (e : Ending) (w' : World) : Prop := e = .returned (.int .i64 n) ∧ Below w.heap.size w w'
def RetBool (b : Bool) (w : World) (e : Ending) (w' : World) : Prop := e = .returned (.bool b) ∧ Below w.heap.size w w'

set_option maxRecDepth 100000 in
set_option maxHeartbeats 400000 in
theorem num_any (n : Int) (w : World) : Calls Tryz.prog 42 #[errV 90 n] w (RetInt n w) := by
  by_cases h : n = 0
  · subst h
    simp only [errV, if_true]
    go_enter Tryz.func42, Tryz.ntmps42
    go_wp2
    go_ret
    exact ⟨rfl, Below.refl _ _⟩
  · simp only [errV, if_neg h]
    have h1 : ((n : Int) != 0) = true := by simp [h]
    have ta : ∀ w, (Instr.typeAssert (.iface 90 (.int .i64 n)) 57 90 true).run Tryz.prog w = .ok (.tuple #[.int .i64 n, .bool true]) w := fun _ => by kernel_rfl
    clear h
    go_enter Tryz.func42, Tryz.ntmps42
    go_wp2
    go_ret
    exact ⟨rfl, Below.refl _ _⟩

theorem GV.beq_iff (x y : GV) : x.beq y = true ↔ x = y := by
  cases x; cases y
  simp [GV.beq, toList_inj]
theorem GV.beq_self (x : GV) : x.beq x = true := (GV.beq_iff x x).2 rfl
instance : DecidableEq GV := fun x y => if h : x.beq y = true then isTrue ((GV.beq_iff x y).1 h) else isFalse (fun e => h ((GV.beq_iff x y).2 e))
theorem GV.beq_dec (x y : GV) : x.beq y = decide (x = y) := by
  rw [Bool.eq_iff_iff]; simp [GV.beq_iff]

theorem run_eql_value (x y : GV) (w : World) : (binOp .eql 31 x.v y.v).run Tryz.prog w = .ok (.bool (x.beq y)) w := by
  rw [run_eql_struct, run_equalIn_agg (ht := by kernel_rfl) (hp := by kernel_rfl)]
  simp [go_sem, GV.beq]
  by_cases h1 : x.k = y.k <;> by_cases h2 : x.n = y.n <;> by_cases h3 : x.s.toList = y.s.toList <;> simp [h1, h2, h3]
theorem run_neq_value (x y : GV) (w : World) : (binOp .neq 31 x.v y.v).run Tryz.prog w = .ok (.bool (!x.beq y)) w := by
  rw [run_neq_struct, run_equalIn_agg (ht := by kernel_rfl) (hp := by kernel_rfl)]
  simp [go_sem, GV.beq]
  by_cases h1 : x.k = y.k <;> by_cases h2 : x.n = y.n <;> by_cases h3 : x.s.toList = y.s.toList <;> simp [h1, h2, h3]


end Go.Proofs.YtplekbpmfaghbaaGreatDoor

/- The library contracts of the shelf at this program, in plain words (written by the kit's own tool; its comments struck). -/
namespace Go.Proofs
open Go.Shelf
def Tryz.lays156_ren : Go.Shelf.Ren := ⟨fun | 156 => 112 | 165 => 152 | 166 => 83 | 169 => 85 | 240 => 121 | 241 => 178 | 276 => 156 | 277 => 192 | n => n, fun | 31 => 81 | 9 => 9 | 3 => 3 | 4 => 4 | 0 => 0 | 20 => 20 | 72 => 161 | 76 => 162 | 70 => 158 | 37 => 159 | 75 => 57 | 127 => 200 | 164 => 230 | 5 => 5 | 80 => 65 | n => n, fun | n => n⟩
theorem Tryz.lays156 : Go.Proofs.Lays.n156 Tryz.prog Tryz.lays156_ren := {
  mixed := by kernel_rfl
  f156 := Tryz.func112.trans (congrArg some (by kernel_rfl))
  f165 := Tryz.func152.trans (congrArg some (by kernel_rfl))
  f166 := Tryz.func83.trans (congrArg some (by kernel_rfl))
  f169 := Tryz.func85.trans (congrArg some (by kernel_rfl))
  f240 := Tryz.func121.trans (congrArg some (by kernel_rfl))
  f241 := Tryz.func178.trans (congrArg some (by kernel_rfl))
  f276 := Tryz.func156.trans (congrArg some (by kernel_rfl))
  f277 := Tryz.func192.trans (congrArg some (by kernel_rfl))
  t0 := Tryz.underlying0
  a0 := Tryz.isAgg0
  z0 := Tryz.sizeOf0
  v0 := Tryz.zeroValue0
  t3 := Tryz.underlying3
  a3 := Tryz.isAgg3
  z3 := Tryz.sizeOf3
  v3 := Tryz.zeroValue3
  t4 := Tryz.underlying4
  a4 := Tryz.isAgg4
  z4 := Tryz.sizeOf4
  v4 := Tryz.zeroValue4
  t9 := Tryz.underlying9
  a9 := Tryz.isAgg9
  z9 := Tryz.sizeOf9
  v9 := Tryz.zeroValue9
  t20 := Tryz.underlying20
  a20 := Tryz.isAgg20
  z20 := Tryz.sizeOf20
  v20 := Tryz.zeroValue20
  t31 := Tryz.underlying81
  a31 := Tryz.isAgg81
  z31 := Tryz.sizeOf81
  v31 := Tryz.zeroValue81
  t37 := Tryz.underlying159
  a37 := Tryz.isAgg159
  z37 := Tryz.sizeOf159
  v37 := Tryz.zeroValue159
  t70 := Tryz.underlying158
  a70 := Tryz.isAgg158
  z70 := Tryz.sizeOf158
  v70 := Tryz.zeroValue158
  t72 := Tryz.underlying161
  a72 := Tryz.isAgg161
  z72 := Tryz.sizeOf161
  v72 := Tryz.zeroValue161
  t75 := Tryz.underlying57
  a75 := Tryz.isAgg57
  z75 := Tryz.sizeOf57
  v75 := Tryz.zeroValue57
  t76 := Tryz.underlying162
  a76 := Tryz.isAgg162
  z76 := Tryz.sizeOf162
  v76 := Tryz.zeroValue162
  t127 := Tryz.underlying200
  a127 := Tryz.isAgg200
  z127 := Tryz.sizeOf200
  v127 := Tryz.zeroValue200
  t164 := Tryz.underlying230
  a164 := Tryz.isAgg230
  z164 := Tryz.sizeOf230
  v164 := Tryz.zeroValue230 }
theorem Tryz.Builder_Extra_156 : Builder.Extra Tryz.prog Tryz.lays156_ren := {
  sizeBuilder := by kernel_rfl
  liesBuilder := by kernel_rfl
  t5 := Tryz.underlying5
  a5 := Tryz.isAgg5
  z5 := Tryz.sizeOf5
  v5 := Tryz.zeroValue5
  infoByte := by kernel_rfl
  cellsByte := by kernel_rfl
  sizeByte := by kernel_rfl
  neB5 := by decide }
open Go.RowKit in
theorem Tryz.strings_Join_none (a : Option Addr) (c : Nat) (sep : ByteArray) (w : World) :
    Calls Tryz.prog 112 #[.slice a 0 c, .string sep] w fun e w' => e = .returned (.string ⟨#[]⟩) ∧ w' = w := Any.strings_Join_none Tryz.lays156 Tryz.Builder_Extra_156 a c sep w
open Go.RowKit in
theorem Tryz.strings_Join (bk o c : Nat) (xs : List ByteArray) (sep : ByteArray) (w : World) (hcells : ∀ (j : Nat) x, xs[j]? = some x → w.cell? ⟨bk, o + j, none⟩ = some (.string x)) (hbk : bk < w.heap.size) (hN : xs.length ≤ 140737488355328) (hcap : xs.length ≤ c) (hlen : (Lib.join (xs.map (·.data.toList)) sep.data.toList).length ≤ 140737488355328) :
    Calls Tryz.prog 112 #[.slice (some ⟨bk, o, none⟩) xs.length c, .string sep] w fun e w' => e = .returned (.string ⟨(Lib.join (xs.map (·.data.toList)) sep.data.toList).toArray⟩) ∧ Below w.heap.size w w' := Any.strings_Join Tryz.lays156 Tryz.Builder_Extra_156 bk o c xs sep w hcells hbk hN hcap hlen
def Tryz.lays137_ren : Go.Shelf.Ren := ⟨fun | 137 => 197 | 217 => 206 | 266 => 223 | n => n, fun | 9 => 9 | 5 => 5 | 3 => 3 | n => n, fun | n => n⟩
theorem Tryz.lays137 : Go.Proofs.Lays.n137 Tryz.prog Tryz.lays137_ren := {
  mixed := by kernel_rfl
  f137 := Tryz.func197.trans (congrArg some (by kernel_rfl))
  f217 := Tryz.func206.trans (congrArg some (by kernel_rfl))
  f266 := Tryz.func223.trans (congrArg some (by kernel_rfl))
  t3 := Tryz.underlying3
  a3 := Tryz.isAgg3
  z3 := Tryz.sizeOf3
  v3 := Tryz.zeroValue3
  t5 := Tryz.underlying5
  a5 := Tryz.isAgg5
  z5 := Tryz.sizeOf5
  v5 := Tryz.zeroValue5
  t9 := Tryz.underlying9
  a9 := Tryz.isAgg9
  z9 := Tryz.sizeOf9
  v9 := Tryz.zeroValue9 }
open Go.RowKit in
theorem Tryz.strings_IndexByte (s : ByteArray) (c : Int) (w : World) :
    Calls Tryz.prog 197 #[.string s, .int .u8 c] w fun e w' => e = .returned (.int .i64 (Lib.indexByte s.data.toList c.toNat.toUInt8)) ∧ w' = w := Any.strings_IndexByte Tryz.lays137 s c w
def Tryz.laysM171_ren : Go.Shelf.Ren := ⟨fun | 171 => 179 | 243 => 193 | 246 => 202 | 283 => 213 | 284 => 214 | 285 => 215 | 286 => 216 | 129 => 226 | 317 => 225 | 318 => 227 | 319 => 228 | 320 => 229 | 337 => 236 | 338 => 237 | n => n, fun | 3 => 3 | 9 => 9 | 2 => 2 | 4 => 4 | 171 => 276 | 0 => 0 | 53 => 277 | 37 => 159 | 5 => 5 | 173 => 280 | 212 => 291 | 51 => 292 | 20 => 20 | 213 => 293 | 46 => 84 | 232 => 308 | 233 => 309 | n => n, fun | 17 => 8 | 18 => 11 | 19 => 12 | n => n⟩
theorem Tryz.laysM171 : Go.Proofs.LaysM.n171 Tryz.prog Tryz.laysM171_ren := {
  mixed := by kernel_rfl
  f129 := Tryz.func226.trans (congrArg some (by kernel_rfl))
  f171 := Tryz.func179.trans (congrArg some (by kernel_rfl))
  f243 := Tryz.func193.trans (congrArg some (by kernel_rfl))
  f246 := Tryz.func202.trans (congrArg some (by kernel_rfl))
  f283 := Tryz.func213.trans (congrArg some (by kernel_rfl))
  f284 := Tryz.func214.trans (congrArg some (by kernel_rfl))
  f285 := Tryz.func215.trans (congrArg some (by kernel_rfl))
  f286 := Tryz.func216.trans (congrArg some (by kernel_rfl))
  f317 := Tryz.func225.trans (congrArg some (by kernel_rfl))
  f318 := Tryz.func227.trans (congrArg some (by kernel_rfl))
  f319 := Tryz.func228.trans (congrArg some (by kernel_rfl))
  f320 := Tryz.func229.trans (congrArg some (by kernel_rfl))
  f337 := Tryz.func236.trans (congrArg some (by kernel_rfl))
  f338 := Tryz.func237.trans (congrArg some (by kernel_rfl))
  t0 := Tryz.underlying0
  a0 := Tryz.isAgg0
  z0 := Tryz.sizeOf0
  v0 := Tryz.zeroValue0
  t2 := Tryz.underlying2
  a2 := Tryz.isAgg2
  z2 := Tryz.sizeOf2
  v2 := Tryz.zeroValue2
  t3 := Tryz.underlying3
  a3 := Tryz.isAgg3
  z3 := Tryz.sizeOf3
  v3 := Tryz.zeroValue3
  t4 := Tryz.underlying4
  a4 := Tryz.isAgg4
  z4 := Tryz.sizeOf4
  v4 := Tryz.zeroValue4
  t5 := Tryz.underlying5
  a5 := Tryz.isAgg5
  z5 := Tryz.sizeOf5
  v5 := Tryz.zeroValue5
  t9 := Tryz.underlying9
  a9 := Tryz.isAgg9
  z9 := Tryz.sizeOf9
  v9 := Tryz.zeroValue9
  t20 := Tryz.underlying20
  a20 := Tryz.isAgg20
  z20 := Tryz.sizeOf20
  v20 := Tryz.zeroValue20
  t37 := Tryz.underlying159
  a37 := Tryz.isAgg159
  z37 := Tryz.sizeOf159
  v37 := Tryz.zeroValue159
  t46 := Tryz.underlying84
  a46 := Tryz.isAgg84
  z46 := Tryz.sizeOf84
  v46 := Tryz.zeroValue84
  t51 := Tryz.underlying292
  a51 := Tryz.isAgg292
  z51 := Tryz.sizeOf292
  v51 := Tryz.zeroValue292
  t53 := Tryz.underlying277
  a53 := Tryz.isAgg277
  z53 := Tryz.sizeOf277
  v53 := Tryz.zeroValue277
  t171 := Tryz.underlying276
  a171 := Tryz.isAgg276
  z171 := Tryz.sizeOf276
  v171 := Tryz.zeroValue276
  t173 := Tryz.underlying280
  a173 := Tryz.isAgg280
  z173 := Tryz.sizeOf280
  v173 := Tryz.zeroValue280
  t212 := Tryz.underlying291
  a212 := Tryz.isAgg291
  z212 := Tryz.sizeOf291
  v212 := Tryz.zeroValue291
  t213 := Tryz.underlying293
  a213 := Tryz.isAgg293
  z213 := Tryz.sizeOf293
  t232 := Tryz.underlying308
  a232 := Tryz.isAgg308
  z232 := Tryz.sizeOf308
  v232 := Tryz.zeroValue308
  t233 := Tryz.underlying309
  a233 := Tryz.isAgg309
  z233 := Tryz.sizeOf309
  v233 := Tryz.zeroValue309
  g17 := by kernel_rfl
  g18 := by kernel_rfl
  g19 := by kernel_rfl
  i0 := by kernel_rfl
  i2 := by kernel_rfl
  i3 := by kernel_rfl
  i4 := by kernel_rfl
  i5 := by kernel_rfl
  i9 := by kernel_rfl
  i20 := by kernel_rfl
  i37 := by kernel_rfl
  i46 := by kernel_rfl
  i51 := by kernel_rfl
  i53 := by kernel_rfl
  i171 := by kernel_rfl
  i173 := by kernel_rfl
  i212 := by kernel_rfl
  i232 := by kernel_rfl
  i233 := by kernel_rfl
  m17 := by kernel_rfl
  m18 := by kernel_rfl
  m19 := by kernel_rfl }
open Go.RowKit Go.Sort Go.Lib in
theorem Tryz.strconv_Itoa (n : Int) (h0 : -9223372036854775808 ≤ n) (h1 : n ≤ 9223372036854775807) (w : World) (htab : Lib.TabIs Tryz.prog w "internal/strconv.uint64pow10" .u64 Lib.pow10Tab) :
    Calls Tryz.prog 179 #[.int .i64 n] w fun e w' => e = .returned (.string ⟨(Lib.itoa n).toArray⟩) ∧ ∃ k os, w' = grow (w.drewN k) os := Any.strconv_Itoa Tryz.laysM171 n h0 h1 w htab
def Tryz.laysC172_ren : Go.Shelf.Ren := ⟨fun | 172 => 194 | 244 => 203 | 245 => 204 | 247 => 217 | 279 => 218 | 280 => 219 | 281 => 220 | 282 => 221 | 287 => 230 | 316 => 231 | 171 => 179 | 205 => 232 | 321 => 238 | 322 => 239 | 243 => 193 | 246 => 202 | 283 => 213 | 284 => 214 | 285 => 215 | 286 => 216 | 129 => 226 | 317 => 225 | 318 => 227 | 319 => 228 | 320 => 229 | 337 => 236 | 338 => 237 | n => n, fun | 9 => 9 | 3 => 3 | 75 => 57 | 76 => 162 | 4 => 4 | 5 => 5 | 167 => 282 | 37 => 159 | 0 => 0 | 85 => 283 | 2 => 2 | 168 => 285 | 53 => 277 | 175 => 295 | 46 => 84 | 210 => 299 | 127 => 200 | 145 => 305 | 143 => 303 | 21 => 21 | 171 => 276 | 173 => 280 | 212 => 291 | 51 => 292 | 20 => 20 | 213 => 293 | 232 => 308 | 233 => 309 | 80 => 65 | n => n, fun | 15 => 9 | 16 => 10 | 17 => 8 | 18 => 11 | 19 => 12 | n => n⟩
theorem Tryz.laysC172 : Go.Proofs.LaysC.n172 Tryz.prog Tryz.laysC172_ren := {
  mixed := by kernel_rfl
  f129 := Tryz.func226.trans (congrArg some (by kernel_rfl))
  f171 := Tryz.func179.trans (congrArg some (by kernel_rfl))
  f172 := Tryz.func194.trans (congrArg some (by kernel_rfl))
  f205 := Tryz.func232.trans (congrArg some (by kernel_rfl))
  f243 := Tryz.func193.trans (congrArg some (by kernel_rfl))
  f244 := Tryz.func203.trans (congrArg some (by kernel_rfl))
  f245 := Tryz.func204.trans (congrArg some (by kernel_rfl))
  f246 := Tryz.func202.trans (congrArg some (by kernel_rfl))
  f247 := Tryz.func217.trans (congrArg some (by kernel_rfl))
  f279 := Tryz.func218.trans (congrArg some (by kernel_rfl))
  f280 := Tryz.func219.trans (congrArg some (by kernel_rfl))
  f281 := Tryz.func220.trans (congrArg some (by kernel_rfl))
  f282 := Tryz.func221.trans (congrArg some (by kernel_rfl))
  f283 := Tryz.func213.trans (congrArg some (by kernel_rfl))
  f284 := Tryz.func214.trans (congrArg some (by kernel_rfl))
  f285 := Tryz.func215.trans (congrArg some (by kernel_rfl))
  f286 := Tryz.func216.trans (congrArg some (by kernel_rfl))
  f287 := Tryz.func230.trans (congrArg some (by kernel_rfl))
  f316 := Tryz.func231.trans (congrArg some (by kernel_rfl))
  f317 := Tryz.func225.trans (congrArg some (by kernel_rfl))
  f318 := Tryz.func227.trans (congrArg some (by kernel_rfl))
  f319 := Tryz.func228.trans (congrArg some (by kernel_rfl))
  f320 := Tryz.func229.trans (congrArg some (by kernel_rfl))
  f321 := Tryz.func238.trans (congrArg some (by kernel_rfl))
  f322 := Tryz.func239.trans (congrArg some (by kernel_rfl))
  f337 := Tryz.func236.trans (congrArg some (by kernel_rfl))
  f338 := Tryz.func237.trans (congrArg some (by kernel_rfl))
  t0 := Tryz.underlying0
  a0 := Tryz.isAgg0
  z0 := Tryz.sizeOf0
  v0 := Tryz.zeroValue0
  t2 := Tryz.underlying2
  a2 := Tryz.isAgg2
  z2 := Tryz.sizeOf2
  v2 := Tryz.zeroValue2
  t3 := Tryz.underlying3
  a3 := Tryz.isAgg3
  z3 := Tryz.sizeOf3
  v3 := Tryz.zeroValue3
  t4 := Tryz.underlying4
  a4 := Tryz.isAgg4
  z4 := Tryz.sizeOf4
  v4 := Tryz.zeroValue4
  t5 := Tryz.underlying5
  a5 := Tryz.isAgg5
  z5 := Tryz.sizeOf5
  v5 := Tryz.zeroValue5
  t9 := Tryz.underlying9
  a9 := Tryz.isAgg9
  z9 := Tryz.sizeOf9
  v9 := Tryz.zeroValue9
  t20 := Tryz.underlying20
  a20 := Tryz.isAgg20
  z20 := Tryz.sizeOf20
  v20 := Tryz.zeroValue20
  t21 := Tryz.underlying21
  a21 := Tryz.isAgg21
  z21 := Tryz.sizeOf21
  v21 := Tryz.zeroValue21
  t37 := Tryz.underlying159
  a37 := Tryz.isAgg159
  z37 := Tryz.sizeOf159
  v37 := Tryz.zeroValue159
  t46 := Tryz.underlying84
  a46 := Tryz.isAgg84
  z46 := Tryz.sizeOf84
  v46 := Tryz.zeroValue84
  t51 := Tryz.underlying292
  a51 := Tryz.isAgg292
  z51 := Tryz.sizeOf292
  v51 := Tryz.zeroValue292
  t53 := Tryz.underlying277
  a53 := Tryz.isAgg277
  z53 := Tryz.sizeOf277
  v53 := Tryz.zeroValue277
  t75 := Tryz.underlying57
  a75 := Tryz.isAgg57
  z75 := Tryz.sizeOf57
  v75 := Tryz.zeroValue57
  t76 := Tryz.underlying162
  a76 := Tryz.isAgg162
  z76 := Tryz.sizeOf162
  v76 := Tryz.zeroValue162
  t85 := Tryz.underlying283
  a85 := Tryz.isAgg283
  z85 := Tryz.sizeOf283
  v85 := Tryz.zeroValue283
  t127 := Tryz.underlying200
  a127 := Tryz.isAgg200
  z127 := Tryz.sizeOf200
  v127 := Tryz.zeroValue200
  t143 := Tryz.underlying303
  a143 := Tryz.isAgg303
  z143 := Tryz.sizeOf303
  v143 := Tryz.zeroValue303
  t145 := Tryz.underlying305
  a145 := Tryz.isAgg305
  z145 := Tryz.sizeOf305
  v145 := Tryz.zeroValue305
  t167 := Tryz.underlying282
  a167 := Tryz.isAgg282
  z167 := Tryz.sizeOf282
  v167 := Tryz.zeroValue282
  t168 := Tryz.underlying285
  a168 := Tryz.isAgg285
  z168 := Tryz.sizeOf285
  v168 := Tryz.zeroValue285
  t171 := Tryz.underlying276
  a171 := Tryz.isAgg276
  z171 := Tryz.sizeOf276
  v171 := Tryz.zeroValue276
  t173 := Tryz.underlying280
  a173 := Tryz.isAgg280
  z173 := Tryz.sizeOf280
  v173 := Tryz.zeroValue280
  t175 := Tryz.underlying295
  a175 := Tryz.isAgg295
  z175 := Tryz.sizeOf295
  v175 := Tryz.zeroValue295
  t210 := Tryz.underlying299
  a210 := Tryz.isAgg299
  z210 := Tryz.sizeOf299
  v210 := Tryz.zeroValue299
  t212 := Tryz.underlying291
  a212 := Tryz.isAgg291
  z212 := Tryz.sizeOf291
  v212 := Tryz.zeroValue291
  t213 := Tryz.underlying293
  a213 := Tryz.isAgg293
  z213 := Tryz.sizeOf293
  t232 := Tryz.underlying308
  a232 := Tryz.isAgg308
  z232 := Tryz.sizeOf308
  v232 := Tryz.zeroValue308
  t233 := Tryz.underlying309
  a233 := Tryz.isAgg309
  z233 := Tryz.sizeOf309
  v233 := Tryz.zeroValue309
  g15 := by kernel_rfl
  g16 := by kernel_rfl
  g17 := by kernel_rfl
  g18 := by kernel_rfl
  g19 := by kernel_rfl
  t80 := Tryz.underlying65
  a80 := Tryz.isAgg65
  z80 := Tryz.sizeOf65
  v80 := Tryz.zeroValue65
  i0 := by kernel_rfl
  i2 := by kernel_rfl
  i3 := by kernel_rfl
  i4 := by kernel_rfl
  i5 := by kernel_rfl
  i9 := by kernel_rfl
  i20 := by kernel_rfl
  i21 := by kernel_rfl
  i37 := by kernel_rfl
  i46 := by kernel_rfl
  i51 := by kernel_rfl
  i53 := by kernel_rfl
  i75 := by kernel_rfl
  i76 := by kernel_rfl
  i80 := by kernel_rfl
  i85 := by kernel_rfl
  i127 := by kernel_rfl
  i143 := by kernel_rfl
  i145 := by kernel_rfl
  i167 := by kernel_rfl
  i168 := by kernel_rfl
  i171 := by kernel_rfl
  i173 := by kernel_rfl
  i175 := by kernel_rfl
  i210 := by kernel_rfl
  i212 := by kernel_rfl
  i232 := by kernel_rfl
  i233 := by kernel_rfl
  m15 := by kernel_rfl
  m16 := by kernel_rfl
  m17 := by kernel_rfl
  m18 := by kernel_rfl
  m19 := by kernel_rfl
  c0 := by kernel_rfl
  c2 := by kernel_rfl
  c3 := by kernel_rfl
  c4 := by kernel_rfl
  c5 := by kernel_rfl
  c9 := by kernel_rfl
  c20 := by kernel_rfl
  c21 := by kernel_rfl
  c37 := by kernel_rfl
  c46 := by kernel_rfl
  c51 := by kernel_rfl
  c53 := by kernel_rfl
  c75 := by kernel_rfl
  c76 := by kernel_rfl
  c80 := by kernel_rfl
  c85 := by kernel_rfl
  c127 := by kernel_rfl
  c143 := by kernel_rfl
  c145 := by kernel_rfl
  c167 := by kernel_rfl
  c168 := by kernel_rfl
  c171 := by kernel_rfl
  c173 := by kernel_rfl
  c175 := by kernel_rfl
  c210 := by kernel_rfl
  c212 := by kernel_rfl
  c213 := by kernel_rfl
  c232 := by kernel_rfl
  c233 := by kernel_rfl }
open Go.RowKit in
theorem Tryz.strconv_Atoi_ok (s : ByteArray) (hmax : s.size ≤ 9223372036854775806) (v : Int) (h : Lib.atoiAll s.data.toList = .ok v) (w : World) :
    Calls Tryz.prog 194 #[.string s] w fun e w' => e = .returned (.tuple #[.int .i64 v, .nilIface]) ∧ (w' = w ∨ ∃ t, w' = Lib.bytesWorld w 5 t) := Any.strconv_Atoi_ok Tryz.laysC172 s hmax v h w
def Tryz.lays99_ren : Go.Shelf.Ren := ⟨fun | 99 => 201 | 206 => 212 | n => n, fun | 9 => 9 | 4 => 4 | 3 => 3 | n => n, fun | n => n⟩
theorem Tryz.lays99 : Go.Proofs.Lays.n99 Tryz.prog Tryz.lays99_ren := {
  mixed := by kernel_rfl
  f99 := Tryz.func201.trans (congrArg some (by kernel_rfl))
  f206 := Tryz.func212.trans (congrArg some (by kernel_rfl))
  t3 := Tryz.underlying3
  a3 := Tryz.isAgg3
  z3 := Tryz.sizeOf3
  v3 := Tryz.zeroValue3
  t4 := Tryz.underlying4
  a4 := Tryz.isAgg4
  z4 := Tryz.sizeOf4
  v4 := Tryz.zeroValue4
  t9 := Tryz.underlying9
  a9 := Tryz.isAgg9
  z9 := Tryz.sizeOf9
  v9 := Tryz.zeroValue9 }
open Go.RowKit Go.Lib in
theorem Tryz.strings_HasPrefix (s p : ByteArray) (w : World) :
    Calls Tryz.prog 201 #[.string s, .string p] w fun e w' => e = .returned (.bool (Lib.hasPrefix s.data.toList p.data.toList)) ∧ w' = w := Any.strings_HasPrefix Tryz.lays99 s p w
end Go.Proofs

/- strconv.Itoa, over the table that a row lists. -/
namespace Go.Proofs.YtplekbpmfaghbaaGreatDoor
open Go.RowKit

def RetV (v : Value) (w : World) (e : Ending) (w' : World) : Prop := e = .returned v ∧ Below w.heap.size w w'
def TabW (w : World) : Prop := ∀ W, Below w.heap.size w W → Lib.TabIs Tryz.prog W "internal/strconv.uint64pow10" .u64 Lib.pow10Tab
theorem TabW.of {w : World} (h : Lib.TabIs Tryz.prog w "internal/strconv.uint64pow10" .u64 Lib.pow10Tab) : TabW w := Lib.tabBelow_of_tabIs h
theorem TabW.on {w W : World} (h : TabW w) (hb : Below w.heap.size w W) : TabW W := fun _ hb' => h _ (hb.trans (hb'.mono hb.size))

theorem itoa_any (n : Int) (hn : fits n) (w : World) (h : TabW w) : Calls Tryz.prog 179 #[.int .i64 n] w (fun e w' => ∃ s : ByteArray, Hid (s = ⟨(Lib.itoa n).toArray⟩) ∧ s.size ≤ 21 ∧ e = .returned (.string s) ∧ Below w.heap.size w w') := by
  have hn' : -9223372036854775808 ≤ n ∧ n ≤ 9223372036854775807 := by
    unfold fits at hn; simp [Lit.wf, IntKind.min, IntKind.max, IntKind.signed, IntKind.bits] at hn; omega
  refine (Tryz.strconv_Itoa n hn'.1 hn'.2 w (h w (Below.refl _ _))).mono ?_
  rintro e w' ⟨rfl, k, os, rfl⟩
  exact ⟨_, rfl, by have := Lib.itoa_length_le n hn'.1 hn'.2; simpa [ByteArray.size] using this, rfl, Lib.below_grow _ _ (Nat.le_refl _) _ _⟩
end Go.Proofs.YtplekbpmfaghbaaGreatDoor

/- The frame of the rows on values: opening the arguments, the tables, a start that fits. -/
namespace Go.Proofs.YtplekbpmfaghbaaGreatDoor
open Go.ChangeShapes Go.WideShapes Go.ChangeAt Go.RowKit
set_option linter.unusedVariables false

theorem own : ownKnob Tryz.prog.godebug = none := by kernel_rfl
theorem laidOut : laidOutB Tryz.prog = true := by kernel_rfl
theorem u_bool : Tryz.prog.underlying 4 = some .bool := by kernel_rfl

def laid {H : Type} : List (String × DataW H) := [("math/bits.deBruijn32tab", Rows.laid_math_bits_deBruijn32tab), ("math/bits.deBruijn64tab", Rows.laid_math_bits_deBruijn64tab), ("internal/strconv.uint64pow10", Rows.laid_internal_strconv_uint64pow10)]

theorem gP : Tryz.prog.globalNamed "internal/strconv.uint64pow10" = some 8 := by kernel_rfl
theorem gPT : (Tryz.prog.globals[8]?).map (·.type) = some 291 := by kernel_rfl
theorem pow_eq : (Rows.laid_internal_strconv_uint64pow10 : DataW Unit) = Lib.tabData .u64 Lib.pow10Tab := by kernel_rfl
theorem tab_of_laid {W : World} (h : laidMet Tryz.prog laid W) : TabW W :=
  TabW.of (Lib.tabIs_of_head gP gPT Tryz.underlying291 Tryz.underlying277 (by kernel_rfl) (by kernel_rfl) (rest := []) (by rw [← pow_eq]; exact laidMet.tail (laidMet.tail h)))

/-- a value as an argument -/
theorem open_value {H : Type} {enc : TypeId × Value → H} {P : Program} {w : World} {t : TypeId} {v : Value} {d : DataW H} {p : List MemPlace} {r : Reach} {b0 : Nat} {fs : Array Field} (hs : P.underlying t = some (.struct fs)) (hz : P.cellsOf t = 3) (ho : Opens P t Enc.val)
    (hval : Value.okWide P w r b0 t v) (h : DataW.Trod enc P w 0 (fun _ => true) true t v d p) (hwt : ∀ n ∈ d.weights P t, n ≤ reachBytes) :
    ∃ x : GV, v = x.v := by
  obtain ⟨cs, rfl, hsz⟩ := okWide_struct hs hval
  obtain ⟨fuel, hx⟩ := h
  obtain ⟨x, hx, -⟩ := ho H enc w fuel _ _ hx hwt
  refine ⟨x, ?_⟩
  have : cs = #[.int .i64 x.k, .int .i64 x.n, .string x.s] := by
    cases cs; simpa [Value.cells] using hx
  rw [this]
theorem open_value' {H : Type} {enc : TypeId × Value → H} {P : Program} {w : World} {t : TypeId} {v : Value} {d : DataW H} {p : List MemPlace} {r : Reach} {b0 : Nat} {fs : Array Field} (hs : P.underlying t = some (.struct fs)) (hz : P.cellsOf t = 3) (ho : Opens P t Enc.val)
    (hval : Value.okWide P w r b0 t v) (h : DataW.Trod enc P w 0 (fun _ => true) true t v d p) (hwt : ∀ n ∈ d.weights P t, n ≤ reachBytes) :
    ∃ x : GV, v = x.v ∧ x.ok := by
  obtain ⟨cs, rfl, hsz⟩ := okWide_struct hs hval
  obtain ⟨fuel, hx⟩ := h
  obtain ⟨x, hx, hok⟩ := ho H enc w fuel _ _ hx hwt
  refine ⟨x, ?_, hok⟩
  have : cs = #[.int .i64 x.k, .int .i64 x.n, .string x.s] := by
    cases cs; simpa [Value.cells] using hx
  rw [this]
theorem open_str' {H : Type} {enc : TypeId × Value → H} {P : Program} {w : World} {t : TypeId} {v : Value} {d : DataW H} {p : List MemPlace} {r : Reach} {b0 : Nat} (hs : P.underlying t = some .string) (hval : Value.okWide P w r b0 t v)
    (h : DataW.Trod enc P w 0 (fun _ => true) true t v d p) (hwt : ∀ n ∈ d.weights P t, n ≤ reachBytes) : ∃ s : ByteArray, v = .string s ∧ s.size ≤ reachN := by
  obtain ⟨fuel, hx⟩ := h
  obtain ⟨s0, rfl⟩ := okWide_string hs hval
  obtain ⟨s, e, hok⟩ := opens_str hs H enc w fuel _ _ hx hwt
  simp [Value.cells] at e
  subst e
  exact ⟨_, rfl, hok⟩
theorem open_int' {H : Type} {enc : TypeId × Value → H} {P : Program} {w : World} {t : TypeId} {v : Value} {d : DataW H} {p : List MemPlace} {r : Reach} {b0 : Nat} {k : IntKind} (hs : P.underlying t = some (.int k)) (hval : Value.okWide P w r b0 t v)
    (h : DataW.Trod enc P w 0 (fun _ => true) true t v d p) : ∃ n : Int, v = .int k n ∧ (Lit.int k n).wf = true := by
  obtain ⟨n, rfl, -, -, hw⟩ := open_int hs hval h
  exact ⟨n, rfl, hw⟩
theorem o_val : Opens Tryz.prog 31 Enc.val := opens_val (a := 29) (b := 3) (c := 9) (by kernel_rfl) (by kernel_rfl) (by kernel_rfl) (by kernel_rfl) (by kernel_rfl)
theorem z_val : Tryz.prog.cellsOf 31 = 3 := by kernel_rfl
theorem u_val : ∃ fs, Tryz.prog.underlying 31 = some (.struct fs) := ⟨_, Tryz.underlying31⟩


/-- a start that fits: the settled world, the three tables laid -/
noncomputable def laidWorld (os : Os) : World :=
  let w0 := World.holding Tryz.prog os ⟨#[], #[], []⟩
  let put (h : Array Obj) (g : Nat) (cs : Array Value) : Array Obj := h.modify g fun
    | .cells _ t frozen => .cells cs t frozen
    | o => o
  let tab (d : DataW Unit) : Array Value := match d with
    | .agg l => (l.map fun | .lit (.int k n) => Value.int k n | _ => undef).toArray
    | _ => #[]
  let h1 := put w0.heap 11 (tab Rows.laid_math_bits_deBruijn32tab)
  let h2 := put h1 12 (tab Rows.laid_math_bits_deBruijn64tab)
  let h3 := put h2 8 (tab Rows.laid_internal_strconv_uint64pow10)
  { w0 with heap := h3 }
set_option maxRecDepth 100000 in
theorem laidWorld_met (os : Os) (args : Array Value) : laidMet Tryz.prog laid ((laidWorld os).forCall (fun _ _ => 0) ⟨#[], args, []⟩).memory :=
  laidMet_of_run' 8 (by kernel_rfl) (by kernel_rfl)
end Go.Proofs.YtplekbpmfaghbaaGreatDoor

/- corollaryref01.Digits: the decimal numeral. -/
namespace Go.Proofs.YtplekbpmfaghbaaGreatDoor
open Go.RowKit

def RetStr (l : List UInt8) (w : World) (e : Ending) (w' : World) : Prop := ∃ s : ByteArray, Hid (s = ⟨l.toArray⟩) ∧ s.size ≤ 21 ∧ e = .returned (.string s) ∧ w' = w
theorem fits_iff (n : Int) : fits n ↔ -9223372036854775808 ≤ n ∧ n ≤ 9223372036854775807 := by
  unfold fits; simp [Lit.wf, IntKind.min, IntKind.max, IntKind.signed, IntKind.bits]

set_option maxRecDepth 100000 in
set_option maxHeartbeats 1000000 in
theorem digits_any : ∀ (k : Nat) (n : Int), (if n < 0 then n.natAbs + 10 else n.natAbs) < k → -9223372036854775808 ≤ n → n ≤ 9223372036854775807 → ∀ w, Calls Tryz.prog 155 #[.int .i64 n] w (RetStr (Lib.itoa n) w) := by
  intro k
  induction k with
  | zero => intro n h; omega
  | succ k ih =>
    intro n hk h0 h1 w
    have HI := Lib.hid ih
    clear ih
    have Hlen := Lib.hid (Lib.itoa_length_le n h0 h1)
    by_cases hn : n < 0
    · rw [if_pos hn] at hk
      by_cases hn2 : -10 < n
      · have hw : wrap64 (-n) = -n := by unfold wrap64; omega
        have hi := HI.out (-n) (by rw [if_neg (by omega)]; omega) (by omega) (by omega)
        have HE := Lib.hid (show Lib.itoa n = 45 :: Lib.itoa (-n) by
          obtain ⟨u, rfl⟩ : ∃ u : Nat, n = -(u : Int) := ⟨n.natAbs, by omega⟩
          rw [Lib.itoa_neg u (by omega), Int.neg_neg, Lib.itoa_nonneg])
        clear hk h0 h1 HI
        go_enter Tryz.func155, Tryz.ntmps155
        go_wp2_with (
          (go_at_call 155
           refine (hi _).mono ?_
           rintro e1 w1 ⟨s, hs, hl, rfl, rfl⟩
           have hz1 : ¬ (9223372036854775807 < 1 + s.size) := by omega
           have hz2 : ¬ (9223372036854775807 < s.size + 1) := by omega
           have hz3 : ¬ (9223372036854775806 < s.size) := by omega))
        go_ret
        refine ⟨_, ?_, ?_, rfl, rfl⟩
        · show _ = _
          rw [HE.out]
          have e1 := hs.out
          subst e1
          rw [ByteArray.mk_append_mk]; rfl
        · have e1 := hs.out
          have h2 := Hlen.out
          rw [HE.out] at h2
          subst e1
          simpa [ByteArray.mk_append_mk, ByteArray.size] using h2
      · obtain ⟨u, rfl⟩ : ∃ u : Nat, n = -(u : Int) := ⟨n.natAbs, by omega⟩
        obtain ⟨q, hq⟩ : ∃ q, (-(u : Int)).tdiv 10 = q := ⟨_, rfl⟩
        obtain ⟨r, hr⟩ : ∃ r, (-(u : Int)).tmod 10 = r := ⟨_, rfl⟩
        have hq' : q = -((u / 10 : Nat) : Int) := by rw [← hq, Int.neg_tdiv]; rfl
        have hr' : r = -((u % 10 : Nat) : Int) := by rw [← hr, Int.neg_tmod]; rfl
        have hwq : wrap64 q = q := by unfold wrap64; omega
        have hwr : wrap64 (-r) = -r := by unfold wrap64; omega
        have hi := HI.out q (by rw [if_pos (by omega)]; omega) (by omega) (by omega)
        have hj := HI.out (-r) (by rw [if_neg (by omega)]; omega) (by omega) (by omega)
        have HE := Lib.hid (show Lib.itoa (-(u : Int)) = Lib.itoa q ++ Lib.itoa (-r) by
          rw [hq', hr', Int.neg_neg, Lib.itoa_neg u (by omega), Lib.itoa_neg (u / 10) (by omega), Lib.itoa_nonneg, Lib.decDigits_one (i := u % 10) (by omega)]
          conv => lhs; rw [Lib.decDigits, dif_neg (by omega)]
          rfl)
        have Hi := Lib.hid hi
        have Hj := Lib.hid hj
        generalize (-(u : Int)) = n at *
        clear hk h0 h1 HI hq' hr' hi hj
        go_enter Tryz.func155, Tryz.ntmps155
        go_wp2_with (first
          | (go_at_call 155
             refine (Hi.out _).mono ?_
             clear Hi
             rintro e1 w1 ⟨s, hs, hl, rfl, rfl⟩)
          | (go_at_call 155
             refine (Hj.out _).mono ?_
             rintro e1 w1 ⟨s2, hs2, hl2, rfl, rfl⟩
             have hz1 : ¬ (9223372036854775807 < s.size + s2.size) := by omega))
        go_ret
        refine ⟨_, ?_, ?_, rfl, rfl⟩
        · show _ = _
          rw [HE.out]
          have e1 := hs.out
          have e2 := hs2.out
          subst e1 e2
          rw [ByteArray.mk_append_mk]
        · have e1 := hs.out
          have e2 := hs2.out
          have h2 := Hlen.out
          rw [HE.out] at h2
          subst e1 e2
          simpa [ByteArray.mk_append_mk, ByteArray.size] using h2
    · rw [if_neg hn] at hk
      by_cases hn2 : n < 10
      · obtain ⟨u, rfl⟩ : ∃ u : Nat, n = (u : Int) := ⟨n.natAbs, by omega⟩
        have HE := Lib.hid (show Lib.itoa (u : Int) = [UInt8.ofNat (48 + u)] by rw [Lib.itoa_nonneg, Lib.decDigits_one (by omega)])
        have hu : u < 10 := by omega
        have hE := Lib.hid (show Utf8.encode (48 + (u : Int)) = ⟨[UInt8.ofNat (48 + u)].toArray⟩ by
          rcases (by omega : u = 0 ∨ u = 1 ∨ u = 2 ∨ u = 3 ∨ u = 4 ∨ u = 5 ∨ u = 6 ∨ u = 7 ∨ u = 8 ∨ u = 9) with rfl | rfl | rfl | rfl | rfl | rfl | rfl | rfl | rfl | rfl <;> rfl)
        clear hk h0 h1 HI
        go_enter Tryz.func155, Tryz.ntmps155
        go_wp2_with fail
        go_ret
        refine ⟨_, ?_, ?_, rfl, rfl⟩
        · show _ = _
          rw [HE.out]; exact hE.out
        · rw [hE.out]; simp [ByteArray.size]
      · obtain ⟨u, rfl⟩ : ∃ u : Nat, n = (u : Int) := ⟨n.natAbs, by omega⟩
        obtain ⟨q, hq⟩ : ∃ q, ((u : Int)).tdiv 10 = q := ⟨_, rfl⟩
        obtain ⟨r, hr⟩ : ∃ r, ((u : Int)).tmod 10 = r := ⟨_, rfl⟩
        have hq' : q = ((u / 10 : Nat) : Int) := by rw [← hq]; rfl
        have hr' : r = ((u % 10 : Nat) : Int) := by rw [← hr]; rfl
        have hwq : wrap64 q = q := by unfold wrap64; omega
        have hi := HI.out q (by rw [if_neg (by omega)]; omega) (by omega) (by omega)
        have hj := HI.out r (by rw [if_neg (by omega)]; omega) (by omega) (by omega)
        have HE := Lib.hid (show Lib.itoa (u : Int) = Lib.itoa q ++ Lib.itoa r by
          rw [hq', hr', Lib.itoa_nonneg, Lib.itoa_nonneg, Lib.itoa_nonneg, Lib.decDigits_one (i := u % 10) (by omega)]
          conv => lhs; rw [Lib.decDigits, dif_neg (by omega)])
        have Hi := Lib.hid hi
        have Hj := Lib.hid hj
        generalize ((u : Int)) = n at *
        clear hk h0 h1 HI hq' hr' hi hj
        go_enter Tryz.func155, Tryz.ntmps155
        go_wp2_with (first
          | (go_at_call 155
             refine (Hi.out _).mono ?_
             clear Hi
             rintro e1 w1 ⟨s, hs, hl, rfl, rfl⟩)
          | (go_at_call 155
             refine (Hj.out _).mono ?_
             rintro e1 w1 ⟨s2, hs2, hl2, rfl, rfl⟩
             have hz1 : ¬ (9223372036854775807 < s.size + s2.size) := by omega))
        go_ret
        refine ⟨_, ?_, ?_, rfl, rfl⟩
        · show _ = _
          rw [HE.out]
          have e1 := hs.out
          have e2 := hs2.out
          subst e1 e2
          rw [ByteArray.mk_append_mk]
        · have e1 := hs.out
          have e2 := hs2.out
          have h2 := Hlen.out
          rw [HE.out] at h2
          subst e1 e2
          simpa [ByteArray.mk_append_mk, ByteArray.size] using h2
end Go.Proofs.YtplekbpmfaghbaaGreatDoor

/- Facts kept from world to world (a seat without environments). -/
namespace Go.Proofs.YtplekbpmfaghbaaGreatDoor
open Go.RowKit
theorem SliceIs.keep {α : Type} {E : Enc α} {w w' : World} {A : Option Addr} {n c : Nat} {l : List α} (h : SliceIs E w w.heap.size A n c l) (hb : Below w.heap.size w w') : SliceIs E w' w'.heap.size A n c l :=
  (h.below hb).mono hb.size (fun _ _ => rfl)
theorem below_next {w W W' : World} (h : Below w.heap.size w W) (h' : Below W.heap.size W W') : Below w.heap.size w W' := h.trans (h'.mono h.size)
end Go.Proofs.YtplekbpmfaghbaaGreatDoor
