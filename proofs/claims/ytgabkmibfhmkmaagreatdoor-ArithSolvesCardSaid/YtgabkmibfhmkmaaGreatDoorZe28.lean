/- My own texts ArA, Env, Set, as far as this claim needs them. -/
import Derived.Test.YtgabkmibfhmkmaaGreatDoorZe1
import Derived.Test.YtgabkmibfhmkmaaGreatDoorZe12
import Derived.Test.YtgabkmibfhmkmaaGreatDoorProg
import Derived.Deep.RegionHeld3
set_option linter.unusedVariables false
set_option linter.unusedSimpArgs false
namespace Go.Proofs.YtgabkmibfhmkmaaGreatDoor
open Go.RowKit
/-- an environment with a value more -/
def upd (f : ByteArray → Option GV) (s : ByteArray) (v : GV) : ByteArray → Option GV := fun x => if s = x then some v else f x
def bndI (n : Int) : Bool := decide (-2147483647 ≤ n) && decide (n ≤ 2147483647)
def ofW (n : Int) : GV × Int := if bndI n then (⟨1, n, ⟨#[]⟩⟩, 0) else (gv0, 10)
def termS (f : ByteArray → Option GV) (t : GTold) : GV × Int :=
  if t.x.size = 0 then (if rightB t.v then (t.v, 0) else (gv0, 2))
  else match f t.x with
    | some v => if rightB v then (v, 0) else (gv0, 13)
    | none => (gv0, 13)
def numV (p : GV × Int) : Int × Int := if p.2 ≠ 0 then (0, p.2) else if p.1.k ≠ 1 then (0, 7) else (p.1.n, 0)
def opN (o a b : Int) : Int := if o = 1 then a + b else if o = 2 then a - b else a * b
def evalS (f : ByteArray → Option GV) : Nat → GExp → GV × Int
  | 0, e => termS f e.t
  | k + 1, e => if e.op = 0 then termS f e.t else match e.kids with
    | [a, b] =>
      if (numV (evalS f k a)).2 ≠ 0 then (gv0, (numV (evalS f k a)).2)
      else if (numV (evalS f k b)).2 ≠ 0 then (gv0, (numV (evalS f k b)).2)
      else ofW (opN e.op (numV (evalS f k a)).1 (numV (evalS f k b)).1)
    | _ => (gv0, 2)
def cmpS (op : Int) (a b : GV) : Bool := if op = 1 then decide (a = b) else if op = 2 then decide (a ≠ b) else if op = 3 then decide (a.n < b.n) else if op = 4 then decide (a.n ≤ b.n) else if op = 5 then decide (b.n < a.n) else decide (b.n ≤ a.n)
def holdsS (op : Int) (a b : GV) : Bool × Int :=
  if op < 1 ∨ 6 < op ∨ rightB a = false ∨ rightB b = false then (false, 2)
  else if 3 ≤ op ∧ (a.k ≠ 1 ∨ b.k ≠ 1) then (false, 7) else (cmpS op a b, 0)
def testS (f : ByteArray → Option GV) (op : Int) (l r : GExp) : Bool × Int :=
  if (evalS f 20 l).2 ≠ 0 then (false, (evalS f 20 l).2) else if (evalS f 20 r).2 ≠ 0 then (false, (evalS f 20 r).2) else holdsS op (evalS f 20 l).1 (evalS f 20 r).1
/-- an expression is a variable that is not told -/
def aloneS (f : ByteArray → Option GV) (e : GExp) : Bool := decide (e.op = 0) && (decide (e.t.x.size ≠ 0) && (f e.t.x).isNone)
def setS (f : ByteArray → Option GV) (s : ByteArray) (e : GExp) : Option (ByteArray × GV) × Bool × Int :=
  if (evalS f 20 e).2 ≠ 0 then (none, false, (evalS f 20 e).2) else (some (s, (evalS f 20 e).1), true, 0)
/-- what is set besides (if anything), does it hold, an error -/
def solveS (f : ByteArray → Option GV) (op : Int) (l r : GExp) : Option (ByteArray × GV) × Bool × Int :=
  if op = 1 ∧ aloneS f l = true then setS f l.t.x r
  else if op = 1 ∧ aloneS f r = true then setS f r.t.x l
  else (none, decide ((testS f op l r).2 = 0) && (testS f op l r).1, (testS f op l r).2)
def updO (f : ByteArray → Option GV) (o : Option (ByteArray × GV)) : ByteArray → Option GV := match o with
  | some (s, v) => upd f s v
  | none => f
theorem rightB_num {n : Int} (h : bndI n = true) : rightB ⟨1, n, ⟨#[]⟩⟩ = true := by
  unfold bndI at h
  simp only [Bool.and_eq_true, decide_eq_true_eq] at h
  have e : (⟨#[]⟩ : ByteArray).size = 0 := rfl
  simp [rightB, h.1, h.2, e]
theorem termS_ok {f : ByteArray → Option GV} {t : GTold} (h : (termS f t).2 = 0) : rightB (termS f t).1 = true := by
  unfold termS at h ⊢
  split at h
  · rename_i h0
    rw [if_pos h0]
    split at h
    · rename_i h1; rw [if_pos h1]; exact h1
    · cases h
  · rename_i h0
    rw [if_neg h0]
    split at h
    · rename_i v hv
      split at h
      · rename_i h1; rw [if_pos h1]; exact h1
      · cases h
    · cases h
theorem ofW_ok {n : Int} (h : (ofW n).2 = 0) : rightB (ofW n).1 = true := by
  unfold ofW at h ⊢
  split at h
  · rename_i h1; rw [if_pos h1]; exact rightB_num h1
  · cases h
theorem evalS_leaf {f : ByteArray → Option GV} {k : Nat} {e : GExp} (h : e.op = 0) : evalS f k e = termS f e.t := by
  cases k <;> simp [evalS, h]
theorem evalS_two {f : ByteArray → Option GV} {k : Nat} {e a b : GExp} (h : ¬ e.op = 0) (hk : e.kids = [a, b]) : evalS f (k + 1) e = if (numV (evalS f k a)).2 ≠ 0 then (gv0, (numV (evalS f k a)).2)
      else if (numV (evalS f k b)).2 ≠ 0 then (gv0, (numV (evalS f k b)).2)
      else ofW (opN e.op (numV (evalS f k a)).1 (numV (evalS f k b)).1) := by
  rw [evalS, if_neg h, hk]
theorem evalS_ok {f : ByteArray → Option GV} : ∀ {k : Nat} {e : GExp}, (evalS f k e).2 = 0 → rightB (evalS f k e).1 = true
  | 0, e, h => termS_ok h
  | k + 1, e, h => by
    by_cases h0 : e.op = 0
    · rw [evalS_leaf h0] at h ⊢; exact termS_ok h
    rw [evalS, if_neg h0] at h ⊢
    split at h
    · rename_i a b hk
      split at h
      · rename_i h1; exact absurd h h1
      · rename_i h1
        rw [if_neg h1]
        split at h
        · rename_i h2; exact absurd h h2
        · rename_i h2
          rw [if_neg h2]
          exact ofW_ok h
    · cases h
theorem numV_bnd {f : ByteArray → Option GV} {k : Nat} {e : GExp} : -2147483647 ≤ (numV (evalS f k e)).1 ∧ (numV (evalS f k e)).1 ≤ 2147483647 := by
  unfold numV
  split
  · exact ⟨(by decide : (-2147483647 : Int) ≤ 0), (by decide : (0 : Int) ≤ 2147483647)⟩
  · rename_i h
    split
    · exact ⟨(by decide : (-2147483647 : Int) ≤ 0), (by decide : (0 : Int) ≤ 2147483647)⟩
    · rename_i h1
      have := evalS_ok (Decidable.not_not.1 h)
      rw [rightB, if_pos (Decidable.not_not.1 h1)] at this
      simp only [Bool.and_eq_true, decide_eq_true_eq] at this
      exact ⟨this.1.2, this.2⟩
theorem mul_bnd {a b m : Int} (ha : -m ≤ a) (ha' : a ≤ m) (hb : -m ≤ b) (hb' : b ≤ m) : -(m * m) ≤ a * b ∧ a * b ≤ m * m := by
  have h1 := Int.mul_nonneg (show 0 ≤ m - a by omega) (show 0 ≤ m - b by omega)
  have h2 := Int.mul_nonneg (show 0 ≤ m + a by omega) (show 0 ≤ m + b by omega)
  have h3 := Int.mul_nonneg (show 0 ≤ m - a by omega) (show 0 ≤ m + b by omega)
  have h4 := Int.mul_nonneg (show 0 ≤ m + a by omega) (show 0 ≤ m - b by omega)
  simp only [Int.sub_mul, Int.mul_sub, Int.add_mul, Int.mul_add] at h1 h2 h3 h4
  have e1 := Int.mul_comm m a
  have e2 := Int.mul_comm m b
  constructor <;> omega
theorem opN_bnd {o a b : Int} (ha : -2147483647 ≤ a ∧ a ≤ 2147483647) (hb : -2147483647 ≤ b ∧ b ≤ 2147483647) : -9223372036854775808 ≤ opN o a b ∧ opN o a b ≤ 9223372036854775807 := by
  have := mul_bnd (m := 2147483647) ha.1 ha.2 hb.1 hb.2
  unfold opN
  split
  · omega
  · split
    · omega
    · omega
theorem aloneS_val {f : ByteArray → Option GV} {e : GExp} (h : aloneS f e = true) : e.op = 0 ∧ e.t.x.size ≠ 0 ∧ f e.t.x = none := by
  simpa [aloneS] using h
end Go.Proofs.YtgabkmibfhmkmaaGreatDoor

namespace Go.Proofs.YtgabkmibfhmkmaaGreatDoor
open Go.RowKit
def zeroV : GV := ⟨0, 0, ⟨#[]⟩⟩
def getT (l : List GTold) (s : ByteArray) : Option GV := (l.find? (fun t => t.x == s)).map (·.v)
theorem getT_take {l : List GTold} {s : ByteArray} {k : Nat} {t : GTold} (hx : l[k]? = some t) (h : getT (l.take k) s = none) : getT (l.take (k + 1)) s = if t.x = s then some t.v else none := by
  rw [List.take_add_one, hx]
  simp only [getT, Option.map_eq_none_iff] at h
  simp only [getT, Option.toList_some, List.find?_append, h, List.find?_cons, List.find?_nil, Option.none_or]
  by_cases e : t.x = s
  · simp [e]
  · simp only [beq_eq_false_iff_ne.2 e, if_neg e, Option.map_none]
theorem getT_hit {l : List GTold} {s : ByteArray} {k : Nat} {t : GTold} (hx : l[k]? = some t) (h : getT (l.take k) s = none) (e : t.x = s) : getT l s = some t.v := by
  have h1 := getT_take hx h
  rw [if_pos e] at h1
  have h2 : l = l.take (k + 1) ++ l.drop (k + 1) := (List.take_append_drop _ _).symm
  rw [h2]
  simp only [getT, Option.map_eq_some_iff] at h1 ⊢
  obtain ⟨a, ha, hb⟩ := h1
  exact ⟨a, by rw [List.find?_append, ha]; rfl, hb⟩
def GetPost (l : List GTold) (s : ByteArray) (w : World) (e : Ending) (w' : World) : Prop :=
  e = .returned (.tuple #[((getT l s).getD zeroV).v, .bool (getT l s).isSome]) ∧ Below w.heap.size w w'
set_option maxRecDepth 100000 in
set_option maxHeartbeats 400000 in
theorem get_any (A : Option Addr) (n c : Nat) (l : List GTold) (s : ByteArray) (w : World) (hl : SliceIs Enc.told w w.heap.size A n c l) :
    Calls Tryz.prog 185 #[.slice A n c, .string s] w (GetPost l s w) := by
  have hn := hl.bound
  go_enter Tryz.func185, Tryz.ntmps185
  go_wp2
  go_loop [6] (fun i => ∃ k : Nat, k ≤ n ∧ i = .int .i64 k ∧ Hid (getT (l.take k) s = none)) (fun i => n - (intOf i).toNat)
  case atStart => exact ⟨0, by omega, rfl, rfl⟩
  case round =>
    obtain ⟨k, hk, rfl, hpre⟩ := hrel
    by_cases hlt : k < n
    · obtain ⟨b, o, t, rfl, hb, hx, hc, hc1, hc2, hc3, hs, _⟩ := hl.told_at hlt
      clear hl
      by_cases h1 : t.x = s
      · have h1' : (t.x.toList == s.toList) = true := by simp [h1]
        have H1 := Lib.hid h1
        clear h1
        go_wp2
        exact bodyPost_ret (v := .tuple #[t.v.v, .bool true]) (by simp [results, Tryz.results185, go_sem]) rfl ⟨by rw [getT_hit hx.out hpre.out H1.out]; rfl, (Below.refl _ _).alloc (Nat.le_refl _) _⟩
      · have h1' : (t.x.toList == s.toList) = false := by simp [toList_inj, h1]
        have H1 := Lib.hid h1
        clear h1
        go_wp2
        go_round
        case rel => exact ⟨k + 1, by omega, by go_num, by
          have := getT_take hx.out hpre.out
          rw [if_neg H1.out] at this
          exact this⟩
        case measure => simp [intOf]; omega
    · have hz : Hid (getT l s = none) := by
        have h1 := hl.1
        have : l.take k = l := List.take_of_length_le (by omega)
        rw [this] at hpre; exact hpre
      clear hpre
      go_wp2
      exact bodyPost_ret (v := .tuple #[zeroV.v, .bool false]) (by simp [results, Tryz.results185, go_sem, zeroV]) rfl ⟨by rw [hz.out]; rfl, (Below.refl _ _).alloc (Nat.le_refl _) _⟩
theorem zero_value (w : World) : (zeroValue 28).run Tryz.prog w = .ok zeroV.v w := by kernel_rfl
def gvs (l : List (ByteArray × GV)) : List (ByteArray × Value) := l.map fun p => (p.1, p.2.v)
theorem gvs_get (l : List (ByteArray × GV)) (s : ByteArray) : kvGet (gvs l) s = (kvGet l s).map GV.v := by
  induction l with
  | nil => rfl
  | cons p l ih =>
    show kvGet ((p.1, p.2.v) :: gvs l) s = _
    rw [kvGet_cons, kvGet_cons, ih]
    split <;> rfl
theorem gvs_set (l : List (ByteArray × GV)) (s : ByteArray) (v : GV) : kvSet (gvs l) s v.v = gvs (kvSet l s v) := by
  induction l with
  | nil => rfl
  | cons p l ih =>
    show kvSet ((p.1, p.2.v) :: gvs l) s v.v = _
    unfold kvSet
    split
    · rfl
    · rw [ih]; rfl
/-- the environment of a list: the first one of a name counts -/
def envAdd (e : List (ByteArray × GV)) (t : GTold) : List (ByteArray × GV) := if (kvGet e t.x).isSome then e else kvSet e t.x t.v
def envOf (l : List GTold) : List (ByteArray × GV) := l.foldl envAdd []
theorem envOf_snoc (l : List GTold) (t : GTold) : envOf (l ++ [t]) = envAdd (envOf l) t := by simp [envOf, List.foldl_append]
theorem envOf_take {l : List GTold} {k : Nat} {t : GTold} (hx : l[k]? = some t) : envOf (l.take (k + 1)) = envAdd (envOf (l.take k)) t := by
  rw [List.take_add_one, hx]; exact envOf_snoc _ _
theorem env_fold_get (l : List GTold) (e : List (ByteArray × GV)) (s : ByteArray) : kvGet (l.foldl envAdd e) s = (kvGet e s).or (getT l s) := by
  induction l generalizing e with
  | nil => simp [getT]
  | cons t l ih =>
    rw [List.foldl_cons, ih]
    unfold envAdd
    by_cases h : (kvGet e t.x).isSome = true
    · rw [if_pos h]
      by_cases h2 : t.x = s
      · subst h2
        obtain ⟨v, hv⟩ := Option.isSome_iff_exists.1 h
        simp [hv]
      · simp only [getT, List.find?_cons, beq_eq_false_iff_ne.2 h2]
    · rw [if_neg h, kvGet_set]
      by_cases h2 : t.x = s
      · subst h2
        have : kvGet e t.x = none := by simpa using h
        simp [this, getT]
      · simp only [if_neg h2, getT, List.find?_cons, beq_eq_false_iff_ne.2 h2]
theorem envOf_get (l : List GTold) (s : ByteArray) : kvGet (envOf l) s = getT l s := by
  unfold envOf
  rw [env_fold_get]
  simp [kvGet]
def EnvPost (kvs : List (ByteArray × GV)) (w : World) (e : Ending) (w' : World) : Prop :=
  ∃ g, e = .returned (.map (some g)) ∧ MapIs w' g (gvs kvs) ∧ w.heap.size ≤ g ∧ Below w.heap.size w w'
set_option maxRecDepth 100000 in
set_option maxHeartbeats 400000 in
theorem env_any (A : Option Addr) (n c : Nat) (l : List GTold) (w : World) (hl : SliceIs Enc.told w w.heap.size A n c l) :
    Calls Tryz.prog 19 #[.slice A n c] w (EnvPost (envOf l) w) := by
  have hn := hl.bound
  have hmm := @run_makeMap Tryz.prog
  go_enter Tryz.func19, Tryz.ntmps19
  go_wp2
  clear hmm
  generalize hg : w.heap.size = g
  have Hg := Lib.hid hg
  clear hg
  go_loopw [5, 6, 7, 11] (fun _ _ _ i wr => ∃ k : Nat, k ≤ n ∧ i = .int .i64 k ∧ MapIs wr g (gvs (envOf (l.take k))) ∧ Below g w wr) (fun _ _ _ i _ => n - (intOf i).toNat)
  case atStart => exact ⟨0, by omega, rfl, Hg.out ▸ MapIs.made, Hg.out ▸ (Below.refl _ _).alloc (Nat.le_refl _) _⟩
  case round =>
    obtain ⟨k, hk, rfl, hm, hbw⟩ := hrel
    by_cases hlt : k < n
    · obtain ⟨b, o, t, rfl, hb, hx, hc, hc1, hc2, hc3, hs, _⟩ := (hl.below (Hg.out ▸ hbw)).told_at hlt
      clear hl
      have HS := Lib.hid (envOf_take hx.out)
      have hgl := hm.lt
      have hlk := fun o => (hm.alloc o).lookup_ok (P := Tryz.prog) (t := 54) (e := 28) Tryz.underlying54 Tryz.underlying9 (zero_value _) t.x
      rw [gvs_get] at hlk
      cases hgt : kvGet (envOf (l.take k)) t.x with
      | some v =>
        have Hgt := Lib.hid hgt
        rw [hgt] at hlk
        clear hgt
        simp only [Option.map_some, Option.getD_some, Option.isSome_some] at hlk
        go_wp2
        go_roundw
        case rel => exact ⟨k + 1, by omega, by go_num, by rw [HS.out, envAdd, if_pos (by rw [Hgt.out]; rfl)]; exact (hm.alloc _).alloc _, (hbw.alloc (Nat.le_of_lt hgl) _).alloc (by simp; omega) _⟩
        case measure => simp [intOf]; omega
      | none =>
        have Hgt := Lib.hid hgt
        rw [hgt] at hlk
        clear hgt
        simp only [Option.map_none, Option.getD_none, Option.isSome_none] at hlk
        obtain ⟨w2, hrun, hm2, hgr, _⟩ := ((hm.alloc (.cells #[.string t.x, .int .i64 t.v.k, .int .i64 t.v.n, .string t.v.s] 175)).alloc (.cells #[.int .i64 zeroV.k, .int .i64 zeroV.n, .string zeroV.s] 28)).update
          (P := Tryz.prog) (t := 54) (e := 28) Tryz.underlying54 Tryz.underlying9 t.x t.v.v
        go_wp2
        go_roundw
        case rel => exact ⟨k + 1, by omega, by go_num, by rw [HS.out, envAdd, if_neg (by rw [Hgt.out]; simp), ← gvs_set]; exact hm2, ((hbw.alloc (Nat.le_of_lt hgl) _).alloc (by simp; omega) _).grown hgr (by simp; omega) (by rintro _ ⟨rfl⟩; exact Nat.le_refl _)⟩
        case measure => simp [intOf]; omega
    · have hlen := hl.1
      have ht : l.take k = l := List.take_of_length_le (by omega)
      rw [ht] at hm
      clear ht hlen
      go_wp2
      go_ret
      exact ⟨g, rfl, hm, Nat.le_of_eq Hg.out, Hg.out ▸ hbw⟩
end Go.Proofs.YtgabkmibfhmkmaaGreatDoor

namespace Go.Proofs.YtgabkmibfhmkmaaGreatDoor
open Go.RowKit
theorem told_info : (Tryz.prog.info? 175).map (fun i => (i.zero, i.size, i.bytes)) = some (some (.agg #[.string ⟨#[]⟩, .int .i64 0, .int .i64 0, .string ⟨#[]⟩]), 4, 48) := by kernel_rfl
def SetPost (l : List GTold) (m : Nat) (w : World) (e : Ending) (w' : World) : Prop :=
  ∃ A c, e = .returned (.slice A m c) ∧ SliceIs Enc.told w' w'.heap.size A m c l ∧ Below w.heap.size w w'
theorem told_one (x : GTold) : ∀ u ∈ x.cells, u.oneCell' = true := by intro u hu; simp [GTold.cells] at hu; rcases hu with rfl | rfl | rfl | rfl <;> rfl
/-- the first append: of the list onto a new row -/
theorem set_app1 {w W : World} {A : Option Addr} {n c g : Nat} {l : List GTold} (hl : SliceIs Enc.told w w.heap.size A n c l) (hn : n ≤ 1000000) (hb : Below w.heap.size w W) (hg : w.heap.size ≤ g) (h : W.heap[g]? = some (.cells #[] 175 (0, 0))) :
    ∃ v' w', (Builtin.append_ #[36, 36] 36 #[.slice (some ⟨g, 0, none⟩) 0 0, .slice A n c]).run Tryz.prog W = .ok v' w' ∧
      (w'.ownsRow w.heap.size 175 4 v' n (l.flatMap GTold.cells) ∧ W.grownBy w' (some g) ∧ Below w.heap.size w w' ∧ w.heap.size ≤ w'.heap.size) := by
  obtain ⟨v', w', h1, h2, h3, h4⟩ := run_append_slice (P := Tryz.prog) (E := Enc.told) (B := w.heap.size) (ty := 36) GTold.cells (fun _ => rfl) (fun h => h.1) told_one W (base := w.heap.size) Tryz.underlying36 told_info rfl (by decide)
    (own_empty hg h) (hl.below hb) (by simp [maxLen]; omega) (by omega) hb.size
  exact ⟨v', w', h1, by simpa [Enc.told] using h2, h3, hb.trans h4, Nat.le_trans hb.size h4.size⟩
/-- the second one: of one element -/
theorem set_app2 {w W : World} {n g : Nat} {xs : List Value} {v1 : Value} (s : ByteArray) (v : GV) (hn : n ≤ 1000000) (hb : Below w.heap.size w W) (hz : w.heap.size ≤ W.heap.size) (hown : W.ownsRow w.heap.size 175 4 v1 n xs)
    (h : W.heap[g]? = some (.cells #[.string s, .int .i64 v.k, .int .i64 v.n, .string v.s] 175 (0, 0))) :
    ∃ v' w', (Builtin.append_ #[36, 36] 36 #[v1, .slice (some ⟨g, 0, none⟩) 1 1]).run Tryz.prog W = .ok v' w' ∧
      (w'.ownsRow w.heap.size 175 4 v' (n + 1) (xs ++ GTold.cells ⟨s, v⟩) ∧ Below w.heap.size w w') := by
  obtain ⟨v', w', h1, h2, h3, h4⟩ := run_push_at (P := Tryz.prog) (ty := 36) W (base := w.heap.size) Tryz.underlying36 told_info rfl (by decide) hown g (GTold.cells ⟨s, v⟩) rfl h (told_one ⟨s, v⟩)
    (by simp [maxLen]; omega) (by omega) hz
  exact ⟨v', w', h1, h2, hb.trans h4⟩
theorem heapNew2 {w : World} {o : Obj} {g : Nat} (h : w.heap.size = g) : (w.alloc o).drew.heap[g]? = some o := heapNew h
theorem heapOld2 {w : World} {o x : Obj} {g : Nat} (h : w.heap[g]? = some x) : (w.alloc o).drew.heap[g]? = some x := heapOld h
theorem set_end {w w2 : World} {base n : Nat} {v2 : Value} {xs : List Value} {l : List GTold} {s : ByteArray} {v : GV} (hown : w2.ownsRow base 175 4 v2 (n + 1) (xs ++ GTold.cells ⟨s, v⟩)) (hx : l.flatMap GTold.cells = xs) (hl : l.length = n) (hn : n ≤ 1000000)
    (hs : s.size ≤ reachN) (hv : v.ok) (hall : ∀ t ∈ l, t.x.size ≤ reachN ∧ t.v.ok) (hb : Below w.heap.size w w2) : SetPost (l ++ [⟨s, v⟩]) (n + 1) w (.returned v2) w2 := by
  obtain ⟨A2, c2, rfl⟩ := own_form hown
  have hlen : (l ++ [(⟨s, v⟩ : GTold)]).length = n + 1 := by simp [hl]
  refine ⟨A2, c2, rfl, ?_, hb⟩
  refine SliceIs.of_flat (E := Enc.told) GTold.cells (fun _ => rfl) (base := base) (e := 175) (by rw [List.flatMap_append, hx]; simpa [Enc.told] using hown) hlen (by simp [reachN]; omega) (fun t ht => ?_)
  refine ⟨rfl, ?_⟩
  rcases List.mem_append.1 ht with ht | ht
  · exact hall t ht
  · simp at ht; subst ht; exact ⟨hs, hv⟩
set_option maxRecDepth 100000 in
set_option maxHeartbeats 400000 in
theorem set_any (A : Option Addr) (n c : Nat) (l : List GTold) (s : ByteArray) (v : GV) (w : World) (hl : SliceIs Enc.told w w.heap.size A n c l) (hn : n ≤ 1000000) (hs : s.size ≤ reachN) (hv : v.ok) (hall : ∀ t ∈ l, t.x.size ≤ reachN ∧ t.v.ok) :
    Calls Tryz.prog 105 #[.slice A n c, .string s, v.v] w (SetPost (l ++ [⟨s, v⟩]) (n + 1) w) := by
  have Hs := Lib.hid hs
  have Hv := Lib.hid hv
  have Hall := Lib.hid hall
  have Hlen := Lib.hid hl.1
  clear hs hv hall
  go_enter Tryz.func105, Tryz.ntmps105
  go_wp2_with fail
  have hbw : Below w.heap.size w (w.alloc (.cells #[.int .i64 v.k, .int .i64 v.n, .string v.s] 28)) := belowA (Below.refl _ _) _
  have c0 : (w.alloc (.cells #[.int .i64 v.k, .int .i64 v.n, .string v.s] 28)).cell? ⟨w.heap.size, 0, none⟩ = some (.int .i64 v.k) := by simp
  have c1 : (w.alloc (.cells #[.int .i64 v.k, .int .i64 v.n, .string v.s] 28)).cell? ⟨w.heap.size, 1, none⟩ = some (.int .i64 v.n) := by simp
  have c2 : (w.alloc (.cells #[.int .i64 v.k, .int .i64 v.n, .string v.s] 28)).cell? ⟨w.heap.size, 2, none⟩ = some (.string v.s) := by simp
  generalize w.alloc (.cells #[.int .i64 v.k, .int .i64 v.n, .string v.s] 28) = wb at hbw c0 c1 c2 ⊢
  generalize w.heap.size = g0 at c0 c1 c2 ⊢
  have A1 := Lib.hid (fun (W : World) (g : Nat) => set_app1 (W := W) (g := g) ((hl.below hbw).mono hbw.size (fun _ _ => rfl)) hn)
  have A2 := Lib.hid (fun (W : World) (g : Nat) (v1 : Value) => set_app2 (w := wb) (W := W) (g := g) (v1 := v1) (xs := l.flatMap GTold.cells) s v hn)
  clear hl
  generalize hgen : l.flatMap GTold.cells = xs at A1 A2
  have HG := Lib.hid hgen
  clear hgen
  have hk : ∀ W : World, Below wb.heap.size wb W → W.cell? ⟨g0, 0, none⟩ = some (.int .i64 v.k) ∧ W.cell? ⟨g0, 1, none⟩ = some (.int .i64 v.n) ∧ W.cell? ⟨g0, 2, none⟩ = some (.string v.s) := fun _ h => ⟨below_cell h c0, below_cell h c1, below_cell h c2⟩
  have Hk := Lib.hid hk
  clear hk
  go_region_held3 (fun w' => w'.cell? ⟨g0, 0, none⟩ = some (.int .i64 v.k) ∧ w'.cell? ⟨g0, 1, none⟩ = some (.int .i64 v.n) ∧ w'.cell? ⟨g0, 2, none⟩ = some (.string v.s))
    (first
      | (refine Hk.out _ ?_; first | assumption | (repeat (first | exact Below.refl _ _ | assumption | refine Below.drew ?_ | refine belowA ?_ _)))
      | go_keep)
    ((first
      | (refine step_append_ex (by rfl) (.tmp 7) (.tmp 8) _ (by rfl) _ _ (by rfl) (by rfl) _ (A1.out _ _ ?a1 ?a2 ?a3) ?_
         case a1 => repeat (first | exact Below.refl _ _ | refine Below.drew ?_ | refine belowA ?_ _)
         case a2 => simp
         case a3 => first | (refine heapNew2 ?_; simp; done) | (refine heapOld2 (heapNew ?_); simp; done)
         rintro v1 w1 ⟨hown1, hg1, hb1, hz1⟩)
      | (refine step_append_ex (by rfl) (.tmp 9) (.tmp 13) _ (by rfl) _ _ (by rfl) (by rfl) _ (A2.out _ _ _ ?a1 ?a2 ?a3 ?a4) ?_
         case a1 => first | exact hb1 | exact belowA hb1 _
         case a2 => first | exact hz1 | (simp; omega)
         case a3 => first | exact hown1 | exact hown1.alloc _
         case a4 =>
           first
             | exact heapNew rfl
             | (refine (hg1.block _ ?_ ?_).trans ?_
                · (simp <;> omega)
                · (simp <;> omega)
                · first | (refine heapNew2 ?_; simp; done) | (refine heapOld2 (heapNew ?_); simp; done))
         rintro v2 w2 ⟨hown2, hb2⟩)))
  all_goals
    go_wp2
    go_ret
    exact set_end hown2 HG.out Hlen.out hn Hs.out Hv.out Hall.out (hbw.trans (hb2.mono hbw.size))
end Go.Proofs.YtgabkmibfhmkmaaGreatDoor
