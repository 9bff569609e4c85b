/- Environments: the list's and the map's. -/
import Derived.Test.YtplekbpmfaghbaaGreatDoorProg
import Derived.Test.YtplekbpmfaghbaaGreatDoorMa1
namespace Go.Proofs.YtplekbpmfaghbaaGreatDoor
open Go.RowKit

def zeroV : GV := ⟨0, 0, ⟨#[]⟩⟩
def getT (l : List GTold) (s : ByteArray) : Option GV := (l.find? (fun t => t.x == s)).map (·.v)
theorem getT_take {l : List GTold} {s : ByteArray} {k : Nat} {t : GTold} (hx : l[k]? = some t) (h : getT (l.take k) s = none) : getT (l.take (k + 1)) s = if t.x = s then some t.v else none := by
  rw [List.take_add_one, hx]
  simp only [getT, Option.map_eq_none_iff] at h
  simp only [getT, Option.toList_some, List.find?_append, h, List.find?_cons, List.find?_nil, Option.none_or]
  by_cases e : t.x = s
  · simp [e]
  · simp only [beq_eq_false_iff_ne.2 e, if_neg e, Option.map_none]
theorem getT_hit {l : List GTold} {s : ByteArray} {k : Nat} {t : GTold} (hx : l[k]? = some t) (h : getT (l.take k) s = none) (e : t.x = s) : getT l s = some t.v := by
  have h1 := getT_take hx h
  rw [if_pos e] at h1
  have h2 : l = l.take (k + 1) ++ l.drop (k + 1) := (List.take_append_drop _ _).symm
  rw [h2]
  simp only [getT, Option.map_eq_some_iff] at h1 ⊢
  obtain ⟨a, ha, hb⟩ := h1
  exact ⟨a, by rw [List.find?_append, ha]; rfl, hb⟩

def GetPost (l : List GTold) (s : ByteArray) (w : World) (e : Ending) (w' : World) : Prop :=
  e = .returned (.tuple #[((getT l s).getD zeroV).v, .bool (getT l s).isSome]) ∧ Below w.heap.size w w'

set_option maxRecDepth 100000 in
set_option maxHeartbeats 400000 in
theorem get_any (A : Option Addr) (n c : Nat) (l : List GTold) (s : ByteArray) (w : World) (hl : SliceIs Enc.told w w.heap.size A n c l) :
    Calls Tryz.prog 95 #[.slice A n c, .string s] w (GetPost l s w) := by
  have hn := hl.bound
  go_enter Tryz.func95, Tryz.ntmps95
  go_wp2
  go_loop [6] (fun i => ∃ k : Nat, k ≤ n ∧ i = .int .i64 k ∧ Hid (getT (l.take k) s = none)) (fun i => n - (intOf i).toNat)
  case atStart => exact ⟨0, by omega, rfl, rfl⟩
  case round =>
    obtain ⟨k, hk, rfl, hpre⟩ := hrel
    by_cases hlt : k < n
    · obtain ⟨b, o, t, rfl, hb, hx, hc, hc1, hc2, hc3, hs, _⟩ := hl.told_at hlt
      clear hl
      by_cases h1 : t.x = s
      · have h1' : (t.x.toList == s.toList) = true := by simp [h1]
        have H1 := Lib.hid h1
        clear h1
        go_wp2
        exact bodyPost_ret (v := .tuple #[t.v.v, .bool true]) (by simp [results, Tryz.results95, go_sem]) rfl ⟨by rw [getT_hit hx.out hpre.out H1.out]; rfl, (Below.refl _ _).alloc (Nat.le_refl _) _⟩
      · have h1' : (t.x.toList == s.toList) = false := by simp [toList_inj, h1]
        have H1 := Lib.hid h1
        clear h1
        go_wp2
        go_round
        case rel => exact ⟨k + 1, by omega, by go_num, by
          have := getT_take hx.out hpre.out
          rw [if_neg H1.out] at this
          exact this⟩
        case measure => simp [intOf]; omega
    · have hz : Hid (getT l s = none) := by
        have h1 := hl.1
        have : l.take k = l := List.take_of_length_le (by omega)
        rw [this] at hpre; exact hpre
      clear hpre
      go_wp2
      exact bodyPost_ret (v := .tuple #[zeroV.v, .bool false]) (by simp [results, Tryz.results95, go_sem, zeroV]) rfl ⟨by rw [hz.out]; rfl, (Below.refl _ _).alloc (Nat.le_refl _) _⟩

theorem zero_value (w : World) : (zeroValue 31).run Tryz.prog w = .ok zeroV.v w := by kernel_rfl

def gvs (l : List (ByteArray × GV)) : List (ByteArray × Value) := l.map fun p => (p.1, p.2.v)
theorem gvs_get (l : List (ByteArray × GV)) (s : ByteArray) : kvGet (gvs l) s = (kvGet l s).map GV.v := by
  induction l with
  | nil => rfl
  | cons p l ih =>
    show kvGet ((p.1, p.2.v) :: gvs l) s = _
    rw [kvGet_cons, kvGet_cons, ih]
    split <;> rfl
theorem gvs_set (l : List (ByteArray × GV)) (s : ByteArray) (v : GV) : kvSet (gvs l) s v.v = gvs (kvSet l s v) := by
  induction l with
  | nil => rfl
  | cons p l ih =>
    show kvSet ((p.1, p.2.v) :: gvs l) s v.v = _
    unfold kvSet
    split
    · rfl
    · rw [ih]; rfl
/-- the environment of a list: the first one of a name counts -/
def envAdd (e : List (ByteArray × GV)) (t : GTold) : List (ByteArray × GV) := if (kvGet e t.x).isSome then e else kvSet e t.x t.v
def envOf (l : List GTold) : List (ByteArray × GV) := l.foldl envAdd []
theorem envOf_snoc (l : List GTold) (t : GTold) : envOf (l ++ [t]) = envAdd (envOf l) t := by simp [envOf, List.foldl_append]
theorem envOf_take {l : List GTold} {k : Nat} {t : GTold} (hx : l[k]? = some t) : envOf (l.take (k + 1)) = envAdd (envOf (l.take k)) t := by
  rw [List.take_add_one, hx]; exact envOf_snoc _ _
theorem env_fold_get (l : List GTold) (e : List (ByteArray × GV)) (s : ByteArray) : kvGet (l.foldl envAdd e) s = (kvGet e s).or (getT l s) := by
  induction l generalizing e with
  | nil => simp [getT]
  | cons t l ih =>
    rw [List.foldl_cons, ih]
    unfold envAdd
    by_cases h : (kvGet e t.x).isSome = true
    · rw [if_pos h]
      by_cases h2 : t.x = s
      · subst h2
        obtain ⟨v, hv⟩ := Option.isSome_iff_exists.1 h
        simp [hv]
      · simp only [getT, List.find?_cons, beq_eq_false_iff_ne.2 h2]
    · rw [if_neg h, kvGet_set]
      by_cases h2 : t.x = s
      · subst h2
        have : kvGet e t.x = none := by simpa using h
        simp [this, getT]
      · simp only [if_neg h2, getT, List.find?_cons, beq_eq_false_iff_ne.2 h2]
theorem envOf_get (l : List GTold) (s : ByteArray) : kvGet (envOf l) s = getT l s := by
  unfold envOf
  rw [env_fold_get]
  simp [kvGet]

def EnvPost (kvs : List (ByteArray × GV)) (w : World) (e : Ending) (w' : World) : Prop :=
  ∃ g, e = .returned (.map (some g)) ∧ MapIs w' g (gvs kvs) ∧ w.heap.size ≤ g ∧ Below w.heap.size w w'

set_option maxRecDepth 100000 in
set_option maxHeartbeats 400000 in
theorem env_any (A : Option Addr) (n c : Nat) (l : List GTold) (w : World) (hl : SliceIs Enc.told w w.heap.size A n c l) :
    Calls Tryz.prog 40 #[.slice A n c] w (EnvPost (envOf l) w) := by
  have hn := hl.bound
  have hmm := @run_makeMap Tryz.prog
  go_enter Tryz.func40, Tryz.ntmps40
  go_wp2
  clear hmm
  generalize hg : w.heap.size = g
  have Hg := Lib.hid hg
  clear hg
  go_loopw [5, 6, 7, 11] (fun _ _ _ i wr => ∃ k : Nat, k ≤ n ∧ i = .int .i64 k ∧ MapIs wr g (gvs (envOf (l.take k))) ∧ Below g w wr) (fun _ _ _ i _ => n - (intOf i).toNat)
  case atStart => exact ⟨0, by omega, rfl, Hg.out ▸ MapIs.made, Hg.out ▸ (Below.refl _ _).alloc (Nat.le_refl _) _⟩
  case round =>
    obtain ⟨k, hk, rfl, hm, hbw⟩ := hrel
    by_cases hlt : k < n
    · obtain ⟨b, o, t, rfl, hb, hx, hc, hc1, hc2, hc3, hs, _⟩ := (hl.below (Hg.out ▸ hbw)).told_at hlt
      clear hl
      have HS := Lib.hid (envOf_take hx.out)
      have hgl := hm.lt
      have hlk := fun o => (hm.alloc o).lookup_ok (P := Tryz.prog) (t := 97) (e := 31) Tryz.underlying97 Tryz.underlying9 (zero_value _) t.x
      rw [gvs_get] at hlk
      cases hgt : kvGet (envOf (l.take k)) t.x with
      | some v =>
        have Hgt := Lib.hid hgt
        rw [hgt] at hlk
        clear hgt
        simp only [Option.map_some, Option.getD_some, Option.isSome_some] at hlk
        go_wp2
        go_roundw
        case rel => exact ⟨k + 1, by omega, by go_num, by rw [HS.out, envAdd, if_pos (by rw [Hgt.out]; rfl)]; exact (hm.alloc _).alloc _, (hbw.alloc (Nat.le_of_lt hgl) _).alloc (by simp; omega) _⟩
        case measure => simp [intOf]; omega
      | none =>
        have Hgt := Lib.hid hgt
        rw [hgt] at hlk
        clear hgt
        simp only [Option.map_none, Option.getD_none, Option.isSome_none] at hlk
        obtain ⟨w2, hrun, hm2, hgr, _⟩ := ((hm.alloc (.cells #[.string t.x, .int .i64 t.v.k, .int .i64 t.v.n, .string t.v.s] 119)).alloc (.cells #[.int .i64 zeroV.k, .int .i64 zeroV.n, .string zeroV.s] 31)).update
          (P := Tryz.prog) (t := 97) (e := 31) Tryz.underlying97 Tryz.underlying9 t.x t.v.v
        go_wp2
        go_roundw
        case rel => exact ⟨k + 1, by omega, by go_num, by rw [HS.out, envAdd, if_neg (by rw [Hgt.out]; simp), ← gvs_set]; exact hm2, ((hbw.alloc (Nat.le_of_lt hgl) _).alloc (by simp; omega) _).grown hgr (by simp; omega) (by rintro _ ⟨rfl⟩; exact Nat.le_refl _)⟩
        case measure => simp [intOf]; omega
    · have hlen := hl.1
      have ht : l.take k = l := List.take_of_length_le (by omega)
      rw [ht] at hm
      clear ht hlen
      go_wp2
      go_ret
      exact ⟨g, rfl, hm, Nat.le_of_eq Hg.out, Hg.out ▸ hbw⟩

end Go.Proofs.YtplekbpmfaghbaaGreatDoor
