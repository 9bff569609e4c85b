/- bind.Meet: the environment in which an atom meets a tuple. -/
import Derived.Test.YtggbfpjpkfhaeaaCopy
import Derived.Deep.RegionHeld3
import Derived.Deep.LoopGhost
namespace Go.Proofs.Ytggbfpjpkfhaeaa
open Go.RowKit

def EnvRet (f : ByteArray → Option GV) (w : World) (e : Ending) (w' : World) : Prop :=
  ∃ g l, e = .returned (.map (some g)) ∧ w.heap.size ≤ g ∧ MapIs w' g (gvs l) ∧ (l.map Prod.fst).Nodup ∧ (∀ s, kvGet l s = f s) ∧ Below w.heap.size w w'

theorem EnvIs.blk {w : World} {v : Value} {f : ByteArray → Option GV} (h : EnvIs w v f) : ∀ g, v = .map (some g) → g < w.heap.size := by
  intro g e
  obtain ⟨kvs, h1, _⟩ := h
  rcases h1 with ⟨h1, _⟩ | ⟨g2, h1, h'⟩
  · rw [h1] at e; cases e
  · rw [h1] at e; cases e; exact h'.lt

set_option maxRecDepth 100000 in
set_option maxHeartbeats 400000 in
theorem copy_any (m : Value) (f : ByteArray → Option GV) (w : World) (hm : EnvIs w m f) : Calls Try.prog 39 #[m] w (EnvRet f w) := by
  have hmm := @run_makeMap Try.prog
  have hc := Lib.hid (mapsCopy_any w.heap.size m f w.heap.size (w.alloc (.map #[] 0)) MapIs.made (hm.below (belowA (Below.refl _ _) _)) (Nat.le_refl _) hm.blk)
  clear hm
  go_enter Try.func39, Try.ntmps39
  go_wp2_with fail
  refine hc.out.mono ?_
  rintro e w1 ⟨rfl, ⟨l, h1, h2, h3⟩, hb⟩
  go_wp2_with fail
  go_ret
  exact ⟨_, l, rfl, Nat.le_refl _, h1, h2, h3, (belowA (Below.refl _ _) _).trans hb⟩

/-- an environment with a value more -/
def upd (f : ByteArray → Option GV) (s : ByteArray) (v : GV) : ByteArray → Option GV := fun x => if s = x then some v else f x
/-- one term against one value -/
def meet1 (x : GTold) (v : GV) (f : ByteArray → Option GV) : Option (ByteArray → Option GV) :=
  if x.x.toList = [] then (if x.v = v then some f else none)
  else match f x.x with
    | none => some (upd f x.x v)
    | some u => if u = v then some f else none
def meetL : List (GTold × GV) → (ByteArray → Option GV) → Option (ByteArray → Option GV)
  | [], f => some f
  | p :: l, f => match meet1 p.1 p.2 f with
    | none => none
    | some f' => meetL l f'
theorem meetL_snoc (l : List (GTold × GV)) (p : GTold × GV) (f : ByteArray → Option GV) : meetL (l ++ [p]) f = (meetL l f).bind (meet1 p.1 p.2) := by
  induction l generalizing f with
  | nil => simp only [List.nil_append, meetL, Option.bind_some]; cases meet1 p.1 p.2 f <;> rfl
  | cons q l ih =>
    simp only [List.cons_append, meetL]
    cases meet1 q.1 q.2 f with
    | none => rfl
    | some f' => exact ih f'
theorem meetL_none {l : List (GTold × GV)} {f : ByteArray → Option GV} {k : Nat} (h : meetL (l.take k) f = none) : meetL l f = none := by
  have : ∀ (a b : List (GTold × GV)) (f : ByteArray → Option GV), meetL a f = none → meetL (a ++ b) f = none := by
    intro a
    induction a with
    | nil => intro b f h; cases h
    | cons p a ih =>
      intro b f h
      simp only [List.cons_append, meetL] at h ⊢
      cases hm : meet1 p.1 p.2 f with
      | none => rfl
      | some f' => rw [hm] at h; exact ih b f' h
  rw [← List.take_append_drop k l]
  exact this _ _ _ h
theorem zip_at {α β : Type} {a : List α} {b : List β} {k : Nat} {x : α} {y : β} (h1 : a[k]? = some x) (h2 : b[k]? = some y) : (a.zip b)[k]? = some (x, y) := by
  rw [List.getElem?_zip_eq_some]; exact ⟨h1, h2⟩
theorem meet_step {a : List GTold} {t : List GV} {f g : ByteArray → Option GV} {k : Nat} {x : GTold} {v : GV} (h1 : a[k]? = some x) (h2 : t[k]? = some v) (hg : meetL ((a.zip t).take k) f = some g) :
    meetL ((a.zip t).take (k + 1)) f = meet1 x v g := by
  rw [List.take_add_one, zip_at h1 h2]
  show meetL (_ ++ [(x, v)]) f = _
  rw [meetL_snoc, hg]; rfl

/-- the environment in which they meet -/
def meetF (a : List GTold) (t : List GV) (f : ByteArray → Option GV) : Option (ByteArray → Option GV) := if a.length = t.length then meetL (a.zip t) f else none

def MeetRet (r : Option (ByteArray → Option GV)) (w : World) (e : Ending) (w' : World) : Prop :=
  ∃ v, e = .returned (.tuple #[v, .bool r.isSome]) ∧ (match r with | none => v = .map none | some f => EnvIs w' v f) ∧ Below w.heap.size w w'

set_option maxRecDepth 100000 in
set_option maxHeartbeats 1000000 in
theorem meet_any (rel : ByteArray) (A0 : Option Addr) (n0 c0 : Nat) (a : List GTold) (A : Option Addr) (n c : Nat) (t : List GV) (m : Value) (f : ByteArray → Option GV) (w : World) (ha : SliceIs Enc.told w w.heap.size A0 n0 c0 a) (ht : SliceIs Enc.val w w.heap.size A n c t) (hm : EnvIs w m f) :
    Calls Try.prog 21 #[.agg #[.string rel, .slice A0 n0 c0], .slice A n c, m] w (MeetRet (meetF a t f) w) := by
  have hn := ht.bound
  have hlen := Lib.hid ht.1
  have hlen0 := Lib.hid ha.1
  by_cases heq : n0 = n
  · subst heq
    have hcp := Lib.hid (copy_any m f (w.alloc (.cells #[.string rel, .slice A0 n0 c0] 49)) (hm.below (belowA (Below.refl _ _) _)))
    clear hm
    have HF : Hid (meetF a t f = meetL (a.zip t) f) := by unfold meetF; rw [if_pos (by have := hlen.out; have := hlen0.out; omega)]; rfl
    go_enter Try.func21, Try.ntmps21
    go_wp2_with fail
    refine hcp.out.mono ?_
    rintro e w1 ⟨g, l0, rfl, hgs, hg, hk, hf, hb1⟩
    have hc0 : (w.alloc (.cells #[.string rel, .slice A0 n0 c0] 49)).cell? ⟨w.heap.size, 0, none⟩ = some (.string rel) := by simp
    have hc1 : (w.alloc (.cells #[.string rel, .slice A0 n0 c0] 49)).cell? ⟨w.heap.size, 1, none⟩ = some (.slice A0 n0 c0) := by simp
    have d0 := below_cell hb1 hc0
    have d1 := below_cell hb1 hc1
    have hbw := (belowA (Below.refl _ w) (.cells #[.string rel, .slice A0 n0 c0] 49)).trans (hb1.mono (by simp))
    clear hc0 hc1
    simp only [World.size_alloc] at hgs
    have Hf := Lib.hid hf
    clear hf hb1
    go_wp2_with fail
    clear d0 d1
    go_loopg [9, 10, 11, 12, 24] n0 (fun gk _ _ _ _ i wr => ∃ (k : Nat) (fk : ByteArray → Option GV) (lk : List (ByteArray × GV)), gk + k = n0 ∧ i = .int .i64 k ∧ Hid (meetL ((a.zip t).take k) f = some fk) ∧ MapIs wr g (gvs lk) ∧ Hid ((lk.map Prod.fst).Nodup ∧ ∀ s, kvGet lk s = fk s) ∧ Below w.heap.size w wr)
    case atStart => exact ⟨0, f, l0, by omega, rfl, rfl, hg, ⟨hk, Hf.out⟩, hbw⟩
    case round =>
      obtain ⟨k, fk, lk, hcnt, rfl, hpre, hgm, hlk, hbr⟩ := hrel
      have Hcnt := Lib.hid hcnt
      clear hcnt hg hbw
      by_cases hlt : k < n0
      · obtain ⟨b, o, x, rfl, _, hx, x1, x2, x3, x4, _⟩ := (ha.below hbr).told_at hlt
        obtain ⟨b2, o2, v, rfl, _, hv, v1, v2, v3, _⟩ := (ht.below hbr).val_at hlt
        clear ha ht
        have HS := Lib.hid (meet_step hx.out hv.out hpre.out)
        have hb1 : b < wr.heap.size := World.block_lt_of_cell? wr _ x1
        have hb2 : b2 < wr.heap.size := World.block_lt_of_cell? wr _ v1
        have hgl := hgm.lt
        have i0 : (0 : Int) ≤ (k : Int) := by omega
        have i1 : (k : Int) < (n0 : Int) := by omega
        have hbx := hbr.alloc hbr.size (.cells #[.string x.x, .int .i64 x.v.k, .int .i64 x.v.n, .string x.v.s] 78)
        by_cases hem : x.x.toList = []
        · have he1 : x.x.toList.isEmpty = true := by simp [hem]
          have Hem := Lib.hid hem
          clear hem
          have rn := run_neq_value x.v v
          by_cases hxv : x.v = v
          · rw [(GV.beq_iff x.v v).2 hxv] at rn
            have HM : Hid (meet1 x v fk = some fk) := by show meet1 x v fk = some fk; unfold meet1; rw [if_pos Hem.out, if_pos hxv]
            clear hxv
            go_wp2_with fail
            go_quiet (fail)
            go_wp2_with fail
            have hc := Hcnt.out
            go_roundg (gk - 1)
            case measure => omega
            case rel => exact ⟨k + 1, fk, lk, by omega, by go_num, HS.out.trans HM.out, ((hgm.alloc _).alloc _).drewN _, hlk, (hbx.alloc hbx.size _).trans (below_drewN _ _ _)⟩
          · have hbq : x.v.beq v = false := by rw [GV.beq_dec]; simp [hxv]
            rw [hbq] at rn
            have HM : Hid (meetF a t f = none) := by
              rw [HF.out]
              exact meetL_none (k := k + 1) (HS.out.trans (by unfold meet1; rw [if_pos Hem.out, if_neg hxv]))
            clear hxv hbq
            go_wp2_with fail
            go_quiet (fail)
            go_wp2_with fail
            go_ret2
            exact ⟨.map none, by rw [HM.out]; rfl, by rw [HM.out], (hbx.alloc hbx.size _).trans (below_drewN _ _ _)⟩
        · have he1 : x.x.toList.isEmpty = false := by simpa using hem
          have he2 : (!x.x.toList.isEmpty) = true := by simpa using hem
          have Hem := Lib.hid hem
          clear hem
          have hlkp := fun o1 o2 => ((hgm.alloc o1).alloc o2).lookup_ok (P := Try.prog) (t := 35) (e := 63) Try.underlying35 Try.underlying9 (zero_value _) x.x
          rw [gvs_get, hlk.out.2] at hlkp
          cases hfx : fk x.x with
          | none =>
            have HM : Hid (meet1 x v fk = some (upd fk x.x v)) := by show meet1 x v fk = some (upd fk x.x v); unfold meet1; rw [if_neg Hem.out, hfx]
            rw [hfx] at hlkp
            clear hfx
            simp only [Option.map_none, Option.getD_none, Option.isSome_none] at hlkp
            have hS : ∀ W : World, (∀ k, k < wr.heap.size + 1 → some k ≠ some g → W.heap[k]? = ((wr.alloc (.cells #[.string x.x, .int .i64 x.v.k, .int .i64 x.v.n, .string x.v.s] 78)).alloc (.cells #[.int .i64 zeroV.k, .int .i64 zeroV.n, .string zeroV.s] 63)).drew.heap[k]?) →
                W.cell? ⟨wr.heap.size, 0, none⟩ = some (.string x.x) ∧ W.cell? ⟨b2, o2 + k * 3, none⟩ = some (.int .i64 v.k) ∧ W.cell? ⟨b2, o2 + k * 3 + 1, none⟩ = some (.int .i64 v.n) ∧ W.cell? ⟨b2, o2 + k * 3 + 2, none⟩ = some (.string v.s) := by
              intro W hW
              have hne2 : some b2 ≠ some g := by have := hgs; simp; omega
              exact ⟨(World.cell?_of_block (hW _ (by simp) (by simp; omega))).trans (by simp), (World.cell?_of_block (hW _ (by simp; omega) hne2)).trans (cellA (cellA v1)), (World.cell?_of_block (hW _ (by simp; omega) hne2)).trans (cellA (cellA v2)), (World.cell?_of_block (hW _ (by simp; omega) hne2)).trans (cellA (cellA v3))⟩
            obtain ⟨w3, hup, hm3, hg3, _⟩ := ((hgm.alloc (.cells #[.string x.x, .int .i64 x.v.k, .int .i64 x.v.n, .string x.v.s] 78)).alloc (.cells #[.int .i64 zeroV.k, .int .i64 zeroV.n, .string zeroV.s] 63)).drew.update
              (P := Try.prog) (t := 35) (e := 63) Try.underlying35 Try.underlying9 x.x v.v
            have hS3 := Lib.hid (hS w3 (fun k hk hne => hg3.block k (by simp; omega) hne))
            clear hS
            go_wp2_with fail
            go_region_held3 (fun w' => w'.cell? ⟨wr.heap.size, 0, none⟩ = some (.string x.x) ∧ w'.cell? ⟨b2, o2 + k * 3, none⟩ = some (.int .i64 v.k) ∧ w'.cell? ⟨b2, o2 + k * 3 + 1, none⟩ = some (.int .i64 v.n) ∧ w'.cell? ⟨b2, o2 + k * 3 + 2, none⟩ = some (.string v.s))
              (first | exact hS3.out | go_keep) (fail)
            go_wp2_with fail
            have hc := Hcnt.out
            go_roundg (gk - 1)
            case measure => omega
            case rel =>
              exact ⟨k + 1, upd fk x.x v, kvSet lk x.x v, by omega, by go_num, HS.out.trans HM.out, gvs_set lk x.x v ▸ hm3, ⟨kvSet_keys hlk.out.1, fun s => by rw [kvGet_set, hlk.out.2]; rfl⟩,
                (((hbx.alloc hbx.size _).drew).grown hg3 (by simp; omega) (by rintro _ ⟨rfl⟩; omega))⟩
          | some u =>
            rw [hfx] at hlkp
            simp only [Option.map_some, Option.getD_some, Option.isSome_some] at hlkp
            have rn := run_neq_value u v
            by_cases huv : u = v
            · rw [(GV.beq_iff u v).2 huv] at rn
              have HM : Hid (meet1 x v fk = some fk) := by show meet1 x v fk = some fk; unfold meet1; rw [if_neg Hem.out, hfx]; exact if_pos huv
              clear huv hfx
              go_wp2_with fail
              go_quiet (fail)
              go_wp2_with fail
              have hc := Hcnt.out
              go_roundg (gk - 1)
              case measure => omega
              case rel => exact ⟨k + 1, fk, lk, by omega, by go_num, HS.out.trans HM.out, ((hgm.alloc _).alloc _).drewN _, hlk, (hbx.alloc hbx.size _).trans (below_drewN _ _ _)⟩
            · have hbq : u.beq v = false := by rw [GV.beq_dec]; simp [huv]
              rw [hbq] at rn
              have HM : Hid (meetF a t f = none) := by
                rw [HF.out]
                exact meetL_none (k := k + 1) (HS.out.trans (by unfold meet1; rw [if_neg Hem.out, hfx]; exact if_neg huv))
              clear huv hbq hfx
              go_wp2_with fail
              go_quiet (fail)
              go_wp2_with fail
              go_ret2
              exact ⟨.map none, by rw [HM.out]; rfl, by rw [HM.out], (hbx.alloc hbx.size _).trans (below_drewN _ _ _)⟩
      · have hkn : k = n0 := by have := Hcnt.out; omega
        subst hkn
        have HM : Hid (meetF a t f = some fk) := by
          show meetF a t f = some fk
          rw [HF.out, ← hpre.out, List.take_of_length_le (by have := hlen.out; have := hlen0.out; simp; omega)]
        go_wp2_with fail
        go_ret2
        exact ⟨.map (some g), by rw [HM.out]; rfl, by rw [HM.out]; exact ⟨lk, .inr ⟨g, rfl, hgm⟩, hlk.out.1, hlk.out.2⟩, hbr⟩
  · have hne : ((n0 : Int) != (n : Int)) = true := by simp; omega
    have HR : Hid (meetF a t f = none) := by
      show meetF a t f = none
      unfold meetF; rw [if_neg (by have := hlen.out; have := hlen0.out; omega)]
    go_enter Try.func21, Try.ntmps21
    go_wp2_with fail
    go_ret2
    exact ⟨.map none, by rw [HR.out]; rfl, by rw [HR.out], belowA (Below.refl _ _) _⟩
end Go.Proofs.Ytggbfpjpkfhaeaa
