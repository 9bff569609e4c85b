/- the document's Meet. -/
import Derived.Test.YtggbfpjpkfhaeaaMeet
import Derived.Test.YtggbfpjpkfhaeaaBack
import Derived.Test.YtggbfpjpkfhaeaaTerm
import Derived.Deep.RegionHeld3
namespace Go.Proofs.Ytggbfpjpkfhaeaa
open Go.RowKit

theorem getT_snoc {l : List GTold} {s : ByteArray} {v : GV} (h : getT l s = none) : ∀ x, getT (l ++ [⟨s, v⟩]) x = upd (getT l) s v x := by
  intro x
  simp only [getT, upd, List.find?_append, List.find?_cons, List.find?_nil]
  by_cases e : s = x
  · subst e
    simp only [getT, Option.map_eq_none_iff] at h
    simp [h]
  · simp [beq_eq_false_iff_ne.2 e, e]

def RefMeetRet (r : Option (ByteArray → Option GV)) (w : World) (e : Ending) (w' : World) : Prop :=
  ∃ A m c l, e = .returned (.tuple #[.slice A m c, .bool r.isSome]) ∧ SliceIs Enc.told w' w'.heap.size A m c l ∧ (match r with | none => True | some f => ∀ s, getT l s = f s) ∧ Below w.heap.size w w'

set_option maxRecDepth 100000 in
set_option maxHeartbeats 2000000 in
theorem refMeet_any (rel : ByteArray) (A0 : Option Addr) (n0 c0 : Nat) (a : List GTold) (A : Option Addr) (n c : Nat) (t : List GV) (A1 : Option Addr) (n1 c1 : Nat) (l : List GTold) (w : World) (hn200 : n0 ≤ 200) (hn31 : n1 ≤ 31) (ha : SliceIs Enc.told w w.heap.size A0 n0 c0 a) (ht : SliceIs Enc.val w w.heap.size A n c t) (hl : SliceIs Enc.told w w.heap.size A1 n1 c1 l) :
    Calls Try.prog 22 #[.agg #[.string rel, .slice A0 n0 c0], .slice A n c, .slice A1 n1 c1] w (RefMeetRet (meetF a t (getT l)) w) := by
  have hn := ht.bound
  have hlen := Lib.hid ht.1
  have hlen0 := Lib.hid ha.1
  by_cases heq : n0 = n
  · subst heq
    have HF : Hid (meetF a t (getT l) = meetL (a.zip t) (getT l)) := by unfold meetF; rw [if_pos (by have := hlen.out; have := hlen0.out; omega)]; rfl
    go_enter Try.func22, Try.ntmps22
    go_wp2_with fail
    go_loopw [2, 8, 9, 10, 11] (fun lv i _ _ _ wr => ∃ (k : Nat) (A' : Option Addr) (n' c' : Nat) (l' : List GTold) (fk : ByteArray → Option GV), k ≤ n0 ∧ i = .int .i64 k ∧ lv = .slice A' n' c' ∧ n' ≤ n1 + k ∧ SliceIs Enc.told wr wr.heap.size A' n' c' l' ∧ Hid (meetL ((a.zip t).take k) (getT l) = some fk) ∧ Hid (∀ s, getT l' s = fk s) ∧ Below (w.heap.size + 1) (w.alloc (.cells #[.string rel, .slice A0 n0 c0] 53)) wr) (fun _ i _ _ _ _ => n0 - (intOf i).toNat)
    case atStart => exact ⟨0, A1, n1, c1, l, getT l, by omega, rfl, rfl, by omega, hl.keep (belowA (Below.refl _ _) _), rfl, fun _ => rfl, Below.refl _ _⟩
    case round =>
      obtain ⟨k, A', n', c', l', fk, hk, rfl, rfl, hn', hl', hpre, hfk, hbr0⟩ := hrel
      have hbr : Below w.heap.size w wr := (belowA (Below.refl _ _) _).trans (hbr0.mono (by simp))
      have hb1 : wr.cell? ⟨w.heap.size, 1, none⟩ = some (.slice A0 n0 c0) := (hbr0.cell (p := ⟨w.heap.size, 1, none⟩) (by simp)).trans (by simp)
      have hz0 : w.heap.size < wr.heap.size := by have := hbr0.size; simp at this; omega
      have Hbr0 := Lib.hid hbr0
      clear hbr0 hl
      by_cases hlt : k < n0
      · obtain ⟨b, o, x, rfl, _, hx, x1, x2, x3, x4, hxs, hxv⟩ := (ha.below hbr).told_at hlt
        obtain ⟨b2, o2, v, rfl, _, hv, v1, v2, v3, hvv⟩ := (ht.below hbr).val_at hlt
        clear ha ht
        have HS := Lib.hid (meet_step hx.out hv.out hpre.out)
        have hbb : b < wr.heap.size := World.block_lt_of_cell? wr _ x1
        have hbb2 : b2 < wr.heap.size := World.block_lt_of_cell? wr _ v1
        have i0 : (0 : Int) ≤ (k : Int) := by omega
        have i1 : (k : Int) < (n0 : Int) := by omega
        have Hvv := Lib.hid hvv
        have Hxs := Lib.hid hxs
        clear hvv hxs hxv
        by_cases hem : x.x.size = 0
        · have he1 : ¬ (0 : Int) < (x.x.size : Int) := by omega
          have Hem : Hid (x.x.toList = []) := by show x.x.toList = []; rw [ByteArray.toList_eq]; exact List.eq_nil_of_length_eq_zero hem
          clear hem
          have rn := run_neq_value x.v v
          by_cases hxv : x.v = v
          · rw [(GV.beq_iff x.v v).2 hxv] at rn
            have HM : Hid (meet1 x v fk = some fk) := by show meet1 x v fk = some fk; unfold meet1; rw [if_pos Hem.out, if_pos hxv]
            clear hxv
            go_wp2_with fail
            go_quiet (fail)
            go_wp2_with fail
            go_roundw
            case rel => exact ⟨k + 1, A', n', c', l', fk, by omega, by go_num, rfl, by omega, hl'.keep ((belowA (belowA (Below.refl _ _) _) _).trans (below_drewN _ _ _)), HS.out.trans HM.out, hfk, ((Hbr0.out.alloc hz0 _).alloc (by simp; omega) _).trans (below_drewN _ _ _)⟩
            case measure => simp [intOf]; omega
          · have hbq : x.v.beq v = false := by rw [GV.beq_dec]; simp [hxv]
            rw [hbq] at rn
            have HM : Hid (meetF a t (getT l) = none) := by
              rw [HF.out]
              exact meetL_none (k := k + 1) (HS.out.trans (by unfold meet1; rw [if_pos Hem.out, if_neg hxv]))
            clear hxv hbq
            go_wp2_with fail
            go_quiet (fail)
            go_wp2_with fail
            go_ret2
            exact ⟨none, 0, 0, [], by rw [HM.out]; rfl, SliceIs.nil, by rw [HM.out]; trivial, (belowA (belowA hbr _) _).trans (below_drewN _ _ _)⟩
        · have he1 : (0 : Int) < (x.x.size : Int) := by omega
          have Hem : Hid (x.x.toList ≠ []) := by
            show x.x.toList ≠ []
            rw [ByteArray.toList_eq]; intro h; exact hem (congrArg List.length h)
          clear hem
          have hg := fun W (h : Below wr.heap.size wr W) => get_any A' n' c' l' x.x W (hl'.keep h)
          cases hfx : getT l' x.x with
          | none =>
            have hg := Lib.hid (fun W h => get_none (hg W h) hfx)
            have HM : Hid (meet1 x v fk = some (upd fk x.x v)) := by
              show meet1 x v fk = some (upd fk x.x v); unfold meet1; rw [if_neg Hem.out, ← hfk.out, hfx]
            have HG := Lib.hid hfx
            clear hfx
            go_wp2_with fail
            refine (hg.out _ (belowA (belowA (Below.refl _ _) _) _)).mono ?_
            rintro e w1 ⟨rfl, hb⟩
            obtain ⟨hc, hf⟩ := bcell hb
            have hz := hb.size
            have hb := Lib.hid hb
            simp only [World.size_alloc, Nat.add_one_le_iff] at hz hc hf
            go_wp2_with fail
            have hbB : Below wr.heap.size wr (((w1.setCell ⟨wr.heap.size + 1, 0, none⟩ (.int .i64 zeroV.k)).setCell ⟨wr.heap.size + 1, 1, none⟩ (.int .i64 zeroV.n)).setCell ⟨wr.heap.size + 1, 2, none⟩ (.string zeroV.s)) :=
              ((below_next (belowA (belowA (Below.refl _ _) _) _) hb.out).setCell (by simp) _).setCell (by simp) _ |>.setCell (by simp) _
            have hxc : (((w1.setCell ⟨wr.heap.size + 1, 0, none⟩ (.int .i64 zeroV.k)).setCell ⟨wr.heap.size + 1, 1, none⟩ (.int .i64 zeroV.n)).setCell ⟨wr.heap.size + 1, 2, none⟩ (.string zeroV.s)).cell? ⟨wr.heap.size, 0, none⟩ = some (.string x.x) := by simp [go_sem, hc]
            clear hc hf hz hb
            generalize (((w1.setCell ⟨wr.heap.size + 1, 0, none⟩ (.int .i64 zeroV.k)).setCell ⟨wr.heap.size + 1, 1, none⟩ (.int .i64 zeroV.n)).setCell ⟨wr.heap.size + 1, 2, none⟩ (.string zeroV.s)) = wb at hbB hxc ⊢
            have hat : At14 wb wr.heap.size 0 b2 o2 0 x.x v → True := fun _ => trivial
            have y1 := below_cell hbB v1
            have y2 := below_cell hbB v2
            have y3 := below_cell hbB v3
            have Hall := Lib.hid (told_ok hl')
            have hset := Lib.hid (fun W (hW : Below wb.heap.size wb W) => set_any A' n' c' l' x.x v W ((hl'.keep hbB).keep hW) (by omega) Hxs.out Hvv.out Hall.out)
            have Hk := Lib.hid (fun W (hW : Below wb.heap.size wb W) => (⟨below_cell hW hxc, below_cell hW y1, below_cell hW y2, below_cell hW y3⟩ : W.cell? ⟨wr.heap.size, 0, none⟩ = some (.string x.x) ∧ W.cell? ⟨b2, o2 + k * 3, none⟩ = some (.int .i64 v.k) ∧ W.cell? ⟨b2, o2 + k * 3 + 1, none⟩ = some (.int .i64 v.n) ∧ W.cell? ⟨b2, o2 + k * 3 + 2, none⟩ = some (.string v.s)))
            clear hat
            go_region_held3 (fun w' => w'.cell? ⟨wr.heap.size, 0, none⟩ = some (.string x.x) ∧ w'.cell? ⟨b2, o2 + k * 3, none⟩ = some (.int .i64 v.k) ∧ w'.cell? ⟨b2, o2 + k * 3 + 1, none⟩ = some (.int .i64 v.n) ∧ w'.cell? ⟨b2, o2 + k * 3 + 2, none⟩ = some (.string v.s))
              (first
                | (refine Hk.out _ ?_; first | assumption | (repeat (first | exact Below.refl _ _ | assumption | refine Below.drew ?_ | refine belowA ?_ _)))
                | go_keep)
              ((go_at_call 26
                refine (hset.out _ (Below.refl _ _).drew).mono ?_
                rintro e w2 ⟨A2, c2, rfl, hs2, hb2⟩
                have hb3 : Below wb.heap.size wb w2 := ((Below.refl wb.heap.size wb).drew).trans hb2))
            go_wp2_with fail
            go_roundw
            case rel => exact ⟨k + 1, A2, n' + 1, c2, _, upd fk x.x v, by omega, by go_num, rfl, by omega, hs2, HS.out.trans HM.out, fun s => by rw [getT_snoc HG.out]; simp only [upd]; rw [hfk.out], Hbr0.out.trans ((hbB.trans (hb3.mono hbB.size)).mono hz0)⟩
            case measure => simp [intOf]; omega
          | some u =>
            have hg := Lib.hid (fun W h => get_some (hg W h) hfx)
            have hu : fk x.x = some u := by rw [← hfk.out, hfx]
            clear hfx
            have rn := run_neq_value u v
            by_cases huv : u = v
            · rw [(GV.beq_iff u v).2 huv] at rn
              have HM : Hid (meet1 x v fk = some fk) := by show meet1 x v fk = some fk; unfold meet1; rw [if_neg Hem.out, hu]; exact if_pos huv
              clear huv hu
              go_wp2_with fail
              refine (hg.out _ (belowA (belowA (Below.refl _ _) _) _)).mono ?_
              rintro e w1 ⟨rfl, hb⟩
              obtain ⟨hc, hf⟩ := bcell hb
              have hz := hb.size
              have hb := Lib.hid hb
              simp only [World.size_alloc, Nat.add_one_le_iff] at hz hc hf
              go_wp2_with fail
              have hbB : Below wr.heap.size wr (((w1.setCell ⟨wr.heap.size + 1, 0, none⟩ (.int .i64 u.k)).setCell ⟨wr.heap.size + 1, 1, none⟩ (.int .i64 u.n)).setCell ⟨wr.heap.size + 1, 2, none⟩ (.string u.s)) :=
                ((below_next (belowA (belowA (Below.refl _ _) _) _) hb.out).setCell (by simp) _).setCell (by simp) _ |>.setCell (by simp) _
              have q0 : (((w1.setCell ⟨wr.heap.size + 1, 0, none⟩ (.int .i64 u.k)).setCell ⟨wr.heap.size + 1, 1, none⟩ (.int .i64 u.n)).setCell ⟨wr.heap.size + 1, 2, none⟩ (.string u.s)).cell? ⟨wr.heap.size + 1, 0, none⟩ = some (.int .i64 u.k) := by simp [go_sem, hc]
              have q1 : (((w1.setCell ⟨wr.heap.size + 1, 0, none⟩ (.int .i64 u.k)).setCell ⟨wr.heap.size + 1, 1, none⟩ (.int .i64 u.n)).setCell ⟨wr.heap.size + 1, 2, none⟩ (.string u.s)).cell? ⟨wr.heap.size + 1, 1, none⟩ = some (.int .i64 u.n) := by simp [go_sem, hc]
              have q2 : (((w1.setCell ⟨wr.heap.size + 1, 0, none⟩ (.int .i64 u.k)).setCell ⟨wr.heap.size + 1, 1, none⟩ (.int .i64 u.n)).setCell ⟨wr.heap.size + 1, 2, none⟩ (.string u.s)).cell? ⟨wr.heap.size + 1, 2, none⟩ = some (.string u.s) := by simp [go_sem, hc]
              clear hc hf hz hb
              generalize (((w1.setCell ⟨wr.heap.size + 1, 0, none⟩ (.int .i64 u.k)).setCell ⟨wr.heap.size + 1, 1, none⟩ (.int .i64 u.n)).setCell ⟨wr.heap.size + 1, 2, none⟩ (.string u.s)) = wb at hbB q0 q1 q2 ⊢
              have y1 := below_cell hbB v1
              have y2 := below_cell hbB v2
              have y3 := below_cell hbB v3
              go_quiet (fail)
              go_wp2_with fail
              go_roundw
              case rel => exact ⟨k + 1, A', n', c', l', fk, by omega, by go_num, rfl, by omega, hl'.keep (hbB.trans (below_drewN _ _ _)), HS.out.trans HM.out, hfk, Hbr0.out.trans ((hbB.trans (below_drewN _ _ _)).mono hz0)⟩
              case measure => simp [intOf]; omega
            · have hbq : u.beq v = false := by rw [GV.beq_dec]; simp [huv]
              rw [hbq] at rn
              have HM : Hid (meetF a t (getT l) = none) := by
                rw [HF.out]
                exact meetL_none (k := k + 1) (HS.out.trans (by unfold meet1; rw [if_neg Hem.out, hu]; exact if_neg huv))
              clear huv hbq hu
              go_wp2_with fail
              refine (hg.out _ (belowA (belowA (Below.refl _ _) _) _)).mono ?_
              rintro e w1 ⟨rfl, hb⟩
              obtain ⟨hc, hf⟩ := bcell hb
              have hz := hb.size
              have hb := Lib.hid hb
              simp only [World.size_alloc, Nat.add_one_le_iff] at hz hc hf
              go_wp2_with fail
              have hbB : Below wr.heap.size wr (((w1.setCell ⟨wr.heap.size + 1, 0, none⟩ (.int .i64 u.k)).setCell ⟨wr.heap.size + 1, 1, none⟩ (.int .i64 u.n)).setCell ⟨wr.heap.size + 1, 2, none⟩ (.string u.s)) :=
                ((below_next (belowA (belowA (Below.refl _ _) _) _) hb.out).setCell (by simp) _).setCell (by simp) _ |>.setCell (by simp) _
              have q0 : (((w1.setCell ⟨wr.heap.size + 1, 0, none⟩ (.int .i64 u.k)).setCell ⟨wr.heap.size + 1, 1, none⟩ (.int .i64 u.n)).setCell ⟨wr.heap.size + 1, 2, none⟩ (.string u.s)).cell? ⟨wr.heap.size + 1, 0, none⟩ = some (.int .i64 u.k) := by simp [go_sem, hc]
              have q1 : (((w1.setCell ⟨wr.heap.size + 1, 0, none⟩ (.int .i64 u.k)).setCell ⟨wr.heap.size + 1, 1, none⟩ (.int .i64 u.n)).setCell ⟨wr.heap.size + 1, 2, none⟩ (.string u.s)).cell? ⟨wr.heap.size + 1, 1, none⟩ = some (.int .i64 u.n) := by simp [go_sem, hc]
              have q2 : (((w1.setCell ⟨wr.heap.size + 1, 0, none⟩ (.int .i64 u.k)).setCell ⟨wr.heap.size + 1, 1, none⟩ (.int .i64 u.n)).setCell ⟨wr.heap.size + 1, 2, none⟩ (.string u.s)).cell? ⟨wr.heap.size + 1, 2, none⟩ = some (.string u.s) := by simp [go_sem, hc]
              clear hc hf hz hb
              generalize (((w1.setCell ⟨wr.heap.size + 1, 0, none⟩ (.int .i64 u.k)).setCell ⟨wr.heap.size + 1, 1, none⟩ (.int .i64 u.n)).setCell ⟨wr.heap.size + 1, 2, none⟩ (.string u.s)) = wb at hbB q0 q1 q2 ⊢
              have y1 := below_cell hbB v1
              have y2 := below_cell hbB v2
              have y3 := below_cell hbB v3
              go_quiet (fail)
              go_wp2_with fail
              go_ret2
              exact ⟨none, 0, 0, [], by rw [HM.out]; rfl, SliceIs.nil, by rw [HM.out]; trivial, (below_next hbr hbB).trans (below_drewN _ _ _)⟩
      · have hkn : k = n0 := by omega
        subst hkn
        have HM : Hid (meetF a t (getT l) = some fk) := by
          show meetF a t (getT l) = some fk
          rw [HF.out, ← hpre.out, List.take_of_length_le (by have := hlen.out; have := hlen0.out; simp; omega)]
        go_wp2_with fail
        go_ret2
        exact ⟨A', n', c', l', by rw [HM.out]; rfl, hl', by rw [HM.out]; exact hfk.out, hbr⟩
  · have hne : ((n0 : Int) != (n : Int)) = true := by simp; omega
    have HR : Hid (meetF a t (getT l) = none) := by
      show meetF a t (getT l) = none
      unfold meetF; rw [if_neg (by have := hlen.out; have := hlen0.out; omega)]
    go_enter Try.func22, Try.ntmps22
    go_wp2_with fail
    go_ret2
    exact ⟨none, 0, 0, [], by rw [HR.out]; rfl, SliceIs.nil, by rw [HR.out]; trivial, belowA (Below.refl _ _) _⟩
end Go.Proofs.Ytggbfpjpkfhaeaa
