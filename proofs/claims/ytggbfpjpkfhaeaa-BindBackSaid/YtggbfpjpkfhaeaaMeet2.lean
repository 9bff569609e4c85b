/- bind.Meet and bind.Back once more: what they make is a map that is not nil. -/
import Derived.Test.YtggbfpjpkfhaeaaMeet
import Derived.Test.YtggbfpjpkfhaeaaSame
namespace Go.Proofs.Ytggbfpjpkfhaeaa
open Go.RowKit

def MeetRet2 (r : Option (ByteArray → Option GV)) (w : World) (e : Ending) (w' : World) : Prop :=
  ∃ v, e = .returned (.tuple #[v, .bool r.isSome]) ∧ (match r with | none => v = .map none | some f => ∃ g kvs, v = .map (some g) ∧ MapIs w' g (gvs kvs) ∧ (kvs.map Prod.fst).Nodup ∧ ∀ s, kvGet kvs s = f s) ∧ Below w.heap.size w w'
def MapErr2 (p : List GTold × Int) (w : World) (e : Ending) (w' : World) : Prop :=
  ∃ v, e = .returned (.tuple #[v, errV 91 p.2]) ∧ (p.2 = 0 → ∃ g, v = .map (some g) ∧ MapIs w' g (gvs (envOf p.1))) ∧ Below w.heap.size w w'

set_option maxRecDepth 100000 in
set_option maxHeartbeats 1000000 in
theorem meet2_any (rel : ByteArray) (A0 : Option Addr) (n0 c0 : Nat) (a : List GTold) (A : Option Addr) (n c : Nat) (t : List GV) (m : Value) (f : ByteArray → Option GV) (w : World) (ha : SliceIs Enc.told w w.heap.size A0 n0 c0 a) (ht : SliceIs Enc.val w w.heap.size A n c t) (hm : EnvIs w m f) :
    Calls Try.prog 21 #[.agg #[.string rel, .slice A0 n0 c0], .slice A n c, m] w (MeetRet2 (meetF a t f) w) := by
  have hn := ht.bound
  have hlen := Lib.hid ht.1
  have hlen0 := Lib.hid ha.1
  by_cases heq : n0 = n
  · subst heq
    have hcp := Lib.hid (copy_any m f (w.alloc (.cells #[.string rel, .slice A0 n0 c0] 49)) (hm.below (belowA (Below.refl _ _) _)))
    clear hm
    have HF : Hid (meetF a t f = meetL (a.zip t) f) := by unfold meetF; rw [if_pos (by have := hlen.out; have := hlen0.out; omega)]; rfl
    go_enter Try.func21, Try.ntmps21
    go_wp2_with fail
    refine hcp.out.mono ?_
    rintro e w1 ⟨g, l0, rfl, hgs, hg, hk, hf, hb1⟩
    have hc0 : (w.alloc (.cells #[.string rel, .slice A0 n0 c0] 49)).cell? ⟨w.heap.size, 0, none⟩ = some (.string rel) := by simp
    have hc1 : (w.alloc (.cells #[.string rel, .slice A0 n0 c0] 49)).cell? ⟨w.heap.size, 1, none⟩ = some (.slice A0 n0 c0) := by simp
    have d0 := below_cell hb1 hc0
    have d1 := below_cell hb1 hc1
    have hbw := (belowA (Below.refl _ w) (.cells #[.string rel, .slice A0 n0 c0] 49)).trans (hb1.mono (by simp))
    clear hc0 hc1
    simp only [World.size_alloc] at hgs
    have Hf := Lib.hid hf
    clear hf hb1
    go_wp2_with fail
    clear d0 d1
    go_loopg [9, 10, 11, 12, 24] n0 (fun gk _ _ _ _ i wr => ∃ (k : Nat) (fk : ByteArray → Option GV) (lk : List (ByteArray × GV)), gk + k = n0 ∧ i = .int .i64 k ∧ Hid (meetL ((a.zip t).take k) f = some fk) ∧ MapIs wr g (gvs lk) ∧ Hid ((lk.map Prod.fst).Nodup ∧ ∀ s, kvGet lk s = fk s) ∧ Below w.heap.size w wr)
    case atStart => exact ⟨0, f, l0, by omega, rfl, rfl, hg, ⟨hk, Hf.out⟩, hbw⟩
    case round =>
      obtain ⟨k, fk, lk, hcnt, rfl, hpre, hgm, hlk, hbr⟩ := hrel
      have Hcnt := Lib.hid hcnt
      clear hcnt hg hbw
      by_cases hlt : k < n0
      · obtain ⟨b, o, x, rfl, _, hx, x1, x2, x3, x4, _⟩ := (ha.below hbr).told_at hlt
        obtain ⟨b2, o2, v, rfl, _, hv, v1, v2, v3, _⟩ := (ht.below hbr).val_at hlt
        clear ha ht
        have HS := Lib.hid (meet_step hx.out hv.out hpre.out)
        have hb1 : b < wr.heap.size := World.block_lt_of_cell? wr _ x1
        have hb2 : b2 < wr.heap.size := World.block_lt_of_cell? wr _ v1
        have hgl := hgm.lt
        have i0 : (0 : Int) ≤ (k : Int) := by omega
        have i1 : (k : Int) < (n0 : Int) := by omega
        have hbx := hbr.alloc hbr.size (.cells #[.string x.x, .int .i64 x.v.k, .int .i64 x.v.n, .string x.v.s] 78)
        by_cases hem : x.x.toList = []
        · have he1 : x.x.toList.isEmpty = true := by simp [hem]
          have Hem := Lib.hid hem
          clear hem
          have rn := run_neq_value x.v v
          by_cases hxv : x.v = v
          · rw [(GV.beq_iff x.v v).2 hxv] at rn
            have HM : Hid (meet1 x v fk = some fk) := by show meet1 x v fk = some fk; unfold meet1; rw [if_pos Hem.out, if_pos hxv]
            clear hxv
            go_wp2_with fail
            go_quiet (fail)
            go_wp2_with fail
            have hc := Hcnt.out
            go_roundg (gk - 1)
            case measure => omega
            case rel => exact ⟨k + 1, fk, lk, by omega, by go_num, HS.out.trans HM.out, ((hgm.alloc _).alloc _).drewN _, hlk, (hbx.alloc hbx.size _).trans (below_drewN _ _ _)⟩
          · have hbq : x.v.beq v = false := by rw [GV.beq_dec]; simp [hxv]
            rw [hbq] at rn
            have HM : Hid (meetF a t f = none) := by
              rw [HF.out]
              exact meetL_none (k := k + 1) (HS.out.trans (by unfold meet1; rw [if_pos Hem.out, if_neg hxv]))
            clear hxv hbq
            go_wp2_with fail
            go_quiet (fail)
            go_wp2_with fail
            go_ret2
            exact ⟨.map none, by rw [HM.out]; rfl, by rw [HM.out], (hbx.alloc hbx.size _).trans (below_drewN _ _ _)⟩
        · have he1 : x.x.toList.isEmpty = false := by simpa using hem
          have he2 : (!x.x.toList.isEmpty) = true := by simpa using hem
          have Hem := Lib.hid hem
          clear hem
          have hlkp := fun o1 o2 => ((hgm.alloc o1).alloc o2).lookup_ok (P := Try.prog) (t := 35) (e := 63) Try.underlying35 Try.underlying9 (zero_value _) x.x
          rw [gvs_get, hlk.out.2] at hlkp
          cases hfx : fk x.x with
          | none =>
            have HM : Hid (meet1 x v fk = some (upd fk x.x v)) := by show meet1 x v fk = some (upd fk x.x v); unfold meet1; rw [if_neg Hem.out, hfx]
            rw [hfx] at hlkp
            clear hfx
            simp only [Option.map_none, Option.getD_none, Option.isSome_none] at hlkp
            have hS : ∀ W : World, (∀ k, k < wr.heap.size + 1 → some k ≠ some g → W.heap[k]? = ((wr.alloc (.cells #[.string x.x, .int .i64 x.v.k, .int .i64 x.v.n, .string x.v.s] 78)).alloc (.cells #[.int .i64 zeroV.k, .int .i64 zeroV.n, .string zeroV.s] 63)).drew.heap[k]?) →
                W.cell? ⟨wr.heap.size, 0, none⟩ = some (.string x.x) ∧ W.cell? ⟨b2, o2 + k * 3, none⟩ = some (.int .i64 v.k) ∧ W.cell? ⟨b2, o2 + k * 3 + 1, none⟩ = some (.int .i64 v.n) ∧ W.cell? ⟨b2, o2 + k * 3 + 2, none⟩ = some (.string v.s) := by
              intro W hW
              have hne2 : some b2 ≠ some g := by have := hgs; simp; omega
              exact ⟨(World.cell?_of_block (hW _ (by simp) (by simp; omega))).trans (by simp), (World.cell?_of_block (hW _ (by simp; omega) hne2)).trans (cellA (cellA v1)), (World.cell?_of_block (hW _ (by simp; omega) hne2)).trans (cellA (cellA v2)), (World.cell?_of_block (hW _ (by simp; omega) hne2)).trans (cellA (cellA v3))⟩
            obtain ⟨w3, hup, hm3, hg3, _⟩ := ((hgm.alloc (.cells #[.string x.x, .int .i64 x.v.k, .int .i64 x.v.n, .string x.v.s] 78)).alloc (.cells #[.int .i64 zeroV.k, .int .i64 zeroV.n, .string zeroV.s] 63)).drew.update
              (P := Try.prog) (t := 35) (e := 63) Try.underlying35 Try.underlying9 x.x v.v
            have hS3 := Lib.hid (hS w3 (fun k hk hne => hg3.block k (by simp; omega) hne))
            clear hS
            go_wp2_with fail
            go_region_held3 (fun w' => w'.cell? ⟨wr.heap.size, 0, none⟩ = some (.string x.x) ∧ w'.cell? ⟨b2, o2 + k * 3, none⟩ = some (.int .i64 v.k) ∧ w'.cell? ⟨b2, o2 + k * 3 + 1, none⟩ = some (.int .i64 v.n) ∧ w'.cell? ⟨b2, o2 + k * 3 + 2, none⟩ = some (.string v.s))
              (first | exact hS3.out | go_keep) (fail)
            go_wp2_with fail
            have hc := Hcnt.out
            go_roundg (gk - 1)
            case measure => omega
            case rel =>
              exact ⟨k + 1, upd fk x.x v, kvSet lk x.x v, by omega, by go_num, HS.out.trans HM.out, gvs_set lk x.x v ▸ hm3, ⟨kvSet_keys hlk.out.1, fun s => by rw [kvGet_set, hlk.out.2]; rfl⟩,
                (((hbx.alloc hbx.size _).drew).grown hg3 (by simp; omega) (by rintro _ ⟨rfl⟩; omega))⟩
          | some u =>
            rw [hfx] at hlkp
            simp only [Option.map_some, Option.getD_some, Option.isSome_some] at hlkp
            have rn := run_neq_value u v
            by_cases huv : u = v
            · rw [(GV.beq_iff u v).2 huv] at rn
              have HM : Hid (meet1 x v fk = some fk) := by show meet1 x v fk = some fk; unfold meet1; rw [if_neg Hem.out, hfx]; exact if_pos huv
              clear huv hfx
              go_wp2_with fail
              go_quiet (fail)
              go_wp2_with fail
              have hc := Hcnt.out
              go_roundg (gk - 1)
              case measure => omega
              case rel => exact ⟨k + 1, fk, lk, by omega, by go_num, HS.out.trans HM.out, ((hgm.alloc _).alloc _).drewN _, hlk, (hbx.alloc hbx.size _).trans (below_drewN _ _ _)⟩
            · have hbq : u.beq v = false := by rw [GV.beq_dec]; simp [huv]
              rw [hbq] at rn
              have HM : Hid (meetF a t f = none) := by
                rw [HF.out]
                exact meetL_none (k := k + 1) (HS.out.trans (by unfold meet1; rw [if_neg Hem.out, hfx]; exact if_neg huv))
              clear huv hbq hfx
              go_wp2_with fail
              go_quiet (fail)
              go_wp2_with fail
              go_ret2
              exact ⟨.map none, by rw [HM.out]; rfl, by rw [HM.out], (hbx.alloc hbx.size _).trans (below_drewN _ _ _)⟩
      · have hkn : k = n0 := by have := Hcnt.out; omega
        subst hkn
        have HM : Hid (meetF a t f = some fk) := by
          show meetF a t f = some fk
          rw [HF.out, ← hpre.out, List.take_of_length_le (by have := hlen.out; have := hlen0.out; simp; omega)]
        go_wp2_with fail
        go_ret2
        exact ⟨.map (some g), by rw [HM.out]; rfl, by rw [HM.out]; exact ⟨g, lk, rfl, hgm, hlk.out.1, hlk.out.2⟩, hbr⟩
  · have hne : ((n0 : Int) != (n : Int)) = true := by simp; omega
    have HR : Hid (meetF a t f = none) := by
      show meetF a t f = none
      unfold meetF; rw [if_neg (by have := hlen.out; have := hlen0.out; omega)]
    go_enter Try.func21, Try.ntmps21
    go_wp2_with fail
    go_ret2
    exact ⟨.map none, by rw [HR.out]; rfl, by rw [HR.out], belowA (Below.refl _ _) _⟩

set_option maxRecDepth 100000 in
set_option maxHeartbeats 400000 in
theorem back2_any (A0 : Option Addr) (n0 c0 : Nat) (t : List GV) (A : Option Addr) (n c : Nat) (l : List ByteArray) (w : World) (hl0 : SliceIs Enc.val w w.heap.size A0 n0 c0 t) (hl : SliceIs Enc.str w w.heap.size A n c l) :
    Calls Try.prog 14 #[.slice A0 n0 c0, .slice A n c] w (MapErr2 (backSpec t l) w) := by
  have hn := hl.bound
  have hn0 := hl0.bound
  have hlen := Lib.hid hl.1
  have hlen0 := Lib.hid hl0.1
  have hmm := @run_makeMap Try.prog
  by_cases heq : n0 = n
  · subst heq
    go_enter Try.func14, Try.ntmps14
    go_wp2
    clear hmm
    generalize hg : w.heap.size = g
    have Hg := Lib.hid hg
    clear hg
    go_loopw [7, 8, 9, 10, 20] (fun _ _ _ _ i wr => ∃ k : Nat, k ≤ n0 ∧ i = .int .i64 k ∧ MapIs wr g (gvs (envOf ((zipT l t).take k))) ∧ Hid ((l.take k).Nodup) ∧ Below g w wr) (fun _ _ _ _ i _ => n0 - (intOf i).toNat)
    case atStart => exact ⟨0, by omega, rfl, Hg.out ▸ MapIs.made, by simp [Hid], Hg.out ▸ (Below.refl _ _).alloc (Nat.le_refl _) _⟩
    case round =>
      obtain ⟨k, hk, rfl, hm, hnd, hbw⟩ := hrel
      by_cases hlt : k < n0
      · obtain ⟨b, o, s, rfl, hb, hx, hc, hs⟩ := (hl.below (Hg.out ▸ hbw)).str_at hlt
        obtain ⟨b2, o2, v, rfl, hb2, hx2, hc1, hc2, hc3, _⟩ := (hl0.below (Hg.out ▸ hbw)).val_at hlt
        clear hl hl0
        have HS := Lib.hid (envOf_take (zipT_get hx.out hx2.out))
        have hgl := hm.lt
        have hlk := hm.lookup_ok (P := Try.prog) (t := 35) (e := 63) Try.underlying35 Try.underlying9 (zero_value _) s
        rw [gvs_get] at hlk
        cases hgt : kvGet (envOf ((zipT l t).take k)) s with
        | some v2 =>
          have HR : Hid (backSpec t l = ([], 14)) := by
            have h1 := hgt
            rw [envOf_get, zipT_take] at h1
            unfold backSpec
            rw [if_pos (by have := hlen.out; have := hlen0.out; omega), if_neg (not_nodup hx.out (getT_zip_mem h1))]; rfl
          rw [hgt] at hlk
          clear hgt
          simp only [Option.map_some, Option.getD_some, Option.isSome_some] at hlk
          go_wp2
          go_ret2
          exact ⟨.map none, by rw [HR.out]; rfl, (fun h => by rw [HR.out] at h; simp at h), Hg.out ▸ hbw.alloc (Nat.le_of_lt hgl) _⟩
        | none =>
          have Hgt := Lib.hid hgt
          have hsn : Hid (s ∉ l.take k) := by
            have h1 := hgt
            rw [envOf_get, zipT_take] at h1
            exact getT_zip_none (by have := hlen.out; have := hlen0.out; simp; omega) h1
          rw [hgt] at hlk
          clear hgt
          simp only [Option.map_none, Option.getD_none, Option.isSome_none] at hlk
          obtain ⟨w2, hrun, hm2, hgr, _⟩ := (hm.alloc (.cells #[.int .i64 zeroV.k, .int .i64 zeroV.n, .string zeroV.s] 63)).update
            (P := Try.prog) (t := 35) (e := 63) Try.underlying35 Try.underlying9 s v.v
          have i0 : (0 : Int) ≤ (k : Int) := by omega
          have i1 : (k : Int) < (n0 : Int) := by omega
          have hb2' : b2 < wr.heap.size := World.block_lt_of_cell? wr _ hc1
          go_wp2
          go_roundw
          case rel => exact ⟨k + 1, by omega, by go_num, by rw [HS.out, envAdd, if_neg (by rw [Hgt.out]; simp), ← gvs_set]; exact hm2, nodup_snoc hx.out hnd.out hsn.out, (hbw.alloc (Nat.le_of_lt hgl) _).grown hgr (by simp; omega) (by rintro _ ⟨rfl⟩; exact Nat.le_refl _)⟩
          case measure => simp [intOf]; omega
      · have HR : Hid (backSpec t l = (zipT l t, 0)) := by
          have h1 := hnd.out
          rw [List.take_of_length_le (by have := hlen.out; omega)] at h1
          unfold backSpec
          rw [if_pos (by have := hlen.out; have := hlen0.out; omega), if_pos h1]; rfl
        have hm2 : MapIs wr g (gvs (envOf (zipT l t))) := by
          rw [List.take_of_length_le (by have := hlen.out; simp [zipT]; omega)] at hm; exact hm
        clear hm
        go_wp2
        go_ret2
        exact ⟨.map (some g), by rw [HR.out]; rfl, (fun _ => ⟨g, rfl, by rw [HR.out]; exact hm2⟩), Hg.out ▸ hbw⟩
  · have hne : ((n0 : Int) != (n : Int)) = true := by simp; omega
    have HR : Hid (backSpec t l = ([], 6)) := by
      unfold backSpec; rw [if_neg (by have := hlen.out; have := hlen0.out; omega)]; rfl
    go_enter Try.func14, Try.ntmps14
    go_wp2
    go_ret2
    exact ⟨.map none, by rw [HR.out]; rfl, (fun h => by rw [HR.out] at h; simp at h), Below.refl _ _⟩


theorem zip_get : ∀ (vars : List ByteArray) (r : List GV) (s : ByteArray), kvGet (vars.zip r) s = getT (zipT vars r) s
  | [], r, s => by simp [kvGet, getT, zipT]
  | x :: vars, [], s => by simp [kvGet, getT, zipT]
  | x :: vars, y :: r, s => by
    have ih := zip_get vars r s
    by_cases e : x = s
    · subst e; simp [kvGet, getT, zipT]
    · have hb : (x == s) = false := by simpa using e
      simpa [kvGet, getT, zipT, hb] using ih
theorem envOf_zip_len {vars : List ByteArray} {r : List GV} (hn : vars.Nodup) (hl : r.length = vars.length) : (envOf (zipT vars r)).length = vars.length := by
  have h := keys_same (b := vars.zip r) (envOf_keys (zipT vars r)) (by rw [List.map_fst_zip (by omega)]; exact hn) (fun s => by rw [envOf_get, zip_get])
  rw [h, List.length_zip]; omega
theorem meetL_from : ∀ (l : List (GTold × GV)) (f f' : ByteArray → Option GV), meetL l f = some f' → ∀ s v, f' s = some v → f s = some v ∨ ∃ p ∈ l, p.2 = v
  | [], f, f', h, s, v, hv => by simp only [meetL, Option.some.injEq] at h; subst h; exact .inl hv
  | p :: l, f, f', h, s, v, hv => by
    simp only [meetL] at h
    cases h1 : meet1 p.1 p.2 f with
    | none => rw [h1] at h; cases h
    | some f1 =>
      rw [h1] at h
      rcases meetL_from l f1 f' h s v hv with h2 | ⟨q, hq, e⟩
      · unfold meet1 at h1
        by_cases he : p.1.x.toList = []
        · rw [if_pos he] at h1
          by_cases hv : p.1.v = p.2
          · rw [if_pos hv] at h1; simp only [Option.some.injEq] at h1; subst h1; exact .inl h2
          · rw [if_neg hv] at h1; cases h1
        · rw [if_neg he] at h1
          cases hf : f p.1.x with
          | none =>
            rw [hf] at h1
            simp only [Option.some.injEq] at h1
            subst h1
            unfold upd at h2
            by_cases e : p.1.x = s
            · rw [if_pos e] at h2; exact .inr ⟨p, List.mem_cons_self, by simpa using h2⟩
            · rw [if_neg e] at h2; exact .inl h2
          | some u =>
            rw [hf] at h1
            by_cases hu : u = p.2
            · simp only [hu, if_true, Option.some.injEq] at h1; subst h1; exact .inl h2
            · simp only [hu, if_false] at h1; cases h1
      · exact .inr ⟨q, List.mem_cons_of_mem _ hq, e⟩
theorem vals_ok {w : World} {B : Nat} {A : Option Addr} {n c : Nat} {l : List GV} (h : SliceIs Enc.val w B A n c l) : ∀ v ∈ l, v.ok := by
  intro v hv
  rcases h.2.2.2.2 with h4 | ⟨b, o, _, _, hc⟩
  · subst h4; cases hv
  · obtain ⟨i, hi⟩ := List.mem_iff_getElem?.1 hv
    obtain ⟨cs, hok, _⟩ := hc i v hi
    exact hok.2
end Go.Proofs.Ytggbfpjpkfhaeaa
