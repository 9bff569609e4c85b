/- bind.Only: an environment of some variables alone. -/
import Derived.Test.YtggbfpjpkfhaeaaMeet
import Derived.Test.YtggbfpjpkfhaeaaHas
namespace Go.Proofs.Ytggbfpjpkfhaeaa
open Go.RowKit

def onlyF (f : ByteArray → Option GV) (vars : List ByteArray) : ByteArray → Option GV := fun s => if s ∈ vars then f s else none

set_option maxRecDepth 100000 in
set_option maxHeartbeats 1000000 in
theorem only_any (g : Nat) (kvs : List (ByteArray × GV)) (A : Option Addr) (n c : Nat) (vars : List ByteArray) (w : World) (hm : MapIs w g (gvs kvs)) (hl : SliceIs Enc.str w w.heap.size A n c vars) :
    Calls Try.prog 33 #[.map (some g), .slice A n c] w (EnvRet (onlyF (kvGet kvs) vars) w) := by
  have hmm := @run_makeMap Try.prog
  have hn := hl.bound
  have hlen := Lib.hid hl.1
  have hgl := hm.lt
  go_enter Try.func33, Try.ntmps33
  go_wp2_with fail
  clear hmm
  go_loopw [7, 8, 9, 13] (fun _ _ _ i wr => ∃ (k : Nat) (lk : List (ByteArray × GV)), k ≤ n ∧ i = .int .i64 k ∧ MapIs wr w.heap.size (gvs lk) ∧ Hid ((lk.map Prod.fst).Nodup ∧ ∀ s, kvGet lk s = onlyF (kvGet kvs) (vars.take k) s) ∧ Below w.heap.size w wr) (fun _ _ _ i _ => n - (intOf i).toNat)
  case atStart => exact ⟨0, [], by omega, rfl, MapIs.made, ⟨by simp, fun s => by simp [onlyF, kvGet]⟩, belowA (Below.refl _ _) _⟩
  case round =>
    obtain ⟨k, lk, hk, rfl, hgm, hlk, hbr⟩ := hrel
    by_cases hlt : k < n
    · obtain ⟨b, o, x, rfl, _, hx, x1, _⟩ := (hl.below hbr).str_at hlt
      clear hl
      have hmr := hm.below hbr hgl
      clear hm
      have hlkp := hmr.lookup_ok (P := Try.prog) (t := 35) (e := 63) Try.underlying35 Try.underlying9 (zero_value _) x
      rw [gvs_get] at hlkp
      have HM : Hid (∀ s, onlyF (kvGet kvs) (vars.take (k + 1)) s = if x = s then kvGet kvs x else onlyF (kvGet kvs) (vars.take k) s) := by
        intro s
        simp only [onlyF, mem_take_succ hx.out]
        by_cases e : x = s
        · subst e; simp
        · simp [e]
      cases hfx : kvGet kvs x with
      | none =>
        rw [hfx] at hlkp
        simp only [Option.map_none, Option.getD_none, Option.isSome_none] at hlkp
        have Hfx := Lib.hid hfx
        clear hfx
        go_wp2_with fail
        go_roundw
        case rel => exact ⟨k + 1, lk, by omega, by go_num, hgm.alloc _, ⟨hlk.out.1, fun s => by
          rw [HM.out, hlk.out.2]
          by_cases e : x = s
          · subst e; rw [if_pos rfl, Hfx.out]; simp [onlyF, Hfx.out]
          · rw [if_neg e]⟩, belowA hbr _⟩
        case measure => simp [intOf]; omega
      | some v =>
        rw [hfx] at hlkp
        simp only [Option.map_some, Option.getD_some, Option.isSome_some] at hlkp
        have Hfx := Lib.hid hfx
        clear hfx
        obtain ⟨w3, hup, hm3, hg3, _⟩ := (hgm.alloc (.cells #[.int .i64 v.k, .int .i64 v.n, .string v.s] 63)).update
          (P := Try.prog) (t := 35) (e := 63) Try.underlying35 Try.underlying9 x v.v
        go_wp2_with fail
        go_roundw
        case rel => exact ⟨k + 1, kvSet lk x v, by omega, by go_num, gvs_set lk x v ▸ hm3, ⟨kvSet_keys hlk.out.1, fun s => by rw [kvGet_set, hlk.out.2, HM.out, Hfx.out]⟩, (belowA hbr _).grown hg3 (by have := hbr.size; simp; omega) (by rintro _ ⟨rfl⟩; omega)⟩
        case measure => simp [intOf]; omega
    · have hkn : k = n := by omega
      subst hkn
      go_wp2_with fail
      go_ret
      exact ⟨_, lk, rfl, Nat.le_refl _, hgm, hlk.out.1, fun s => by rw [hlk.out.2, List.take_of_length_le (by have := hlen.out; omega)], hbr⟩
end Go.Proofs.Ytggbfpjpkfhaeaa
