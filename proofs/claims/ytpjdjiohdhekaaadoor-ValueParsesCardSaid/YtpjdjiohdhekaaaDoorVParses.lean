/- ValueParses: the walk. -/
import Derived.Test.YtpjdjiohdhekaaaDoorVParse
import Derived.Deep.DeepCutAuto
namespace Go.Proofs.YtpjdjiohdhekaaaDoor
open Go.RowKit

theorem isNum_any (n k : Int) (w : World) : Calls Tryd.prog 13 #[errV 36 n, .int .i64 k] w (RetBool (n == k) w) := is_any n k w

set_option maxRecDepth 100000 in
set_option maxHeartbeats 4000000 in
theorem valueParses_walk (s : ByteArray) (hs : s.size ≤ reachN) (u : Nat) (hu : u < 4294967296) (w : World) (h : TabW w) (hE : ErrW w) : Calls Tryd.prog 6 #[.string s, .int .u32 u] w (RetBool true w) := by
  have hs' : s.size ≤ 140737488351232 := hs
  have HT := Lib.hid h
  have HE := Lib.hid hE
  have hp := Lib.hid (fun w h hE => parse_any s hs' w h hE)
  have hr := Lib.hid (fun w => refParse_any s hs' w)
  obtain ⟨er, her⟩ : ∃ er, Hid (er = errV 36 (if (parseO s).isSome = true then 0 else 2)) := ⟨_, rfl⟩
  rw [← her.out] at hp
  generalize parseG s = pg at hp hr
  generalize (parseO s).isSome = po at hr her
  clear h hE
  by_cases hlong : 500 < s.size
  · have i0 : (500 : Int) < (s.size : Int) := by omega
    go_enter Tryd.func6, Tryd.ntmps6
    go_wp2_with fail
    refine (alive_any _ HT.out).mono ?_
    rintro e2 w2 ⟨rfl, hq2⟩
    go_wp2_with fail
    go_ret
    exact ⟨rfl, hq2⟩
  · have i0 : ¬ (500 : Int) < (s.size : Int) := by omega
    go_enter Tryd.func6, Tryd.ntmps6
    go_wp2_with fail
    refine (alive_any _ HT.out).mono ?_
    rintro e2 w2 ⟨rfl, hbw⟩
    go_upto_region 6 with (
      (go_at_call 22
       refine (hp.out _ (HT.out.on hbw) (HE.out.on hbw)).mono ?_
       rintro e2 w3 ⟨rfl, hq2⟩))
    replace hbw := belowA (below_next hbw hq2) (.cells #[.int .i64 pg.k, .int .i64 pg.n, .string pg.s] 24)
    clear hq2
    have B5 := VBox.new w3 pg
    generalize w3.heap.size = g5 at B5 ⊢
    generalize w3.alloc (.cells #[.int .i64 pg.k, .int .i64 pg.n, .string pg.s] 24) = w4 at hbw B5 ⊢
    go_upto_region 7 with (
      (go_at_call 23
       refine (hr.out _).mono ?_
       rintro e2 w5 ⟨rfl, hq2⟩))
    replace hbw := belowA (below_next hbw hq2) (.cells #[.int .i64 pg.k, .int .i64 pg.n, .string pg.s] 24)
    replace B5 := (B5.on hq2).old (.cells #[.int .i64 pg.k, .int .i64 pg.n, .string pg.s] 24)
    clear hq2
    have B7 := VBox.new w5 pg
    generalize w5.heap.size = g7 at B7 ⊢
    generalize w5.alloc (.cells #[.int .i64 pg.k, .int .i64 pg.n, .string pg.s] 24) = w6 at hbw B5 B7 ⊢
    clear hp hr
    have rn := run_eql_value pg pg
    rw [GV.beq_self] at rn
    cases po with
    | true =>
      have e : er = .nilIface := her.out
      subst e
      clear her
      obtain ⟨c0, c1, c2⟩ := B5
      obtain ⟨c3, c4, c5⟩ := B7
      have hconv := run_bytes_of_string (P := Tryd.prog) w6 9 44 5 s (by kernel_rfl) (by kernel_rfl) (by kernel_rfl)
      go_wp2_with fail
      refine (mix_any _ _ _ s.toList ?_ ?_ u hu _ (fun j hj => ?_)).mono ?_
      · rw [ba_len]
      · exact hs'
      · show (World.alloc w6 (.cells (bytesRow s (grownCap w6 s.size 0 5)) 5 _)).cell? _ = _
        rw [World.cell?_alloc_mark]
        unfold bytesRow
        have hjs : j < s.size := by rw [← ba_len]; exact hj
        rw [Array.getElem?_append_left (by simpa using hjs)]
        have := ba_get hjs
        rw [List.getElem?_eq_getElem hj] at this
        injection this with this
        rw [this]
        simp
        exact ⟨s[j]'hjs, Array.getElem?_eq_getElem hjs, rfl⟩
      rintro e w8 ⟨rfl, rfl⟩
      go_wp2_with fail
      refine (refMix_any s hs' u hu _).mono ?_
      rintro e w9 ⟨rfl, rfl⟩
      go_wp2_with fail
      go_ret
      exact ⟨by simp, Below.drew (belowA hbw _)⟩
    | false =>
      have e : er = .iface 36 (.int .i64 2) := her.out
      subst e
      clear her
      go_wp2_with fail
      refine (isNum_any 2 2 _).mono ?_
      rintro e w7 ⟨rfl, hq2⟩
      replace hbw := below_next hbw hq2
      replace B5 := B5.on hq2
      replace B7 := B7.on hq2
      clear hq2
      obtain ⟨c0, c1, c2⟩ := B5
      obtain ⟨c3, c4, c5⟩ := B7
      have hconv := run_bytes_of_string (P := Tryd.prog) w7 9 44 5 s (by kernel_rfl) (by kernel_rfl) (by kernel_rfl)
      go_wp2_with fail
      refine (mix_any _ _ _ s.toList ?_ ?_ u hu _ (fun j hj => ?_)).mono ?_
      · rw [ba_len]
      · exact hs'
      · show (World.alloc w7 (.cells (bytesRow s (grownCap w7 s.size 0 5)) 5 _)).cell? _ = _
        rw [World.cell?_alloc_mark]
        unfold bytesRow
        have hjs : j < s.size := by rw [← ba_len]; exact hj
        rw [Array.getElem?_append_left (by simpa using hjs)]
        have := ba_get hjs
        rw [List.getElem?_eq_getElem hj] at this
        injection this with this
        rw [this]
        simp
        exact ⟨s[j]'hjs, Array.getElem?_eq_getElem hjs, rfl⟩
      rintro e w8 ⟨rfl, rfl⟩
      go_wp2_with fail
      refine (refMix_any s hs' u hu _).mono ?_
      rintro e w9 ⟨rfl, rfl⟩
      go_wp2_with fail
      go_ret
      exact ⟨by simp, Below.drew (belowA hbw _)⟩
end Go.Proofs.YtpjdjiohdhekaaaDoor
