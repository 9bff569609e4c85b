/- RelLaws: the walk. -/
import Derived.Test.YtgomfmfaoeojkaaRelSets0
import Derived.Test.YtgomfmfaoeojkaaRelAlive
import Derived.Test.YtgomfmfaoeojkaaRelWInv
namespace Go.Proofs.Ytgomfmfaoeojkaa
open Go.RowKit Go.Shelf

theorem ofL_len (ar : Int) (l : List (List GV)) : (ofL ar l).length ≤ l.length := by
  have h1 := ofGo_sub (ar := ar) l []
  simp at h1
  exact h1
theorem sie_len (kp : List GV → Bool) (L : List (List GV)) : (sieL kp L).length ≤ L.length := List.length_filter_le _ _
theorem laws_z {L M Z : List (List GV)} (hL : Sorted L) (hZ : Sorted Z) (h : Z = uniL (sieL (inM M) L) (sieL (outM M) L)) : Z = L := by
  refine sorted_ext hZ hL fun x => ?_
  rw [h, mem_uni]
  simp only [sieL, inM, outM, List.mem_filter]
  by_cases hx : x ∈ M <;> simp [hx]
theorem laws_none (L M : List (List GV)) : sieL (outM M) (sieL (inM M) L) = [] := by
  unfold sieL inM outM
  rw [List.filter_eq_nil_iff]
  intro x hx
  have := (List.mem_filter.1 hx).2
  simpa using this
theorem laws_swap {L M U V : List (List GV)} (hU : Sorted U) (hV : Sorted V) (h1 : U = uniL L M) (h2 : V = uniL M L) : U = V := by
  refine sorted_ext hU hV fun x => ?_
  rw [h1, h2, mem_uni, mem_uni]; exact Or.comm

set_option maxRecDepth 100000 in
set_option maxHeartbeats 4000000 in
theorem relLaws_walk (ar : Int) (A B : Option Addr) (n c m d : Nat) (a b : List (List GV)) (w : World) (ha : SliceIs (Enc.slice Enc.val) w w.heap.size A n c a) (hb : SliceIs (Enc.slice Enc.val) w w.heap.size B m d b) :
    Calls Try.prog 6 #[.int .i64 ar, .slice A n c, .slice B m d] w (RetBool true w) := by
  have HA := Lib.hid ha
  have HB := Lib.hid hb
  have hna := ha.bound
  have hnb := hb.bound
  clear ha hb
  go_enter Try.func6, Try.ntmps6
  go_wp2_with fail
  refine (alive_any _).mono ?_
  rintro e w1 ⟨rfl, hb1⟩
  have H1 := Lib.hid (large_any A n c a w1 (HA.out.mono hb1.size hb1.block))
  go_wp2_with fail
  refine H1.out.mono ?_
  rintro e w2 ⟨r, rfl, hr, hq⟩
  replace hb1 := below_next hb1 hq
  clear H1 hq
  cases r with
  | true =>
    clear hr
    go_wp2_with fail
    go_ret
    exact ⟨rfl, hb1⟩
  | false =>
  obtain ⟨la, -⟩ := hr rfl
  clear hr
  have H1 := Lib.hid (large_any B m d b w2 (HB.out.mono hb1.size hb1.block))
  go_wp2_with fail
  refine H1.out.mono ?_
  rintro e w3 ⟨r, rfl, hr, hq⟩
  replace hb1 := below_next hb1 hq
  clear H1 hq
  cases r with
  | true =>
    clear hr
    go_wp2_with fail
    go_ret
    exact ⟨rfl, hb1⟩
  | false =>
  obtain ⟨lb, -⟩ := hr rfl
  clear hr
  have H1 := Lib.hid (of_any ar A n c a w3 (HA.out.mono hb1.size hb1.block))
  go_wp2_with fail
  refine H1.out.mono ?_
  rintro e w4 ⟨hq, hor⟩
  replace hb1 := below_next hb1 hq
  have H2 := Lib.hid (of_any ar B m d b w4 (HB.out.mono hb1.size hb1.block))
  clear H1 hq
  have lL := ofL_len ar a
  have lM := ofL_len ar b
  rcases hor with ⟨-, x, rfl, hx⟩ | ⟨-, rfl⟩
  rotate_left
  · go_wp2_with fail
    refine H2.out.mono ?_
    rintro e w5 ⟨hq, hor2⟩
    replace hb1 := below_next hb1 hq
    rcases hor2 with ⟨-, y, rfl, hy⟩ | ⟨-, rfl⟩
    · clear hy
      go_wp2_with fail
      go_ret
      exact ⟨rfl, hb1⟩
    · go_wp2_with fail
      go_ret
      exact ⟨rfl, hb1⟩
  have HX := Lib.hid hx
  clear hx
  unfold relP
  go_wp2_with fail
  refine H2.out.mono ?_
  rintro e w5 ⟨hq, hor2⟩
  replace hb1 := below_next hb1 hq
  have HQ := Lib.hid hq
  clear hq H2
  rcases hor2 with ⟨-, y, rfl, hy⟩ | ⟨-, rfl⟩
  rotate_left
  · go_wp2_with fail
    go_ret
    exact ⟨rfl, hb1⟩
  obtain ⟨rbx, rx, -, -, -⟩ := HX.out
  obtain ⟨rby, ry, -, -, -⟩ := hy
  generalize ofL ar a = L at rx lL
  generalize ofL ar b = M at ry lM
  have hlM : L.length + M.length ≤ 2000 := by omega
  have HXr := Lib.hid (rx.on HQ.out)
  have HYr := Lib.hid ry
  clear HX HQ rx ry
  have H1 := Lib.hid (union_any HXr.out HYr.out hlM)
  unfold relP at H1 ⊢
  go_wp2_with fail
  refine H1.out.mono ?_
  rintro e w6 ⟨hq, u, rfl, ⟨rbu, ru, -, -, -⟩⟩
  replace hb1 := below_next hb1 hq
  have HX6 := Lib.hid (HXr.out.on hq)
  have HY6 := Lib.hid (HYr.out.on hq)
  have HU6 := Lib.hid ru
  have H2 := Lib.hid (union_any HY6.out HX6.out (by omega))
  clear H1 hq ru HXr HYr
  unfold relP at H2 ⊢
  go_wp2_with fail
  refine H2.out.mono ?_
  rintro e w7 ⟨hq, v, rfl, ⟨rbv, rv, -, -, -⟩⟩
  replace hb1 := below_next hb1 hq
  have HX7 := Lib.hid (HX6.out.on hq)
  have HY7 := Lib.hid (HY6.out.on hq)
  have HU7 := Lib.hid (HU6.out.on hq)
  have HV7 := Lib.hid rv
  have H1 := Lib.hid (minus_any HX7.out HY7.out)
  clear H2 hq rv HX6 HY6 HU6
  unfold relP at H1 ⊢
  go_wp2_with fail
  refine H1.out.mono ?_
  rintro e w8 ⟨hq, dd, rfl, ⟨rbd, rd, -, -, -⟩⟩
  replace hb1 := below_next hb1 hq
  have HX8 := Lib.hid (HX7.out.on hq)
  have HY8 := Lib.hid (HY7.out.on hq)
  have HU8 := Lib.hid (HU7.out.on hq)
  have HV8 := Lib.hid (HV7.out.on hq)
  have HD8 := Lib.hid rd
  have H2 := Lib.hid (both_any HX8.out HY8.out)
  clear H1 hq rd HX7 HY7 HU7 HV7
  unfold relP at H2 ⊢
  go_wp2_with fail
  refine H2.out.mono ?_
  rintro e w9 ⟨hq, ww, rfl, ⟨rbw, rw9, -, -, -⟩⟩
  replace hb1 := below_next hb1 hq
  have HX9 := Lib.hid (HX8.out.on hq)
  have HY9 := Lib.hid (HY8.out.on hq)
  have HU9 := Lib.hid (HU8.out.on hq)
  have HV9 := Lib.hid (HV8.out.on hq)
  have HD9 := Lib.hid (HD8.out.on hq)
  have HW9 := Lib.hid rw9
  have H1 := Lib.hid (same_any HU9.out HV9.out)
  rw [show decide (uniL L M = uniL M L) = true by simpa using laws_swap HU9.out.sorted HV9.out.sorted rfl rfl] at H1
  clear H2 hq rw9 HX8 HY8 HU8 HV8 HD8
  unfold relP at H1 ⊢
  go_wp2_with fail
  refine H1.out.mono ?_
  rintro e w10 ⟨rfl, hq⟩
  replace hb1 := below_next hb1 hq
  have HX10 := Lib.hid (HX9.out.on hq)
  have HY10 := Lib.hid (HY9.out.on hq)
  have HD10 := Lib.hid (HD9.out.on hq)
  have HW10 := Lib.hid (HW9.out.on hq)
  have H2 := Lib.hid (union_any HD10.out HW10.out (by have := sie_len (inM M) L; have := sie_len (outM M) L; omega))
  clear H1 hq HX9 HY9 HU9 HV9 HD9 HW9
  unfold relP at H2
  go_wp2_with fail
  refine H2.out.mono ?_
  rintro e w11 ⟨hq, z, rfl, ⟨rbz, rz, -, -, -⟩⟩
  replace hb1 := below_next hb1 hq
  have HX11 := Lib.hid (HX10.out.on hq)
  have HY11 := Lib.hid (HY10.out.on hq)
  have HD11 := Lib.hid (HD10.out.on hq)
  have HZ11 := Lib.hid rz
  have H1 := Lib.hid (both_any HD11.out HY11.out)
  rw [laws_none] at H1
  clear H2 hq rz HX10 HY10 HD10 HW10
  unfold relP at H1 ⊢
  go_wp2_with fail
  refine H1.out.mono ?_
  rintro e w12 ⟨hq, nn, rfl, ⟨rbn, rn, -, -, -⟩⟩
  replace hb1 := below_next hb1 hq
  have HX12 := Lib.hid (HX11.out.on hq)
  have HZ12 := Lib.hid (HZ11.out.on hq)
  have HN12 := Lib.hid rn
  have H2 := Lib.hid (same_any HZ12.out HX12.out)
  rw [show decide (uniL (sieL (inM M) L) (sieL (outM M) L) = L) = true by simpa using laws_z HX12.out.sorted HZ12.out.sorted rfl] at H2
  clear H1 hq rn HX11 HY11 HD11 HZ11
  unfold relP at H2 ⊢
  go_wp2_with fail
  refine H2.out.mono ?_
  rintro e w13 ⟨rfl, hq⟩
  replace hb1 := below_next hb1 hq
  have H1 := Lib.hid (len_any (HN12.out.on hq))
  clear H2 hq HX12 HZ12
  unfold relP at H1
  go_wp2_with fail
  refine H1.out.mono ?_
  rintro e w14 ⟨rfl, rfl⟩
  go_wp2_with fail
  go_ret
  exact ⟨by simp, hb1⟩
end Go.Proofs.Ytgomfmfaoeojkaa
