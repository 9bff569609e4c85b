/- value.Text and the document's, value.Of, Symbol: at every value. -/
import Derived.Test.YtplekbpmfaghbaaGreatDoorName
import Derived.Test.YtplekbpmfaghbaaGreatDoorTab
import Derived.Test.YtplekbpmfaghbaaGreatDoorStDigits
namespace Go.Proofs.YtplekbpmfaghbaaGreatDoor
open Go.RowKit

def bnd (n : Int) : Bool := decide (-2147483647 ≤ n) && decide (n ≤ 2147483647)
/-- a value's text -/
def textOf (v : GV) : List UInt8 := if rightB v then (if v.k = 2 then v.s.toList else Lib.itoa v.n) else []

theorem bytes_back (s : ByteArray) : (⟨s.toList.toArray⟩ : ByteArray) = s := by
  rw [ByteArray.toList_eq]

set_option maxRecDepth 100000 in
set_option maxHeartbeats 400000 in
theorem text_any (v : GV) (hv : fits v.n) (w : World) (h : TabW w) : Calls Tryz.prog 153 #[v.v] w (RetV (.string ⟨(textOf v).toArray⟩) w) := by
  have HT := Lib.hid h
  have Hv := Lib.hid hv
  have hr := fun w => right_any v w
  cases hR : rightB v with
  | false =>
    rw [hR] at hr
    have hr := Lib.hid hr
    rw [show textOf v = [] by simp [textOf, hR]]
    clear h hv hR
    go_enter Tryz.func153, Tryz.ntmps153
    go_wp2_with (go_at_call 60; refine (hr.out _).mono ?_; rintro e w1 ⟨rfl, hq1⟩)
    go_ret
    exact ⟨rfl, below_next (belowA (Below.refl _ w) _) hq1⟩
  | true =>
    rw [hR] at hr
    have hr := Lib.hid hr
    by_cases hk : v.k = 2
    · have hk' : (v.k == 2) = true := by simp [hk]
      rw [show textOf v = v.s.toList by simp [textOf, hR, hk], bytes_back]
      clear h hv hR hk
      go_enter Tryz.func153, Tryz.ntmps153
      go_wp2_with (go_at_call 60; refine (hr.out _).mono ?_; rintro e w1 ⟨rfl, hq1⟩; obtain ⟨hc, hf⟩ := bcell hq1; simp only [World.size_alloc] at hc hf)
      go_ret
      exact ⟨rfl, below_next (belowA (Below.refl _ w) _) hq1⟩
    · have hk' : (v.k == 2) = false := by simp [hk]
      have ht : textOf v = Lib.itoa v.n := by simp [textOf, hR, hk]
      rw [ht]
      clear h hv hR hk ht
      go_enter Tryz.func153, Tryz.ntmps153
      go_wp2_with (first
        | (go_at_call 60
           refine (hr.out _).mono ?_
           rintro e w1 ⟨rfl, hq1⟩
           have hbw := below_next (belowA (Below.refl _ w) _) hq1
           obtain ⟨hc, hf⟩ := bcell hq1
           simp only [World.size_alloc] at hc hf)
        | (go_at_call 179
           refine (itoa_any _ Hv.out _ (HT.out.on hbw)).mono ?_
           rintro e w2 ⟨s, hs, -, rfl, hq2⟩))
      go_ret
      exact ⟨by rw [hs.out]; rfl, below_next hbw hq2⟩

set_option maxRecDepth 100000 in
set_option maxHeartbeats 400000 in
theorem refText_any (v : GV) (hv : v.ok) (w : World) : Calls Tryz.prog 119 #[v.v] w (RetV (.string ⟨(textOf v).toArray⟩) w) := by
  have hv' := (fits_iff _).1 hv.2.1
  have hd := Lib.hid (digits_any _ v.n (Nat.lt_succ_self _) hv'.1 hv'.2)
  have hr := fun w => refRight_any v hv w
  clear hv'
  cases hR : rightB v with
  | false =>
    rw [hR] at hr
    have hr := Lib.hid hr
    rw [show textOf v = [] by simp [textOf, hR]]
    clear hv hR
    go_enter Tryz.func119, Tryz.ntmps119
    go_wp2_with (go_at_call 59; refine (hr.out _).mono ?_; rintro e w1 ⟨rfl, hq1⟩)
    go_ret
    exact ⟨rfl, below_next (belowA (Below.refl _ w) _) hq1⟩
  | true =>
    rw [hR] at hr
    have hr := Lib.hid hr
    by_cases hk : v.k = 2
    · have hk' : (v.k == 2) = true := by simp [hk]
      rw [show textOf v = v.s.toList by simp [textOf, hR, hk], bytes_back]
      clear hv hR hk
      go_enter Tryz.func119, Tryz.ntmps119
      go_wp2_with (go_at_call 59; refine (hr.out _).mono ?_; rintro e w1 ⟨rfl, hq1⟩; obtain ⟨hc, hf⟩ := bcell hq1; simp only [World.size_alloc] at hc hf)
      go_ret
      exact ⟨rfl, below_next (belowA (Below.refl _ w) _) hq1⟩
    · have hk' : (v.k == 2) = false := by simp [hk]
      have ht : textOf v = Lib.itoa v.n := by simp [textOf, hR, hk]
      rw [ht]
      clear hv hR hk ht
      go_enter Tryz.func119, Tryz.ntmps119
      go_wp2_with (first
        | (go_at_call 59
           refine (hr.out _).mono ?_
           rintro e w1 ⟨rfl, hq1⟩
           have hbw := below_next (belowA (Below.refl _ w) _) hq1
           obtain ⟨hc, hf⟩ := bcell hq1
           simp only [World.size_alloc] at hc hf)
        | (go_at_call 155
           refine (hd.out _).mono ?_
           rintro e w2 ⟨s, hs, -, rfl, rfl⟩))
      go_ret
      exact ⟨by rw [hs.out]; rfl, hbw⟩
end Go.Proofs.YtplekbpmfaghbaaGreatDoor
