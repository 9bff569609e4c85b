/- Of: the relation of a list of tuples. -/
import Derived.Test.YtgomfmfaoeojkaaRelDrop
namespace Go.Proofs.Ytgomfmfaoeojkaa
open Go.RowKit

/-- one tuple behind the other; an error's number -/
def ofGo (ar : Int) : List (List GV) → List (List GV) → Int × List (List GV)
  | L, [] => (0, L)
  | L, t :: l => if addE ar L t = 0 then ofGo ar (addL ar L t) l else (addE ar L t, L)
def ofE (ar : Int) (l : List (List GV)) : Int := if 0 ≤ ar ∧ ar ≤ 6 then (ofGo ar [] l).1 else 6
def ofL (ar : Int) (l : List (List GV)) : List (List GV) := (ofGo ar [] l).2
theorem ofGo_at {ar : Int} {L l : List (List GV)} {k : Nat} {t : List GV} (h : l[k]? = some t) : ofGo ar L (l.drop k) = if addE ar L t = 0 then ofGo ar (addL ar L t) (l.drop (k + 1)) else (addE ar L t, L) := by
  obtain ⟨hk, rfl⟩ := List.getElem?_eq_some_iff.1 h
  rw [List.drop_eq_getElem_cons hk, ofGo]

/-- the blocks of a relation -/
theorem RelAt.own {w : World} {S : List Nat} {p : Nat} {rb : Option Nat} {ar : Int} {L : List (List GV)} (h : RelAt w S p rb ar L) : RelAt w (p :: rb.toList) p rb ar L := by
  refine h.out (T := []) (Out.refl [] w) (fun _ h _ => by cases h) ?_ (by simp) (fun b hb => by simp [hb])
  intro b hb _
  simp at hb
  rcases hb with rfl | hb
  · exact h.pS
  · exact (h.rS b hb).1
/-- a relation all of whose blocks are new -/
def RelNew (base : Nat) (w : World) (p : Nat) (ar : Int) (L : List (List GV)) : Prop := ∃ rb : Option Nat, RelAt w (p :: rb.toList) p rb ar L ∧ base ≤ p ∧ p < w.heap.size ∧ ∀ b, rb = some b → base ≤ b ∧ b < w.heap.size
def OfPost (base : Nat) (ar : Int) (x : Int) (L : List (List GV)) (w : World) (e : Ending) (w' : World) : Prop :=
  Below base w w' ∧ ((x = 0 ∧ ∃ p, e = .returned (.tuple #[relP p, .nilIface]) ∧ RelNew base w' p ar L) ∨ (x ≠ 0 ∧ e = .returned (.tuple #[.pointer none, .iface 45 (.int .i64 x)])))

theorem RelNew.add {base : Nat} {w w' : World} {p : Nat} {ar : Int} {L : List (List GV)} {rb : Option Nat} (hp : base ≤ p) (hpl : p < w.heap.size) (hrb : ∀ b, rb = some b → base ≤ b ∧ b < w.heap.size) (hB : base ≤ w.heap.size)
    {rb' : Option Nat} (hr : RelAt w' (rb'.toList ++ (p :: rb.toList)) p rb' ar L) (ho : Out (p :: rb.toList) w w') (h3 : ∀ b, rb' = some b → b < w'.heap.size ∧ (rb = some b ∨ w.heap.size ≤ b)) :
    RelNew base w' p ar L ∧ Below base w w' := by
  have hs := ho.size
  refine ⟨⟨rb', hr.own, hp, by omega, fun b hb => ⟨?_, (h3 b hb).1⟩⟩, ho.below ?_ hB⟩
  · rcases (h3 b hb).2 with q | q
    · exact (hrb b q).1
    · omega
  · intro b hb
    simp at hb
    rcases hb with rfl | hb
    · exact hp
    · exact (hrb b hb).1
theorem add_new {base : Nat} {w : World} {p : Nat} {ar : Int} {L : List (List GV)} (h : RelNew base w p ar L) (hB : base ≤ w.heap.size) (A : Option Addr) (n d : Nat) (t : List GV) (ht : SliceIs Enc.val w w.heap.size A n d t) :
    Calls Try.prog 17 #[relP p, .slice A n d] w (fun e w' => e = .returned (.tuple #[.bool (addB ar L t), errV 45 (addE ar L t)]) ∧ RelNew base w' p ar (addL ar L t) ∧ Below base w w') := by
  obtain ⟨rb, hr, hp, hpl, hrb⟩ := h
  refine (add_any hr ?_ A n d t ht).mono ?_
  · intro b hb
    simp at hb
    rcases hb with rfl | hb
    · exact hpl
    · exact (hrb b hb).2
  · rintro e w' ⟨rb', he, hr', ho, h3⟩
    exact ⟨he, RelNew.add hp hpl hrb hB hr' ho h3⟩

set_option maxRecDepth 100000 in
set_option maxHeartbeats 1000000 in
theorem of_any (ar : Int) (A : Option Addr) (n c : Nat) (l : List (List GV)) (w : World) (hl : SliceIs (Enc.slice Enc.val) w w.heap.size A n c l) :
    Calls Try.prog 11 #[.int .i64 ar, .slice A n c] w (OfPost w.heap.size ar (ofE ar l) (ofL ar l) w) := by
  have HL := Lib.hid hl
  have hbd := hl.bound
  have Hll := Lib.hid hl.1
  by_cases h06 : 0 ≤ ar ∧ ar ≤ 6
  · obtain ⟨h0, h6⟩ := h06
    have HE : Hid (ofE ar l = (ofGo ar [] (l.drop 0)).1 ∧ ofL ar l = (ofGo ar [] (l.drop 0)).2) := by
      show _ ∧ _
      exact ⟨by simp [ofE, h0, h6], by simp [ofL]⟩
    generalize ofE ar l = x at HE ⊢
    generalize ofL ar l = M at HE ⊢
    have HN := Lib.hid (new_yes ar h0 h6 w)
    clear hl
    go_enter Try.func11, Try.ntmps11
    go_wp2_with fail
    refine HN.out.mono ?_
    rintro e w1 ⟨rfl, rfl⟩
    have HR0 : RelNew w.heap.size (w.alloc (.cells #[.int .i64 ar, .slice none 0 0] 77)) w.heap.size ar [] := ⟨none, RelAt.new ar (by simp), Nat.le_refl _, by simp, fun b hb => by cases hb⟩
    have HB0 := belowA (Below.refl w.heap.size w) (.cells #[.int .i64 ar, .slice none 0 0] 77)
    have hsz := HB0.size
    generalize w.alloc (.cells #[.int .i64 ar, .slice none 0 0] 77) = w1 at HR0 HB0 hsz ⊢
    have HR1 := Lib.hid HR0
    clear HR0
    obtain ⟨p, Hp⟩ : ∃ p, Hid (p = w.heap.size) := ⟨_, rfl⟩
    unfold relP
    rw [← Hp.out]
    have HR2 : Hid (RelNew w.heap.size w1 p ar []) := by rw [Hp.out]; exact HR1.out
    clear HR1 Hp
    go_wp2_with fail
    go_loopw [9, 10, 11, 22] (fun _ _ _ i wr => ∃ (k : Nat) (L : List (List GV)), k ≤ n ∧ i = .int .i64 k ∧ Hid (x = (ofGo ar L (l.drop k)).1 ∧ M = (ofGo ar L (l.drop k)).2) ∧ Hid (RelNew w.heap.size wr p ar L) ∧ Below w.heap.size w wr) (fun _ _ _ i _ => n - (intOf i).toNat)
    case atStart => exact ⟨0, [], by omega, rfl, HE, HR2, HB0⟩
    case round =>
      obtain ⟨k, L, hk, rfl, HX, HR, hbr⟩ := hrel
      have i0 : (0 : Int) ≤ (k : Int) := by omega
      by_cases hlt : k < n
      · have i1 : (k : Int) < (n : Int) := by omega
        obtain ⟨b, o, t, A1, n1, c1, rfl, hb, hx, hc, h1⟩ := (HL.out.below hbr).slice_at hlt
        have HA := Lib.hid (add_new HR.out hbr.size A1 n1 c1 t (h1.mono hbr.size (fun _ _ => rfl)))
        have HG := Lib.hid (ofGo_at (ar := ar) (L := L) hx.out)
        clear h1
        unfold relP at HA
        go_wp2_with fail
        refine HA.out.mono ?_
        rintro e w2 ⟨rfl, hr2, hb2⟩
        have HR2 := Lib.hid hr2
        have hb3 : Below w.heap.size w w2 := hbr.trans hb2
        clear hr2
        by_cases hz : addE ar L t = 0
        · have HX2 : Hid (x = (ofGo ar (addL ar L t) (l.drop (k + 1))).1 ∧ M = (ofGo ar (addL ar L t) (l.drop (k + 1))).2) := by
            have h1 := HX.out
            rw [HG.out, if_pos hz] at h1
            exact h1
          have he : errV 45 (addE ar L t) = .nilIface := by simp [errV, hz]
          rw [he]
          clear hz HX HG he hx
          generalize addB ar L t = r
          generalize addL ar L t = L2 at HX2 HR2
          go_wp2_with fail
          go_roundw
          case rel => exact ⟨k + 1, L2, by omega, by go_num, HX2, HR2, hb3⟩
          case measure => simp [intOf]; omega
        · have HX2 : Hid (x = addE ar L t) := by
            have h1 := HX.out.1
            rw [HG.out, if_neg hz] at h1
            exact h1
          have he : errV 45 (addE ar L t) = .iface 45 (.int .i64 (addE ar L t)) := by simp [errV, hz]
          rw [he]
          have Hz := Lib.hid hz
          clear hz HX HG he hx HR2
          generalize addB ar L t = r
          generalize addE ar L t = y at HX2 Hz
          go_wp2_with fail
          go_ret2
          obtain rfl := HX2.out
          exact ⟨hb3, .inr ⟨Hz.out, rfl⟩⟩
      · have i1 : ¬ (k : Int) < (n : Int) := by omega
        have HX2 : Hid (x = 0 ∧ M = L) := by
          have h1 := HX.out
          rw [List.drop_eq_nil_of_le (by have : l.length = n := Hll.out; omega)] at h1
          exact h1
        clear HX
        go_wp2_with fail
        go_ret2
        obtain ⟨rfl, rfl⟩ := HX2.out
        exact ⟨hbr, .inl ⟨rfl, p, rfl, HR.out⟩⟩
  · have HE : Hid (ofE ar l = 6) := by show _ = _; simp [ofE]; omega
    rw [HE.out]
    have HN := Lib.hid (new_no ar (by omega) w)
    clear hl
    go_enter Try.func11, Try.ntmps11
    go_wp2_with fail
    refine HN.out.mono ?_
    rintro e w1 ⟨rfl, rfl⟩
    go_wp2_with fail
    go_ret2
    exact ⟨Below.refl _ _, .inr ⟨by decide, rfl⟩⟩
end Go.Proofs.Ytgomfmfaoeojkaa
