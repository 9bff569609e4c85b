/- arith.Term and the document's: what a term comes to. -/
import Derived.Test.YtplekbpmfaghbaaGreatDoorArA
import Derived.Test.YtplekbpmfaghbaaGreatDoorArMap
namespace Go.Proofs.YtplekbpmfaghbaaGreatDoor
open Go.RowKit

abbrev GTold.v' (t : GTold) : Value := .agg #[.string t.x, .int .i64 t.v.k, .int .i64 t.v.n, .string t.v.s]
def TermErr (p : GV × Int) (err : Int → Value) (w : World) (e : Ending) (w' : World) : Prop :=
  e = .returned (.tuple #[p.1.v, err p.2]) ∧ Below w.heap.size w w'

set_option maxRecDepth 100000 in
set_option maxHeartbeats 1000000 in
theorem aterm_any (m : Value) (f : ByteArray → Option GV) (t : GTold) (w : World) (hm : EnvIs w m f) :
    Calls Tryz.prog 49 #[t.v', m] w (TermErr (termS f t) (errV 90) w) := by
  by_cases hem : t.x.toList = []
  · have hem0 : t.x.size = 0 := str_empty.1 hem
    have he1 : t.x.toList.isEmpty = true := by simp [hem]
    have hr := fun W => right_any t.v W
    cases hb : rightB t.v with
    | true =>
      have HR : Hid (termS f t = (t.v, 0)) := by show termS f t = (t.v, 0); simp [termS, hem0, hb]
      rw [hb] at hr
      have hr := Lib.hid hr
      clear hem hem0 hb hm
      go_enter Tryz.func49, Tryz.ntmps49
      go_wp2_with fail
      refine (hr.out _).mono ?_
      rintro e w1 ⟨rfl, hb⟩
      obtain ⟨hc, hf⟩ := bcell hb
      have hz := hb.size
      have hb := Lib.hid hb
      simp only [World.size_alloc, Nat.add_one_le_iff] at hz hc hf
      go_wp2_with fail
      exact bodyPost_ret (v := .tuple #[t.v.v, .nilIface]) (by simp [results, Tryz.results49, go_sem, hc]) rfl ⟨by rw [HR.out]; rfl, ((below_next (belowA (belowA (Below.refl _ _) _) _) hb.out).setCell (by simp) _).setCell (by simp) _ |>.setCell (by simp) _⟩
    | false =>
      have HR : Hid (termS f t = (gv0, 2)) := by show termS f t = (gv0, 2); simp [termS, hem0, hb]
      rw [hb] at hr
      have hr := Lib.hid hr
      clear hem hem0 hb hm
      go_enter Tryz.func49, Tryz.ntmps49
      go_wp2_with fail
      refine (hr.out _).mono ?_
      rintro e w1 ⟨rfl, hb⟩
      obtain ⟨hc, hf⟩ := bcell hb
      have hz := hb.size
      have hb := Lib.hid hb
      simp only [World.size_alloc, Nat.add_one_le_iff] at hz hc hf
      go_wp2_with fail
      exact bodyPost_ret (v := .tuple #[gv0.v, .iface 90 (.int .i64 2)]) (by simp [results, Tryz.results49, go_sem, hc, gv0]) rfl ⟨by rw [HR.out]; rfl, ((below_next (belowA (belowA (Below.refl _ _) _) _) hb.out).setCell (by simp) _).setCell (by simp) _ |>.setCell (by simp) _⟩
  · have hem0 : ¬ t.x.size = 0 := fun h => hem (str_empty.2 h)
    have he1 : t.x.toList.isEmpty = false := by simpa using hem
    have hlkp := fun o1 o2 => (hm.below (belowA (belowA (Below.refl w.heap.size w) o1) o2)).lookup t.x
    clear hm
    cases hfx : f t.x with
    | none =>
      have HR : Hid (termS f t = (gv0, 13)) := by show termS f t = (gv0, 13); simp [termS, hem0, hfx]
      rw [hfx] at hlkp
      simp only [Option.getD_none, Option.isSome_none] at hlkp
      clear hem hem0 hfx
      go_enter Tryz.func49, Tryz.ntmps49
      go_wp2_with fail
      exact bodyPost_ret (v := .tuple #[gv0.v, .iface 90 (.int .i64 13)]) (by simp [results, Tryz.results49, go_sem, gv0]) rfl ⟨by rw [HR.out]; rfl, belowA (belowA (belowA (Below.refl _ _) _) _) _⟩
    | some v =>
      rw [hfx] at hlkp
      simp only [Option.getD_some, Option.isSome_some] at hlkp
      have hr := fun W => right_any v W
      cases hb : rightB v with
      | true =>
        have HR : Hid (termS f t = (v, 0)) := by show termS f t = (v, 0); simp [termS, hem0, hfx, hb]
        rw [hb] at hr
        have hr := Lib.hid hr
        clear hem hem0 hb hfx
        go_enter Tryz.func49, Tryz.ntmps49
        go_wp2_with fail
        refine (hr.out _).mono ?_
        rintro e w1 ⟨rfl, hb⟩
        obtain ⟨hc, hf⟩ := bcell hb
        have hz := hb.size
        have hb := Lib.hid hb
        simp only [World.size_alloc, Nat.add_one_le_iff] at hz hc hf
        go_wp2_with fail
        exact bodyPost_ret (v := .tuple #[v.v, .nilIface]) (by simp [results, Tryz.results49, go_sem, hc]) rfl ⟨by rw [HR.out]; rfl, ((below_next (belowA (belowA (belowA (Below.refl _ _) _) _) _) hb.out).setCell (by simp) _).setCell (by simp) _ |>.setCell (by simp) _⟩
      | false =>
        have HR : Hid (termS f t = (gv0, 13)) := by show termS f t = (gv0, 13); simp [termS, hem0, hfx, hb]
        rw [hb] at hr
        have hr := Lib.hid hr
        clear hem hem0 hb hfx
        go_enter Tryz.func49, Tryz.ntmps49
        go_wp2_with fail
        refine (hr.out _).mono ?_
        rintro e w1 ⟨rfl, hb⟩
        obtain ⟨hc, hf⟩ := bcell hb
        have hz := hb.size
        have hb := Lib.hid hb
        simp only [World.size_alloc, Nat.add_one_le_iff] at hz hc hf
        go_wp2_with fail
        exact bodyPost_ret (v := .tuple #[gv0.v, .iface 90 (.int .i64 13)]) (by simp [results, Tryz.results49, go_sem, hc, gv0]) rfl ⟨by rw [HR.out]; rfl, ((below_next (belowA (belowA (belowA (Below.refl _ _) _) _) _) hb.out).setCell (by simp) _).setCell (by simp) _ |>.setCell (by simp) _⟩

def Got (v : GV) (b : Bool) (w : World) (e : Ending) (w' : World) : Prop := e = .returned (.tuple #[v.v, .bool b]) ∧ Below w.heap.size w w'
theorem get_none {f : Nat} {args : Array Value} {W : World} {l : List GTold} {s : ByteArray} (h : Calls Tryz.prog f args W (GetPost l s W)) (e : getT l s = none) : Calls Tryz.prog f args W (Got gv0 false W) :=
  h.mono fun _ _ ⟨h1, h2⟩ => ⟨by rw [h1, e]; rfl, h2⟩
theorem get_some {f : Nat} {args : Array Value} {W : World} {l : List GTold} {s : ByteArray} {v : GV} (h : Calls Tryz.prog f args W (GetPost l s W)) (e : getT l s = some v) : Calls Tryz.prog f args W (Got v true W) :=
  h.mono fun _ _ ⟨h1, h2⟩ => ⟨by rw [h1, e]; rfl, h2⟩

set_option maxRecDepth 100000 in
set_option maxHeartbeats 1000000 in
theorem refAterm_any (t : GTold) (A : Option Addr) (n c : Nat) (l : List GTold) (w : World) (hl : SliceIs Enc.told w w.heap.size A n c l) (ht : t.v.ok) (hok : ∀ s v, getT l s = some v → v.ok) :
    Calls Tryz.prog 50 #[t.v', .slice A n c] w (TermErr (termS (getT l) t) (fun e => .int .i64 e) w) := by
  have Hl := Lib.hid hl
  clear hl
  by_cases hem : t.x.toList = []
  · have hem0 : t.x.size = 0 := str_empty.1 hem
    have he1 : ¬ (0 : Int) < (t.x.size : Int) := by
      have h := congrArg List.length hem
      rw [ByteArray.toList_eq] at h
      have : t.x.size = 0 := h
      omega
    have hr := fun W => refRight_any t.v ht W
    cases hb : rightB t.v with
    | true =>
      have HR : Hid (termS (getT l) t = (t.v, 0)) := by show termS (getT l) t = (t.v, 0); simp [termS, hem0, hb]
      rw [hb] at hr
      have hr := Lib.hid hr
      clear hem hem0 hb hok ht
      go_enter Tryz.func50, Tryz.ntmps50
      go_wp2_with fail
      refine (hr.out _).mono ?_
      rintro e w1 ⟨rfl, hb⟩
      obtain ⟨hc, hf⟩ := bcell hb
      have hz := hb.size
      have hb := Lib.hid hb
      simp only [World.size_alloc, Nat.add_one_le_iff] at hz hc hf
      go_wp2_with fail
      exact bodyPost_ret (v := .tuple #[t.v.v, .int .i64 0]) (by simp [results, Tryz.results50, go_sem, hc]) rfl ⟨by rw [HR.out], ((below_next (belowA (belowA (Below.refl _ _) _) _) hb.out).setCell (by simp) _).setCell (by simp) _ |>.setCell (by simp) _⟩
    | false =>
      have HR : Hid (termS (getT l) t = (gv0, 2)) := by show termS (getT l) t = (gv0, 2); simp [termS, hem0, hb]
      rw [hb] at hr
      have hr := Lib.hid hr
      clear hem hem0 hb hok ht
      go_enter Tryz.func50, Tryz.ntmps50
      go_wp2_with fail
      refine (hr.out _).mono ?_
      rintro e w1 ⟨rfl, hb⟩
      obtain ⟨hc, hf⟩ := bcell hb
      have hz := hb.size
      have hb := Lib.hid hb
      simp only [World.size_alloc, Nat.add_one_le_iff] at hz hc hf
      go_wp2_with fail
      exact bodyPost_ret (v := .tuple #[gv0.v, .int .i64 2]) (by simp [results, Tryz.results50, go_sem, hc, gv0]) rfl ⟨by rw [HR.out], ((below_next (belowA (belowA (Below.refl _ _) _) _) hb.out).setCell (by simp) _).setCell (by simp) _ |>.setCell (by simp) _⟩
  · have hem0 : ¬ t.x.size = 0 := fun h => hem (str_empty.2 h)
    have he1 : (0 : Int) < (t.x.size : Int) := by
      have h : t.x.size ≠ 0 := fun h => hem (by rw [ByteArray.toList_eq]; exact List.eq_nil_of_length_eq_zero h)
      omega
    have Hok := Lib.hid hok
    clear hok ht
    have hg := fun W (h : Below w.heap.size w W) => get_any A n c l t.x W (Hl.out.keep h)
    cases hfx : getT l t.x with
    | none =>
      have HR : Hid (termS (getT l) t = (gv0, 13)) := by show termS (getT l) t = (gv0, 13); simp [termS, hem0, hfx]
      have hg := Lib.hid (fun W h => get_none (hg W h) hfx)
      clear hem hem0 hfx
      go_enter Tryz.func50, Tryz.ntmps50
      go_wp2_with fail
      refine (hg.out _ (belowA (belowA (Below.refl _ _) _) _)).mono ?_
      rintro e w1 ⟨rfl, hb⟩
      obtain ⟨hc, hf⟩ := bcell hb
      have hz := hb.size
      have hb := Lib.hid hb
      simp only [World.size_alloc, Nat.add_one_le_iff] at hz hc hf
      go_wp2_with fail
      exact bodyPost_ret (v := .tuple #[gv0.v, .int .i64 13]) (by simp [results, Tryz.results50, go_sem, hc, hz, gv0]) rfl ⟨by rw [HR.out], belowA (((below_next (belowA (belowA (Below.refl _ _) _) _) hb.out).setCell (by simp) _).setCell (by simp) _ |>.setCell (by simp) _) _⟩
    | some v =>
      have hg := Lib.hid (fun W h => get_some (hg W h) hfx)
      have hr := fun W => refRight_any v (Hok.out _ _ hfx) W
      cases hb : rightB v with
      | true =>
        have HR : Hid (termS (getT l) t = (v, 0)) := by show termS (getT l) t = (v, 0); simp [termS, hem0, hfx, hb]
        rw [hb] at hr
        have hr := Lib.hid hr
        clear hem hem0 hb hfx
        go_enter Tryz.func50, Tryz.ntmps50
        go_wp2_with fail
        refine (hg.out _ (belowA (belowA (Below.refl _ _) _) _)).mono ?_
        rintro e w1 ⟨rfl, hb⟩
        obtain ⟨hc, hf⟩ := bcell hb
        have hz := hb.size
        have hb := Lib.hid hb
        simp only [World.size_alloc, Nat.add_one_le_iff] at hz hc hf
        go_wp2_with fail
        refine (hr.out _).mono ?_
        rintro e w2 ⟨rfl, hb2⟩
        obtain ⟨hc2, hf2⟩ := bcell hb2
        have hz2 := hb2.size
        have hb2 := Lib.hid hb2
        simp only [World.size_alloc, Nat.add_one_le_iff] at hz2 hc2 hf2
        have hz3 : w.heap.size + 1 < w1.heap.size + 1 := by omega
        have hz4 : w.heap.size + 1 < w2.heap.size := by omega
        go_wp2_with fail
        exact bodyPost_ret (v := .tuple #[v.v, .int .i64 0]) (by simp [results, Tryz.results50, go_sem, hc, hc2, hz, hz3]) rfl ⟨by rw [HR.out], ((below_next (belowA (below_next (belowA (belowA (Below.refl _ _) _) _) hb.out) _) hb2.out).setCell (by simp) _).setCell (by simp) _ |>.setCell (by simp) _⟩
      | false =>
        have HR : Hid (termS (getT l) t = (gv0, 13)) := by show termS (getT l) t = (gv0, 13); simp [termS, hem0, hfx, hb]
        rw [hb] at hr
        have hr := Lib.hid hr
        clear hem hem0 hb hfx
        go_enter Tryz.func50, Tryz.ntmps50
        go_wp2_with fail
        refine (hg.out _ (belowA (belowA (Below.refl _ _) _) _)).mono ?_
        rintro e w1 ⟨rfl, hb⟩
        obtain ⟨hc, hf⟩ := bcell hb
        have hz := hb.size
        have hb := Lib.hid hb
        simp only [World.size_alloc, Nat.add_one_le_iff] at hz hc hf
        go_wp2_with fail
        refine (hr.out _).mono ?_
        rintro e w2 ⟨rfl, hb2⟩
        obtain ⟨hc2, hf2⟩ := bcell hb2
        have hz2 := hb2.size
        have hb2 := Lib.hid hb2
        simp only [World.size_alloc, Nat.add_one_le_iff] at hz2 hc2 hf2
        have hz3 : w.heap.size + 1 < w1.heap.size + 1 := by omega
        have hz4 : w.heap.size + 1 < w2.heap.size := by omega
        go_wp2_with fail
        exact bodyPost_ret (v := .tuple #[gv0.v, .int .i64 13]) (by simp [results, Tryz.results50, go_sem, hc, hc2, hz, hz3, gv0]) rfl ⟨by rw [HR.out], ((below_next (belowA (below_next (belowA (belowA (Below.refl _ _) _) _) hb.out) _) hb2.out).setCell (by simp) _).setCell (by simp) _ |>.setCell (by simp) _⟩
end Go.Proofs.YtplekbpmfaghbaaGreatDoor
