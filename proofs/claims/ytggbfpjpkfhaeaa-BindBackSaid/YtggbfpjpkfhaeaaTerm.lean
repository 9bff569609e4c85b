/- arith.Term and the document's: what a term comes to. -/
import Derived.Test.YtggbfpjpkfhaeaaName
import Derived.Test.YtggbfpjpkfhaeaaRow
namespace Go.Proofs.Ytggbfpjpkfhaeaa
open Go.RowKit

def termSpec (get : ByteArray → Option GV) (t : GTold) : GV × Int :=
  if t.x.toList = [] then (if rightB t.v then (t.v, 0) else (zeroV, 2))
  else match get t.x with
    | some v => if rightB v then (v, 0) else (zeroV, 13)
    | none => (zeroV, 13)
abbrev GTold.v' (t : GTold) : Value := .agg #[.string t.x, .int .i64 t.v.k, .int .i64 t.v.n, .string t.v.s]
def TermErr (p : GV × Int) (err : Int → Value) (w : World) (e : Ending) (w' : World) : Prop :=
  e = .returned (.tuple #[p.1.v, err p.2]) ∧ Below w.heap.size w w'

set_option maxRecDepth 100000 in
set_option maxHeartbeats 1000000 in
theorem term_any (g : Nat) (kvs : List (ByteArray × GV)) (t : GTold) (w : World) (hm : MapIs w g (gvs kvs)) :
    Calls Try.prog 40 #[t.v', .map (some g)] w (TermErr (termSpec (kvGet kvs) t) (errV 91) w) := by
  by_cases hem : t.x.toList = []
  · have he1 : t.x.toList.isEmpty = true := by simp [hem]
    have hr := fun W => right_any t.v W
    cases hb : rightB t.v with
    | true =>
      have HR : Hid (termSpec (kvGet kvs) t = (t.v, 0)) := by show termSpec (kvGet kvs) t = (t.v, 0); simp [termSpec, hem, hb]
      rw [hb] at hr
      have hr := Lib.hid hr
      clear hem hb hm
      go_enter Try.func40, Try.ntmps40
      go_wp2_with fail
      refine (hr.out _).mono ?_
      rintro e w1 ⟨rfl, hb⟩
      obtain ⟨hc, hf⟩ := bcell hb
      have hz := hb.size
      have hb := Lib.hid hb
      simp only [World.size_alloc, Nat.add_one_le_iff] at hz hc hf
      go_wp2_with fail
      exact bodyPost_ret (v := .tuple #[t.v.v, .nilIface]) (by simp [results, Try.results40, go_sem, hc]) rfl ⟨by rw [HR.out]; rfl, ((below_next (belowA (belowA (Below.refl _ _) _) _) hb.out).setCell (by simp) _).setCell (by simp) _ |>.setCell (by simp) _⟩
    | false =>
      have HR : Hid (termSpec (kvGet kvs) t = (zeroV, 2)) := by show termSpec (kvGet kvs) t = (zeroV, 2); simp [termSpec, hem, hb]
      rw [hb] at hr
      have hr := Lib.hid hr
      clear hem hb hm
      go_enter Try.func40, Try.ntmps40
      go_wp2_with fail
      refine (hr.out _).mono ?_
      rintro e w1 ⟨rfl, hb⟩
      obtain ⟨hc, hf⟩ := bcell hb
      have hz := hb.size
      have hb := Lib.hid hb
      simp only [World.size_alloc, Nat.add_one_le_iff] at hz hc hf
      go_wp2_with fail
      exact bodyPost_ret (v := .tuple #[zeroV.v, .iface 91 (.int .i64 2)]) (by simp [results, Try.results40, go_sem, hc, zeroV]) rfl ⟨by rw [HR.out]; rfl, ((below_next (belowA (belowA (Below.refl _ _) _) _) hb.out).setCell (by simp) _).setCell (by simp) _ |>.setCell (by simp) _⟩
  · have he1 : t.x.toList.isEmpty = false := by simpa using hem
    have hlkp := fun o1 o2 => ((hm.alloc o1).alloc o2).lookup_ok (P := Try.prog) (t := 35) (e := 63) Try.underlying35 Try.underlying9 (zero_value _) t.x
    rw [gvs_get] at hlkp
    clear hm
    cases hfx : kvGet kvs t.x with
    | none =>
      have HR : Hid (termSpec (kvGet kvs) t = (zeroV, 13)) := by show termSpec (kvGet kvs) t = (zeroV, 13); simp [termSpec, hem, hfx]
      rw [hfx] at hlkp
      simp only [Option.map_none, Option.getD_none, Option.isSome_none] at hlkp
      clear hem hfx
      go_enter Try.func40, Try.ntmps40
      go_wp2_with fail
      exact bodyPost_ret (v := .tuple #[zeroV.v, .iface 91 (.int .i64 13)]) (by simp [results, Try.results40, go_sem, zeroV]) rfl ⟨by rw [HR.out]; rfl, belowA (belowA (belowA (Below.refl _ _) _) _) _⟩
    | some v =>
      rw [hfx] at hlkp
      simp only [Option.map_some, Option.getD_some, Option.isSome_some] at hlkp
      have hr := fun W => right_any v W
      cases hb : rightB v with
      | true =>
        have HR : Hid (termSpec (kvGet kvs) t = (v, 0)) := by show termSpec (kvGet kvs) t = (v, 0); simp [termSpec, hem, hfx, hb]
        rw [hb] at hr
        have hr := Lib.hid hr
        clear hem hb hfx
        go_enter Try.func40, Try.ntmps40
        go_wp2_with fail
        refine (hr.out _).mono ?_
        rintro e w1 ⟨rfl, hb⟩
        obtain ⟨hc, hf⟩ := bcell hb
        have hz := hb.size
        have hb := Lib.hid hb
        simp only [World.size_alloc, Nat.add_one_le_iff] at hz hc hf
        go_wp2_with fail
        exact bodyPost_ret (v := .tuple #[v.v, .nilIface]) (by simp [results, Try.results40, go_sem, hc]) rfl ⟨by rw [HR.out]; rfl, ((below_next (belowA (belowA (belowA (Below.refl _ _) _) _) _) hb.out).setCell (by simp) _).setCell (by simp) _ |>.setCell (by simp) _⟩
      | false =>
        have HR : Hid (termSpec (kvGet kvs) t = (zeroV, 13)) := by show termSpec (kvGet kvs) t = (zeroV, 13); simp [termSpec, hem, hfx, hb]
        rw [hb] at hr
        have hr := Lib.hid hr
        clear hem hb hfx
        go_enter Try.func40, Try.ntmps40
        go_wp2_with fail
        refine (hr.out _).mono ?_
        rintro e w1 ⟨rfl, hb⟩
        obtain ⟨hc, hf⟩ := bcell hb
        have hz := hb.size
        have hb := Lib.hid hb
        simp only [World.size_alloc, Nat.add_one_le_iff] at hz hc hf
        go_wp2_with fail
        exact bodyPost_ret (v := .tuple #[zeroV.v, .iface 91 (.int .i64 13)]) (by simp [results, Try.results40, go_sem, hc, zeroV]) rfl ⟨by rw [HR.out]; rfl, ((below_next (belowA (belowA (belowA (Below.refl _ _) _) _) _) hb.out).setCell (by simp) _).setCell (by simp) _ |>.setCell (by simp) _⟩

def Got (v : GV) (b : Bool) (w : World) (e : Ending) (w' : World) : Prop := e = .returned (.tuple #[v.v, .bool b]) ∧ Below w.heap.size w w'
theorem get_none {f : Nat} {args : Array Value} {W : World} {l : List GTold} {s : ByteArray} (h : Calls Try.prog f args W (GetPost l s W)) (e : getT l s = none) : Calls Try.prog f args W (Got zeroV false W) :=
  h.mono fun _ _ ⟨h1, h2⟩ => ⟨by rw [h1, e]; rfl, h2⟩
theorem get_some {f : Nat} {args : Array Value} {W : World} {l : List GTold} {s : ByteArray} {v : GV} (h : Calls Try.prog f args W (GetPost l s W)) (e : getT l s = some v) : Calls Try.prog f args W (Got v true W) :=
  h.mono fun _ _ ⟨h1, h2⟩ => ⟨by rw [h1, e]; rfl, h2⟩

set_option maxRecDepth 100000 in
set_option maxHeartbeats 1000000 in
theorem refTerm_any (t : GTold) (A : Option Addr) (n c : Nat) (l : List GTold) (w : World) (hl : SliceIs Enc.told w w.heap.size A n c l) (ht : t.v.ok) (hok : ∀ s v, getT l s = some v → v.ok) :
    Calls Try.prog 41 #[t.v', .slice A n c] w (TermErr (termSpec (getT l) t) (fun e => .int .i64 e) w) := by
  have Hl := Lib.hid hl
  clear hl
  by_cases hem : t.x.toList = []
  · have he1 : ¬ (0 : Int) < (t.x.size : Int) := by
      have h := congrArg List.length hem
      rw [ByteArray.toList_eq] at h
      have : t.x.size = 0 := h
      omega
    have hr := fun W => refRight_any t.v ht W
    cases hb : rightB t.v with
    | true =>
      have HR : Hid (termSpec (getT l) t = (t.v, 0)) := by show termSpec (getT l) t = (t.v, 0); simp [termSpec, hem, hb]
      rw [hb] at hr
      have hr := Lib.hid hr
      clear hem hb hok ht
      go_enter Try.func41, Try.ntmps41
      go_wp2_with fail
      refine (hr.out _).mono ?_
      rintro e w1 ⟨rfl, hb⟩
      obtain ⟨hc, hf⟩ := bcell hb
      have hz := hb.size
      have hb := Lib.hid hb
      simp only [World.size_alloc, Nat.add_one_le_iff] at hz hc hf
      go_wp2_with fail
      exact bodyPost_ret (v := .tuple #[t.v.v, .int .i64 0]) (by simp [results, Try.results41, go_sem, hc]) rfl ⟨by rw [HR.out], ((below_next (belowA (belowA (Below.refl _ _) _) _) hb.out).setCell (by simp) _).setCell (by simp) _ |>.setCell (by simp) _⟩
    | false =>
      have HR : Hid (termSpec (getT l) t = (zeroV, 2)) := by show termSpec (getT l) t = (zeroV, 2); simp [termSpec, hem, hb]
      rw [hb] at hr
      have hr := Lib.hid hr
      clear hem hb hok ht
      go_enter Try.func41, Try.ntmps41
      go_wp2_with fail
      refine (hr.out _).mono ?_
      rintro e w1 ⟨rfl, hb⟩
      obtain ⟨hc, hf⟩ := bcell hb
      have hz := hb.size
      have hb := Lib.hid hb
      simp only [World.size_alloc, Nat.add_one_le_iff] at hz hc hf
      go_wp2_with fail
      exact bodyPost_ret (v := .tuple #[zeroV.v, .int .i64 2]) (by simp [results, Try.results41, go_sem, hc, zeroV]) rfl ⟨by rw [HR.out], ((below_next (belowA (belowA (Below.refl _ _) _) _) hb.out).setCell (by simp) _).setCell (by simp) _ |>.setCell (by simp) _⟩
  · have he1 : (0 : Int) < (t.x.size : Int) := by
      have h : t.x.size ≠ 0 := fun h => hem (by rw [ByteArray.toList_eq]; exact List.eq_nil_of_length_eq_zero h)
      omega
    have Hok := Lib.hid hok
    clear hok ht
    have hg := fun W (h : Below w.heap.size w W) => get_any A n c l t.x W (Hl.out.keep h)
    cases hfx : getT l t.x with
    | none =>
      have HR : Hid (termSpec (getT l) t = (zeroV, 13)) := by show termSpec (getT l) t = (zeroV, 13); simp [termSpec, hem, hfx]
      have hg := Lib.hid (fun W h => get_none (hg W h) hfx)
      clear hem hfx
      go_enter Try.func41, Try.ntmps41
      go_wp2_with fail
      refine (hg.out _ (belowA (belowA (Below.refl _ _) _) _)).mono ?_
      rintro e w1 ⟨rfl, hb⟩
      obtain ⟨hc, hf⟩ := bcell hb
      have hz := hb.size
      have hb := Lib.hid hb
      simp only [World.size_alloc, Nat.add_one_le_iff] at hz hc hf
      go_wp2_with fail
      exact bodyPost_ret (v := .tuple #[zeroV.v, .int .i64 13]) (by simp [results, Try.results41, go_sem, hc, hz, zeroV]) rfl ⟨by rw [HR.out], belowA (((below_next (belowA (belowA (Below.refl _ _) _) _) hb.out).setCell (by simp) _).setCell (by simp) _ |>.setCell (by simp) _) _⟩
    | some v =>
      have hg := Lib.hid (fun W h => get_some (hg W h) hfx)
      have hr := fun W => refRight_any v (Hok.out _ _ hfx) W
      cases hb : rightB v with
      | true =>
        have HR : Hid (termSpec (getT l) t = (v, 0)) := by show termSpec (getT l) t = (v, 0); simp [termSpec, hem, hfx, hb]
        rw [hb] at hr
        have hr := Lib.hid hr
        clear hem hb hfx
        go_enter Try.func41, Try.ntmps41
        go_wp2_with fail
        refine (hg.out _ (belowA (belowA (Below.refl _ _) _) _)).mono ?_
        rintro e w1 ⟨rfl, hb⟩
        obtain ⟨hc, hf⟩ := bcell hb
        have hz := hb.size
        have hb := Lib.hid hb
        simp only [World.size_alloc, Nat.add_one_le_iff] at hz hc hf
        go_wp2_with fail
        refine (hr.out _).mono ?_
        rintro e w2 ⟨rfl, hb2⟩
        obtain ⟨hc2, hf2⟩ := bcell hb2
        have hz2 := hb2.size
        have hb2 := Lib.hid hb2
        simp only [World.size_alloc, Nat.add_one_le_iff] at hz2 hc2 hf2
        have hz3 : w.heap.size + 1 < w1.heap.size + 1 := by omega
        have hz4 : w.heap.size + 1 < w2.heap.size := by omega
        go_wp2_with fail
        exact bodyPost_ret (v := .tuple #[v.v, .int .i64 0]) (by simp [results, Try.results41, go_sem, hc, hc2, hz, hz3]) rfl ⟨by rw [HR.out], ((below_next (belowA (below_next (belowA (belowA (Below.refl _ _) _) _) hb.out) _) hb2.out).setCell (by simp) _).setCell (by simp) _ |>.setCell (by simp) _⟩
      | false =>
        have HR : Hid (termSpec (getT l) t = (zeroV, 13)) := by show termSpec (getT l) t = (zeroV, 13); simp [termSpec, hem, hfx, hb]
        rw [hb] at hr
        have hr := Lib.hid hr
        clear hem hb hfx
        go_enter Try.func41, Try.ntmps41
        go_wp2_with fail
        refine (hg.out _ (belowA (belowA (Below.refl _ _) _) _)).mono ?_
        rintro e w1 ⟨rfl, hb⟩
        obtain ⟨hc, hf⟩ := bcell hb
        have hz := hb.size
        have hb := Lib.hid hb
        simp only [World.size_alloc, Nat.add_one_le_iff] at hz hc hf
        go_wp2_with fail
        refine (hr.out _).mono ?_
        rintro e w2 ⟨rfl, hb2⟩
        obtain ⟨hc2, hf2⟩ := bcell hb2
        have hz2 := hb2.size
        have hb2 := Lib.hid hb2
        simp only [World.size_alloc, Nat.add_one_le_iff] at hz2 hc2 hf2
        have hz3 : w.heap.size + 1 < w1.heap.size + 1 := by omega
        have hz4 : w.heap.size + 1 < w2.heap.size := by omega
        go_wp2_with fail
        exact bodyPost_ret (v := .tuple #[zeroV.v, .int .i64 13]) (by simp [results, Try.results41, go_sem, hc, hc2, hz, hz3, zeroV]) rfl ⟨by rw [HR.out], ((below_next (belowA (below_next (belowA (belowA (Below.refl _ _) _) _) hb.out) _) hb2.out).setCell (by simp) _).setCell (by simp) _ |>.setCell (by simp) _⟩
end Go.Proofs.Ytggbfpjpkfhaeaa
