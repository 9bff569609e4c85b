/- Add: a tuple is put where it belongs. -/
import Derived.Test.YtgomfmfaoeojkaaRel
import Derived.Test.YtgomfmfaoeojkaaInsert
import Derived.Deep.RegionWith
namespace Go.Proofs.Ytgomfmfaoeojkaa
open Go.RowKit

theorem own_sans {w : World} {S : List Nat} {base e sz : Nat} {v : Value} {n : Nat} {xs : List Value} (h : w.ownsRow base e sz v n xs) (hS : ∀ b, v.ownBlock = some b → b ∉ S) : (sans w S).ownsRow base e sz v n xs := by
  refine ⟨h.1, ?_⟩
  rcases h.2 with hn | ⟨g, cap, cur, rfl, hg, hh, r⟩
  · exact .inl hn
  · exact .inr ⟨g, cap, cur, rfl, hg, (sans_out (hS g rfl)).trans hh, r⟩
theorem own_out' {w w' : World} {S : List Nat} {base e sz : Nat} {v : Value} {n : Nat} {xs : List Value} (h : w.ownsRow base e sz v n xs) (ho : Out S w w') (hS : ∀ b, v.ownBlock = some b → b ∉ S) : w'.ownsRow base e sz v n xs := by
  refine ⟨h.1, ?_⟩
  rcases h.2 with hn | ⟨g, cap, cur, rfl, hg, hh, r⟩
  · exact .inl hn
  · exact .inr ⟨g, cap, cur, rfl, hg, (ho.block g (Array.getElem?_eq_some_iff.1 hh).1 (hS g rfl)).trans hh, r⟩
theorem own_blk {w : World} {base e sz : Nat} {v : Value} {n : Nat} {xs : List Value} (h : w.ownsRow base e sz v n xs) {b : Nat} (hb : v.ownBlock = some b) : base ≤ b ∧ b < w.heap.size := by
  rcases h.2 with ⟨hn, _⟩ | ⟨g, cap, cur, rfl, hg, hh, r⟩
  · rw [hn] at hb; cases hb
  · injection hb with hb; subst hb; exact ⟨hg, (Array.getElem?_eq_some_iff.1 hh).1⟩
theorem set_one {W : World} {g e : Nat} {a b v : Value} (h : W.heap[g]? = some (.cells #[a, b] e (0, 0))) : (W.setCell ⟨g, 1, none⟩ v).heap[g]? = some (.cells #[a, v] e (0, 0)) := by
  simp [World.setCell, Array.getElem?_modify, h]
theorem set_out (W : World) (g i : Nat) (v : Value) : Out [g] W (W.setCell ⟨g, i, none⟩ v) := by
  have := setCells_out g [v] i W
  simpa [World.setCells] using this

theorem rel_ins {w w1 W w2 : World} {S : List Nat} {p : Nat} {rb : Option Nat} {ar : Int} {L : List (List GV)} (h : RelAt w S p rb ar L) (hS : ∀ b ∈ S, b < w.heap.size) {A : Option Addr} {c : Nat} {xs : List Value}
    (h1 : w.heap[p]? = some (.cells #[.int .i64 ar, .slice A L.length c] 77 (0, 0))) (h2 : w.ownsRow 0 24 1 (.slice A L.length c) L.length xs) (h3 : (Value.slice A L.length c).ownBlock = rb)
    (h4 : ∀ (i : Nat) (t : List GV), L[i]? = some t → ∃ (B : Option Addr) (n d : Nat), xs[i]? = some (Value.slice B n d) ∧ SliceFar Enc.val w S B n d t)
    {B : Option Addr} {d : Nat} {t : List GV} (hc : TupOwn w1 w.heap.size (.slice B t.length d) t) (hb1 : Below w.heap.size w w1) (hbW : Below w1.heap.size w1 W)
    {A' : Option Addr} {c' : Nat} (hI : w2.ownsRow 0 24 1 (.slice A' (L.length + 1) c') (L.length + 1) (xs.take (posL L t) ++ Value.slice B t.length d :: xs.drop (posL L t)))
    (hO : Out (Value.slice A L.length c).ownBlock.toList W w2) (hN : ∀ b, (Value.slice A' (L.length + 1) c').ownBlock = some b → (Value.slice A L.length c).ownBlock = some b ∨ W.heap.size ≤ b)
    (hr : (t.length : Int) = ar ∧ rightT t = true) (hm : t ∉ L) (hlt : L.length < 2000) (hok : ∀ x ∈ t, x.ok) :
    ∃ rb' : Option Nat, RelAt (w2.setCell ⟨p, 1, none⟩ (.slice A' (L.length + 1) c')) (rb'.toList ++ S) p rb' ar (insL L t) ∧ Out (p :: rb.toList) w (w2.setCell ⟨p, 1, none⟩ (.slice A' (L.length + 1) c')) ∧
      (∀ b, rb' = some b → b < (w2.setCell ⟨p, 1, none⟩ (.slice A' (L.length + 1) c')).heap.size ∧ (rb = some b ∨ w.heap.size ≤ b)) := by
  rw [h3] at hO hN
  have hpl : p < w.heap.size := (Array.getElem?_eq_some_iff.1 h1).1
  have hs1 := hb1.size
  have hs2 := hbW.size
  have hs3 := hO.size
  have hprb : ∀ b, rb = some b → b ≠ p := fun b hb => (h.rS b hb).2
  have o1 : Out rb.toList w w2 := (Out.of_below hb1 rb.toList).trans ((Out.of_below hbW rb.toList).trans hO (fun b hb _ => hb)) (fun b hb _ => hb)
  have oS : Out [p] w2 (w2.setCell ⟨p, 1, none⟩ (.slice A' (L.length + 1) c')) := set_out w2 p 1 _
  have o2 : Out (p :: rb.toList) w (w2.setCell ⟨p, 1, none⟩ (.slice A' (L.length + 1) c')) := (o1.mono (fun b hb _ => List.mem_cons_of_mem _ hb)).trans oS (fun b hb _ => by simp at hb; simp [hb])
  have hp2 : w2.heap[p]? = some (.cells #[.int .i64 ar, .slice A L.length c] 77 (0, 0)) := (o1.block p hpl (fun hb => hprb p (by simpa using hb) rfl)).trans h1
  have hnp : ∀ b, (Value.slice A' (L.length + 1) c').ownBlock = some b → b ≠ p := by
    intro b hb
    rcases hN b hb with hb | hb
    · exact hprb b hb
    · omega
  have hlenI : (insL L t).length = L.length + 1 := by
    have := posL_le L t
    simp [insL]; omega
  have hxl : xs.length = L.length := by have := h2.1; omega
  refine ⟨(Value.slice A' (L.length + 1) c').ownBlock, ⟨⟨A', c', xs.take (posL L t) ++ Value.slice B t.length d :: xs.drop (posL L t), ?_, ?_, ?_, ?_⟩, by simp [h.pS], ?_, sorted_ins h.sorted hm, by omega, ?_⟩, o2, ?_⟩
  · rw [hlenI]; exact set_one hp2
  · rw [hlenI]; exact own_out' hI oS (fun b hb hbp => hnp b hb (by simpa using hbp))
  · rw [hlenI]
  · intro i u hi
    have hpl' := posL_le L t
    have far : ∀ (k : Nat) (v : List GV), L[k]? = some v → ∃ (B : Option Addr) (n d : Nat), xs[k]? = some (Value.slice B n d) ∧ SliceFar Enc.val (w2.setCell ⟨p, 1, none⟩ (.slice A' (L.length + 1) c')) ((Value.slice A' (L.length + 1) c').ownBlock.toList ++ S) B n d v := by
      intro k v hk
      obtain ⟨B, n, d, hx, hf⟩ := h4 k v hk
      refine ⟨B, n, d, hx, hf.out o2 ?_ ?_⟩
      · intro b hb _
        simp at hb
        rcases hb with rfl | hb
        · exact h.pS
        · exact (h.rS b hb).1
      · intro b hb hbl
        simp at hb
        rcases hb with hb | hb
        · rcases hN b hb with hb | hb
          · exact (h.rS b hb).1
          · omega
        · exact hb
    unfold insL at hi
    rcases Nat.lt_trichotomy i (posL L t) with hlt | rfl | hgt
    · rw [List.getElem?_append_left (by rw [List.length_take]; omega), List.getElem?_take, if_pos hlt] at hi
      obtain ⟨B, n, d, hx, hf⟩ := far i u hi
      refine ⟨B, n, d, ?_, hf⟩
      rw [List.getElem?_append_left (by rw [List.length_take]; omega), List.getElem?_take, if_pos hlt]; exact hx
    · rw [List.getElem?_append_right (by rw [List.length_take]; omega), List.length_take, Nat.min_eq_left hpl', Nat.sub_self] at hi
      simp at hi; subst hi
      refine ⟨B, t.length, d, ?_, ?_⟩
      · rw [List.getElem?_append_right (by rw [List.length_take]; omega), List.length_take, Nat.min_eq_left (by omega), Nat.sub_self]; rfl
      · have hgs : ∀ b, (Value.slice B t.length d).ownBlock = some b → w.heap.size ≤ b ∧ b < w1.heap.size := fun b hb => own_blk hc hb
        have hcW : TupOwn W w.heap.size (.slice B t.length d) t := own_out' hc (Out.of_below hbW []) (fun b _ hb => by cases hb)
        have hc2 : TupOwn w2 w.heap.size (.slice B t.length d) t := own_out' hcW hO (fun b hb hbr => by have := hgs b hb; have := (h.rS b (by simpa using hbr)).1; have := hS b this; omega)
        have hc3 : TupOwn (w2.setCell ⟨p, 1, none⟩ (.slice A' (L.length + 1) c')) w.heap.size (.slice B t.length d) t := own_out' hc2 oS (fun b hb hbr => by have := hgs b hb; simp at hbr; omega)
        have hc4 : TupOwn (sans (w2.setCell ⟨p, 1, none⟩ (.slice A' (L.length + 1) c')) ((Value.slice A' (L.length + 1) c').ownBlock.toList ++ S)) w.heap.size (.slice B t.length d) t := by
          refine own_sans hc3 fun b hb hbS => ?_
          have hg := hgs b hb
          simp at hbS
          rcases hbS with hbS | hbS
          · rcases hN b hbS with hh | hh
            · have := hS b (h.rS b hh).1; omega
            · omega
          · have := hS b hbS; omega
        have := hc4.is rfl (by have := hr.2; simp [rightT] at this; simp [reachN]; omega) hok
        rw [sans_size] at this
        exact this
    · rw [List.getElem?_append_right (by rw [List.length_take]; omega), List.length_take, Nat.min_eq_left hpl', show i - posL L t = (i - posL L t - 1) + 1 by omega, List.getElem?_cons_succ, List.getElem?_drop] at hi
      obtain ⟨B, n, d, hx, hf⟩ := far _ u hi
      refine ⟨B, n, d, ?_, hf⟩
      rw [List.getElem?_append_right (by rw [List.length_take]; omega), List.length_take, Nat.min_eq_left (by omega), show i - posL L t = (i - posL L t - 1) + 1 by omega, List.getElem?_cons_succ, List.getElem?_drop]; exact hx
  · exact fun b hb => ⟨by simp [hb], hnp b hb⟩
  · intro u hu
    rcases mem_ins.1 hu with rfl | hu
    · exact hr
    · exact h.right u hu
  · intro b hb
    refine ⟨?_, ?_⟩
    · have := (own_blk hI hb).2
      simpa using Nat.lt_of_lt_of_le this oS.size
    · rcases hN b hb with hb | hb
      · exact .inl hb
      · exact .inr (by omega)

def addE (ar : Int) (L : List (List GV)) (t : List GV) : Int := if (t.length : Int) = ar then (if rightT t = true then (if t ∈ L then 0 else if 2000 ≤ L.length then 11 else 0) else 2) else 6
def addB (ar : Int) (L : List (List GV)) (t : List GV) : Bool := decide ((t.length : Int) = ar) && rightT t && !decide (t ∈ L) && decide (L.length < 2000)
def addL (ar : Int) (L : List (List GV)) (t : List GV) : List (List GV) := if addB ar L t = true then insL L t else L
def AddPost (S : List Nat) (p : Nat) (rb : Option Nat) (ar : Int) (b : Bool) (x : Int) (L : List (List GV)) (w : World) (e : Ending) (w' : World) : Prop :=
  ∃ rb' : Option Nat, e = .returned (.tuple #[.bool b, errV 45 x]) ∧ RelAt w' (rb'.toList ++ S) p rb' ar L ∧ Out (p :: rb.toList) w w' ∧ (∀ b, rb' = some b → b < w'.heap.size ∧ (rb = some b ∨ w.heap.size ≤ b))
theorem AddPost.same {w w' : World} {S : List Nat} {p : Nat} {rb : Option Nat} {ar : Int} {L : List (List GV)} (h : RelAt w S p rb ar L) (hS : ∀ b ∈ S, b < w.heap.size) (hb : Below w.heap.size w w') {e : Ending} {x : Int}
    (he : e = .returned (.tuple #[.bool false, errV 45 x])) : AddPost S p rb ar false x L w e w' := by
  refine ⟨rb, he, h.out (T := []) (Out.of_below hb []) (fun _ h _ => by cases h) ?_ (by simp [h.pS]) (fun b hb => by simp [hb]), Out.of_below hb _, ?_⟩
  · intro b hb _
    simp at hb
    rcases hb with hb | hb
    · exact (h.rS b hb).1
    · exact hb
  · intro b hb'
    have := hS b (h.rS b hb').1
    have := hb.size
    exact ⟨by omega, .inl hb'⟩

set_option maxRecDepth 100000 in
set_option maxHeartbeats 4000000 in
theorem add_any {w : World} {S : List Nat} {p : Nat} {rb : Option Nat} {ar : Int} {L : List (List GV)} (h : RelAt w S p rb ar L) (hS : ∀ b ∈ S, b < w.heap.size) (A : Option Addr) (n d : Nat) (t : List GV) (ht : SliceIs Enc.val w w.heap.size A n d t) :
    Calls Try.prog 17 #[relP p, .slice A n d] w (AddPost S p rb ar (addB ar L t) (addE ar L t) (addL ar L t) w) := by
  obtain rfl : t.length = n := ht.1
  have hlen := h.len
  by_cases hn : (t.length : Int) = ar
  rotate_left
  · have hn' : ¬ (t.length : Int) = ar := hn
    have e1 : addB ar L t = false := by simp [addB, hn]
    have e2 : addE ar L t = 6 := by simp [addE, hn]
    have e3 : addL ar L t = L := by simp [addL, e1]
    rw [e1, e2, e3]
    have HP := Lib.hid (fun (w' : World) (hb : Below w.heap.size w w') (e : Ending) => AddPost.same (x := 6) (e := e) h hS hb)
    obtain ⟨A', c, xs, h1, -⟩ := h.ex
    have c0 : w.cell? ⟨p, 0, none⟩ = some (.int .i64 ar) := (cell_of_row _ _ 0 _ _ _ h1).trans rfl
    clear h hS h1 ht
    unfold relP
    go_enter Try.func17, Try.ntmps17
    go_wp2_with fail
    go_ret2
    exact HP.out _ (Below.refl _ _) _ rfl
  have hn' : (t.length : Int) = ar := hn
  by_cases hr : rightT t = true
  rotate_left
  · have e1 : addB ar L t = false := by simp [addB, hr]
    have e2 : addE ar L t = 2 := by simp [addE, hn, hr]
    have e3 : addL ar L t = L := by simp [addL, e1]
    rw [e1, e2, e3]
    have HP := Lib.hid (fun (w' : World) (hb : Below w.heap.size w w') (e : Ending) => AddPost.same (x := 2) (e := e) h hS hb)
    have HR := Lib.hid (tRight_any A t.length d t w ht)
    simp only [hr] at HR
    obtain ⟨A', c, xs, h1, -⟩ := h.ex
    have c0 : w.cell? ⟨p, 0, none⟩ = some (.int .i64 ar) := (cell_of_row _ _ 0 _ _ _ h1).trans rfl
    clear h hS h1 ht
    unfold relP
    go_enter Try.func17, Try.ntmps17
    go_wp2_with fail
    refine HR.out.mono ?_
    rintro e w1 ⟨rfl, hq⟩
    go_wp2_with fail
    go_ret2
    exact HP.out _ hq _ rfl
  by_cases hm : t ∈ L
  · have e1 : addB ar L t = false := by simp [addB, hm]
    have e2 : addE ar L t = 0 := by simp [addE, hn, hr, hm]
    have e3 : addL ar L t = L := by simp [addL, e1]
    rw [e1, e2, e3]
    have HP := Lib.hid (fun (w' : World) (hb : Below w.heap.size w w') (e : Ending) => AddPost.same (x := 0) (e := e) h hS hb)
    have HR := Lib.hid (tRight_any A t.length d t w ht)
    simp only [hr] at HR
    have HF := Lib.hid (fun (w1 : World) (hb : Below w.heap.size w w1) => find_any (h.on hb) A t.length d t (ht.mono hb.size hb.block))
    obtain ⟨A', c, xs, h1, -⟩ := h.ex
    have c0 : w.cell? ⟨p, 0, none⟩ = some (.int .i64 ar) := (cell_of_row _ _ 0 _ _ _ h1).trans rfl
    clear h hS h1 ht
    unfold relP at HF ⊢
    go_enter Try.func17, Try.ntmps17
    go_wp2_with fail
    refine HR.out.mono ?_
    rintro e w1 ⟨rfl, hq⟩
    go_wp2_with fail
    refine (HF.out w1 hq).mono ?_
    rintro e w2 ⟨rfl, hq2⟩
    simp only [hm, decide_true]
    go_wp2_with fail
    go_ret2
    exact HP.out _ (below_next hq hq2) _ rfl
  have HR := Lib.hid (tRight_any A t.length d t w ht)
  simp only [hr] at HR
  have HF := Lib.hid (fun (w1 : World) (hb : Below w.heap.size w w1) => find_any (h.on hb) A t.length d t (ht.mono hb.size hb.block))
  by_cases hfull : 2000 ≤ L.length
  · have e1 : addB ar L t = false := by simp [addB]; omega
    have e2 : addE ar L t = 11 := by simp [addE, hn, hr, hm, hfull]
    have e3 : addL ar L t = L := by simp [addL, e1]
    rw [e1, e2, e3]
    have HP := Lib.hid (fun (w' : World) (hb : Below w.heap.size w w') (e : Ending) => AddPost.same (x := 11) (e := e) h hS hb)
    obtain ⟨A', c, xs, h1, -⟩ := h.ex
    have c0 : w.cell? ⟨p, 0, none⟩ = some (.int .i64 ar) := (cell_of_row _ _ 0 _ _ _ h1).trans rfl
    have hpl : p < w.heap.size := (Array.getElem?_eq_some_iff.1 h1).1
    clear h hS ht
    unfold relP at HF ⊢
    go_enter Try.func17, Try.ntmps17
    go_wp2_with fail
    refine HR.out.mono ?_
    rintro e w1 ⟨rfl, hq⟩
    go_wp2_with fail
    refine (HF.out w1 hq).mono ?_
    rintro e w2 ⟨rfl, hq2⟩
    have hb2 := below_next hq hq2
    have c2 : w2.cell? ⟨p, 1, none⟩ = some (.slice A' L.length c) := (cell_of_row _ _ 1 _ _ _ ((hb2.block p hpl).trans h1)).trans rfl
    have hfull' : (2000 : Int) ≤ (L.length : Int) := by omega
    simp only [hm, decide_false]
    go_wp2_with fail
    go_ret2
    exact HP.out _ hb2 _ rfl
  have e1 : addB ar L t = true := by simp [addB, hn, hr, hm]; omega
  have e2 : addE ar L t = 0 := by simp [addE, hn, hr, hm, hfull]
  have e3 : addL ar L t = insL L t := by simp [addL, e1]
  rw [e1, e2, e3]
  obtain ⟨A', c, xs, h1, h2, h3, h4⟩ := h.ex
  have hpl : p < w.heap.size := (Array.getElem?_eq_some_iff.1 h1).1
  have hrb : ∀ b, rb = some b → b < w.heap.size ∧ b ≠ p := fun b hb => ⟨hS b (h.rS b hb).1, (h.rS b hb).2⟩
  have hxl : xs.length = L.length := by have := h2.1; omega
  have hone : ∀ x ∈ xs, x.oneCell' = true := by
    intro x hx
    obtain ⟨i, hi, rfl⟩ := List.mem_iff_getElem.1 hx
    obtain ⟨B, m, e, hx, -⟩ := h4 i L[i] (List.getElem?_eq_getElem (by omega))
    rw [List.getElem?_eq_getElem hi] at hx
    injection hx with hx
    rw [hx]; rfl
  have hok : ∀ x ∈ t, x.ok := vals_ok ht
  have HI : Hid (∀ (w0 w1 W w2 : World) (hb0 : Below w.heap.size w w0) (B : Option Addr) (d : Nat) (hc : TupOwn w1 w0.heap.size (.slice B t.length d) t) (hb1 : Below w0.heap.size w0 w1) (hbW : Below w1.heap.size w1 W) (A'' : Option Addr) (c' : Nat)
      (hI : w2.ownsRow 0 24 1 (.slice A'' (L.length + 1) c') (L.length + 1) (xs.take (posL L t) ++ Value.slice B t.length d :: xs.drop (posL L t)))
      (hO : Out (Value.slice A' L.length c).ownBlock.toList W w2) (hN : ∀ b, (Value.slice A'' (L.length + 1) c').ownBlock = some b → (Value.slice A' L.length c).ownBlock = some b ∨ W.heap.size ≤ b),
      AddPost S p rb ar true 0 (insL L t) w (.returned (.tuple #[.bool true, .nilIface])) (w2.setCell ⟨p, 1, none⟩ (.slice A'' (L.length + 1) c'))) := by
    intro w0 w1 W w2 hb0 B d hc hb1 hbW A'' c' hI hO hN
    have hs0 := hb0.size
    obtain ⟨rb', r1, r2, r3⟩ := rel_ins (h.on hb0) (fun b hb => by have := hS b hb; omega) ((hb0.block p hpl).trans h1) (own_out' h2 (Out.of_below hb0 []) (fun b _ hb => by cases hb)) h3
      (fun i u hi => by obtain ⟨B, m, e, hx, hf⟩ := h4 i u hi; exact ⟨B, m, e, hx, hf.on hb0⟩) hc hb1 hbW hI hO hN ⟨hn, hr⟩ hm (by omega) hok
    refine ⟨rb', rfl, r1, (Out.of_below hb0 _).trans r2 (fun b hb _ => hb), fun b hb => ⟨(r3 b hb).1, ?_⟩⟩
    rcases (r3 b hb).2 with q | q
    · exact .inl q
    · exact .inr (by omega)
  have HC := Lib.hid (fun (w0 : World) (hb : Below w.heap.size w w0) => copy_any A t.length d t w0 (ht.mono hb.size hb.block) (by have := hr; simp [rightT] at this; omega))
  have HN := Lib.hid (fun (W : World) (hb : Below w.heap.size w W) (vb : Nat) (u : Value) (hu : u.oneCell' = true) (hv : W.heap[vb]? = some (.cells #[u] 24 (0, 0))) (hg : w.heap.size ≤ vb) =>
    insert_any A' L.length c (posL L t) vb u xs W (by omega) (posL_le L t) (own_out' h2 (Out.of_below hb []) (fun b _ hb => by cases hb)) hone hu hv (by rw [h3]; intro hh; have := hrb vb hh; omega))
  have H0 := Lib.hid (fun (W : World) (hb : Below w.heap.size w W) => (hb.block p hpl).trans h1)
  have H2 : Hid (∀ (W w2 : World), Below w.heap.size w W → Out (Value.slice A' L.length c).ownBlock.toList W w2 → w2.heap[p]? = some (.cells #[.int .i64 ar, .slice A' L.length c] 77 (0, 0))) := by
    intro W w2 hb ho
    have := hb.size
    exact (ho.block p (by omega) (fun hb => by rw [h3] at hb; exact (hrb p (by simpa using hb)).2 rfl)).trans ((hb.block p hpl).trans h1)
  have c0 : w.cell? ⟨p, 0, none⟩ = some (.int .i64 ar) := (cell_of_row _ _ 0 _ _ _ h1).trans rfl
  have hfull' : ¬ (2000 : Int) ≤ (L.length : Int) := by omega
  clear h hS ht h1 h2 h3 h4 hrb hone hok
  unfold relP at HF ⊢
  go_enter Try.func17, Try.ntmps17
  go_wp2_with fail
  refine HR.out.mono ?_
  rintro e w1 ⟨rfl, hq⟩
  go_wp2_with fail
  refine (HF.out w1 hq).mono ?_
  rintro e w2 ⟨rfl, hq2⟩
  have hb2 := below_next hq hq2
  have c2 : w2.cell? ⟨p, 1, none⟩ = some (.slice A' L.length c) := (cell_of_row _ _ 1 _ _ _ (H0.out w2 hb2)).trans rfl
  simp only [hm, decide_false]
  go_wp2_with fail
  go_region_with ((first
    | (go_at_call 46
       with_reducible refine (HC.out _ ?s1).mono ?_
       case s1 => repeat (first | with_reducible assumption | with_reducible refine Below.drew ?_)
       rintro e w3 ⟨B3, d3, rfl, hown3, hq3⟩
       have hb3 : Below w.heap.size w w3 := below_next (Below.drew hb2) hq3
       have c3 : w3.cell? ⟨p, 1, none⟩ = some (.slice A' L.length c) := (cell_of_row _ _ 1 _ _ _ (H0.out w3 hb3)).trans rfl
       have c3a : (w3.alloc (.cells #[.slice B3 t.length d3] 24)).cell? ⟨p, 1, none⟩ = some (.slice A' L.length c) := cellA c3)
    | (go_at_call 45
       with_reducible refine (HN.out _ ?s1 _ (.slice B3 t.length d3) ?s2 ?s3 ?s4).mono ?_
       case s1 => repeat (first | with_reducible assumption | with_reducible refine Below.drew ?_ | with_reducible refine belowA ?_ _)
       case s2 => rfl
       case s3 => exact Go.heap_alloc_new _ _
       case s4 => exact hb3.size
       rintro e w4 ⟨A4, c4, rfl, hown4, hout4, hnew4⟩
       have hh4 := H2.out _ w4 (belowA hb3 _) hout4
       have c4c : w4.cell? ⟨p, 1, none⟩ = some (.slice A' L.length c) := (cell_of_row _ _ 1 _ _ _ hh4).trans rfl
       have f4 : w4.frozen? ⟨p, 1, none⟩ = false := frozen_of_row _ _ _ _ _ hh4)))
  all_goals
    go_wp2_with fail
    go_ret2
    exact HI.out w2.drew _ _ _ (Below.drew hb2) _ _ hown3 hq3 (belowA (Below.refl _ _) _) _ _ hown4 hout4 hnew4
end Go.Proofs.Ytgomfmfaoeojkaa
