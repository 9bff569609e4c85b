/- What the closure of All gives: a fresh copy of each tuple in turn. -/
import Derived.Test.YtgomfmfaoeojkaaRelAll
import Derived.Test.YtgomfmfaoeojkaaRange
import Derived.OwnWalkIn
import Derived.TacticsInMore
import Derived.RegionIn
import Derived.LoopNIn
import Derived.LoopIn
import Derived.Shelf.Abstract
namespace Go.Proofs.Ytgomfmfaoeojkaa
open Go.RowKit Go.Shelf
attribute [local go_sem] Oper.semAt_some

/-- a tuple in memory -/
structure TX where
  A : Option Addr
  c : Nat
  t : List GV
def encX (x : TX) : Array Value := #[.slice x.A x.t.length x.c]
/-- the next of L, in memory that is new -/
def RX (L : List (List GV)) (pre : List TX) (x : TX) (base : Nat) (W : World) : Prop := (pre.map TX.t ++ [x.t]) <+: L ∧ TupOwn W base (.slice x.A x.t.length x.c) x.t ∧ (∀ v ∈ x.t, v.ok) ∧ x.t.length ≤ 6

theorem take_pre {α : Type} {L : List α} {k : Nat} {t : α} (h : L[k]? = some t) : (L.take k ++ [t]) <+: L := by
  have e : L.take k ++ [t] = L.take (k + 1) := by rw [List.take_add_one, h]; rfl
  rw [e]; exact List.take_prefix _ _
theorem vals_ok' {w : World} {B : Nat} {A : Option Addr} {n c : Nat} {l : List GV} (h : SliceIs Enc.val w B A n c l) : ∀ x ∈ l, x.ok := by
  intro x hx
  obtain ⟨i, hi⟩ := List.mem_iff_getElem?.1 hx
  have hl : i < n := by rw [← h.1]; exact (List.getElem?_eq_some_iff.1 hi).1
  obtain ⟨b, o, y, -, -, hy, -, -, -, hok⟩ := h.val_at hl
  have := hy.out
  rw [hi] at this; injection this with this; subst this; exact hok

theorem own_cell1 {w : World} {base e : Nat} {A : Option Addr} {n c : Nat} {xs : List Value} (h : w.ownsRow base e 1 (.slice A n c) n xs) {k : Nat} {v : Value} (hk : xs[k]? = some v) : ∃ b, A = some ⟨b, 0, none⟩ ∧ w.cell? ⟨b, k, none⟩ = some v := by
  obtain ⟨h1, h2⟩ := h
  rcases h2 with ⟨hv, hn⟩ | ⟨g, cap, cur, hv, hg, hh, hnc, hcm, hsz, htk⟩
  · subst hn
    have : xs = [] := List.eq_nil_of_length_eq_zero (by omega)
    subst this; simp at hk
  · simp only [Value.slice.injEq] at hv
    obtain ⟨rfl, _, rfl⟩ := hv
    refine ⟨g, rfl, ?_⟩
    rw [cell_of_row w g _ cur e (0, 0) hh]
    rw [← htk, List.getElem?_take] at hk
    split at hk
    · simpa [Array.getElem?_toList] using hk
    · cases hk

set_option maxRecDepth 100000 in
set_option maxHeartbeats 4000000 in
theorem kept_seq {kf : Nat} {klb : Array Value} (kp : List GV → Bool) (ek : ∀ args w, (callFunc kf args).run Try.prog w = .ok (.enter kf args) w)
    {w : World} {S : List Nat} {p : Nat} {rb : Option Nat} {ar : Int} {L : List (List GV)} (h : RelAt w S p rb ar L) {g : Nat} (hg : w.cell? ⟨g, 0, none⟩ = some (relP p)) (hk : w.cell? ⟨g + 1, 0, none⟩ = some (.func (.func kf) #[] klb)) (hkS : g + 1 ∉ S) (hS : ∀ b ∈ S, b < w.heap.size)
    (HK : ∀ (W : World) (B : Option Addr) (d : Nat) (t : List GV), (∀ b, b < w.heap.size → b ∉ S → W.heap[b]? = w.heap[b]?) → SliceIs Enc.val W W.heap.size B t.length d t → Calls Try.prog kf (#[.slice B t.length d] ++ klb) W (RetBool (kp t) W)) :
    SeqR Try.prog 60 #[.pointer (some ⟨g, 0, none⟩), .pointer (some ⟨g + 1, 0, none⟩)] encX (RX (L.filter kp)) S (fun xs => xs.map TX.t = L.filter kp) (fun pre => pre.map TX.t <+: L.filter kp) w := by
  intro l J Jx W hW hl hlW hJ h0 hY
  obtain ⟨A, c, xs, h1', h2', h3, h4'⟩ := h.ex
  have h1 := (hW.block p (Array.getElem?_eq_some_iff.1 h1').1).trans h1'
  have h2 := own_out' h2' (Out.of_below hW []) (fun b _ hb => by cases hb)
  have hlen := h.len
  have hright := h.right
  have hpl : p < W.heap.size := (Array.getElem?_eq_some_iff.1 h1).1
  have hxl : xs.length = L.length := by have := h2.1; omega
  have hsl : ∀ x ∈ xs, ∃ (B : Option Addr) (m d : Nat), x = .slice B m d := by
    intro x hx
    obtain ⟨i, hi, rfl⟩ := List.mem_iff_getElem.1 hx
    obtain ⟨B, m, e, hx, -⟩ := h4' i L[i] (List.getElem?_eq_getElem (by omega))
    rw [List.getElem?_eq_getElem hi] at hx
    injection hx with hx
    exact ⟨B, m, e, hx⟩
  have cg := below_cell hW hg
  have ck := below_cell hW hk
  have gl : g < w.heap.size := World.block_lt_of_cell? w _ hg
  have kl : g + 1 < w.heap.size := World.block_lt_of_cell? w _ hk
  have cp : W.cell? ⟨p, 1, none⟩ = some (.slice A L.length c) := (cell_of_row _ _ 1 _ _ _ h1).trans rfl
  have HC := Lib.hid (cloneT_any A L.length c xs W h2 hsl (by omega))
  have HJ := Lib.hid hJ
  have H0 := Lib.hid h0
  have HY := Lib.hid hY
  have hsW := hW.size
  have H4 : Hid (∀ (i : Nat) (t : List GV), L[i]? = some t → ∃ (B : Option Addr) (d : Nat), xs[i]? = some (Value.slice B t.length d) ∧ SliceIs Enc.val (sans w S) w.heap.size B t.length d t) := by
    intro i t hi
    obtain ⟨B, n, d, hx, hf⟩ := h4' i t hi
    obtain rfl : t.length = n := hf.1
    exact ⟨B, d, hx, hf⟩
  have HW : Hid (∀ b, b < w.heap.size → b ∉ S → W.heap[b]? = w.heap[b]?) := fun b hb _ => hW.block b hb
  have HR := Lib.hid hright
  have Hck := Lib.hid hk
  unfold relP at *
  have HKp := Lib.hid HK
  clear HK
  clear h hg hk h1 h2 h3 h1' h2' h4' hsl hJ h0 hY hright hW
  refine (callsIn_wide (n := 0)).1 ?_
  refine callsIn_of_wp Try.func60 rfl trivial ?_ rfl
  simp only [Try.ntmps60, List.size_toArray, List.length_cons, List.length_nil, Nat.reduceAdd, Nat.reduceSub, Array.replicate_succ, Array.replicate_zero, List.push_toArray, List.append_toArray, List.nil_append, List.cons_append]
  gi_wp2_with fail
  refine ⟨trivial, rfl, (callsIn_wide.2 HC.out).mono ?_⟩
  rintro e w1 ⟨A1, c1, rfl, hown, hb1⟩
  have HO := Lib.hid hown
  have hz1 := hb1.size
  have HJ0 : Hid (J w1.heap.size [] w1) := H0.out _ w1 hb1 hz1 (Nat.le_refl _)
  have HW1 : Hid (∀ b, b < w.heap.size → b ∉ S → w1.heap[b]? = w.heap[b]?) := fun b hb hs => (hb1.block b (by omega)).trans (HW.out b hb hs)
  obtain ⟨N, hN⟩ : ∃ N, Hid (N = w1.heap.size) := ⟨_, rfl⟩
  rw [← hN.out] at HJ0
  have hNl : N ≤ w1.heap.size := by have := hN.out; omega
  have hWN : W.heap.size ≤ N := by have := hN.out; omega
  have HB : Hid (∀ b, (Value.slice A1 L.length c1).ownBlock = some b → W.heap.size ≤ b ∧ b < N) := fun b hb => by rw [hN.out]; exact own_blk hown hb
  clear hown H0 HC cg cp ck HW hN
  gi_wp2_with fail
  gi_loopw [5, 14] (fun _ i wr => ∃ (k : Nat) (pre : List TX), k ≤ L.length ∧ i = .int .i64 k ∧ Hid (pre.map TX.t = (L.take k).filter kp) ∧ Hid (J N pre wr) ∧ Hid (∀ b, b < w.heap.size → b ∉ S → wr.heap[b]? = w.heap[b]?) ∧ Hid (wr.ownsRow W.heap.size 24 1 (.slice A1 L.length c1) L.length xs) ∧ N ≤ wr.heap.size) (fun _ i _ => L.length - (intOf i).toNat)
  case atStart => exact ⟨0, [], by omega, rfl, rfl, HJ0, HW1, HO, hNl⟩
  case round =>
    obtain ⟨k, pre, hk, rfl, HP, HJk, HWk, HOk, hNk⟩ := hrel
    have i0 : (0 : Int) ≤ (k : Int) := by omega
    by_cases hlt : k < L.length
    · have i1 : (k : Int) < (L.length : Int) := by omega
      have hLk := List.getElem?_eq_getElem hlt
      obtain ⟨B, d, hxk, hsk⟩ := H4.out k _ hLk
      obtain ⟨b, rfl, hcell⟩ := own_cell1 HOk.out hxk
      have HSk := Lib.hid hsk
      have ck : wr.cell? ⟨g + 1, 0, none⟩ = some (.func (.func kf) #[] klb) := by
        have := HWk.out (g + 1) kl hkS
        unfold World.cell? at Hck ⊢
        rw [this]; exact Hck.out
      have hsk' : SliceIs Enc.val wr wr.heap.size B L[k].length d L[k] := hsk.mono' (by omega) (fun b hb cs t fr hcs hc => by
        obtain ⟨hn, hw⟩ := sans_in hcs hc
        rw [HWk.out b hb hn]; exact hw)
      have HKk := Lib.hid (HKp.out wr B d L[k] HWk.out hsk')
      have h6 : L[k].length ≤ 6 := by have := (HR.out L[k] (List.getElem_mem hlt)).2; simp [rightT] at this; omega
      have hokk := Lib.hid (vals_ok' hsk)
      have HT1 : Hid ((L.take (k + 1)).filter kp = (L.take k).filter kp ++ [L[k]].filter kp) := by
        show _ = _
        rw [List.take_add_one, hLk, List.filter_append]; rfl
      have HTP : Hid (kp L[k] = true → ((L.take k).filter kp ++ [L[k]]) <+: L.filter kp) := by
        intro hkt
        have h1 := HT1.out
        rw [show [L[k]].filter kp = [L[k]] by simp [hkt]] at h1
        rw [← h1]
        exact (List.take_prefix _ _).filter _
      have Hsk' := Lib.hid hsk'
      generalize L[k] = t at *
      clear hLk hxk hsk hsk'
      gi_wp2_with fail
      refine ⟨trivial, rfl, (callsIn_wide.2 HKk.out).mono ?_⟩
      rintro e w2 ⟨rfl, hb2⟩
      have hz2 := hb2.size
      have HJ2 := Lib.hid (HJ.out N pre wr w2 HJk.out hb2)
      have HCp := Lib.hid (copy_any B t.length d t w2 (Hsk'.out.keep hb2) (by omega))
      have HW2 : Hid (∀ b, b < w.heap.size → b ∉ S → w2.heap[b]? = w.heap[b]?) := fun b hb hs => (hb2.block b (by omega)).trans (HWk.out b hb hs)
      have HO2 := Lib.hid (own_out' HOk.out (Out.of_below hb2 []) (fun b _ hb => by cases hb))
      by_cases hkt : kp t = true
      · have HX := Lib.hid (HTP.out hkt)
        have HT2 : Hid ((L.take (k + 1)).filter kp = (L.take k).filter kp ++ [t]) := by
          show _ = _
          rw [HT1.out]; simp [hkt]
        simp only [hkt]
        clear hkt HTP HT1 HWk HOk HJk
        gi_wp2_with fail
        refine ⟨trivial, rfl, (callsIn_wide.2 HCp.out).mono ?_⟩
        rintro e w3 ⟨A3, c3, rfl, hown3, hb3⟩
        have hz3 := hb3.size
        have HY3 := Lib.hid (HY.out 0 N pre ⟨A3, c3, t⟩ w2 w3 HJ2.out hb3 ⟨by rw [HP.out]; exact HX.out, hown3, hokk.out, h6⟩)
        have HW3 : Hid (∀ b, b < w.heap.size → b ∉ S → w3.heap[b]? = w.heap[b]?) := fun b hb hs => (hb3.block b (by omega)).trans (HW2.out b hb hs)
        have HO3 := Lib.hid (own_out' HO2.out (Out.of_below hb3 []) (fun b _ hb => by cases hb))
        obtain ⟨fn, tmps, assign, body, hy, hR⟩ := HY3.out
        have HRR := Lib.hid hR
        simp only [encX] at hy
        clear hown3 hR HO2 HW2 HCp HY3
        gi_wp2_with fail
        refine ⟨rfl, HRR.out.mono ?_⟩
        rintro e w4 (⟨rfl, hj, hz4, hbl⟩ | ⟨rfl, hj⟩)
        · have HJ4 := Lib.hid hj
          have HP4 : Hid ((pre ++ [(⟨A3, c3, t⟩ : TX)]).map TX.t = (L.take (k + 1)).filter kp) := by
            show _ = _
            rw [HT2.out, List.map_append, HP.out]; rfl
          have HW4 : Hid (∀ b, b < w.heap.size → b ∉ S → w4.heap[b]? = w.heap[b]?) := fun b hb hs => (hbl b (by omega) hs (by omega)).trans (HW3.out b hb hs)
          have HO4 : Hid (w4.ownsRow W.heap.size 24 1 (.slice (some ⟨b, 0, none⟩) L.length c1) L.length xs) := by
            have h1 := HO3.out
            refine ⟨h1.1, ?_⟩
            rcases h1.2 with hn | ⟨g', cap, cur, hv, hg, hh, r⟩
            · exact .inl hn
            · refine .inr ⟨g', cap, cur, hv, hg, ?_, r⟩
              have hB := HB.out g' (by rw [hv]; rfl)
              exact (hbl g' hB.2 (fun hs => by have := hS g' hs; omega) (by omega)).trans hh
          have hN4 : N ≤ w4.heap.size := by omega
          clear hj hbl HW3 HO3 HP HX HT2 HRR hy HJ2 hcell
          gi_wp2_with fail
          go_roundw
          case rel => exact ⟨k + 1, _, by omega, by go_num, HP4, HJ4, HW4, HO4, hN4⟩
          case measure => simp [intOf]; omega
        · have HJ4 := Lib.hid hj
          clear hj HW3 HO3 hy HRR
          gi_wp2_with fail
          refine bodyPost_ret (results_none rfl _ _ _) rfl ?_
          exact ⟨⟨_, rfl⟩, .inr ⟨N, _, by rw [List.map_append, HP.out]; exact HX.out, HJ4.out⟩⟩
      · have HP4 : Hid (pre.map TX.t = (L.take (k + 1)).filter kp) := by
          show _ = _
          rw [HT1.out, HP.out]; simp [hkt]
        have hN4 : N ≤ w2.heap.size := by omega
        have hkf : kp t = false := by simpa using hkt
        simp only [hkf]
        clear hkt hkf HTP HT1 HWk HOk HJk HP HCp
        gi_wp2_with fail
        refine ⟨trivial, ?_⟩
        gi_wp2_with fail
        refine ⟨(fun _ h => by cases h), ?_⟩
        gi_wp2_with fail
        go_roundw
        case rel => exact ⟨k + 1, _, by omega, by go_num, HP4, HJ2, HW2, HO2, hN4⟩
        case measure => simp [intOf]; omega
    · have i1 : ¬ (k : Int) < (L.length : Int) := by omega
      have HP4 : Hid (pre.map TX.t = L.filter kp) := by
        show _ = _
        rw [HP.out, List.take_of_length_le (by omega)]
      clear HP
      gi_wp2_with fail
      go_end0
      exact ⟨⟨_, rfl⟩, .inl ⟨N, pre, HP4.out, HJk.out⟩⟩
theorem all_seq {w : World} {S : List Nat} {p : Nat} {rb : Option Nat} {ar : Int} {L : List (List GV)} (h : RelAt w S p rb ar L) {g : Nat} (hg : w.cell? ⟨g, 0, none⟩ = some (relP p)) (hk : w.cell? ⟨g + 1, 0, none⟩ = some allFn) (hkS : g + 1 ∉ S) (hS : ∀ b ∈ S, b < w.heap.size) :
    SeqR Try.prog 60 #[.pointer (some ⟨g, 0, none⟩), .pointer (some ⟨g + 1, 0, none⟩)] encX (RX L) S (fun xs => xs.map TX.t = L) (fun pre => pre.map TX.t <+: L) w := by
  have h1 := kept_seq (kf := 41) (klb := #[]) (fun _ => true) (enters_of Try.func41 (by kernel_rfl) rfl) h hg hk hkS hS (fun W B d t _ _ => (keepAll_any _ W).mono fun e w' ⟨he, hw⟩ => ⟨he, by rw [hw]; exact Below.refl _ _⟩)
  have e : L.filter (fun _ => true) = L := by simp
  rw [e] at h1
  exact h1
theorem rx_at {L : List (List GV)} {pre : List TX} {x : TX} {base : Nat} {W : World} (h : RX L pre x base W) : L[pre.length]? = some x.t ∧ pre.length < L.length := by
  obtain ⟨r, hr⟩ := h.1
  have e : L[pre.length]? = some x.t := by rw [← hr]; simp
  exact ⟨e, (List.getElem?_eq_some_iff.1 e).1⟩
theorem rx_is {L : List (List GV)} {pre : List TX} {x : TX} {base : Nat} {W : World} (h : RX L pre x base W) : SliceIs Enc.val W W.heap.size x.A x.t.length x.c x.t :=
  TupOwn.is h.2.1 rfl (by have := h.2.2.2; simp [reachN]; omega) h.2.2.1
theorem rx_soft {L : List (List GV)} {B : Nat} (pre : List TX) (x : TX) (base : Nat) (W W' : World) (h : RX L pre x base W) (hs : Soft B W W') : RX L pre x base W' := ⟨h.1, hs.own h.2.1, h.2.2⟩
end Go.Proofs.Ytgomfmfaoeojkaa
