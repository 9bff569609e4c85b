/- ParseFormed: the walk. -/
import Derived.Test.YtplekbpmfaghbaaGreatDoorMp11
import Derived.Test.YtplekbpmfaghbaaGreatDoorMp10
namespace Go.Proofs.YtplekbpmfaghbaaGreatDoor
open Go.RowKit

/-- the place of the rule ahead -/
def lastOf (l : List GRule) : Nat → Int
  | 0 => -1
  | k + 1 => ((l[k]?).map GRule.pos).getD (-1)
theorem lastOf_lt {l : List GRule} (hp : (l.map GRule.pos).Pairwise (· < ·)) (h0 : ∀ r ∈ l, 0 ≤ r.pos) {k : Nat} {x : GRule} (hx : l[k]? = some x) : lastOf l k < x.pos := by
  have hx0 := h0 x (List.mem_of_getElem? hx)
  cases k with
  | zero => show (-1 : Int) < _; omega
  | succ k =>
    obtain ⟨h1, h2⟩ := List.getElem?_eq_some_iff.1 hx
    have h3 : l[k]? = some l[k] := List.getElem?_eq_getElem (by omega)
    show ((l[k]?).map GRule.pos).getD (-1) < _
    rw [h3]
    have := List.pairwise_iff_getElem.1 hp k (k + 1) (by simpa using (by omega : k < l.length)) (by simpa using h1) (by omega)
    simp only [List.getElem_map] at this
    rw [h2] at this
    exact this
theorem wrap_next {k n : Nat} (h : k < n) (hn : Hid (n ≤ reachN)) : wrap64 ((k : Int) + 1) = ((k + 1 : Nat) : Int) := by
  have h2 : n ≤ 140737488351232 := hn.out
  clear hn
  have h1 : wrap64 ((k : Int) + 1) = (k : Int) + 1 := by unfold wrap64; omega
  rw [h1]; rfl
set_option maxRecDepth 100000 in
set_option maxHeartbeats 4000000 in
theorem parseFormed_walk (s : ByteArray) (hs : s.size ≤ 140737488351232) (w : World) (hW : ParW w) : Calls Tryz.prog 8 #[.string s] w (RetBool true w) := by
  have HA := Lib.hid (alive6_any w hW)
  have HW := Lib.hid hW
  have HC := Lib.hid (fun (V : World) (hV : ParW V) => parse_any s hs V hV)
  have Hlen := Lib.hid (ba_len s)
  clear hW
  go_enter Tryz.func8, Tryz.ntmps8
  go_wp2_with fail
  refine HA.out.mono ?_
  rintro e w1 ⟨rfl, hb1⟩
  have Hb1 := Lib.hid hb1
  clear hb1 HA
  by_cases h4 : 4100 < s.size
  · have i0 : (4100 : Int) < (s.size : Int) := by omega
    clear HC
    go_wp2_with fail
    go_ret
    exact ⟨rfl, Hb1.out⟩
  have i0 : ¬ (4100 : Int) < (s.size : Int) := by omega
  have HC1 := Lib.hid (HC.out w1 (HW.out.on Hb1.out))
  clear HC
  go_wp2_with fail
  refine HC1.out.mono ?_
  rintro e w2 ⟨hb, d, ⟨A1, k1, c1⟩, ⟨A2, k2, c2⟩, rfl, ha, hr⟩
  dsimp only [Hd.v] at *
  have hq : ProgAt d w2 w2.heap.size (parseP s.toList).1 ⟨A1, k1, c1⟩ ⟨A2, k2, c2⟩ := ⟨ha.is, hr.is⟩
  have hg : (parseP s.toList).2.2 = 0 → _ := parse_good (l := s.toList)
  have hbd : (parseP s.toList).2.2 ≠ 0 → s.toList.length ≤ 4100 → _ := parse_bad (l := s.toList)
  have hl4 : s.toList.length ≤ 4100 := by rw [Hlen.out]; omega
  have hb2 : Below w.heap.size w w2 := Hb1.out.trans (hb.mono Hb1.out.size)
  generalize parseP s.toList = pp at *
  obtain ⟨q, at_, er⟩ := pp
  dsimp only at hq hg hbd
  have Hb2 := Lib.hid hb2
  have hn1 := hq.decls.1
  have hn2 := hq.rules.1
  have Hr2 : Hid (k2 ≤ reachN) := hq.rules.2.2.2.1
  have Hq := Lib.hid hq
  have HW2 := Lib.hid (HW.out.on hb2)
  clear ha hr hb hb2 hq HC1 Hb1 HW
  by_cases he : er = 0
  rotate_left
  · obtain ⟨rfl, hat⟩ := hbd he hl4
    rw [Hlen.out] at hat
    obtain rfl : k1 = 0 := hn1.symm
    obtain rfl : k2 = 0 := hn2.symm
    have i1 : (at_ : Int) ≤ (s.size : Int) := by omega
    have i2 : (0 : Int) ≤ (at_ : Int) := by omega
    have hpe : parErr er = .iface 90 (.int .i64 er) := by unfold parErr; rw [if_neg he]
    clear hg hbd
    go_wp2_with fail
    go_ret
    exact ⟨rfl, Hb2.out.alloc Hb2.out.size _⟩
  · subst he
    obtain ⟨hfo, rfl, hpw, hps⟩ := hg rfl
    have hpe : parErr 0 = .nilIface := rfl
    rw [Hlen.out] at hps
    have Hps := Lib.hid hps
    have Hup : Hid (∀ (k : Nat) (x : GRule), q.rules[k]? = some x → lastOf q.rules k < x.pos) := fun k x hx => lastOf_lt hpw (fun r hr => (hps r hr).1) hx
    have Hfo := Lib.hid hfo
    clear hbd hg hps hpw hfo
    go_wp2_with fail
    have hp3 := (heapNew rfl : (w2.alloc (.cells #[.slice A1 k1 c1, .slice A2 k2 c2] 74)).heap[w2.heap.size]? = _)
    have hb3 := belowA (Below.refl w2.heap.size w2) (.cells #[.slice A1 k1 c1, .slice A2 k2 c2] 74)
    have hq3 := Hq.out.keep hb3
    have Hb3 := Lib.hid (Hb2.out.trans (hb3.mono Hb2.out.size))
    have HW3 := Lib.hid (HW2.out.on hb3)
    have hs3 : (w2.alloc (.cells #[.slice A1 k1 c1, .slice A2 k2 c2] 74)).heap.size = w2.heap.size + 1 := World.size_alloc _ _
    generalize w2.alloc (.cells #[.slice A1 k1 c1, .slice A2 k2 c2] 74) = w3 at *
    have Hq3 := Lib.hid hq3
    have Hp3 := Lib.hid hp3
    clear hq3 hp3 hb3 Hq HW2 Hb2
    go_loopw [6, 43] (fun lv i wr => ∃ k : Nat, k ≤ k2 ∧ i = .int .i64 k ∧ lv = .int .i64 (lastOf q.rules k) ∧ Below w3.heap.size w3 wr) (fun _ i _ => k2 - (intOf i).toNat)
    case atStart => exact ⟨0, by omega, rfl, rfl, Below.refl _ _⟩
    case round =>
      obtain ⟨k, hk, rfl, rfl, hbr⟩ := hrel
      have i3 : (0 : Int) ≤ (k : Int) := by omega
      have Hbr := Lib.hid hbr
      have hqr := Hq3.out.keep hbr
      have hpr := (hbr.block _ (by omega)).trans Hp3.out
      obtain ⟨p0, p1⟩ := facts2 hpr
      clear hbr hpr
      by_cases hlt : k < k2
      · have i1 : (k : Int) < (k2 : Int) := by omega
        obtain ⟨b, o, x, a, m, rfl, hb, hx, hra, x0, x1, x2, x3, x4, x5⟩ := hqr.rules.rule_at hlt
        have j1 : ¬ x.pos ≤ lastOf q.rules k := by have := Hup.out k x hx.out; omega
        have j2 : ¬ (s.size : Int) ≤ x.pos := by have := (Hps.out x (List.mem_of_getElem? hx.out)).2; omega
        have hls : lastOf q.rules (k + 1) = x.pos := by show ((q.rules[k]?).map GRule.pos).getD (-1) = x.pos; rw [hx.out]; rfl
        have hfx := hra.pos
        clear hra hqr
        go_wp2_with fail
        rw [wrap_next hlt Hr2]
        refine ⟨⟨k + 1, hlt, rfl, by rw [hls], belowA Hbr.out _⟩, ?_⟩
        simp only [intOf, Int.toNat_natCast]
        exact Nat.sub_lt_sub_left hlt (Nat.lt_succ_self k)
      · have i1 : ¬ (k : Int) < (k2 : Int) := by omega
        have hF := formed_any d q ⟨A1, k1, c1⟩ ⟨A2, k2, c2⟩ wr hqr (HW3.out.on Hbr.out).lex
        have HF := Lib.hid hF
        rw [Hfo.out] at HF
        clear hF hqr
        go_wp2_with fail
        refine HF.out.mono ?_
        rintro e w5 ⟨rfl, hb5⟩
        have HE : Hid (RetBool true w (.returned (.bool true)) w5) := ⟨rfl, (Hb3.out.trans (Hbr.out.mono Hb3.out.size)).trans (hb5.mono (Nat.le_trans Hb3.out.size Hbr.out.size))⟩
        clear hb5 HF Hbr Hb3 HW3 Hq3 Hp3 Hfo Hup Hps p0 p1 Hr2 hlt i1 i3 hk
        go_wp2_with fail
        go_ret
        exact HE.out
end Go.Proofs.YtplekbpmfaghbaaGreatDoor
