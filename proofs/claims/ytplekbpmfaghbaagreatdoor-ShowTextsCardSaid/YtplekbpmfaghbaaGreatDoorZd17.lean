/- My own texts ShowPg, ShowQ, ShowAl, as far as this claim needs them. -/
import Derived.Test.YtplekbpmfaghbaaGreatDoorZd10
import Derived.Test.YtplekbpmfaghbaaGreatDoorZd11
import Derived.Test.YtplekbpmfaghbaaGreatDoorZd12
import Derived.Test.YtplekbpmfaghbaaGreatDoorZd14
import Derived.Test.YtplekbpmfaghbaaGreatDoorZd15
import Derived.Test.YtplekbpmfaghbaaGreatDoorZd16
set_option linter.unusedVariables false
set_option linter.unusedSimpArgs false
namespace Go.Proofs.YtplekbpmfaghbaaGreatDoor
open Go.RowKit Go.Shelf
attribute [local go_sem] Oper.semAt_some
def progO (p : GProg) : List UInt8 × Int := if formedB p = true then (if 4000 < (textS (linesS p)).length then ([], 3) else (textS (linesS p), 0)) else ([], 2)
def showErr (e : Int) : Value := if e = 0 then .nilIface else .iface 90 (.int .i64 e)
def ProgT (p : GProg) (w : World) (e : Ending) (w' : World) : Prop := e = .returned (.tuple #[.string (bytes (progO p).1), showErr (progO p).2]) ∧ Below w.heap.size w w'
theorem BldAt.soft {B b A : Nat} {p v : Value} {bs : List Value} {w w' : World} (h : BldAt B b p v bs w) (hs : Soft A w w') : BldAt B b p v bs w' := ⟨hs.row h.1, h.2.1, hs.own h.2.2.1, h.2.2.2⟩
theorem BldAt.row {B b : Nat} {p v : Value} {bs : List Value} {w : World} (h : BldAt B b p v bs w) : ∀ c ∈ v.ownBlock.toList, B ≤ c ∧ c < w.heap.size := by
  intro c hc
  exact own_blk h.2.2.1 (by simpa using hc)
theorem BldAt.down {B B' b : Nat} {p v : Value} {bs : List Value} {w : World} (h : BldAt B b p v bs w) (hB : B' ≤ B) : BldAt B' b p v bs w := ⟨h.1, h.2.1, own_low h.2.2.1 hB, h.2.2.2⟩
set_option maxRecDepth 100000 in
set_option maxHeartbeats 4000000 in
theorem program_any (d : Nat) (p : GProg) (A1 : Option Addr) (n1 c1 : Nat) (A2 : Option Addr) (n2 c2 : Nat) (w : World) (h : ProgAt d w w.heap.size p ⟨A1, n1, c1⟩ ⟨A2, n2, c2⟩) (hS : ShowW w) (hL : LexW w) :
    Calls Tryz.prog 35 #[.agg #[.slice A1 n1 c1, .slice A2 n2 c2]] w (ProgT p w) := by
  obtain ⟨P, HP⟩ : ∃ P : Ending → World → Prop, Hid (P = ProgT p w) := ⟨_, rfl⟩
  rw [← HP.out]
  have hb0 : Below w.heap.size w (w.alloc (.cells #[.slice A1 n1 c1, .slice A2 n2 c2] 74)) := belowA (Below.refl _ _) _
  have hr0 : (w.alloc (.cells #[.slice A1 n1 c1, .slice A2 n2 c2] 74)).heap[w.heap.size]? = some (.cells #[.slice A1 n1 c1, .slice A2 n2 c2] 74 (0, 0)) := heapNew rfl
  have HF := Lib.hid (formed_any d p ⟨A1, n1, c1⟩ ⟨A2, n2, c2⟩ _ (h.keep hb0) (hL.on hb0))
  have HH := Lib.hid h
  have HS := Lib.hid hS
  have HL := Lib.hid hL
  clear h hS hL
  obtain ⟨f0, f1⟩ := facts2 hr0
  generalize hwb : (w.alloc (.cells #[.slice A1 n1 c1, .slice A2 n2 c2] 74)) = wb at *
  refine (callsIn_wide (n := 8)).1 ?_
  refine callsIn_of_wp_marks Tryz.func35 rfl trivial ?_ rfl
  simp only [Tryz.ntmps35, List.size_toArray, List.length_cons, List.length_nil, Nat.reduceAdd, Nat.reduceSub, Array.replicate_succ, Array.replicate_zero, List.push_toArray, List.append_toArray, List.nil_append, List.cons_append]
  refine wpIn_wide.2 ?_
  go_wp2_with fail
  try simp only [hwb]
  clear hwb
  go_wp2_with fail
  refine HF.out.mono ?_
  rintro e w1 ⟨rfl, hb1⟩
  have hr1 := (hb1.block _ (Array.getElem?_eq_some_iff.1 hr0).1).trans hr0
  have hbw1 := below_next hb0 hb1
  clear f0 f1 hb1 HF
  cases hfo : formedB p with
  | false =>
    have HE : Hid (P (.returned (.tuple #[.string ⟨#[]⟩, .iface 90 (.int .i64 2)])) w1) := by
      show P _ _
      rw [HP.out]
      exact ⟨by unfold progO; rw [hfo]; rfl, hbw1⟩
    clear hfo hbw1
    go_wp2_with fail
    exact ⟨_, by simp [results, Tryz.results35, go_sem], HE.out⟩
  | true =>
  obtain ⟨f0, f1⟩ := facts2 (heapOld (o := .cells #[.pointer none, .slice none 0 0] 161) hr1)
  have hbl : BldAt w1.heap.size w1.heap.size (.pointer none) (.slice none 0 0) [] (w1.alloc (.cells #[.pointer none, .slice none 0 0] 161)) := ⟨heapNew rfl, .inl rfl, World.ownsRow_nil _ _ _ _, by simp [Value.ownBlock]⟩
  have hb2 : Below w1.heap.size w1 (w1.alloc (.cells #[.pointer none, .slice none 0 0] 161)) := belowA (Below.refl _ _) _
  have hz2 : (w1.alloc (.cells #[.pointer none, .slice none 0 0] 161)).heap.size = w1.heap.size + 1 := by simp
  have Hfo := Lib.hid hfo
  have hz2' : w1.heap.size < (w1.alloc (.cells #[.pointer none, .slice none 0 0] 161)).heap.size := by omega
  clear hz2
  go_wp2_with fail
  generalize (w1.alloc (.cells #[.pointer none, .slice none 0 0] 161)) = w2 at *
  refine (lines_any A1 n1 c1 A2 n2 c2 w2).mono ?_
  rintro e w3 ⟨rfl, hw3⟩
  have hb3 : Below w2.heap.size w2 w3 := by rw [hw3]; exact belowA (Below.refl _ _) _
  have hg3 : w3.heap[w2.heap.size]? = some (.cells #[.slice A1 n1 c1, .slice A2 n2 c2] 74 (0, 0)) := by rw [hw3]; exact heapNew rfl
  have hbw3 : Below w.heap.size w w3 := below_next (below_next hbw1 hb2) hb3
  have hz1 := hbw1.size
  have hz3 := hb3.size
  have hl3 := (Array.getElem?_eq_some_iff.1 hg3).1
  have hbl3 : BldAt w1.heap.size w1.heap.size (.pointer none) (.slice none 0 0) [] w3 := ⟨(hb3.block _ (by omega)).trans hbl.1, .inl rfl, World.ownsRow_nil _ _ _ _, by simp [Value.ownBlock]⟩
  obtain ⟨L, HLn⟩ : ∃ L, Hid (L = linesS p) := ⟨_, rfl⟩
  have HLF : Hid (linesF p = L) := by show _ = _; unfold linesF; rw [hfo, HLn.out]; rfl
  have HQ := Lib.hid (lines_seq HH.out HS.out HL.out hbw3 hg3 [w1.heap.size] (by simp; omega) (by simp; omega))
  rw [HLF.out] at HQ
  have HT : Hid (∀ pre : List (List UInt8), pre <+: L → (textS pre).length ≤ 9600000000096) := by
    intro pre hp
    have := formed_text Hfo.out pre.length
    rw [← HLn.out, ← List.prefix_iff_eq_take.1 hp] at this
    exact this
  have HLe : Hid (∀ s ∈ L, s.length ≤ 100000000000) := by rw [HLn.out]; exact formed_line Hfo.out
  have HPt : Hid (∀ W, 4000 < (textS L).length → Below w.heap.size w W → P (.returned (.tuple #[.string ⟨#[]⟩, .iface 90 (.int .i64 3)])) W) := by
    intro W hlong hb
    rw [HP.out]
    refine ⟨?_, hb⟩
    unfold progO
    rw [if_pos Hfo.out, ← HLn.out, if_pos hlong]; rfl
  have HPs : Hid (∀ W, ¬ 4000 < (textS L).length → Below w.heap.size w W → P (.returned (.tuple #[.string (bytes (textS L)), .nilIface])) W) := by
    intro W hlong hb
    rw [HP.out]
    refine ⟨?_, hb⟩
    unfold progO
    rw [if_pos Hfo.out, ← HLn.out, if_neg hlong]; rfl
  clear hbl hr0 hr1 f0 f1 hfo hw3 hg3 hb0 hb2 hb3 HH HS HL HLF HP
  go_wp2_with fail
  refine (wpIn_wide (n := 8)).1 (range_law2 (hg := rfl) (eg := enters_of Tryz.func81 (by kernel_rfl) rfl) (hseq := HQ.out) (hb0 := Below.refl _ _) ?hS (hps := fun _ => rfl)
    (I := fun N pre W => Hid (∃ q v, BldAt N w1.heap.size q v (Lib.byteCells (textS pre)) W) ∧ Below w.heap.size w W ∧ w1.heap.size ≤ N)
    (Ix := fun _ _ _ _ => False)
    ?hI (fun _ _ _ _ _ h _ => h) ?h0 ?round ?done (fun _ _ _ _ _ h => h.elim))
  case hS => intro b hb; simp at hb; omega
  case hI =>
    rintro N pre W W' ⟨⟨q, v, h1⟩, h2, h3⟩ hs'
    exact ⟨⟨q, v, h1.soft hs'⟩, h2.trans (hs'.below (by omega) h2.size), h3⟩
  case h0 =>
    intro N W hs' hN hN2
    exact ⟨⟨_, _, hs'.row hbl3.1, .inl rfl, World.ownsRow_nil _ _ _ _, by simp [Value.ownBlock]⟩, hbw3.trans (hs'.below (by omega) hbw3.size), by omega⟩
  case round =>
    rintro k N pre x W0 W1 K ⟨⟨q, v, h1⟩, h2, h3N⟩ hs' hN hN2 hW01 hx hK
    have HK := Lib.hid hK
    have HX : Hid (pre ++ [x] <+: L) := hx
    have HR := Lib.hid h1.row
    have hb6 : Below w.heap.size w W1 := h2.trans (hs'.below (by omega) h2.size)
    have H1 := Lib.hid (h1.soft hs')
    have hxl : x.length ≤ 100000000000 := by
      obtain ⟨t, ht⟩ := hx
      exact HLe.out x (by rw [← ht]; simp)
    have hbz : w1.heap.size < W0.heap.size := (Array.getElem?_eq_some_iff.1 h1.1).1
    clear hK hx h1 h2 hs' HQ hbl3
    rw [encS_one]
    gi_wp2
    refine HK.out _ _ (Below.refl _ _) (fun W2 hs2 hz2 => ?_)
    have hb7 : Below w.heap.size w W2 := hb6.trans (hs2.below (by omega) hb6.size)
    have H2 := Lib.hid (H1.out.soft hs2)
    have hsz : (textS pre).length + (bytes x ++ ⟨#[10]⟩ : ByteArray).size ≤ 140737488355328 := by
      have h3 := HT.out _ HX.out
      rw [textS_snoc] at h3
      simp only [List.length_append, List.length_cons, List.length_nil] at h3
      have e1 : (bytes x).size = x.length := rfl
      have e2 : (⟨#[10]⟩ : ByteArray).size = 1 := rfl
      rw [ByteArray.size_append, e1, e2]
      omega
    have HW := Lib.hid (wstr_any H2.out (bytes x ++ ⟨#[10]⟩) (by rw [Lib.byteCells_length]; exact hsz) (by omega))
    have HBs : Hid (Lib.byteCells (textS pre) ++ Lib.strCells (bytes x ++ ⟨#[10]⟩) = Lib.byteCells (textS (pre ++ [x]))) := by
      show _ = _
      have e : (bytes x ++ ⟨#[10]⟩ : ByteArray) = bytes (x ++ [10]) := bytes_app x [10]
      rw [e, strCells_bytes, ← byteCells_app, textS_snoc, List.append_assoc]
    have hxs : (bytes x).size ≤ 100000000000 := hxl
    have HZ2 := Lib.hid hz2
    generalize bytes x = sx at *
    have z1 : ¬ (9223372036854775807 < sx.size + 1) := by omega
    have z2 : ¬ (9223372036854775806 < sx.size) := by omega
    clear hz2 hsz H1 HK hs2 hxl
    gi_wp2_with fail
    refine ⟨trivial, (fun h => by cases h), (CallsIn.inRound _ (callsIn_wide.2 HW.out)).mono ?_⟩
    rintro e w6 ⟨rfl, ⟨v', hbl6⟩, hout⟩
    rw [HBs.out] at hbl6
    have hz7 := hb7.size
    have HT2 : Hid (Turn2 [w1.heap.size] N W0.heap.size W2 w6) := Turn2.of_out hout (by have := HZ2.out; omega) (fun c hc _ => by
      rcases List.mem_cons.1 hc with rfl | hc
      · exact ⟨.inl (by simp), hbz⟩
      · have := HR.out c hc
        exact ⟨.inr this.1, this.2⟩)
    have HB6 : Hid (Below w.heap.size w w6) := hb7.trans (hout.below (fun c hc => by
      rcases List.mem_cons.1 hc with rfl | hc
      · omega
      · have := HR.out c hc; omega) hz7)
    have HN6 := Lib.hid hbl6
    clear hbl6 hout HW HBs hb7 hb6 H2
    gi_wp2_with fail
    exact ⟨HT2.out, ⟨_, _, HN6.out⟩, HB6.out, h3N⟩
  case done =>
    rintro N xs W hxs ⟨⟨q, v, h1⟩, h2, h3N⟩ hD
    have hxl : xs = L := hxs.out
    rw [hxl] at h1
    have HD := Lib.hid hD
    have hsW := h2.size
    have hblt := (Array.getElem?_eq_some_iff.1 h1.1).1
    have HBl := Lib.hid h1
    have H2 := Lib.hid h2
    have HLn2 := Lib.hid (blen_any h1)
    rw [Lib.byteCells_length] at HLn2
    clear hxs hxl h1 h2 hD HQ hbl3 HT HLe
    go_wp2_with fail
    refine HLn2.out.mono ?_
    rintro e w6 ⟨rfl, rfl⟩
    by_cases hlong : 4000 < (textS L).length
    · have z1 : (4000 : Int) < ((textS L).length : Int) := by omega
      have hb20 : Below w.heap.size w (W.putObj w3.heap.size (.deferred none)) := H2.out.trans ((Soft.putObj _ (Nat.le_refl _) HD.out rfl).below (by omega) hsW)
      have HE := Lib.hid (HPt.out _ hlong hb20)
      have hD := HD.out
      clear hlong HPt HPs hb20 HLn2 HBl
      go_wp2_with fail
      refine ⟨by simp, .inl ⟨_, _, rfl, run_takeDeferred hD, ?_⟩⟩
      exact ⟨_, by simp [results, Tryz.results35, go_sem], HE.out⟩
    · have z1 : ¬ (4000 : Int) < ((textS L).length : Int) := by omega
      have HSt := Lib.hid (bstr_any (B := w1.heap.size) (HBl.out.down h3N) (Nat.le_refl _) (by omega))
      clear HLn2 HBl
      go_wp2_with fail
      refine HSt.out.mono ?_
      rintro e w7 ⟨rfl, hb7, hk7⟩
      have hD7 := hk7 _ _ HD.out
      have hbw7 : Below w.heap.size w w7 := H2.out.trans (hb7.mono hz1)
      have hb20 : Below w.heap.size w (w7.putObj w3.heap.size (.deferred none)) := hbw7.trans ((Soft.putObj _ (Nat.le_refl _) hD7 rfl).below (by omega) hbw7.size)
      have HE := Lib.hid (HPs.out _ hlong hb20)
      clear hlong HPt HPs hb20 HSt hb7 hk7 hbw7
      go_wp2_with fail
      refine ⟨by simp, .inl ⟨_, _, rfl, run_takeDeferred hD7, ?_⟩⟩
      exact ⟨_, by simp [results, Tryz.results35, go_sem], HE.out⟩
end Go.Proofs.YtplekbpmfaghbaaGreatDoor

namespace Go.Proofs.YtplekbpmfaghbaaGreatDoor
open Go.RowKit
/-- a text, or an error -/
def ShP (r : Bool) (s : List UInt8) (w : World) (e : Ending) (w' : World) : Prop := e = .returned (.tuple #[.string (if r then bytes s else ⟨#[]⟩), if r then .nilIface else .iface 90 (.int .i64 2)]) ∧ Below w.heap.size w w'
set_option maxRecDepth 100000 in
set_option maxHeartbeats 2000000 in
theorem askedExp_any (d : Nat) (x : GExp) (A : Option Addr) (n c : Nat) (w : World) (hk : SliceIs (Enc.exp d) w w.heap.size A n c x.kids) (hx : x.t.x.size ≤ reachN) (hv : x.t.v.ok) (hL : LexW w) (hS : ShowW w) (hlen : rightE 20 x = true → (expS 20 x).length ≤ 1000000000000) :
    Calls Tryz.prog 72 #[.agg #[.int .i64 x.op, .string x.t.x, .int .i64 x.t.v.k, .int .i64 x.t.v.n, .string x.t.v.s, .slice A n c], .func (.func 73) #[] #[], .func (.func 74) #[] #[]] w (ShP (rightE 20 x) (expS 20 x) w) := by
  have HR := Lib.hid (fun (V : World) (hb : Below w.heap.size w V) => rightExp_any x A n c d V (hk.keep hb) hx (hL.on hb))
  have HT := Lib.hid (fun (hr : rightE 20 x = true) (V : World) (hb : Below w.heap.size w V) => exp2_any 20 x A n c d V hr (hk.keep hb) hv.2.1 (hS.on hb) (hlen hr))
  have hrb : (w.alloc (.cells #[.int .i64 x.op, .string x.t.x, .int .i64 x.t.v.k, .int .i64 x.t.v.n, .string x.t.v.s, .slice A n c] 36)).heap[w.heap.size]? = some (.cells #[.int .i64 x.op, .string x.t.x, .int .i64 x.t.v.k, .int .i64 x.t.v.n, .string x.t.v.s, .slice A n c] 36 (0, 0)) := heapNew rfl
  have hba : Below w.heap.size w (w.alloc (.cells #[.int .i64 x.op, .string x.t.x, .int .i64 x.t.v.k, .int .i64 x.t.v.n, .string x.t.v.s, .slice A n c] 36)) := belowA (Below.refl _ _) _
  obtain ⟨f0, f1, f2, f3, f4, f5⟩ := facts6 hrb
  have Hrb := Lib.hid hrb
  clear hrb hL hS hlen
  generalize hr : rightE 20 x = r at *
  have HTr := Lib.hid (fun (h : r = true) => HT.out h)
  clear HT hr
  generalize expS 20 x = s at *
  generalize hwb : (w.alloc (.cells #[.int .i64 x.op, .string x.t.x, .int .i64 x.t.v.k, .int .i64 x.t.v.n, .string x.t.v.s, .slice A n c] 36)) = wb at *
  have HB0 := Lib.hid hba
  clear hba
  go_enter Tryz.func72, Tryz.ntmps72
  go_wp2_with fail
  try simp only [hwb]
  clear hwb
  go_wp2_with fail
  refine (HR.out _ HB0.out).mono ?_
  rintro e1 w1 ⟨rfl, hb1⟩
  have HB1 := Lib.hid (below_next HB0.out hb1)
  obtain ⟨g0, g1, g2, g3, g4, g5⟩ := facts6 ((hb1.block _ (Array.getElem?_eq_some_iff.1 Hrb.out).1).trans Hrb.out)
  clear hb1 f0 f1 f2 f3 f4 f5
  cases r with
  | false =>
    go_wp2_with fail
    go_ret2
    exact ⟨rfl, HB1.out⟩
  | true =>
    go_wp2_with fail
    refine (HTr.out (by simp) _ HB1.out).mono ?_
    rintro e2 w2 ⟨rfl, hb2⟩
    go_wp2_with fail
    go_ret2
    exact ⟨rfl, below_next HB1.out hb2⟩
set_option maxRecDepth 100000 in
set_option maxHeartbeats 2000000 in
theorem topExp_any (d : Nat) (x : GExp) (A : Option Addr) (n c : Nat) (w : World) (hk : SliceIs (Enc.exp d) w w.heap.size A n c x.kids) (hx : x.t.x.size ≤ reachN) (hv : x.t.v.ok) (hL : LexW w) (hS : ShowW w) (hlen : rightE 20 x = true → (expS 20 x).length ≤ 1000000000000) :
    Calls Tryz.prog 19 #[.agg #[.int .i64 x.op, .string x.t.x, .int .i64 x.t.v.k, .int .i64 x.t.v.n, .string x.t.v.s, .slice A n c]] w (ShP (rightE 20 x) (expS 20 x) w) := by
  have hba : Below w.heap.size w (w.alloc (.cells #[.int .i64 x.op, .string x.t.x, .int .i64 x.t.v.k, .int .i64 x.t.v.n, .string x.t.v.s, .slice A n c] 36)) := belowA (Below.refl _ _) _
  have hrb : (w.alloc (.cells #[.int .i64 x.op, .string x.t.x, .int .i64 x.t.v.k, .int .i64 x.t.v.n, .string x.t.v.s, .slice A n c] 36)).heap[w.heap.size]? = some (.cells #[.int .i64 x.op, .string x.t.x, .int .i64 x.t.v.k, .int .i64 x.t.v.n, .string x.t.v.s, .slice A n c] 36 (0, 0)) := heapNew rfl
  obtain ⟨f0, f1, f2, f3, f4, f5⟩ := facts6 hrb
  have HC := Lib.hid (askedExp_any d x A n c _ (hk.keep hba) hx hv (hL.on hba) (hS.on hba) hlen)
  have HB0 := Lib.hid hba
  clear hk hL hS hlen hrb hba
  generalize rightE 20 x = r at *
  generalize expS 20 x = s at *
  generalize hwb : (w.alloc (.cells #[.int .i64 x.op, .string x.t.x, .int .i64 x.t.v.k, .int .i64 x.t.v.n, .string x.t.v.s, .slice A n c] 36)) = wb at *
  go_enter Tryz.func19, Tryz.ntmps19
  go_wp2_with fail
  try simp only [hwb]
  clear hwb
  go_wp2_with fail
  refine HC.out.mono ?_
  rintro e1 w1 ⟨rfl, hb1⟩
  cases r <;>
  · go_wp2_with fail
    go_ret2
    exact ⟨rfl, below_next HB0.out hb1⟩
end Go.Proofs.YtplekbpmfaghbaaGreatDoor

namespace Go.Proofs.YtplekbpmfaghbaaGreatDoor
open Go.RowKit
set_option maxRecDepth 100000 in
theorem alV_any (s : ByteArray) (w : World) : Calls Tryz.prog 61 #[.string s] w (fun e w' => e = .returned (.agg #[.int .i64 0, .string s, .int .i64 0, .int .i64 0, .string ⟨#[]⟩, .slice none 0 0]) ∧ Below w.heap.size w w') := by
  go_enter Tryz.func61, Tryz.ntmps61
  go_wp2_with fail
  exact bodyPost_ret (v := .agg #[.int .i64 0, .string s, .int .i64 0, .int .i64 0, .string ⟨#[]⟩, .slice none 0 0]) (by simp [results, Tryz.results61, go_sem]) rfl ⟨rfl, belowA (Below.refl _ _) _⟩
set_option maxRecDepth 100000 in
theorem alN_any (k : Int) (w : World) : Calls Tryz.prog 62 #[.int .i64 k] w (fun e w' => e = .returned (.agg #[.int .i64 0, .string ⟨#[]⟩, .int .i64 1, .int .i64 k, .string ⟨#[]⟩, .slice none 0 0]) ∧ Below w.heap.size w w') := by
  go_enter Tryz.func62, Tryz.ntmps62
  go_wp2_with fail
  exact bodyPost_ret (v := .agg #[.int .i64 0, .string ⟨#[]⟩, .int .i64 1, .int .i64 k, .string ⟨#[]⟩, .slice none 0 0]) (by simp [results, Tryz.results62, go_sem]) rfl ⟨rfl, belowA (Below.refl _ _) _⟩
theorem fits0 : fits 0 := by unfold fits; decide
theorem fits1 : fits 1 := by unfold fits; decide
/-- an expression's cells at hand -/
structure ExpAt (d : Nat) (W : World) (x : GExp) (A : Option Addr) (n c : Nat) : Prop where
  fop : fits x.op
  fx : x.t.x.size ≤ reachN
  fv : x.t.v.ok
  kids : SliceIs (Enc.exp d) W W.heap.size A n c x.kids
theorem ExpAt.keep {d : Nat} {W W' : World} {x : GExp} {A : Option Addr} {n c : Nat} (h : ExpAt d W x A n c) (hb : Below W.heap.size W W') : ExpAt d W' x A n c := ⟨h.fop, h.fx, h.fv, h.kids.keep hb⟩
theorem pair_is {d : Nat} {W : World} {b : Nat} {T : TypeId} {x y : GExp} {A1 A2 : Option Addr} {n1 c1 n2 c2 : Nat} (hrow : W.heap[b]? = some (.cells (expC x A1 n1 c1 ++ expC y A2 n2 c2).toArray T (0, 0))) (hx : ExpAt d W x A1 n1 c1) (hy : ExpAt d W y A2 n2 c2) :
    SliceIs (Enc.exp (d + 1)) W W.heap.size (some ⟨b, 0, none⟩) 2 2 [x, y] := by
  refine ⟨rfl, by omega, by simp [maxLen], by simp [reachN], .inr ⟨b, 0, rfl, (Array.getElem?_eq_some_iff.1 hrow).1, fun i e hi => ?_⟩⟩
  match i, hi with
  | 0, hi =>
    simp at hi; subst hi
    refine ⟨expC x A1 n1 c1, ⟨A1, n1, c1, rfl, hx.fop, hx.fx, hx.fv, hx.kids⟩, fun j v hj => ?_⟩
    rw [Enc.exp_sz, cell_of_row _ _ _ _ _ _ hrow]
    have hl : j < 6 := (List.getElem?_eq_some_iff.1 hj).1
    simp only [Nat.zero_mul, Nat.zero_add, List.getElem?_toArray]
    rw [List.getElem?_append_left (show j < (expC x A1 n1 c1).length from hl)]
    exact hj
  | 1, hi =>
    simp at hi; subst hi
    refine ⟨expC y A2 n2 c2, ⟨A2, n2, c2, rfl, hy.fop, hy.fx, hy.fv, hy.kids⟩, fun j v hj => ?_⟩
    rw [Enc.exp_sz, cell_of_row _ _ _ _ _ _ hrow]
    simp only [Nat.one_mul, Nat.zero_add, List.getElem?_toArray]
    rw [List.getElem?_append_right (show (expC x A1 n1 c1).length ≤ 6 + j by show 6 ≤ 6 + j; omega)]
    rw [show 6 + j - (expC x A1 n1 c1).length = j by show 6 + j - 6 = j; omega]
    exact hj
  | i + 2, hi => simp at hi
def alX : GExp := .mk 0 ⟨⟨#[88]⟩, gv0⟩ []
def alY : GExp := .mk 0 ⟨⟨#[89]⟩, gv0⟩ []
def alN (k : Int) : GExp := .mk 0 ⟨⟨#[]⟩, ⟨1, k, ⟨#[]⟩⟩⟩ []
def alS : GExp := .mk 1 zT [alY, alN 1]
def alP : GExp := .mk 3 zT [alS, alN 2]
def alE : GExp := .mk 2 zT [alX, alP]
theorem alE_right : rightE 20 alE = true := by kernel_rfl
theorem alE_text : expS 20 alE = [88, 32, 45, 32, 40, 89, 32, 43, 32, 49, 41, 32, 42, 32, 50] := by kernel_rfl
theorem leaf_at {d : Nat} {W : World} {x : GExp} (h0 : x.kids = []) (h1 : fits x.op) (h2 : x.t.x.size ≤ reachN) (h3 : x.t.v.ok) : ExpAt d W x none 0 0 := ⟨h1, h2, h3, by rw [h0]; exact SliceIs.nil⟩
theorem gv0_ok : gv0.ok := ⟨by unfold fits; decide, by unfold fits; decide, Nat.zero_le _⟩
set_option maxRecDepth 100000 in
set_option maxHeartbeats 4000000 in
theorem alive7_any (w : World) (hL : LexW w) (hS : ShowW w) : Calls Tryz.prog 12 #[] w (RetBool true w) := by
  have HL := Lib.hid (fun (W : World) (hb : Below w.heap.size w W) => hL.on hb)
  have HS := Lib.hid (fun (W : World) (hb : Below w.heap.size w W) => hS.on hb)
  clear hL hS
  go_enter Tryz.func12, Tryz.ntmps12
  go_wp2_with fail
  refine (alV_any _ _).mono ?_
  rintro e w1 ⟨rfl, hb1⟩
  go_wp2_with fail
  refine (alV_any _ _).mono ?_
  rintro e w2 ⟨rfl, hb2⟩
  go_wp2_with fail
  refine (alN_any _ _).mono ?_
  rintro e w3 ⟨rfl, hb3⟩
  have HB3 := Lib.hid (below_next (below_next hb1 hb2) hb3)
  clear hb1 hb2 hb3
  go_wp2_with fail
  refine (alN_any _ _).mono ?_
  rintro e w4 ⟨rfl, hb4⟩
  have hr1 : (w3.alloc (.cells (expC alY none 0 0 ++ expC (alN 1) none 0 0).toArray 36)).heap[w3.heap.size]? = some (.cells (expC alY none 0 0 ++ expC (alN 1) none 0 0).toArray 36 (0, 0)) := heapNew rfl
  have HR1 := Lib.hid ((hb4.block _ (Array.getElem?_eq_some_iff.1 hr1).1).trans hr1)
  have HB4 := Lib.hid (below_next (below_next HB3.out (belowA (Below.refl _ _) _)) hb4)
  clear hb4 hr1
  go_wp2_with fail
  have b4 : Below w4.heap.size w4 ((w4.alloc (.cells (expC alS (some ⟨w3.heap.size, 0, none⟩) 2 2 ++ expC (alN 2) none 0 0).toArray 36)).alloc (.cells (expC alX none 0 0 ++ expC alP (some ⟨w4.heap.size, 0, none⟩) 2 2).toArray 36)) := belowA (belowA (Below.refl _ _) _) _
  have r1 := (b4.block _ (Array.getElem?_eq_some_iff.1 HR1.out).1).trans HR1.out
  have r2 : ((w4.alloc (.cells (expC alS (some ⟨w3.heap.size, 0, none⟩) 2 2 ++ expC (alN 2) none 0 0).toArray 36)).alloc (.cells (expC alX none 0 0 ++ expC alP (some ⟨w4.heap.size, 0, none⟩) 2 2).toArray 36)).heap[w4.heap.size]? = some (.cells (expC alS (some ⟨w3.heap.size, 0, none⟩) 2 2 ++ expC (alN 2) none 0 0).toArray 36 (0, 0)) := heapOld (heapNew rfl)
  have r3 : ((w4.alloc (.cells (expC alS (some ⟨w3.heap.size, 0, none⟩) 2 2 ++ expC (alN 2) none 0 0).toArray 36)).alloc (.cells (expC alX none 0 0 ++ expC alP (some ⟨w4.heap.size, 0, none⟩) 2 2).toArray 36)).heap[w4.heap.size + 1]? = some (.cells (expC alX none 0 0 ++ expC alP (some ⟨w4.heap.size, 0, none⟩) 2 2).toArray 36 (0, 0)) := heapNew (by simp)
  have z0 : (0 : Nat) ≤ reachN := Nat.zero_le _
  have lf : ∀ (d : Nat) (W : World) (k : Int), fits k → ExpAt d W (alN k) none 0 0 := fun d W k hk => leaf_at rfl fits0 z0 ⟨fits1, hk, z0⟩
  have lv : ∀ (d : Nat) (W : World) (s : ByteArray), s.size ≤ reachN → ExpAt d W (.mk 0 ⟨s, gv0⟩ []) none 0 0 := fun d W s hs => leaf_at rfl fits0 hs gv0_ok
  have s1 := pair_is r1 (lv 0 _ ⟨#[89]⟩ (by simp [reachN, ByteArray.size])) (lf 0 _ 1 (by unfold fits; decide))
  have s2 := pair_is r2 (x := alS) (y := alN 2) ⟨by unfold fits alS; decide, z0, gv0_ok, s1⟩ (lf 1 _ 2 (by unfold fits; decide))
  have s3 := pair_is r3 (x := alX) (y := alP) (lv 2 _ ⟨#[88]⟩ (by simp [reachN, ByteArray.size])) ⟨by unfold fits alP; decide, z0, gv0_ok, s2⟩
  have HC := Lib.hid (topExp_any 3 alE (some ⟨w4.heap.size + 1, 0, none⟩) 2 2 _ s3 z0 gv0_ok (HL.out _ (below_next HB4.out b4)) (HS.out _ (below_next HB4.out b4)) (fun _ => by rw [alE_text]; simp))
  unfold ShP at HC
  rw [alE_right, alE_text] at HC
  have HBe := Lib.hid (below_next HB4.out b4)
  clear r1 r2 r3 s1 s2 s3 lf lv z0 b4 HR1 HB4 HB3
  refine HC.out.mono ?_
  rintro e w5 ⟨rfl, hb5⟩
  have hB := below_next HBe.out hb5
  clear hb5 HBe HC
  simp only [if_true]
  have rs : ((bytes [88, 32, 45, 32, 40, 89, 32, 43, 32, 49, 41, 32, 42, 32, 50]).toList == [88, 32, 45, 32, 40, 89, 32, 43, 32, 49, 41, 32, 42, 32, 50]) = true := by rw [bytes_list]; simp
  go_wp2_with fail
  go_ret
  exact ⟨rfl, hB⟩
end Go.Proofs.YtplekbpmfaghbaaGreatDoor
