/- Tuples: Hash and Text, and the document's. -/
import Derived.Test.YtgomfmfaoeojkaaDoorTupP
import Derived.Test.YtgomfmfaoeojkaaDoorVHash
import Derived.ArgAppend
import Derived.Lib.Join
namespace Go.Proofs.YtgomfmfaoeojkaaDoor
open Go.RowKit

/-! ### a text's bytes and a nought behind them -/
theorem u8_info : (Tryd.prog.info? 5).map (fun i => (i.zero, i.size, i.bytes)) = some (some (.int .u8 0), 1, 1) := by kernel_rfl
def bytesW (w1 : World) (s : ByteArray) : World :=
  (w1.drew.alloc (.cells (bytesRow s (grownCap w1 s.size 0 5)) 5 ((bytesRow s (grownCap w1 s.size 0 5)).size, (bytesRow s (grownCap w1 s.size 0 5)).size + 1))).alloc (.cells #[.int .u8 0] 5)
theorem bytesRow_at (s : ByteArray) (cap j : Nat) (hj : j < s.size) : (bytesRow s cap)[j]? = some (.int .u8 (s[j]'hj).toNat) := by
  unfold bytesRow
  rw [Array.getElem?_append_left (by simpa using hj)]
  simp only [Array.getElem?_map]
  rw [show s.data[j]? = some (s[j]'hj) from Array.getElem?_eq_getElem hj]
  rfl
theorem bytesRow_size (s : ByteArray) (cap : Nat) (h : s.size ≤ cap) : (bytesRow s cap).size = cap := by
  unfold bytesRow
  simp only [Array.size_append, Array.size_map, Array.size_replicate]
  show s.size + (cap - s.size) = cap
  omega
theorem bytesW_row (w1 : World) (s : ByteArray) : (bytesW w1 s).heap[w1.heap.size]? = some (.cells (bytesRow s (grownCap w1 s.size 0 5)) 5 ((bytesRow s (grownCap w1 s.size 0 5)).size, (bytesRow s (grownCap w1 s.size 0 5)).size + 1)) :=
  heapOld (heapNew (w := w1.drew) rfl)
theorem bytesW_one (w1 : World) (s : ByteArray) : (bytesW w1 s).heap[w1.heap.size + 1]? = some (.cells #[.int .u8 0] 5 (0, 0)) := heapNew (by simp)
theorem bytesW_below (w1 : World) (s : ByteArray) : Below w1.heap.size w1 (bytesW w1 s) := belowA (belowA (Below.drew (Below.refl _ _)) _) _

theorem toList_get (s : ByteArray) (j : Nat) (hj : j < s.toList.length) : ∃ h : j < s.size, s.toList[j] = s[j]'h := by
  have h : j < s.size := by
    have e : s.toList.length = s.size := by rw [ByteArray.toList_eq]; rfl
    omega
  refine ⟨h, ?_⟩
  simp only [ByteArray.toList_eq]
  rfl

def ZeroPost (w1 : World) (s : ByteArray) (v' : Value) (w' : World) : Prop := ∃ b c, v' = .slice (some ⟨b, 0, none⟩) (s.size + 1) c ∧ (∀ j (hj : j < (s.toList ++ [0]).length), w'.cell? ⟨b, j, none⟩ = some (.int .u8 (s.toList ++ [0])[j].toNat)) ∧ Below w1.heap.size w1 w'
set_option maxRecDepth 100000 in
theorem bytes_zero (w1 : World) (s : ByteArray) (hs : s.size ≤ 140737488351232) :
    ∃ v' w', (∀ ty, (Builtin.append_ #[65, 65] ty #[.slice (some ⟨w1.heap.size, 0, none⟩) s.size (grownCap w1 s.size 0 5), .slice (some ⟨w1.heap.size + 1, 0, none⟩) 1 1]).run Tryd.prog (bytesW w1 s) = .ok v' w') ∧ ZeroPost w1 s v' w' := by
  obtain ⟨ti, hi, hz, hsz, hby⟩ := info_parts u8_info
  have hel : s.toList.length = s.size := by rw [ByteArray.toList_eq]; rfl
  have hge : s.size ≤ grownCap w1 s.size 0 5 := grownCap_ge w1 _ _ _
  have hrow := bytesW_row w1 s
  have hrs := bytesRow_size s _ hge
  have hone := bytesW_one w1 s
  have hbel := bytesW_below w1 s
  have hcell : ∀ j (hj : j < s.size), (bytesW w1 s).cell? ⟨w1.heap.size, j, none⟩ = some (.int .u8 (s[j]'hj).toNat) := fun j hj => (cell_of_row _ _ j _ _ _ hrow).trans (bytesRow_at s _ j hj)
  have hnew : ∀ j u, [Value.int .u8 0][j]? = some u → (bytesW w1 s).cell? ((⟨w1.heap.size + 1, 0, none⟩ : Addr).add j) = some u := by
    intro j u hu
    have hadd : (⟨w1.heap.size + 1, 0, none⟩ : Addr).add j = ⟨w1.heap.size + 1, j, none⟩ := by unfold Addr.add; split <;> simp_all
    rw [hadd, cell_of_row _ _ j _ _ _ hone]; simpa using hu
  by_cases hroom : s.size + 1 ≤ grownCap w1 s.size 0 5
  · have hc : (bytesW w1 s).cell? ⟨w1.heap.size, s.size, none⟩ = (bytesRow s (grownCap w1 s.size 0 5))[s.size]? := cell_of_row _ _ s.size _ _ _ hrow
    have hc' : ((bytesW w1 s).cell? ⟨w1.heap.size, s.size, none⟩).isSome = true := by
      rw [hc, Array.getElem?_eq_getElem (by rw [hrs]; omega)]; rfl
    have hf : (bytesW w1 s).frozen? ⟨w1.heap.size, s.size, none⟩ = false := by
      unfold World.frozen?
      rw [hrow]
      simp only [hrs, Bool.and_eq_false_iff, decide_eq_false_iff_not]
      left; omega
    have hrun := fun ty => run_append_room_cells (P := Tryd.prog) (w := bytesW w1 s) 65 ty 5 ti Tryd.underlying65 hi w1.heap.size 0 s.size (grownCap w1 s.size 0 5) ⟨w1.heap.size + 1, 0, none⟩ 1 1 [.int .u8 0] (by rw [hsz]; rfl) hnew (by simp [Value.oneCell']) hroom
      (by intro j hj; simp at hj; subst hj; rw [hsz]; simpa using hc') (by intro j hj; simp at hj; subst hj; rw [hsz]; simpa using hf)
    rw [hsz, Nat.mul_one, Nat.zero_add] at hrun
    refine ⟨_, _, hrun, w1.heap.size, _, rfl, ?_, ?_⟩
    · intro j hj
      simp only [World.setCells]
      rw [List.length_append, hel] at hj
      simp only [List.length_cons, List.length_nil] at hj
      by_cases hjn : j < s.size
      · have ho : (⟨w1.heap.size, s.size, none⟩ : Addr) ≠ ⟨w1.heap.size, j, none⟩ := by simp <;> omega
        rw [World.cell?_setCell_other _ _ _ _ ho, hcell j hjn]
        congr 2
        obtain ⟨h, e⟩ := toList_get s j (by omega)
        rw [List.getElem_append_left (by omega), e]
      · obtain rfl : j = s.size := by omega
        rw [World.cell?_setCell_same' _ _ _ hc']
        congr 2
        rw [List.getElem_append_right (by omega)]
        simp [hel]
    · simp only [World.setCells]
      exact hbel.setCell (Nat.le_refl _) _
  · obtain ⟨v', w', hrun, hown, hg⟩ := run_append_arg_grows (P := Tryd.prog) (w := bytesW w1 s) 65 65 5 ti _ 1 1 Tryd.underlying65 hi hz hsz hby rfl (by decide) ⟨w1.heap.size, 0, none⟩ s.size (grownCap w1 s.size 0 5) (s.toList.map fun (b : UInt8) => Value.int .u8 (b.toNat : Int)) (by simp [hel])
      (by
        intro j u hu
        have hadd : (⟨w1.heap.size, 0, none⟩ : Addr).add j = ⟨w1.heap.size, j, none⟩ := by unfold Addr.add; split <;> simp_all
        rw [List.getElem?_map] at hu
        obtain ⟨b, hb, rfl⟩ := Option.map_eq_some_iff.1 hu
        have hjl : j < s.toList.length := (List.getElem?_eq_some_iff.1 hb).1
        obtain ⟨h, e⟩ := toList_get s j hjl
        rw [hadd, hcell j h]
        rw [List.getElem?_eq_getElem hjl, e] at hb
        injection hb with hb
        rw [hb]) ⟨w1.heap.size + 1, 0, none⟩ 1 1 [.int .u8 0] rfl hnew (by omega) (by simp [maxLen]; omega) (by omega)
    obtain ⟨A2, c2, rfl⟩ := own_form hown
    refine ⟨_, w', fun ty => hrun, ?_⟩
    rcases hown.2 with ⟨h, h0⟩ | ⟨g, cap, cur, h, hgb, hh, _, _, _, htk⟩
    · omega
    · simp only [Value.slice.injEq] at h
      obtain ⟨rfl, _, rfl⟩ := h
      refine ⟨g, _, rfl, ?_, hbel.trans ((Below.refl _ _).grown hg hbel.size (by intro k hk; cases hk))⟩
      intro j hj
      rw [cell_of_row _ _ j _ _ _ hh, ← Array.getElem?_toList]
      have hl2 : (s.toList.map (fun (b : UInt8) => Value.int .u8 (b.toNat : Int)) ++ [Value.int .u8 0]) = (s.toList ++ [0]).map (fun (b : UInt8) => Value.int .u8 (b.toNat : Int)) := by simp
      rw [hl2] at htk
      have hj2 : j < ((s.toList ++ [0]).map (fun (b : UInt8) => Value.int .u8 (b.toNat : Int))).length := by simpa using hj
      have := congrArg (fun l => l[j]?) htk
      have hj3 : j < (s.size + 1) * 1 := by simp [hel] at hj; omega
      simp only [List.getElem?_take, if_pos hj3] at this
      rw [this, List.getElem?_map, List.getElem?_eq_getElem hj]
      rfl

def hashT (t : List GV) : Nat := t.foldl (fun h v => mixN h (textOf v ++ [0])) 2166136261
theorem hashT_take {t : List GV} {k : Nat} {x : GV} (hx : t[k]? = some x) : hashT (t.take (k + 1)) = mixN (hashT (t.take k)) (textOf x ++ [0]) := by
  unfold hashT; rw [List.take_add_one, hx, List.foldl_append]; rfl
theorem hashT_lt (t : List GV) : hashT t < 4294967296 := by
  unfold hashT
  have : ∀ (l : List GV) (h : Nat), h < 4294967296 → l.foldl (fun h v => mixN h (textOf v ++ [0])) h < 4294967296 := by
    intro l
    induction l with
    | nil => intro h hh; exact hh
    | cons v l ih => intro h hh; exact ih _ (mixN_lt hh _)
  exact this t _ (by decide)

set_option maxRecDepth 100000 in
set_option maxHeartbeats 2000000 in
theorem tHash_any (A : Option Addr) (n c : Nat) (t : List GV) (w : World) (ht : SliceIs Enc.val w w.heap.size A n c t) (h : TabW w) : Calls Tryd.prog 15 #[.slice A n c] w (RetV (.int .u32 (hashT t)) w) := by
  have hn := ht.bound
  have hlen := Lib.hid ht.1
  have HT := Lib.hid ht
  have HW := Lib.hid h
  clear ht h
  go_enter Tryd.func15, Tryd.ntmps15
  go_wp2_with fail
  go_loopw [3, 5, 8] (fun x _ i wr => ∃ k a : Nat, k ≤ n ∧ a < 4294967296 ∧ x = .int .u32 a ∧ i = .int .i64 k ∧ Hid (hashT (t.take k) = a) ∧ Below w.heap.size w wr) (fun _ _ i _ => n - (intOf i).toNat)
  case atStart => exact ⟨0, 2166136261, by omega, by decide, rfl, rfl, rfl, Below.refl _ _⟩
  case round =>
    obtain ⟨k, a, hk, ha, rfl, rfl, hm, hbr⟩ := hrel
    have i0 : (0 : Int) ≤ (k : Int) := by omega
    by_cases hlt : k < n
    · have i1 : (k : Int) < (n : Int) := by omega
      obtain ⟨b, o, x, rfl, _, hx, x1, x2, x3, hxo⟩ := (HT.out.below hbr).val_at hlt
      have ht := fun w h => text_any x hxo.2.1 w h
      have hsz : (⟨(textOf x).toArray⟩ : ByteArray).size ≤ 140737488351232 := textOf_len x hxo
      have hsl := toList_mk (textOf x)
      generalize (⟨(textOf x).toArray⟩ : ByteArray) = sx at ht hsz hsl
      have HTx := Lib.hid ht
      have HS : Hid (hashT (t.take (k + 1)) = mixN a (sx.toList ++ [0])) := by
        show _ = _
        rw [hashT_take hx.out, hm.out, hsl]
      have hlt2 : mixN a (sx.toList ++ [0]) < 4294967296 := mixN_lt ha _
      have Hlt2 := Lib.hid hlt2
      clear ht hsl hx hm hlt2 hxo
      go_wp2_with fail
      refine (HTx.out _ (HW.out.on (belowA hbr _))).mono ?_
      rintro e w1 ⟨rfl, hq1⟩
      have hbw := below_next (belowA hbr _) hq1
      clear hq1 x1 x2 x3
      have hconv := run_bytes_of_string (P := Tryd.prog) w1 9 65 5 sx (by kernel_rfl) (by kernel_rfl) (by kernel_rfl)
      obtain ⟨v', w', hrun, b', c', rfl, hcells, hb'⟩ := bytes_zero w1 sx hsz
      unfold bytesW at hrun
      have HRun := Lib.hid hrun
      have HC := Lib.hid hcells
      clear hrun hcells
      go_wp2_with (at_builtin; refine wpList_append_run rfl _ _ _ rfl _ _ rfl rfl (HRun.out _) ?_)
      have hzl : (sx.toList ++ [0]).length = sx.size + 1 := by
        have : sx.toList.length = sx.size := by rw [ByteArray.toList_eq]; rfl
        simp [this]
      refine (mixG_any b' (sx.size + 1) c' (sx.toList ++ [0]) hzl (by omega) a ha _ HC.out).mono ?_
      rintro e w2 ⟨rfl, rfl⟩
      have hbx := below_next hbw hb'
      clear hzl hconv
      go_wp2_with fail
      go_roundw
      case rel => exact ⟨k + 1, mixN a (sx.toList ++ [0]), by omega, Hlt2.out, rfl, by go_num, HS.out, hbx⟩
      case measure => simp [intOf]; omega
    · have i1 : ¬ (k : Int) < (n : Int) := by omega
      have he : a = hashT t := by rw [← hm.out, List.take_of_length_le (by have := hlen.out; omega)]
      subst he
      clear hm
      go_wp2_with fail
      go_ret
      exact ⟨rfl, hbr⟩

theorem append_zero (s : ByteArray) : (s ++ (⟨#[0]⟩ : ByteArray)).toList = s.toList ++ [0] := by
  rw [ByteArray.toList_eq, ByteArray.toList_eq, ByteArray.data_append]; simp

set_option maxRecDepth 100000 in
set_option maxHeartbeats 2000000 in
theorem refTHash_any (A : Option Addr) (n c : Nat) (t : List GV) (w : World) (ht : SliceIs Enc.val w w.heap.size A n c t) : Calls Tryd.prog 16 #[.slice A n c] w (RetV (.int .u32 (hashT t)) w) := by
  have hn := ht.bound
  have hlen := Lib.hid ht.1
  have HT := Lib.hid ht
  clear ht
  go_enter Tryd.func16, Tryd.ntmps16
  go_wp2_with fail
  go_loopw [3, 4] (fun x i wr => ∃ k a : Nat, k ≤ n ∧ a < 4294967296 ∧ x = .int .u32 a ∧ i = .int .i64 k ∧ Hid (hashT (t.take k) = a) ∧ Below w.heap.size w wr) (fun _ i _ => n - (intOf i).toNat)
  case atStart => exact ⟨0, 2166136261, by omega, by decide, rfl, rfl, rfl, Below.refl _ _⟩
  case round =>
    obtain ⟨k, a, hk, ha, rfl, rfl, hm, hbr⟩ := hrel
    have i0 : (0 : Int) ≤ (k : Int) := by omega
    by_cases hlt : k < n
    · have i1 : (k : Int) < (n : Int) := by omega
      obtain ⟨b, o, x, rfl, _, hx, x1, x2, x3, hxo⟩ := (HT.out.below hbr).val_at hlt
      have ht := fun w => refText_any x hxo w
      have hsz : (⟨(textOf x).toArray⟩ : ByteArray).size ≤ 140737488351232 := textOf_len x hxo
      have hsl := toList_mk (textOf x)
      generalize (⟨(textOf x).toArray⟩ : ByteArray) = sx at ht hsz hsl
      have HTx := Lib.hid ht
      have HS : Hid (hashT (t.take (k + 1)) = mixN a (sx.toList ++ [0])) := by
        show _ = _
        rw [hashT_take hx.out, hm.out, hsl]
      have hlt2 : mixN a (sx.toList ++ [0]) < 4294967296 := mixN_lt ha _
      have Hlt2 := Lib.hid hlt2
      clear ht hsl hx hm hlt2 hxo
      go_wp2_with fail
      refine (HTx.out _).mono ?_
      rintro e w1 ⟨rfl, hq1⟩
      have hbw := below_next hbr hq1
      clear hq1 x1 x2 x3
      go_wp2_with fail
      have hz0 : (sx ++ (⟨#[0]⟩ : ByteArray)).size ≤ 140737488355328 := by rw [ByteArray.size_append]; show sx.size + 1 ≤ _; omega
      refine (refMixG_any _ hz0 a ha _).mono ?_
      rw [append_zero]
      rintro e w2 ⟨rfl, rfl⟩
      clear hz0
      go_wp2_with fail
      go_roundw
      case rel => exact ⟨k + 1, mixN a (sx.toList ++ [0]), by omega, Hlt2.out, rfl, by go_num, HS.out, hbw⟩
      case measure => simp [intOf]; omega
    · have i1 : ¬ (k : Int) < (n : Int) := by omega
      have he : a = hashT t := by rw [← hm.out, List.take_of_length_le (by have := hlen.out; omega)]
      subst he
      clear hm
      go_wp2_with fail
      go_ret
      exact ⟨rfl, hbr⟩

/-! ### texts -/
def sep2 : List UInt8 := [44, 32]
def textT (t : List GV) : List UInt8 := if rightT t then [40] ++ Lib.join (t.map textOf) sep2 ++ [41] else []
theorem join_two (x y : List UInt8) (r : List (List UInt8)) : Lib.join (x :: y :: r) sep2 = x ++ (sep2 ++ Lib.join (y :: r) sep2) := by
  simp [Lib.join, List.intercalate, List.intersperse]
theorem join_one (x : List UInt8) : Lib.join [x] sep2 = x := by simp [Lib.join, List.intercalate]
theorem join_snoc : ∀ (xs : List (List UInt8)) (x : List UInt8), xs ≠ [] → Lib.join (xs ++ [x]) sep2 = Lib.join xs sep2 ++ sep2 ++ x
  | [], _, h => absurd rfl h
  | [a], x, _ => by rw [List.singleton_append, join_two, join_one, join_one, List.append_assoc]
  | a :: b :: r, x, _ => by
    have ih := join_snoc (b :: r) x (by simp)
    rw [List.cons_append, List.cons_append, join_two, ← List.cons_append, ih, join_two]
    simp
theorem join_len : ∀ xs : List (List UInt8), (∀ x ∈ xs, x.length ≤ 32) → (Lib.join xs sep2).length ≤ 34 * xs.length
  | [], _ => by simp [Lib.join, List.intercalate]
  | [a], h => by rw [join_one]; have := h a (by simp); simp; omega
  | a :: b :: r, h => by
    have ih := join_len (b :: r) (fun x hx => h x (by simp only [List.mem_cons] at hx ⊢; exact .inr hx))
    have ha := h a (by simp)
    rw [join_two, List.length_append, List.length_append]
    simp only [List.length_cons] at ih ⊢
    have : sep2.length = 2 := rfl
    omega
theorem textOf_short {v : GV} (h : rightB v = true) : (textOf v).length ≤ 32 := by
  unfold textOf
  rw [if_pos h]
  unfold rightB at h
  split at h
  · rename_i h1
    simp only [Bool.and_eq_true, decide_eq_true_eq] at h
    rw [if_neg (by omega)]
    have := Lib.itoa_length_le v.n (by omega) (by omega)
    omega
  · split at h
    · simp only [Bool.and_eq_true, decide_eq_true_eq] at h
      rw [if_pos ‹_›]
      have h2 := h.2
      simp only [nameOk, Bool.and_eq_true, decide_eq_true_eq] at h2
      have e : v.s.toList.length = v.s.size := by rw [ByteArray.toList_eq]; rfl
      omega
    · cases h
theorem rightT_all {t : List GV} (h : rightT t = true) : t.length ≤ 6 ∧ ∀ v ∈ t, rightB v = true := by
  simp only [rightT, Bool.and_eq_true, decide_eq_true_eq, List.all_eq_true] at h
  exact h
theorem textT_len {t : List GV} : (textT t).length ≤ 300 := by
  unfold textT
  split
  · rename_i h
    obtain ⟨h6, hall⟩ := rightT_all h
    have := join_len (t.map textOf) (by intro x hx; obtain ⟨v, hv, rfl⟩ := List.mem_map.1 hx; exact textOf_short (hall v hv))
    simp only [List.length_append, List.length_map] at this ⊢
    simp; omega
  · simp

theorem str_info : (Tryd.prog.info? 9).map (fun i => (i.zero, i.size, i.bytes)) = some (some (.string ⟨#[]⟩), 1, 16) := by kernel_rfl
theorem str_push {w W : World} {v : Value} {n : Nat} {xs : List Value} (x : ByteArray) (hn : n ≤ 1000000) (hb : Below w.heap.size w W) (hown : W.ownsRow w.heap.size 9 1 v n xs) :
    ∃ v' w', (∀ ty, (Builtin.append_ #[61, 61] ty #[v, .slice (some ⟨W.heap.size, 0, none⟩) 1 1]).run Tryd.prog (W.alloc (.cells #[.string x] 9)) = .ok v' w') ∧
      w'.ownsRow w.heap.size 9 1 v' (n + 1) (xs ++ [.string x]) ∧ Below w.heap.size w w' := by
  obtain ⟨v', w', h1, h2, h3⟩ := run_push (P := Tryd.prog) W W.heap.size rfl (base := w.heap.size) (t := 61) (ty := 61) Tryd.underlying61 str_info rfl (by decide) hown [.string x] rfl (by simp [Value.oneCell'])
    (by simp [maxLen]; omega) (by omega) hb.size
  exact ⟨v', w', fun _ => h1, h2, hb.trans h3⟩

theorem ba_app (a b : ByteArray) : (a ++ b).toList = a.toList ++ b.toList := by
  simp only [ByteArray.toList_eq, ByteArray.data_append, Array.toList_append]
def txB (v : GV) : ByteArray := ⟨(textOf v).toArray⟩
theorem txB_list (v : GV) : (txB v).toList = textOf v := toList_mk _
def JoinPost (l : List UInt8) (w : World) (e : Ending) (w' : World) : Prop := e = .returned (.string ⟨l.toArray⟩) ∧ Below w.heap.size w w'
theorem sjoin_any {base : Nat} (A : Option Addr) (n c : Nat) (t : List GV) (w : World) (hn : t.length = n) (h6 : n ≤ 6) (hr : ∀ v ∈ t, rightB v = true) (ho : w.ownsRow base 9 1 (.slice A n c) n (t.map fun v => .string (txB v))) :
    Calls Tryd.prog 34 #[.slice A n c, .string ⟨#[44, 32]⟩] w (JoinPost (Lib.join (t.map textOf) sep2) w) := by
  subst hn
  have hx : (t.map txB).map (·.data.toList) = t.map textOf := by
    rw [List.map_map]; apply List.map_congr_left; intro v _; show (txB v).data.toList = _; rw [← ByteArray.toList_eq, txB_list]
  have hjl := join_len (t.map textOf) (by intro x hx; obtain ⟨v, hv, rfl⟩ := List.mem_map.1 hx; exact textOf_short (hr v hv))
  rw [List.length_map] at hjl
  rcases ho.2 with ⟨h, h0⟩ | ⟨g, cap, cur, h, hgb, hh, hnc, hcm, hcs, htk⟩
  · have e : t = [] := List.eq_nil_of_length_eq_zero h0
    subst e
    refine (Tryd.strings_Join_none A c _ w).mono ?_
    rintro e w' ⟨rfl, rfl⟩
    exact ⟨rfl, Below.refl _ _⟩
  · simp only [Value.slice.injEq] at h
    obtain ⟨rfl, _, rfl⟩ := h
    have := Tryd.strings_Join g 0 c (t.map txB) ⟨#[44, 32]⟩ w (by
      intro j x hj
      rw [Nat.zero_add, cell_of_row _ _ j _ _ _ hh, ← Array.getElem?_toList]
      have hjl2 : j < t.length := by have := (List.getElem?_eq_some_iff.1 hj).1; simpa using this
      have h2 := congrArg (fun l => l[j]?) htk
      simp only [List.getElem?_take, if_pos (show j < t.length * 1 by omega)] at h2
      rw [h2, List.getElem?_map]
      rw [List.getElem?_map] at hj
      obtain ⟨v, hv, rfl⟩ := Option.map_eq_some_iff.1 hj
      rw [hv]; rfl) (Array.getElem?_eq_some_iff.1 hh).1 (by simp; omega) (by simpa using hnc) (by rw [hx]; show (Lib.join (t.map textOf) sep2).length ≤ _; omega)
    rw [hx] at this
    simp only [List.length_map] at this
    exact this

set_option maxRecDepth 100000 in
set_option maxHeartbeats 2000000 in
theorem tText_any (A : Option Addr) (n c : Nat) (t : List GV) (w : World) (ht : SliceIs Enc.val w w.heap.size A n c t) (h : TabW w) : Calls Tryd.prog 13 #[.slice A n c] w (RetV (.string ⟨(textT t).toArray⟩) w) := by
  have hn := ht.bound
  have hlen := Lib.hid ht.1
  have HT := Lib.hid ht
  have HW := Lib.hid h
  have hr := tRight_any A n c t w ht
  clear ht h
  cases hR : rightT t with
  | false =>
    rw [hR] at hr
    have hr := Lib.hid hr
    rw [show textT t = [] by simp [textT, hR]]
    clear hR
    go_enter Tryd.func13, Tryd.ntmps13
    go_wp2_with fail
    refine hr.out.mono ?_
    rintro e w1 ⟨rfl, hq1⟩
    go_wp2_with fail
    go_ret
    exact ⟨rfl, hq1⟩
  | true =>
    rw [hR] at hr
    have hr := Lib.hid hr
    obtain ⟨h6, hall⟩ := rightT_all hR
    have Hall := Lib.hid hall
    have hn6 : n ≤ 6 := by have := hlen.out; omega
    obtain ⟨tt, htt⟩ : ∃ tt, Hid (tt = textT t) := ⟨_, rfl⟩
    rw [← htt.out]
    have HTT : Hid (tt = [40] ++ Lib.join (t.map textOf) sep2 ++ [41]) := by rw [htt.out]; show textT t = _; simp only [textT, hR, if_true]
    clear hR hall h6 htt
    go_enter Tryd.func13, Tryd.ntmps13
    go_wp2_with fail
    refine hr.out.mono ?_
    rintro e w1 ⟨rfl, hq1⟩
    go_wp2_with fail
    go_loopw [3, 5, 11] (fun v _ i wr => ∃ k A' c', k ≤ n ∧ v = .slice A' k c' ∧ i = .int .i64 k ∧ Hid (wr.ownsRow w.heap.size 9 1 (.slice A' k c') k ((t.take k).map fun v => .string (txB v))) ∧ Below w.heap.size w wr) (fun _ _ i _ => n - (intOf i).toNat)
    case atStart => exact ⟨0, none, 0, by omega, rfl, rfl, World.ownsRow_nil _ _ _ _, hq1⟩
    case round =>
      obtain ⟨k, A', c', hk, rfl, rfl, how, hbr⟩ := hrel
      have i0 : (0 : Int) ≤ (k : Int) := by omega
      by_cases hlt : k < n
      · have i1 : (k : Int) < (n : Int) := by omega
        obtain ⟨b, o, x, rfl, _, hx, x1, x2, x3, hxo⟩ := (HT.out.below hbr).val_at hlt
        have hte := fun w h => text_any x hxo.2.1 w h
        have hte : ∀ w, TabW w → Calls Tryd.prog 33 #[x.v] w (RetV (.string (txB x)) w) := hte
        have HTx := Lib.hid hte
        have HS : Hid ((t.take (k + 1)).map (fun v => Value.string (txB v)) = (t.take k).map (fun v => .string (txB v)) ++ [.string (txB x)]) := by
          show _ = _
          rw [List.take_add_one, hx.out]; simp
        generalize txB x = sx at HTx HS
        clear hte hx hxo
        go_wp2_with fail
        refine (HTx.out _ (HW.out.on (belowA hbr _))).mono ?_
        rintro e w2 ⟨rfl, hq2⟩
        have hbw := below_next (belowA hbr _) hq2
        have how2 := own_below (how.out.alloc (.cells #[.int .i64 x.k, .int .i64 x.n, .string x.s] 30)) hq2
        clear hq2 x1 x2 x3 how
        obtain ⟨v', w', hrun, hown', hb'⟩ := str_push sx (by omega) hbw how2
        obtain ⟨A2, c2, rfl⟩ := own_form hown'
        rw [← HS.out] at hown'
        have HRun := Lib.hid hrun
        have HO := Lib.hid hown'
        clear hrun hown' how2
        go_wp2_with (at_builtin; refine wpList_append_run rfl _ _ _ rfl _ _ rfl rfl (HRun.out _) ?_)
        go_roundw
        case rel => exact ⟨k + 1, A2, c2, by omega, rfl, by go_num, HO.out, hb'⟩
        case measure => simp [intOf]; omega
      · have i1 : ¬ (k : Int) < (n : Int) := by omega
        obtain rfl : k = n := by omega
        have hown : wr.ownsRow w.heap.size 9 1 (.slice A' k c') k (t.map fun v => .string (txB v)) := by
          have h1 := how.out
          rw [List.take_of_length_le (by have := hlen.out; omega)] at h1
          exact h1
        have hj := sjoin_any A' k c' t wr hlen.out hn6 Hall.out hown
        have HJ := Lib.hid hj
        have hjl := join_len (t.map textOf) (by intro x hx; obtain ⟨v, hv, rfl⟩ := List.mem_map.1 hx; exact textOf_short (Hall.out v hv))
        rw [List.length_map, hlen.out] at hjl
        generalize hgj : Lib.join (t.map textOf) sep2 = jl at HJ HTT hjl
        clear hgj how hown hj
        go_wp2_with fail
        refine HJ.out.mono ?_
        rintro e w2 ⟨rfl, hq2⟩
        have hbw := below_next hbr hq2
        clear hq2 HJ
        obtain ⟨js, hjs⟩ : ∃ js : ByteArray, js = ⟨jl.toArray⟩ := ⟨_, rfl⟩
        have hsz : js.size ≤ 300 := by rw [hjs]; show jl.length ≤ _; omega
        rw [← hjs]
        have HJS := Lib.hid hjs
        clear hjs hjl
        have hz1 : ¬ (9223372036854775807 < 1 + js.size) := by omega
        have hz2 : ¬ (9223372036854775807 < js.size + 1) := by omega
        have hz3 : ¬ (9223372036854775806 < js.size) := by omega
        go_wp2_with fail
        go_ret
        refine ⟨?_, hbw⟩
        show Ending.returned (Value.string (⟨#[40]⟩ ++ js ++ ⟨#[41]⟩)) = _
        rw [HJS.out, HTT.out, ByteArray.mk_append_mk, ByteArray.mk_append_mk]
        first | done | simp

set_option maxRecDepth 100000 in
set_option maxHeartbeats 2000000 in
theorem refTText_any (A : Option Addr) (n c : Nat) (t : List GV) (w : World) (ht : SliceIs Enc.val w w.heap.size A n c t) : Calls Tryd.prog 14 #[.slice A n c] w (RetV (.string ⟨(textT t).toArray⟩) w) := by
  have hn := ht.bound
  have hlen := Lib.hid ht.1
  have HT := Lib.hid ht
  have hr := refTRight_any A n c t w ht
  clear ht
  cases hR : rightT t with
  | false =>
    rw [hR] at hr
    have hr := Lib.hid hr
    rw [show textT t = [] by simp [textT, hR]]
    clear hR
    go_enter Tryd.func14, Tryd.ntmps14
    go_wp2_with fail
    refine hr.out.mono ?_
    rintro e w1 ⟨rfl, hq1⟩
    go_wp2_with fail
    go_ret
    exact ⟨rfl, hq1⟩
  | true =>
    rw [hR] at hr
    have hr := Lib.hid hr
    obtain ⟨h6, hall⟩ := rightT_all hR
    have Hall := Lib.hid hall
    have hn6 : n ≤ 6 := by have := hlen.out; omega
    obtain ⟨tt, htt⟩ : ∃ tt, Hid (tt = textT t) := ⟨_, rfl⟩
    rw [← htt.out]
    have HTT : Hid (tt = [40] ++ Lib.join (t.map textOf) sep2 ++ [41]) := by rw [htt.out]; show textT t = _; simp only [textT, hR, if_true]
    clear hR hall h6 htt
    go_enter Tryd.func14, Tryd.ntmps14
    go_wp2_with fail
    refine hr.out.mono ?_
    rintro e w1 ⟨rfl, hq1⟩
    go_wp2_with fail
    go_loopw [3, 4] (fun v i wr => ∃ (k : Nat) (s : ByteArray), k ≤ n ∧ v = .string s ∧ i = .int .i64 k ∧ Hid (s.toList = [40] ++ Lib.join ((t.take k).map textOf) sep2) ∧ s.size ≤ 1 + 34 * k ∧ Below w.heap.size w wr) (fun _ i _ => n - (intOf i).toNat)
    case atStart => exact ⟨0, ⟨#[40]⟩, by omega, rfl, rfl, toList_mk [40], by decide, hq1⟩
    case round =>
      obtain ⟨k, s, hk, rfl, rfl, hs, hsz, hbr⟩ := hrel
      have i0 : (0 : Int) ≤ (k : Int) := by omega
      by_cases hlt : k < n
      · have i1 : (k : Int) < (n : Int) := by omega
        obtain ⟨b, o, x, rfl, _, hx, x1, x2, x3, hxo⟩ := (HT.out.below hbr).val_at hlt
        have hte : ∀ w, Calls Tryd.prog 35 #[x.v] w (RetV (.string (txB x)) w) := fun w => refText_any x hxo w
        have HTx := Lib.hid hte
        have hxs : (txB x).size ≤ 32 := textOf_short (Hall.out x (List.mem_of_getElem? hx.out))
        have hxl := txB_list x
        have htk : (t.take (k + 1)).map textOf = (t.take k).map textOf ++ [textOf x] := by rw [List.take_add_one, hx.out]; simp
        generalize txB x = sx at HTx hxs hxl
        by_cases hk0 : k = 0
        · subst hk0
          have HS : Hid ((s ++ sx).toList = [40] ++ Lib.join ((t.take 1).map textOf) sep2) := by
            show _ = _
            rw [show (t.take 1).map textOf = [textOf x] from htk, join_one, ba_app, hs.out, hxl]
            simp [Lib.join, List.intercalate]
          have hz : (s ++ sx).size ≤ 1 + 34 * 1 := by rw [ByteArray.size_append]; omega
          have i2 : ¬ (0 : Int) < ((0 : Nat) : Int) := by omega
          have hz1 : ¬ (9223372036854775807 < s.size + sx.size) := by omega
          have Hz := Lib.hid hz
          clear hte hx hxo htk hxl hs hz
          simp only [Nat.zero_mul, Nat.add_zero] at x1 x2 x3
          go_wp2_with fail
          refine (HTx.out _).mono ?_
          rintro e w2 ⟨rfl, hq2⟩
          have hbw := below_next hbr hq2
          clear hq2 x1 x2 x3
          go_wp2_with fail
          go_roundw
          case rel => exact ⟨1, s ++ sx, by omega, rfl, by go_num, HS.out, Hz.out, hbw⟩
          case measure => simp [intOf]; omega
        · have HS : Hid ((s ++ ⟨#[44, 32]⟩ ++ sx).toList = [40] ++ Lib.join ((t.take (k + 1)).map textOf) sep2) := by
            show _ = _
            rw [htk, join_snoc _ _ (by
              intro e
              have h0 : (t.take k).length = 0 := by rw [← List.length_map (f := textOf), e]; rfl
              rw [List.length_take] at h0
              have := hlen.out
              omega), ba_app, ba_app, hs.out, hxl, show (⟨#[44, 32]⟩ : ByteArray).toList = sep2 from toList_mk _]
            simp
          have hz : (s ++ ⟨#[44, 32]⟩ ++ sx).size ≤ 1 + 34 * (k + 1) := by
            rw [ByteArray.size_append, ByteArray.size_append]
            have : (⟨#[44, 32]⟩ : ByteArray).size = 2 := rfl
            omega
          have i2 : (0 : Int) < (k : Int) := by omega
          have hz1 : ¬ (9223372036854775807 < s.size + 2) := by omega
          have hz2 : ¬ (9223372036854775807 < s.size + 2 + sx.size) := by omega
          have hz3 : ¬ (9223372036854775805 < s.size) := by omega
          have Hz := Lib.hid hz
          clear hte hx hxo htk hxl hs hz hk0
          go_wp2_with fail
          refine (HTx.out _).mono ?_
          rintro e w2 ⟨rfl, hq2⟩
          have hbw := below_next hbr hq2
          clear hq2 x1 x2 x3
          go_wp2_with fail
          go_roundw
          case rel => exact ⟨k + 1, _, by omega, rfl, by go_num, HS.out, Hz.out, hbw⟩
          case measure => simp [intOf]; omega
      · have i1 : ¬ (k : Int) < (n : Int) := by omega
        obtain rfl : k = n := by omega
        have hz2 : ¬ (9223372036854775807 < s.size + 1) := by omega
        have hz3 : ¬ (9223372036854775806 < s.size) := by omega
        have he : s.toList = [40] ++ Lib.join (t.map textOf) sep2 := by
          have h1 := hs.out
          rw [List.take_of_length_le (by have := hlen.out; omega)] at h1
          exact h1
        have HE := Lib.hid he
        clear hs he
        go_wp2_with fail
        go_ret
        refine ⟨?_, hbr⟩
        show Ending.returned (Value.string (s ++ ⟨#[41]⟩)) = _
        rw [HTT.out, ← HE.out]
        have e1 : s ++ (⟨#[41]⟩ : ByteArray) = ⟨(s.toList ++ [41]).toArray⟩ := (toList_inj _ _).1 (by rw [ba_app, show (⟨#[41]⟩ : ByteArray).toList = [41] from toList_mk _]; exact (toList_mk _).symm)
        rw [e1]
end Go.Proofs.YtgomfmfaoeojkaaDoor
