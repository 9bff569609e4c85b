/- lex.Join. -/
import Derived.Test.YtopbgaoahcehlaaDoorLexL
import Derived.Lib.JoinLaws
namespace Go.Proofs.YtopbgaoahcehlaaDoor
open Go.RowKit

theorem join_s : ∀ ts : List (List UInt8), Lib.join ts [32] = joinS ts
  | [] => by simp [Lib.join, joinS]
  | [t] => by simp [Lib.join, joinS]
  | t :: u :: r => by
    have ih := join_s (u :: r)
    unfold Lib.join at ih ⊢
    rw [joinS_cons (by simp), ← ih]
    simp [List.intercalate, List.intersperse]
theorem str_info : (Tryd.prog.info? 9).map (fun i => (i.zero, i.size, i.bytes)) = some (some (.string ⟨#[]⟩), 1, 16) := by kernel_rfl
theorem str_push {w W : World} {v : Value} {n : Nat} {xs : List Value} (x : ByteArray) (hn : n ≤ 1000000) (hb : Below w.heap.size w W) (hown : W.ownsRow w.heap.size 9 1 v n xs) :
    ∃ v' w', (∀ ty, (Builtin.append_ #[53, 53] ty #[v, .slice (some ⟨W.heap.size, 0, none⟩) 1 1]).run Tryd.prog (W.alloc (.cells #[.string x] 9)) = .ok v' w') ∧
      w'.ownsRow w.heap.size 9 1 v' (n + 1) (xs ++ [.string x]) ∧ Below w.heap.size w w' := by
  obtain ⟨v', w', h1, h2, h3⟩ := run_push (P := Tryd.prog) W W.heap.size rfl (base := w.heap.size) (t := 53) (ty := 53) Tryd.underlying53 str_info rfl (by decide) hown [.string x] rfl (by simp [Value.oneCell'])
    (by simp [maxLen]; omega) (by omega) hb.size
  exact ⟨v', w', fun _ => h1, h2, hb.trans h3⟩
def JoinPost (l : List UInt8) (w : World) (e : Ending) (w' : World) : Prop := e = .returned (.string (bytes l)) ∧ Below w.heap.size w w'
theorem sjoin_any {base : Nat} (A : Option Addr) (n c : Nat) (ts : List (List UInt8)) (w : World) (hn : ts.length = n) (h6 : n ≤ 100000) (hl : (joinS ts).length ≤ 1000000) (ho : w.ownsRow base 9 1 (.slice A n c) n (ts.map fun t => .string (bytes t))) :
    Calls Tryd.prog 22 #[.slice A n c, .string ⟨#[32]⟩] w (JoinPost (joinS ts) w) := by
  subst hn
  have hx : (ts.map bytes).map (·.data.toList) = ts := by
    rw [List.map_map]
    conv => rhs; rw [← List.map_id ts]
    apply List.map_congr_left; intro t _; rfl
  rcases ho.2 with ⟨h, h0⟩ | ⟨g, cap, cur, h, hgb, hh, hnc, hcm, hcs, htk⟩
  · have e : ts = [] := List.eq_nil_of_length_eq_zero h0
    subst e
    refine (Tryd.strings_Join_none A c _ w).mono ?_
    rintro e w' ⟨rfl, rfl⟩
    exact ⟨rfl, Below.refl _ _⟩
  · simp only [Value.slice.injEq] at h
    obtain ⟨rfl, _, rfl⟩ := h
    have := Tryd.strings_Join g 0 c (ts.map bytes) ⟨#[32]⟩ w (by
      intro j x hj
      rw [Nat.zero_add, cell_of_row _ _ j _ _ _ hh, ← Array.getElem?_toList]
      have hjl2 : j < ts.length := by have := (List.getElem?_eq_some_iff.1 hj).1; simpa using this
      have h2 := congrArg (fun l => l[j]?) htk
      simp only [List.getElem?_take, if_pos (show j < ts.length * 1 by omega)] at h2
      rw [h2, List.getElem?_map]
      rw [List.getElem?_map] at hj
      obtain ⟨v, hv, rfl⟩ := Option.map_eq_some_iff.1 hj
      rw [hv]; rfl) (Array.getElem?_eq_some_iff.1 hh).1 (by simp; omega) (by simpa using hnc) (by rw [hx]; show (Lib.join ts [32]).length ≤ _; rw [join_s]; omega)
    rw [hx] at this
    simp only [List.length_map] at this
    have e : Lib.join ts [32] = joinS ts := join_s ts
    have this2 : Calls Tryd.prog 22 #[.slice (some ⟨g, 0, none⟩) ts.length c, .string ⟨#[32]⟩] w fun e w' => e = .returned (.string ⟨(Lib.join ts [32]).toArray⟩) ∧ Below w.heap.size w w' := this
    rw [e] at this2
    exact this2

set_option maxRecDepth 100000 in
set_option maxHeartbeats 400000 in
theorem ljoin_any (A : Option Addr) (n c : Nat) (T : List GTok) (w : World) (hT : SliceIs Enc.tok w w.heap.size A n c T) (h6 : n ≤ 100000) (hl : (joinS (T.map GTok.t)).length ≤ 1000000) :
    Calls Tryd.prog 15 #[.slice A n c] w (JoinPost (joinS (T.map GTok.t)) w) := by
  have HT := Lib.hid hT
  have hlen := Lib.hid hT.1
  have Hl := Lib.hid hl
  obtain ⟨R, HR⟩ : ∃ R, Hid (R = joinS (T.map GTok.t)) := ⟨_, rfl⟩
  rw [← HR.out]
  clear hT hl
  go_enter Tryd.func15, Tryd.ntmps15
  go_wp2_with fail
  go_loopw [3, 5, 8] (fun v _ i wr => ∃ (k : Nat) (A' : Option Addr) (c' : Nat), k ≤ n ∧ v = .slice A' k c' ∧ i = .int .i64 k ∧ Hid (wr.ownsRow w.heap.size 9 1 (.slice A' k c') k (((T.map GTok.t).take k).map fun t => .string (bytes t))) ∧ Below w.heap.size w wr) (fun _ _ i _ => n - (intOf i).toNat)
  case atStart => exact ⟨0, none, 0, by omega, rfl, rfl, World.ownsRow_nil _ _ _ _, Below.refl _ _⟩
  case round =>
    obtain ⟨k, A', c', hk, rfl, rfl, HO, hbr⟩ := hrel
    have i0 : (0 : Int) ≤ (k : Int) := by omega
    by_cases hlt : k < n
    · have i1 : (k : Int) < (n : Int) := by omega
      obtain ⟨b, o, q, rfl, hb, hx, x0, x1, x2, -, -, -⟩ := (HT.out.below hbr).tok_at hlt
      have hba : Below w.heap.size w (wr.alloc (.cells #[.int .i64 q.k, .string (bytes q.t), .int .i64 q.a] 35)) := belowA hbr _
      have hra : (wr.alloc (.cells #[.int .i64 q.k, .string (bytes q.t), .int .i64 q.a] 35)).heap[wr.heap.size]? = some (.cells #[.int .i64 q.k, .string (bytes q.t), .int .i64 q.a] 35 (0, 0)) := heapNew rfl
      obtain ⟨y0, y1, y2, -, -, -⟩ := three_facts hra
      obtain ⟨v', w9, q1, q2, q3⟩ := str_push (bytes q.t) (by omega) hba (own_below HO.out (belowA (Below.refl _ _) _))
      obtain ⟨A9, c9, rfl⟩ := own_form q2
      simp only [World.size_alloc] at q1
      have HRun := Lib.hid q1
      have Q2 : Hid (w9.ownsRow w.heap.size 9 1 (.slice A9 (k + 1) c9) (k + 1) (((T.map GTok.t).take (k + 1)).map fun t => .string (bytes t))) := by
        show World.ownsRow _ _ _ _ _ _ _
        rw [List.take_add_one, List.getElem?_map, hx.out]
        simpa using q2
      clear q1 q2 hra hx
      go_wp2_with (at_builtin; refine wpList_append_run (o := ⟨some 16, _, _, _, _, _⟩) rfl _ _ _ rfl _ _ rfl rfl (HRun.out _) ?_)
      go_roundw
      case rel => exact ⟨k + 1, A9, c9, by omega, rfl, by go_num, Q2, q3⟩
      case measure => simp [intOf]; omega
    · have i1 : ¬ (k : Int) < (n : Int) := by omega
      have hk2 : k = n := by omega
      have hJ : Hid (∀ W, Below wr.heap.size wr W → Calls Tryd.prog 22 #[.slice A' k c', .string ⟨#[32]⟩] W (JoinPost R W)) := by
        intro W hW
        have h1 := HO.out
        rw [List.take_of_length_le (by rw [List.length_map, hlen.out]; omega)] at h1
        rw [HR.out]
        exact sjoin_any A' k c' (T.map GTok.t) W (by rw [List.length_map, hlen.out, hk2]) (by omega) Hl.out (own_below h1 hW)
      clear HO hk2
      go_wp2_with fail
      refine (hJ.out _ (Below.refl _ _)).mono ?_
      rintro e w1 ⟨rfl, hb1⟩
      go_wp2_with fail
      go_ret
      exact ⟨rfl, below_next hbr hb1⟩
end Go.Proofs.YtopbgaoahcehlaaDoor
