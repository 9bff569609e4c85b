/- ArithSwaps: the closure that makes an expression of two values; its value. -/
import Derived.Test.YtplekbpmfaghbaaDoorArSw0
import Derived.Test.YtplekbpmfaghbaaDoorZgArSwB
import Derived.Deep.DeepCutAuto
namespace Go.Proofs.YtplekbpmfaghbaaDoor
open Go.RowKit

/-- an expression of two leaves, in blocks of its own -/
def TwoP (op : Int) (a b : GV) (w : World) (e : Ending) (w' : World) : Prop :=
  ∃ g, e = .returned (expV (twoE op a b) (some ⟨g, 0, none⟩) 2 2) ∧ SliceIs (Enc.exp 1) w' w'.heap.size (some ⟨g, 0, none⟩) 2 2 [leafE a, leafE b] ∧ Below w.heap.size w w'
set_option maxRecDepth 100000 in
set_option maxHeartbeats 2000000 in
theorem two_any (op : Int) (a b : GV) (ha : a.ok) (hb : b.ok) (w : World) : Calls Tryd.prog 6 #[.int .i64 op, a.v, b.v] w (TwoP op a b w) := by
  have hba : Below w.heap.size w (((w.alloc (.cells #[.int .i64 a.k, .int .i64 a.n, .string a.s] 25)).alloc (.cells #[.int .i64 b.k, .int .i64 b.n, .string b.s] 25)).alloc (.cells #[.int .i64 0, .string ⟨#[]⟩, .int .i64 0, .int .i64 0, .string ⟨#[]⟩, .slice none 0 0] 34)) := belowA (belowA (belowA (Below.refl _ _) _) _) _
  have ra : (((w.alloc (.cells #[.int .i64 a.k, .int .i64 a.n, .string a.s] 25)).alloc (.cells #[.int .i64 b.k, .int .i64 b.n, .string b.s] 25)).alloc (.cells #[.int .i64 0, .string ⟨#[]⟩, .int .i64 0, .int .i64 0, .string ⟨#[]⟩, .slice none 0 0] 34)).heap[w.heap.size]? = some (.cells #[.int .i64 a.k, .int .i64 a.n, .string a.s] 25 (0, 0)) := heapOld (heapOld (heapNew rfl))
  have rb : (((w.alloc (.cells #[.int .i64 a.k, .int .i64 a.n, .string a.s] 25)).alloc (.cells #[.int .i64 b.k, .int .i64 b.n, .string b.s] 25)).alloc (.cells #[.int .i64 0, .string ⟨#[]⟩, .int .i64 0, .int .i64 0, .string ⟨#[]⟩, .slice none 0 0] 34)).heap[w.heap.size + 1]? = some (.cells #[.int .i64 b.k, .int .i64 b.n, .string b.s] 25 (0, 0)) := heapOld (heapNew (by simp))
  have re : (((w.alloc (.cells #[.int .i64 a.k, .int .i64 a.n, .string a.s] 25)).alloc (.cells #[.int .i64 b.k, .int .i64 b.n, .string b.s] 25)).alloc (.cells #[.int .i64 0, .string ⟨#[]⟩, .int .i64 0, .int .i64 0, .string ⟨#[]⟩, .slice none 0 0] 34)).heap[w.heap.size + 2]? = some (.cells #[.int .i64 0, .string ⟨#[]⟩, .int .i64 0, .int .i64 0, .string ⟨#[]⟩, .slice none 0 0] 34 (0, 0)) := heapNew (by simp)
  have hz : (((w.alloc (.cells #[.int .i64 a.k, .int .i64 a.n, .string a.s] 25)).alloc (.cells #[.int .i64 b.k, .int .i64 b.n, .string b.s] 25)).alloc (.cells #[.int .i64 0, .string ⟨#[]⟩, .int .i64 0, .int .i64 0, .string ⟨#[]⟩, .slice none 0 0] 34)).heap.size = w.heap.size + 3 := by simp
  obtain ⟨a0, a1, a2⟩ := facts3 ra
  obtain ⟨b0, b1, b2⟩ := facts3 rb
  have HR := Lib.hid (And.intro re hz)
  have HB := Lib.hid hba
  have Hok := Lib.hid (And.intro ha hb)
  clear ra rb re hz hba ha hb
  go_enter Tryd.func6, Tryd.ntmps6
  go_wp2_with fail
  have hr1 : ((((w.alloc (.cells #[.int .i64 a.k, .int .i64 a.n, .string a.s] 25)).alloc (.cells #[.int .i64 b.k, .int .i64 b.n, .string b.s] 25)).alloc (.cells #[.int .i64 op, .string ⟨#[]⟩, .int .i64 0, .int .i64 0, .string ⟨#[]⟩, .slice (some ⟨w.heap.size + 1 + 1 + 1, 0, none⟩) 2 2] 34)).alloc (.cells (kidsC a b) 34)).heap[w.heap.size + 1 + 1]? = some (.cells #[.int .i64 op, .string ⟨#[]⟩, .int .i64 0, .int .i64 0, .string ⟨#[]⟩, .slice (some ⟨w.heap.size + 1 + 1 + 1, 0, none⟩) 2 2] 34 (0, 0)) := heapOld (heapNew (by simp))
  have hr2 : ((((w.alloc (.cells #[.int .i64 a.k, .int .i64 a.n, .string a.s] 25)).alloc (.cells #[.int .i64 b.k, .int .i64 b.n, .string b.s] 25)).alloc (.cells #[.int .i64 op, .string ⟨#[]⟩, .int .i64 0, .int .i64 0, .string ⟨#[]⟩, .slice (some ⟨w.heap.size + 1 + 1 + 1, 0, none⟩) 2 2] 34)).alloc (.cells (kidsC a b) 34)).heap[w.heap.size + 1 + 1 + 1]? = some (.cells (kidsC a b) 34 (0, 0)) := heapNew (by simp)
  have hb : Below w.heap.size w ((((w.alloc (.cells #[.int .i64 a.k, .int .i64 a.n, .string a.s] 25)).alloc (.cells #[.int .i64 b.k, .int .i64 b.n, .string b.s] 25)).alloc (.cells #[.int .i64 op, .string ⟨#[]⟩, .int .i64 0, .int .i64 0, .string ⟨#[]⟩, .slice (some ⟨w.heap.size + 1 + 1 + 1, 0, none⟩) 2 2] 34)).alloc (.cells (kidsC a b) 34)) := belowA (belowA (belowA (belowA (Below.refl _ _) _) _) _) _
  generalize ((((w.alloc (.cells #[.int .i64 a.k, .int .i64 a.n, .string a.s] 25)).alloc (.cells #[.int .i64 b.k, .int .i64 b.n, .string b.s] 25)).alloc (.cells #[.int .i64 op, .string ⟨#[]⟩, .int .i64 0, .int .i64 0, .string ⟨#[]⟩, .slice (some ⟨w.heap.size + 1 + 1 + 1, 0, none⟩) 2 2] 34)).alloc (.cells (kidsC a b) 34)) = W at *
  obtain ⟨c0, c1, c2, c3, c4, c5⟩ := facts6 hr1
  exact bodyPost_ret (v := expV (twoE op a b) (some ⟨w.heap.size + 1 + 1 + 1, 0, none⟩) 2 2) (by simp [results, Tryd.results6, go_sem, c0, c1, c2, c3, c4, c5]; exact ⟨rfl, rfl, rfl, rfl, rfl⟩) rfl ⟨_, rfl, kids_at hr2 Hok.out.1 Hok.out.2, hb⟩
end Go.Proofs.YtplekbpmfaghbaaDoor
