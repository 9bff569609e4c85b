/- strconv.Itoa, over the table that a row lists. -/
import Derived.Test.YtplekbpmfaghbaaGreatDoorNum
import Derived.Test.YtplekbpmfaghbaaGreatDoorShelf
import Derived.Lib.AppendIntMem
import Derived.Lib.ItoaLen
namespace Go.Proofs.YtplekbpmfaghbaaGreatDoor
open Go.RowKit

def RetV (v : Value) (w : World) (e : Ending) (w' : World) : Prop := e = .returned v ∧ Below w.heap.size w w'
def TabW (w : World) : Prop := ∀ W, Below w.heap.size w W → Lib.TabIs Tryz.prog W "internal/strconv.uint64pow10" .u64 Lib.pow10Tab
theorem TabW.of {w : World} (h : Lib.TabIs Tryz.prog w "internal/strconv.uint64pow10" .u64 Lib.pow10Tab) : TabW w := Lib.tabBelow_of_tabIs h
theorem TabW.on {w W : World} (h : TabW w) (hb : Below w.heap.size w W) : TabW W := fun _ hb' => h _ (hb.trans (hb'.mono hb.size))

theorem itoa_any (n : Int) (hn : fits n) (w : World) (h : TabW w) : Calls Tryz.prog 179 #[.int .i64 n] w (fun e w' => ∃ s : ByteArray, Hid (s = ⟨(Lib.itoa n).toArray⟩) ∧ s.size ≤ 21 ∧ e = .returned (.string s) ∧ Below w.heap.size w w') := by
  have hn' : -9223372036854775808 ≤ n ∧ n ≤ 9223372036854775807 := by
    unfold fits at hn; simp [Lit.wf, IntKind.min, IntKind.max, IntKind.signed, IntKind.bits] at hn; omega
  refine (Tryz.strconv_Itoa n hn'.1 hn'.2 w (h w (Below.refl _ _))).mono ?_
  rintro e w' ⟨rfl, k, os, rfl⟩
  exact ⟨_, rfl, by have := Lib.itoa_length_le n hn'.1 hn'.2; simpa [ByteArray.size] using this, rfl, Lib.below_grow _ _ (Nat.le_refl _) _ _⟩
end Go.Proofs.YtplekbpmfaghbaaGreatDoor
