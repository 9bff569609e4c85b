/- The chapter's example; equality of tokens. -/
import Derived.Test.YtopbgaoahcehlaaDoorLexJ
namespace Go.Proofs.YtopbgaoahcehlaaDoor
open Go.RowKit

def tokEq (x y : GTok) : Bool := decide (x.k = y.k) && (decide (x.t = y.t) && decide (x.a = y.a))
theorem run_eql_token (x y : GTok) (w : World) : (binOp .eql 35 (tokC x) (tokC y)).run Tryd.prog w = .ok (.bool (tokEq x y)) w := by
  unfold tokC
  rw [run_eql_struct, run_equalIn_agg (ht := by kernel_rfl) (hp := by kernel_rfl)]
  have e1 : (bytes x.t).toList = x.t := toList_mk _
  have e2 : (bytes y.t).toList = y.t := toList_mk _
  simp [go_sem, tokEq, e1, e2]
  by_cases h1 : x.k = y.k <;> by_cases h2 : x.t = y.t <;> by_cases h3 : x.a = y.a <;> simp [h1, h2, h3] <;> omega
def aliveS : ByteArray := ⟨#[112, 40, 88, 41, 58, 45, 113, 40, 88, 41, 46, 37, 120]⟩
def aliveT : List GTok := [⟨2, [112], 0⟩, ⟨5, [40], 1⟩, ⟨3, [88], 2⟩, ⟨5, [41], 3⟩, ⟨5, [58, 45], 4⟩, ⟨2, [113], 6⟩, ⟨5, [40], 7⟩, ⟨3, [88], 8⟩, ⟨5, [41], 9⟩, ⟨5, [46], 10⟩]
theorem alive_lex : lexS [112, 40, 88, 41, 58, 45, 113, 40, 88, 41, 46, 37, 120] = (aliveT, none) := by decide +kernel
theorem alive_join : joinS (aliveT.map GTok.t) = [112, 32, 40, 32, 88, 32, 41, 32, 58, 45, 32, 113, 32, 40, 32, 88, 32, 41, 32, 46] := by decide

set_option maxRecDepth 100000 in
set_option maxHeartbeats 1000000 in
theorem alive_any (w : World) (hW : LexW w) : Calls Tryd.prog 7 #[] w (RetBool true w) := by
  have HL := Lib.hid (list_any ⟨#[112, 40, 88, 41, 58, 45, 113, 40, 88, 41, 46, 37, 120]⟩ (by decide) w hW)
  clear hW
  go_enter Tryd.func7, Tryd.ntmps7
  go_wp2_with fail
  refine HL.out.mono ?_
  rintro e w1 ⟨hb, h⟩
  have e1 : (⟨#[112, 40, 88, 41, 58, 45, 113, 40, 88, 41, 46, 37, 120]⟩ : ByteArray).toList = [112, 40, 88, 41, 58, 45, 113, 40, 88, 41, 46, 37, 120] := toList_mk _
  rw [e1, alive_lex] at h
  rcases h with ⟨h, -⟩ | ⟨-, ⟨p, h, -⟩ | ⟨-, A, c, rfl, hA⟩⟩
  · exact absurd h (by decide)
  · cases h
  · obtain ⟨b, o, q, rfl, hbb, hq, x0, x1, x2, -, -, -⟩ := hA.tok_at (i := 4) (by decide)
    have hq4 : q = ⟨5, [58, 45], 4⟩ := by have := hq.out; simp [aliveT] at this; exact this.symm
    subst hq4
    have HJ := Lib.hid (ljoin_any _ _ _ _ w1 hA (by decide) (by decide))
    rw [alive_join] at HJ
    have hrq := run_eql_token ⟨5, [58, 45], 4⟩ ⟨5, [58, 45], 4⟩
    unfold tokC at hrq
    have e5 : tokEq ⟨5, [58, 45], 4⟩ ⟨5, [58, 45], 4⟩ = true := by decide
    rw [e5] at hrq
    have hl10 : aliveT.length = 10 := rfl
    rw [hl10] at HJ
    simp only [hl10]
    unfold bytes at x1 hrq
    clear hA hq e1 e5 hl10
    go_wp2_with fail
    refine HJ.out.mono ?_
    rintro e w2 ⟨rfl, hb2⟩
    replace x0 := below_cell hb2 x0
    replace x1 := below_cell hb2 x1
    replace x2 := below_cell hb2 x2
    have ej : (bytes [112, 32, 40, 32, 88, 32, 41, 32, 58, 45, 32, 113, 32, 40, 32, 88, 32, 41, 32, 46]) = ⟨#[112, 32, 40, 32, 88, 32, 41, 32, 58, 45, 32, 113, 32, 40, 32, 88, 32, 41, 32, 46]⟩ := rfl
    rw [ej]
    clear ej
    go_wp2_with fail
    go_ret
    exact ⟨by simp, below_next hb hb2⟩
end Go.Proofs.YtopbgaoahcehlaaDoor
