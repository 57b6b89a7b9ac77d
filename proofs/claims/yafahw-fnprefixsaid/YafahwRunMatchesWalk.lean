/- Walk: laws.FnRunMatches (4). -/
import Derived.Test.YafahwRunI
import Derived.Test.YafahwRunS
import Derived.Test.YafahwDecOps
import Derived.Test.YafahwIsRow
namespace Go.Proofs.Yafahw
open Go.RowKit
set_option linter.unusedVariables false

theorem matches_any (w : World) (a : Option Addr) (len cap b off : Nat) (hd : DataAt w a len b off) (hl : len ≤ 1048576) :
    Calls Yahh.prog 4 #[.slice a len cap] w fun e w' => e = .returned (.bool true) ∧ Below w.heap.size w w' := by
  go_enter Yahh.func4, Yahh.ntmps4
  go_wp2_with fail
  refine (decScript_any w a len cap b off hd hl).mono ?_
  rintro e w1 ⟨v, ops, rfl, hops, hown, hb1⟩
  go_wp2_with fail
  refine (runI_any ops _ _ (RowAt.of_own hown) (by omega)).mono ?_
  rintro e w2 ⟨v2, rfl, hown2, _, hb2⟩
  have hownO := own_below hown hb2 (Nat.le_refl _)
  have hB2 : Below w.heap.size w w2 := hb1.trans (hb2.mono hb1.size)
  go_wp2_with fail
  refine (runS_any ops _ _ (RowAt.of_own hownO) (by omega)).mono ?_
  rintro e w3 ⟨v3, rfl, hown3, hb3⟩
  have hown23 := own_below hown2 hb3 (Nat.le_refl _)
  have hB3 : Below w.heap.size w w3 := hB2.trans (hb3.mono hB2.size)
  rw [← run_eq, ← runI_len ops] at hown3
  rw [← runI_len ops] at hown23
  have hlen : (runI ops).length ≤ 100000000 := by rw [runI_len]; omega
  go_wp2_with fail
  refine (equalRes_any (runI ops) _ _ _ (RowAt.of_own hown23) (RowAt.of_own hown3) hlen).mono ?_
  rintro e w4 ⟨rfl, hb4⟩
  have hB4 : Below w.heap.size w w4 := hB3.trans (hb4.mono hB3.size)
  go_wp2
  go_ret
  exact ⟨rfl, hB4⟩

theorem matches_all (a : Option Addr) (len cap : Nat) (zs : List Int) (w : World) (h : IsRow .u8 w a len cap zs) :
    Calls Yahh.prog 4 #[.slice a len cap] w fun e w' => e = .returned (.bool true) ∧ Below w.heap.size w w' := by
  obtain ⟨b, off, hd, hm⟩ := h.data
  by_cases hl : len ≤ 1048576
  · exact matches_any w a len cap b off hd hl
  · unfold maxLen at hm
    have h' : (1048576 : Int) < (len : Int) := by omega
    go_enter Yahh.func4, Yahh.ntmps4
    go_wp2_with fail
    go_ret
    exact ⟨rfl, Below.refl _ _⟩
end Go.Proofs.Yafahw
