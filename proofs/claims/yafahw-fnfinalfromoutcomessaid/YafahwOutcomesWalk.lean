/- Walk: laws.FnFinalFromOutcomes (8). -/
import Derived.Test.YafahwRepF
import Derived.Test.YafahwExactFinalWalk
import Derived.Test.YafahwRunI
import Derived.Test.YafahwDecOps
import Derived.Test.YafahwIsRow
namespace Go.Proofs.Yafahw
open Go.RowKit
set_option linter.unusedVariables false

theorem stS_past (ops : List POp) : ∀ d, stS ops (20000 + d) = stS ops 20000 := by
  intro d
  induction d with
  | zero => rfl
  | succ d ih =>
    rw [← ih]
    show stS ops ((20000 + d) + 1) = _
    rw [stS]
    cases ops[20000 + d]? with
    | none => rfl
    | some o => simp only []; rw [if_neg (by omega)]
theorem stS_lid (ops : List POp) : stS ops ops.length = stS ops (lidN ops) := by
  unfold lidN
  by_cases h : ops.length ≤ 20000
  · rw [Nat.min_eq_left h]
  · rw [Nat.min_eq_right (by omega)]
    obtain ⟨d, hd⟩ : ∃ d, ops.length = 20000 + d := ⟨ops.length - 20000, by omega⟩
    rw [hd, stS_past]

theorem outcomes_any (w : World) (a : Option Addr) (len cap b off : Nat) (hd : DataAt w a len b off) (hl : len ≤ 1048576) :
    Calls Yahh.prog 8 #[.slice a len cap] w fun e w' => e = .returned (.bool true) ∧ Below w.heap.size w w' := by
  go_enter Yahh.func8, Yahh.ntmps8
  go_wp2_with fail
  refine (decScript_any w a len cap b off hd hl).mono ?_
  rintro e w1 ⟨v, ops, rfl, hops, hown, hb1⟩
  obtain ⟨oa, oc, og, rfl, _⟩ := own_shape hown
  go_wp2_with fail
  refine (runI_any ops _ _ (RowAt.of_own hown) (by omega)).mono ?_
  rintro e w2 ⟨v2, rfl, hR2, ⟨_, g2, c2, rfl⟩, hb2⟩
  have hO2 := own_below hown hb2 (Nat.le_refl _)
  have hB2 : Below w.heap.size w w2 := hb1.trans (hb2.mono hb1.size)
  clear hown hb1 hb2
  go_wp2_with fail
  refine (finalI_any ops _ _ (RowAt.of_own hO2) (by omega)).mono ?_
  rintro e w3 ⟨v3, l, rfl, hF3, hl3, hfin3, hb3⟩
  have Hfin := hid hfin3
  have hO3 := own_below hO2 hb3 (Nat.le_refl _)
  have hR3 := own_below hR2 hb3 (Nat.le_refl _)
  have hB3 : Below w.heap.size w w3 := hB2.trans (hb3.mono hB2.size)
  clear hO2 hR2 hb3 hfin3
  go_wp2_with fail
  refine (finalS_any ops _ _ (RowAt.of_own hO3) (by omega)).mono ?_
  rintro e w4 ⟨v4, l4, rfl, hG4, _, hfin4, hb4⟩
  obtain rfl := final_eq Hfin.out hfin4
  have hO4 := own_below hO3 hb4 (Nat.le_refl _)
  have hR4 := own_below hR3 hb4 (Nat.le_refl _)
  have hF4 := own_below hF3 hb4 (Nat.le_refl _)
  have hB4 : Below w.heap.size w w4 := hB3.trans (hb4.mono hB3.size)
  clear hO3 hR3 hF3 hb4 hfin4
  go_wp2_with fail
  refine (equalCells_any l _ _ _ (RowAt.of_own hF4) (RowAt.of_own hG4) hl3).mono ?_
  rintro e w5 ⟨rfl, hb5⟩
  have hO5 := own_below hO4 hb5 (Nat.le_refl _)
  have hR5 := own_below hR4 hb5 (Nat.le_refl _)
  have hF5 := own_below hF4 hb5 (Nat.le_refl _)
  have hB5 : Below w.heap.size w w5 := hB4.trans (hb5.mono hB4.size)
  clear hO4 hR4 hF4 hG4 hb5
  rw [run_eq] at hR5
  go_wp2_with fail
  refine (replayFinal_any ops _ _ _ (RowAt.of_own hO5) (RowAt.of_own hR5) (by omega)).mono ?_
  rintro e w6 ⟨v6, l6, rfl, hG6, _, hfin6, hb6⟩
  rw [stS_lid] at hfin6
  obtain rfl := final_eq Hfin.out hfin6
  have hF6 := own_below hF5 hb6 (Nat.le_refl _)
  have hB6 : Below w.heap.size w w6 := hB5.trans (hb6.mono hB5.size)
  clear hO5 hR5 hF5 hb6 hfin6
  go_wp2_with fail
  refine (equalCells_any l _ _ _ (RowAt.of_own hF6) (RowAt.of_own hG6) hl3).mono ?_
  rintro e w7 ⟨rfl, hb7⟩
  have hB7 : Below w.heap.size w w7 := hB6.trans (hb7.mono hB6.size)
  go_wp2
  go_ret
  exact ⟨rfl, hB7⟩

theorem outcomes_all (a : Option Addr) (len cap : Nat) (zs : List Int) (w : World) (h : IsRow .u8 w a len cap zs) :
    Calls Yahh.prog 8 #[.slice a len cap] w fun e w' => e = .returned (.bool true) ∧ Below w.heap.size w w' := by
  obtain ⟨b, off, hd, hm⟩ := h.data
  by_cases hl : len ≤ 1048576
  · exact outcomes_any w a len cap b off hd hl
  · unfold maxLen at hm
    have h' : (1048576 : Int) < (len : Int) := by omega
    go_enter Yahh.func8, Yahh.ntmps8
    go_wp2_with fail
    go_ret
    exact ⟨rfl, Below.refl _ _⟩
end Go.Proofs.Yafahw
