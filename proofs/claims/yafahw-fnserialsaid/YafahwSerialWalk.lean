/- Walk: laws.FnSerial (5). -/
import Derived.Test.YafahwExactFinalWalk
import Derived.Test.YafahwRunI
import Derived.Test.YafahwRunS
import Derived.Test.YafahwDecSer
import Derived.Test.YafahwSerW
import Derived.Test.YafahwIsRow
namespace Go.Proofs.Yafahw
open Go.RowKit
set_option linter.unusedVariables false

theorem serial_any (w : World) (a : Option Addr) (len cap b off : Nat) (hd : DataAt w a len b off) (hl : len ≤ 1048576) :
    Calls Yahh.prog 5 #[.slice a len cap] w fun e w' => e = .returned (.bool true) ∧ Below w.heap.size w w' := by
  go_enter Yahh.func5, Yahh.ntmps5
  go_wp2_with fail
  refine (decSer_any w a len cap b off hd hl).mono ?_
  rintro e w1 ⟨v, ops, n, rfl, hops, hser, hown, hb1⟩
  have hlen : (runI ops).length ≤ 100000000 := by rw [runI_len]; omega
  have Hser := hid (ser_all hser)
  clear hser
  go_wp2_with fail
  refine (runI_any ops _ _ (RowAt.of_own hown) (by omega)).mono ?_
  rintro e w2 ⟨v2, rfl, hR2, _, hb2⟩
  have hO2 := own_below hown hb2 (Nat.le_refl _)
  have hB2 : Below w.heap.size w w2 := hb1.trans (hb2.mono hb1.size)
  rw [← runI_len ops] at hR2
  clear hown hb1 hb2
  go_wp2_with fail
  refine (serialModel_any ops _ _ (RowAt.of_own hO2) (by omega)).mono ?_
  rintro e w3 ⟨v3, rfl, hS3, hb3⟩
  have hR3 := own_below hR2 hb3 (Nat.le_refl _)
  have hO3 := own_below hO2 hb3 (Nat.le_refl _)
  have hB3 : Below w.heap.size w w3 := hB2.trans (hb3.mono hB2.size)
  rw [Hser.out, ← run_eq, ← runI_len ops] at hS3
  clear hR2 hO2 hb3
  go_wp2_with fail
  refine (equalRes_any (runI ops) _ _ _ (RowAt.of_own hR3) (RowAt.of_own hS3) hlen).mono ?_
  rintro e w4 ⟨rfl, hb4⟩
  have hR4 := own_below hR3 hb4 (Nat.le_refl _)
  have hO4 := own_below hO3 hb4 (Nat.le_refl _)
  have hB4 : Below w.heap.size w w4 := hB3.trans (hb4.mono hB3.size)
  clear hR3 hS3 hO3 hb4
  go_wp2_with fail
  refine (runS_any ops _ _ (RowAt.of_own hO4) (by omega)).mono ?_
  rintro e w5 ⟨v5, rfl, hS5, hb5⟩
  have hR5 := own_below hR4 hb5 (Nat.le_refl _)
  have hO5 := own_below hO4 hb5 (Nat.le_refl _)
  have hB5 : Below w.heap.size w w5 := hB4.trans (hb5.mono hB4.size)
  rw [← run_eq, ← runI_len ops] at hS5
  clear hR4 hO4 hb5
  go_wp2_with fail
  refine (equalRes_any (runI ops) _ _ _ (RowAt.of_own hR5) (RowAt.of_own hS5) hlen).mono ?_
  rintro e w6 ⟨rfl, hb6⟩
  have hO6 := own_below hO5 hb6 (Nat.le_refl _)
  have hB6 : Below w.heap.size w w6 := hB5.trans (hb6.mono hB5.size)
  clear hR5 hS5 hO5 hb6
  go_wp2_with fail
  refine (finalI_any ops _ _ (RowAt.of_own hO6) (by omega)).mono ?_
  rintro e w7 ⟨v7, l, rfl, hF7, hl7, hfin7, hb7⟩
  have Hfin := hid hfin7
  have hO7 := own_below hO6 hb7 (Nat.le_refl _)
  have hB7 : Below w.heap.size w w7 := hB6.trans (hb7.mono hB6.size)
  clear hO6 hb7 hfin7
  go_wp2_with fail
  refine (finalS_any ops _ _ (RowAt.of_own hO7) (by omega)).mono ?_
  rintro e w8 ⟨v8, l8, rfl, hG8, _, hfin8, hb8⟩
  obtain rfl := final_eq Hfin.out hfin8
  have hF8 := own_below hF7 hb8 (Nat.le_refl _)
  have hB8 : Below w.heap.size w w8 := hB7.trans (hb8.mono hB7.size)
  clear hO7 hF7 hb8 hfin8
  go_wp2_with fail
  refine (equalCells_any l _ _ _ (RowAt.of_own hF8) (RowAt.of_own hG8) hl7).mono ?_
  rintro e w9 ⟨rfl, hb9⟩
  have hB9 : Below w.heap.size w w9 := hB8.trans (hb9.mono hB8.size)
  go_wp2
  go_ret
  exact ⟨rfl, hB9⟩

theorem serial_all (a : Option Addr) (len cap : Nat) (zs : List Int) (w : World) (h : IsRow .u8 w a len cap zs) :
    Calls Yahh.prog 5 #[.slice a len cap] w fun e w' => e = .returned (.bool true) ∧ Below w.heap.size w w' := by
  obtain ⟨b, off, hd, hm⟩ := h.data
  by_cases hl : len ≤ 1048576
  · exact serial_any w a len cap b off hd hl
  · unfold maxLen at hm
    have h' : (1048576 : Int) < (len : Int) := by omega
    go_enter Yahh.func5, Yahh.ntmps5
    go_wp2_with fail
    go_ret
    exact ⟨rfl, Below.refl _ _⟩
end Go.Proofs.Yafahw
