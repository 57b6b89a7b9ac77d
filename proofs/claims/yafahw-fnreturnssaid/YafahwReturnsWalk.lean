/- Walk: laws.FnReturns (10). -/
import Derived.Test.YafahwExactFinalWalk
import Derived.Test.YafahwRunI
import Derived.Test.YafahwRunS
import Derived.Test.YafahwDecRaw
import Derived.Test.YafahwFmtS
import Derived.Test.YafahwLines
import Derived.Test.YafahwIsRow
namespace Go.Proofs.Yafahw
open Go.RowKit
set_option linter.unusedVariables false
set_option linter.unusedSimpArgs false
attribute [local go_sem ↓] Go.wp_at_zero Go.wp_at_succ

def AscR (W : World) (i : Value) (wr : World) : Prop :=
  ∃ k nq : Nat, i = .int .i64 (k : Int) ∧ 1 ≤ k ∧ k ≤ 400000001 ∧ wr = W.drewN nq
theorem asc_at {l : List (Int × Int)} (h : Asc l) {i j : Nat} {y c : Int × Int} (hy : l[i]? = some y) (hc : l[j]? = some c) (hij : i < j) : y.1 < c.1 := by
  obtain ⟨hi, rfl⟩ := List.getElem?_eq_some_iff.1 hy
  obtain ⟨hj, rfl⟩ := List.getElem?_eq_some_iff.1 hc
  exact (List.pairwise_iff_getElem.1 h) i j hi hj hij

set_option maxHeartbeats 4000000 in
set_option maxRecDepth 100000 in
theorem returns_any (w : World) (a : Option Addr) (len cap b off : Nat) (hd : DataAt w a len b off) (hl : len ≤ 1048576) :
    Calls Yahh.prog 10 #[.slice a len cap] w fun e w' => e = .returned (.bool true) ∧ Below w.heap.size w w' := by
  go_enter Yahh.func10, Yahh.ntmps10
  go_wp2_with fail
  refine (decRaw_any w a len cap b off hd hl).mono ?_
  rintro e w1 ⟨v, ops, rfl, hops, hown, hb1⟩
  obtain ⟨oa, oc, og, rfl, _⟩ := own_shape hown
  have hlen : (runI ops).length ≤ 100000000 := by rw [runI_len]; omega
  have hrl := runI_len ops
  go_wp2_with fail
  refine (runI_any ops _ _ (RowAt.of_own hown) (by omega)).mono ?_
  rintro e w2 ⟨v2, rfl, hR2, ⟨_, g2, c2, rfl⟩, hb2⟩
  have hO2 := own_below hown hb2 (Nat.le_refl _)
  have hB2 : Below w.heap.size w w2 := hb1.trans (hb2.mono hb1.size)
  clear hown hb1 hb2
  go_wp2_with fail
  refine (finalI_any ops _ _ (RowAt.of_own hO2) (by omega)).mono ?_
  rintro e w3 ⟨v3, l, rfl, hF3, hl3, hfin3, hb3⟩
  obtain ⟨fd, fcap, fg, rfl, hfd⟩ := own_shape hF3
  have Hfin := hid hfin3
  have hO3 := own_below hO2 hb3 (Nat.le_refl _)
  have hR3 := own_below hR2 hb3 (Nat.le_refl _)
  have hB3 : Below w.heap.size w w3 := hB2.trans (hb3.mono hB2.size)
  clear hO2 hR2 hb3 hfin3
  go_wp2
  go_loopw [6] (fun i wr => AscR w3 i wr) (fun i _ => l.length - (intOf i).toNat)
  case atStart => exact ⟨1, 0, rfl, Nat.le_refl _, by omega, rfl⟩
  case round =>
    obtain ⟨k, nq0, rfl, hk1, hk2, rfl⟩ := hrel
    by_cases hlt : k < l.length
    · obtain ⟨j, rfl⟩ : ∃ j, k = j + 1 := ⟨k - 1, by omega⟩
      obtain ⟨y, hy⟩ : ∃ y, l[j]? = some y := ⟨_, List.getElem?_eq_getElem (by omega)⟩
      obtain ⟨c, hc⟩ : ∃ c, l[j + 1]? = some c := ⟨_, List.getElem?_eq_getElem hlt⟩
      obtain rfl := hfd (by omega)
      have k0 := row_cell resC_len hF3 hy (j := 0) (by omega) rfl
      have k1 := row_cell resC_len hF3 hc (j := 0) (by omega) rfl
      rw [Nat.add_zero] at k0 k1
      have hlt2 := asc_at Hfin.out.1 hy hc (by omega)
      have hdc : decide (c.1 ≤ y.1) = false := by simp; omega
      have hi0 : (0 : Int) ≤ (j : Int) := by omega
      have hin : (j : Int) < (l.length : Int) := by omega
      have hi1 : (j : Int) + 1 < (l.length : Int) := by omega
      have hi3 : (0 : Int) ≤ (j : Int) + 1 := by omega
      clear hy hc hlt2
      go_wp2_with fail
      go_quiet (fail)
      go_wp2
      exact ⟨⟨j + 1 + 1, _, by go_num, by omega, by omega, rfl⟩, by simp [intOf]; omega⟩
    · have hge : ¬ (k : Int) < (l.length : Int) := by omega
      have hO4 : (w3.drewN nq0).ownsRow w.heap.size 35 4 (.slice oa ops.length oc) ops.length (opCells ops) := hO3
      have hR4 : (w3.drewN nq0).ownsRow w1.heap.size 37 2 (.slice (some ⟨g2, 0, none⟩) ops.length c2) (runI ops).length (resCells (runI ops)) := by rw [hrl]; exact hR3
      have hF4 : (w3.drewN nq0).ownsRow w2.heap.size 43 2 (.slice fd l.length fcap) l.length (resCells l) := hF3
      have hB4 : Below w.heap.size w (w3.drewN nq0) := below_drewN hB3 _
      generalize w3.drewN nq0 = w4 at *
      clear hO3 hR3 hF3 hB3
      go_wp2_with fail
      refine (fmtI_any (runI ops) _ _ (RowAt.of_own hR4) hlen).mono ?_
      rintro e w5 ⟨rfl, hb5⟩
      have hO5 := own_below hO4 hb5 (Nat.le_refl _)
      have hR5 := own_below hR4 hb5 (Nat.le_refl _)
      have hF5 := own_below hF4 hb5 (Nat.le_refl _)
      have hB5 : Below w.heap.size w w5 := hB4.trans (hb5.mono hB4.size)
      clear hO4 hR4 hF4 hb5
      have hlines := lines_any (fmtL (runI ops)) (fmtL_range _) (by have := fmtL_len (runI ops); omega) w5
      rw [nl_fmt, hrl] at hlines
      go_wp2_with fail
      refine hlines.mono ?_
      rintro e w6 ⟨rfl, rfl⟩
      clear hlines
      go_wp2_with fail
      refine (finalS_any ops _ _ (RowAt.of_own hO5) (by omega)).mono ?_
      rintro e w7 ⟨v7, l7, rfl, hG7, _, hfin7, hb7⟩
      obtain rfl := final_eq Hfin.out hfin7
      have hO7 := own_below hO5 hb7 (Nat.le_refl _)
      have hR7 := own_below hR5 hb7 (Nat.le_refl _)
      have hF7 := own_below hF5 hb7 (Nat.le_refl _)
      have hB7 : Below w.heap.size w w7 := hB5.trans (hb7.mono hB5.size)
      clear hO5 hR5 hF5 hb7 hfin7
      go_wp2_with fail
      refine (equalCells_any l _ _ _ (RowAt.of_own hF7) (RowAt.of_own hG7) hl3).mono ?_
      rintro e w8 ⟨rfl, hb8⟩
      have hO8 := own_below hO7 hb8 (Nat.le_refl _)
      have hR8 := own_below hR7 hb8 (Nat.le_refl _)
      have hB8 : Below w.heap.size w w8 := hB7.trans (hb8.mono hB7.size)
      clear hO7 hR7 hF7 hG7 hb8
      go_wp2_with fail
      refine (fmtS_any (runI ops) _ _ (RowAt.of_own hR8) hlen).mono ?_
      rintro e w9 ⟨rfl, hb9⟩
      have hO9 := own_below hO8 hb9 (Nat.le_refl _)
      have hR9 := own_below hR8 hb9 (Nat.le_refl _)
      have hB9 : Below w.heap.size w w9 := hB8.trans (hb9.mono hB8.size)
      clear hO8 hR8 hb9
      go_wp2_with fail
      refine (runS_any ops _ _ (RowAt.of_own hO9) (by omega)).mono ?_
      rintro e w10 ⟨v10, rfl, hS10, hb10⟩
      have hR10 := own_below hR9 hb10 (Nat.le_refl _)
      have hB10 : Below w.heap.size w w10 := hB9.trans (hb10.mono hB9.size)
      rw [← run_eq, ← runI_len ops] at hS10
      clear hO9 hR9 hb10
      go_wp2_with fail
      refine (equalRes_any (runI ops) _ _ _ (RowAt.of_own hR10) (RowAt.of_own hS10) hlen).mono ?_
      rintro e w11 ⟨rfl, hb11⟩
      have hB11 : Below w.heap.size w w11 := hB10.trans (hb11.mono hB10.size)
      go_wp2
      go_ret
      exact ⟨rfl, hB11⟩

theorem returns_all (a : Option Addr) (len cap : Nat) (zs : List Int) (w : World) (h : IsRow .u8 w a len cap zs) :
    Calls Yahh.prog 10 #[.slice a len cap] w fun e w' => e = .returned (.bool true) ∧ Below w.heap.size w w' := by
  obtain ⟨b, off, hd, hm⟩ := h.data
  by_cases hl : len ≤ 1048576
  · exact returns_any w a len cap b off hd hl
  · unfold maxLen at hm
    have h' : (1048576 : Int) < (len : Int) := by omega
    go_enter Yahh.func10, Yahh.ntmps10
    go_wp2_with fail
    go_ret
    exact ⟨rfl, Below.refl _ _⟩
end Go.Proofs.Yafahw
