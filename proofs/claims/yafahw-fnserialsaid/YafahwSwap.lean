/- Two neighbours of a row of cells are swapped: the facts that the walk needs on the way. -/
import Derived.Test.YafahwSortW
import Derived.Test.YafahwLawCells
namespace Go.Proofs.Yafahw
open Go.RowKit
set_option linter.unusedVariables false
set_option linter.unusedSimpArgs false

def swA (w : World) (y : Int × Int) : World := w.alloc (Obj.cells #[.int .i64 y.1, .int .i64 y.2] 43)
def sw1 (w : World) (g i : Nat) (y c : Int × Int) : World := (swA w y).setCell ⟨g, i * 2, none⟩ (.int .i64 c.1)
def sw2 (w : World) (g i : Nat) (y c : Int × Int) : World := (sw1 w g i y c).setCell ⟨g, i * 2 + 1, none⟩ (.int .i64 c.2)
def sw3 (w : World) (g i : Nat) (y c : Int × Int) : World := (sw2 w g i y c).setCell ⟨g, (i + 1) * 2, none⟩ (.int .i64 y.1)
def sw4 (w : World) (g i : Nat) (y c : Int × Int) : World := (sw3 w g i y c).setCell ⟨g, (i + 1) * 2 + 1, none⟩ (.int .i64 y.2)

structure SwapF (w : World) (g i : Nat) (y c : Int × Int) : Prop where
  a0 : (swA w y).cell? ⟨g, (i + 1) * 2, none⟩ = some (.int .i64 c.1)
  a1 : (swA w y).cell? ⟨g, (i + 1) * 2 + 1, none⟩ = some (.int .i64 c.2)
  a2 : (swA w y).cell? ⟨g, i * 2, none⟩ = some (.int .i64 y.1)
  a3 : (swA w y).frozen? ⟨g, i * 2, none⟩ = false
  b0 : (sw1 w g i y c).cell? ⟨g, i * 2 + 1, none⟩ = some (.int .i64 y.2)
  b1 : (sw1 w g i y c).frozen? ⟨g, i * 2 + 1, none⟩ = false
  c0 : (sw2 w g i y c).cell? ⟨w.heap.size, 0, none⟩ = some (.int .i64 y.1)
  c1 : (sw2 w g i y c).cell? ⟨w.heap.size, 1, none⟩ = some (.int .i64 y.2)
  c2 : (sw2 w g i y c).cell? ⟨g, (i + 1) * 2, none⟩ = some (.int .i64 c.1)
  c3 : (sw2 w g i y c).frozen? ⟨g, (i + 1) * 2, none⟩ = false
  d0 : (sw3 w g i y c).cell? ⟨g, (i + 1) * 2 + 1, none⟩ = some (.int .i64 c.2)
  d1 : (sw3 w g i y c).frozen? ⟨g, (i + 1) * 2 + 1, none⟩ = false

theorem swap_row {w : World} {B g n cap i : Nat} {L : List (Int × Int)} {y c : Int × Int} (h : w.ownsRow B 43 2 (.slice (some ⟨g, 0, none⟩) n cap) n (resCells L)) (hy : L[i]? = some y) (hc : L[i + 1]? = some c) :
    SwapF w g i y c ∧ (sw4 w g i y c).ownsRow B 43 2 (.slice (some ⟨g, 0, none⟩) n cap) n (resCells ((L.set i c).set (i + 1) y)) ∧ (swA w y).grownBy (sw4 w g i y c) (some g) := by
  have hi : i < L.length := (List.getElem?_eq_some_iff.1 hy).1
  have hi1 : i + 1 < L.length := (List.getElem?_eq_some_iff.1 hc).1
  have hg := (own_lt h (g := g) rfl).2
  rw [resCells_eq] at h
  have hA : (swA w y).ownsRow B 43 2 (.slice (some ⟨g, 0, none⟩) n cap) n (L.flatMap resC) := h.alloc _
  have h1 : (sw1 w g i y c).ownsRow B 43 2 (.slice (some ⟨g, 0, none⟩) n cap) n ((L.set i (c.1, y.2)).flatMap resC) := row_set resC_len hA hy (a' := (c.1, y.2)) (j := 0) (by omega) (u := .int .i64 c.1) rfl
  have e1 : (L.set i (c.1, y.2))[i]? = some (c.1, y.2) := by simp [hi]
  have h2 : (sw2 w g i y c).ownsRow B 43 2 (.slice (some ⟨g, 0, none⟩) n cap) n ((L.set i c).flatMap resC) := by
    have := row_set resC_len h1 e1 (a' := c) (j := 1) (by omega) (u := .int .i64 c.2) rfl
    rw [List.set_set] at this; exact this
  have e2 : (L.set i c)[i + 1]? = some c := by rw [List.getElem?_set_ne (by omega)]; exact hc
  have h3 : (sw3 w g i y c).ownsRow B 43 2 (.slice (some ⟨g, 0, none⟩) n cap) n (((L.set i c).set (i + 1) (y.1, c.2)).flatMap resC) := row_set resC_len h2 e2 (a' := (y.1, c.2)) (j := 0) (by omega) (u := .int .i64 y.1) rfl
  have e3 : ((L.set i c).set (i + 1) (y.1, c.2))[i + 1]? = some (y.1, c.2) := by simp [hi1]
  have h4 : (sw4 w g i y c).ownsRow B 43 2 (.slice (some ⟨g, 0, none⟩) n cap) n (((L.set i c).set (i + 1) y).flatMap resC) := by
    have := row_set resC_len h3 e3 (a' := y) (j := 1) (by omega) (u := .int .i64 y.2) rfl
    rw [List.set_set] at this; exact this
  have hn := heap_alloc_new w (Obj.cells #[.int .i64 y.1, .int .i64 y.2] 43)
  have k1 : (sw1 w g i y c).heap[w.heap.size]? = some (Obj.cells #[.int .i64 y.1, .int .i64 y.2] 43) := by
    rw [show (sw1 w g i y c).heap[w.heap.size]? = (swA w y).heap[w.heap.size]? from (set_grown (swA w y) g (i * 2) (.int .i64 c.1)).block _ (blk_lt hn) (by simp; omega)]
    exact hn
  have k2 : (sw2 w g i y c).heap[w.heap.size]? = some (Obj.cells #[.int .i64 y.1, .int .i64 y.2] 43) := by
    rw [show (sw2 w g i y c).heap[w.heap.size]? = (sw1 w g i y c).heap[w.heap.size]? from (set_grown (sw1 w g i y c) g (i * 2 + 1) (.int .i64 c.2)).block _ (blk_lt k1) (by simp; omega)]
    exact k1
  have c0 := cell_of_row _ w.heap.size 0 _ _ _ k2
  have c1 := cell_of_row _ w.heap.size 1 _ _ _ k2
  simp only [List.getElem?_toArray, List.getElem?_cons_succ, List.getElem?_cons_zero] at c0 c1
  refine ⟨⟨?_, ?_, ?_, hA.frozenAt _, ?_, h1.frozenAt _, c0, c1, ?_, h2.frozenAt _, ?_, h3.frozenAt _⟩, h4, ?_⟩
  · exact row_cell resC_len hA hc (j := 0) (by omega) rfl
  · exact row_cell resC_len hA hc (j := 1) (by omega) rfl
  · exact row_cell resC_len hA hy (j := 0) (by omega) rfl
  · exact row_cell resC_len h1 e1 (j := 1) (by omega) rfl
  · exact row_cell resC_len h2 e2 (j := 0) (by omega) rfl
  · exact row_cell resC_len h3 e3 (j := 1) (by omega) rfl
  · exact grown_trans (grown_trans (grown_trans (set_grown _ _ _ _) (set_grown _ _ _ _)) (set_grown _ _ _ _)) (set_grown _ _ _ _)
end Go.Proofs.Yafahw
