/- Sinking a cell to its place: what both sorts do. -/
import Derived.Test.YafahwHeap
import Derived.Test.YafahwLawRes
import Derived.Test.YafahwPlainFin
namespace Go.Proofs.Yafahw
open Go.RowKit
set_option linter.unusedVariables false
set_option linter.unusedSimpArgs false

def resC (r : Int × Int) : List Value := [.int .i64 r.1, .int .i64 r.2]
theorem resC_len (r : Int × Int) : (resC r).length = 2 := rfl
theorem resCells_eq (l : List (Int × Int)) : resCells l = l.flatMap resC := rfl

/-- a whole cell laid over element m -/
theorem row_put2 {w : World} {B e g n cap : Nat} {l : List (Int × Int)} (h : w.ownsRow B e 2 (.slice (some ⟨g, 0, none⟩) n cap) n (resCells l)) {m : Nat} {y : Int × Int} (hy : l[m]? = some y) (k v : Int) :
    ((w.setCell ⟨g, m * 2, none⟩ (.int .i64 k)).setCell ⟨g, m * 2 + 1, none⟩ (.int .i64 v)).ownsRow B e 2 (.slice (some ⟨g, 0, none⟩) n cap) n (resCells (l.set m (k, v))) ∧
    w.grownBy ((w.setCell ⟨g, m * 2, none⟩ (.int .i64 k)).setCell ⟨g, m * 2 + 1, none⟩ (.int .i64 v)) (some g) := by
  have hm : m < l.length := (List.getElem?_eq_some_iff.1 hy).1
  rw [resCells_eq] at h
  have h1 := row_set resC_len h hy (a' := (k, y.2)) (j := 0) (by omega) (u := .int .i64 k) rfl
  have g1 : (l.set m (k, y.2))[m]? = some (k, y.2) := by simp [hm]
  have h2 := row_set resC_len h1 g1 (a' := (k, v)) (j := 1) (by omega) (u := .int .i64 v) rfl
  rw [List.set_set] at h2
  exact ⟨h2, grown_trans (set_grown _ _ _ _) (set_grown _ _ _ _)⟩

/-- the list while c sinks: at place j -/
def sunk (l : List (Int × Int)) (c : Int × Int) (j : Nat) : List (Int × Int) := l.take j ++ c :: l.drop j
theorem sunk_len {l : List (Int × Int)} {c : Int × Int} {j : Nat} : (sunk l c j).length = l.length + 1 := by
  unfold sunk
  rw [List.length_append, List.length_cons, List.length_take, List.length_drop]
  omega
theorem sunk_at {l : List (Int × Int)} {c : Int × Int} {j : Nat} (hj : j ≤ l.length) : (sunk l c j)[j]? = some c := by
  unfold sunk
  rw [List.getElem?_append_right (by simp; omega)]
  simp [Nat.min_eq_left hj]
theorem sunk_left {l : List (Int × Int)} {c y : Int × Int} {j : Nat} (hj : j + 1 ≤ l.length) (hy : l[j]? = some y) : (sunk l c (j + 1))[j]? = some y := by
  unfold sunk
  rw [List.getElem?_append_left (by simp; omega), List.getElem?_take, if_pos (by omega)]
  exact hy
theorem sunk_step {l : List (Int × Int)} {c y : Int × Int} {j : Nat} (hj : j + 1 ≤ l.length) (hy : l[j]? = some y) : ((sunk l c (j + 1)).set j c).set (j + 1) y = sunk l c j := by
  apply List.ext_getElem?
  intro i
  have hlt : j < l.length := by omega
  have hy' : l[j] = y := by rw [List.getElem?_eq_getElem hlt] at hy; simpa using hy
  have hd : l.drop j = y :: l.drop (j + 1) := by rw [List.drop_eq_getElem_cons hlt, hy']
  have hlen : (l.take j).length = j := by simp; omega
  have hlen' : (l.take (j + 1)).length = j + 1 := by simp; omega
  have htk : l.take (j + 1) = l.take j ++ [y] := by rw [List.take_add_one, hy]; rfl
  unfold sunk
  rw [hd, htk, List.append_assoc, List.set_append_right _ _ (by omega), hlen, Nat.sub_self, List.set_append_right _ _ (by omega), hlen, show j + 1 - j = 1 from by omega]
  rfl
end Go.Proofs.Yafahw
