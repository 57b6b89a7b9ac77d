/- The arguments, opened: []byte, []impl.Res, []impl.Op. -/
import Derived.Test.YafahwBytes
import Derived.Test.YafahwPlain2
import Derived.Deep.Slices
import Derived.Lib.SmallJoins
namespace Go.Proofs.Yafahw
open Go.RowKit Go.ChangeShapes Go.WideShapes Go.ChangeAt

theorem Yahh.cells37 : Yahh.prog.cellsOf 37 = 2 := by kernel_rfl
theorem Yahh.cells35 : Yahh.prog.cellsOf 35 = 4 := by kernel_rfl
theorem Yahh.cells3 : Yahh.prog.cellsOf 3 = 1 := by kernel_rfl
theorem Yahh.cells2 : Yahh.prog.cellsOf 2 = 1 := by kernel_rfl

theorem addr_plain {w : World} {a : Addr} {u : Value} (h : w.cell? a = some u) : ∃ b off, a = ⟨b, off, none⟩ := by
  obtain ⟨b, off, sp⟩ := a
  refine ⟨b, off, ?_⟩
  cases sp with
  | none => rfl
  | some s => simp [World.cell?] at h; split at h <;> simp_all

theorem list2 {α : Type} {l : List α} (h : l.length = 2) : ∃ a b, l = [a, b] := by
  match l, h with
  | [a, b], _ => exact ⟨a, b, rfl⟩
theorem list4 {α : Type} {l : List α} (h : l.length = 4) : ∃ a b c d, l = [a, b, c, d] := by
  match l, h with
  | [a, b, c, d], _ => exact ⟨a, b, c, d, rfl⟩

def opCells (ops : List POp) : List Value := ops.flatMap fun r => [.int .i64 r.kind, .int .i64 r.tx, .int .i64 r.key, .int .i64 r.val]
theorem opCells_len (rs : List POp) : (opCells rs).length = rs.length * 4 := by
  induction rs with
  | nil => rfl
  | cons r rs ih => simp only [opCells, List.flatMap_cons, List.length_append, List.length_cons, List.length_nil] at *; omega
theorem opCells_snoc (rs : List POp) (r : POp) : opCells (rs ++ [r]) = opCells rs ++ [.int .i64 r.kind, .int .i64 r.tx, .int .i64 r.key, .int .i64 r.val] := by simp [opCells]
theorem opCells_at (rs : List POp) : ∀ (k : Nat) (r : POp), rs[k]? = some r → (opCells rs)[k * 4]? = some (.int .i64 r.kind) ∧ (opCells rs)[k * 4 + 1]? = some (.int .i64 r.tx) ∧ (opCells rs)[k * 4 + 2]? = some (.int .i64 r.key) ∧ (opCells rs)[k * 4 + 3]? = some (.int .i64 r.val) := by
  induction rs with
  | nil => intro k r h; simp at h
  | cons r0 rs ih =>
    intro k r h
    cases k with
    | zero => simp at h; subst h; simp [opCells]
    | succ k =>
      have := ih k r (by simpa using h)
      simp only [opCells, List.flatMap_cons] at this ⊢
      rw [show (k + 1) * 4 = k * 4 + 4 from by omega]
      simpa using this

section
variable {H : Type} {enc : TypeId × Value → H} {w : World} {spare : Nat → Bool} {held : Bool}

theorem open_res {fuel : Nat} {a : Option Addr} {len cap : Nat} {x : DataW H × List MemPlace} (h : DataW.trod enc Yahh.prog w 0 spare held fuel 25 [.slice a len cap] = some x) :
    ∃ rs : List (Int × Int), rs.length = len ∧ len ≤ maxLen ∧ RowAt w 2 (.slice a len cap) rs.length (resCells rs) := by
  rcases Deep.open_slice Yahh.underlying25 h with ⟨hcs, _⟩ | ⟨ad, len', cap', m, n, D, Pl, hcs, _, hl, hm, hmm, _, hx⟩
  · simp only [List.cons.injEq, Value.slice.injEq, and_true] at hcs
    obtain ⟨rfl, rfl, rfl⟩ := hcs
    exact ⟨[], rfl, by unfold maxLen; omega, none, 0, 0, 0, rfl, Nat.le_refl _, rfl, fun h => by simp at h, fun j u hj => by simp [resCells] at hj⟩
  · simp only [List.cons.injEq, Value.slice.injEq, and_true] at hcs
    obtain ⟨rfl, rfl, rfl⟩ := hcs
    have hlm : len ≤ m := by rw [hmm]; split <;> omega
    have key : ∀ i, i < len → ∃ r : Int × Int, w.cell? (ad.add (i * 2)) = some (.int .i64 r.1) ∧ w.cell? (ad.add (i * 2 + 1)) = some (.int .i64 r.2) := by
      intro i hi
      obtain ⟨cs', h1, h2⟩ := hx i (by omega)
      rw [Yahh.cells37] at h1
      obtain ⟨_, hlen, hget⟩ := World.cells?_some h1
      obtain ⟨y0, y1, n', _, _, e0, e1⟩ := trod_struct2 Yahh.underlying37 h2
      obtain ⟨z0, g0, _, _⟩ := DataW.trod_int Yahh.underlying3 e0
      obtain ⟨z1, g1, _, _⟩ := DataW.trod_int Yahh.underlying2 e1
      · obtain ⟨c0, c1, rfl⟩ := list2 hlen
        have q0 : c0 = .int .i64 z0 := by simpa [Yahh.cells3] using g0
        have q1 : c1 = .int .i64 z1 := by simpa [Yahh.cells2] using g1
        subst q0; subst q1
        have r0 := hget 0 (by omega)
        have r1 := hget 1 (by omega)
        rw [Deep.add_add] at r0 r1
        exact ⟨(z0, z1), by simpa using r0, by simpa using r1⟩
    obtain ⟨f, hf⟩ := Deep.choose_lt key
    refine ⟨(List.range len).map f, by simp, Nat.le_trans hl hm, some ad, cap, ad.block, ad.off, by simp, by simpa using hl, by rw [resCells_len], ?_, ?_⟩
    · intro h0
      have := (hf 0 (by simpa using h0)).1
      obtain ⟨b, off, rfl⟩ := addr_plain (by simpa [Addr.add] using this)
      rfl
    · intro j u hj
      have hjl : j < len * 2 := by
        rcases Nat.lt_or_ge j (resCells ((List.range len).map f)).length with h' | h'
        · rw [resCells_len] at h'; simpa using h'
        · rw [List.getElem?_eq_none h'] at hj; cases hj
      have hi : j / 2 < len := by omega
      have hg := resCells_at ((List.range len).map f) (j / 2) (f (j / 2)) (by simp [hi])
      have hfi := hf (j / 2) hi
      have h00 := (hf 0 (by omega)).1
      obtain ⟨b, off, rfl⟩ := addr_plain (by simpa [Addr.add] using h00)
      rw [Addr.add_lit, Addr.add_lit] at hfi
      rcases (show j = j / 2 * 2 ∨ j = j / 2 * 2 + 1 from by omega) with e | e
      · rw [e] at hj ⊢; rw [hg.1] at hj; rw [← hj]; exact hfi.1
      · rw [e] at hj ⊢; rw [hg.2] at hj; rw [← hj]; exact hfi.2

theorem open_op {fuel : Nat} {a : Option Addr} {len cap : Nat} {x : DataW H × List MemPlace} (h : DataW.trod enc Yahh.prog w 0 spare held fuel 23 [.slice a len cap] = some x) :
    ∃ rs : List POp, rs.length = len ∧ len ≤ maxLen ∧ RowAt w 4 (.slice a len cap) rs.length (opCells rs) := by
  rcases Deep.open_slice Yahh.underlying23 h with ⟨hcs, _⟩ | ⟨ad, len', cap', m, n, D, Pl, hcs, _, hl, hm, hmm, _, hx⟩
  · simp only [List.cons.injEq, Value.slice.injEq, and_true] at hcs
    obtain ⟨rfl, rfl, rfl⟩ := hcs
    exact ⟨[], rfl, by unfold maxLen; omega, none, 0, 0, 0, rfl, Nat.le_refl _, rfl, fun h => by simp at h, fun j u hj => by simp [opCells] at hj⟩
  · simp only [List.cons.injEq, Value.slice.injEq, and_true] at hcs
    obtain ⟨rfl, rfl, rfl⟩ := hcs
    have hlm : len ≤ m := by rw [hmm]; split <;> omega
    have key : ∀ i, i < len → ∃ z : Int × Int × Int × Int, w.cell? (ad.add (i * 4)) = some (.int .i64 z.1) ∧ w.cell? (ad.add (i * 4 + 1)) = some (.int .i64 z.2.1) ∧ w.cell? (ad.add (i * 4 + 2)) = some (.int .i64 z.2.2.1) ∧ w.cell? (ad.add (i * 4 + 3)) = some (.int .i64 z.2.2.2) := by
      intro i hi
      obtain ⟨cs', h1, h2⟩ := hx i (by omega)
      rw [Yahh.cells35] at h1
      obtain ⟨_, hlen, hget⟩ := World.cells?_some h1
      obtain ⟨y0, y1, y2, y3, n', _, _, e0, e1, e2, e3⟩ := Joins.trod_struct4 Yahh.underlying35 h2
      obtain ⟨z0, g0, _, _⟩ := DataW.trod_int Yahh.underlying3 e0
      obtain ⟨z1, g1, _, _⟩ := DataW.trod_int Yahh.underlying3 e1
      obtain ⟨z2, g2, _, _⟩ := DataW.trod_int Yahh.underlying3 e2
      obtain ⟨z3, g3, _, _⟩ := DataW.trod_int Yahh.underlying2 e3
      · obtain ⟨c0, c1, c2, c3, rfl⟩ := list4 hlen
        have q0 : c0 = .int .i64 z0 := by simpa [Yahh.cells3] using g0
        have q1 : c1 = .int .i64 z1 := by simpa [Yahh.cells3] using g1
        have q2 : c2 = .int .i64 z2 := by simpa [Yahh.cells3] using g2
        have q3 : c3 = .int .i64 z3 := by simpa [Yahh.cells2] using g3
        subst q0; subst q1; subst q2; subst q3
        have r0 := hget 0 (by omega)
        have r1 := hget 1 (by omega)
        have r2 := hget 2 (by omega)
        have r3 := hget 3 (by omega)
        rw [Deep.add_add] at r0 r1 r2 r3
        exact ⟨(z0, z1, z2, z3), by simpa using r0, by simpa using r1, by simpa using r2, by simpa using r3⟩
    obtain ⟨f, hf⟩ := Deep.choose_lt key
    refine ⟨(List.range len).map fun i => ⟨(f i).1, (f i).2.1, (f i).2.2.1, (f i).2.2.2⟩, by simp, Nat.le_trans hl hm, some ad, cap, ad.block, ad.off, by simp, by simpa using hl, by rw [opCells_len], ?_, ?_⟩
    · intro h0
      have := (hf 0 (by simpa using h0)).1
      obtain ⟨b, off, rfl⟩ := addr_plain (by simpa [Addr.add] using this)
      rfl
    · intro j u hj
      have hjl : j < len * 4 := by
        rcases Nat.lt_or_ge j (opCells ((List.range len).map fun i => ⟨(f i).1, (f i).2.1, (f i).2.2.1, (f i).2.2.2⟩)).length with h' | h'
        · rw [opCells_len] at h'; simpa using h'
        · rw [List.getElem?_eq_none h'] at hj; cases hj
      have hi : j / 4 < len := by omega
      have hg := opCells_at ((List.range len).map fun i => ⟨(f i).1, (f i).2.1, (f i).2.2.1, (f i).2.2.2⟩) (j / 4) ⟨(f (j / 4)).1, (f (j / 4)).2.1, (f (j / 4)).2.2.1, (f (j / 4)).2.2.2⟩ (by simp [hi])
      have hfi := hf (j / 4) hi
      have h00 := (hf 0 (by omega)).1
      obtain ⟨b, off, rfl⟩ := addr_plain (by simpa [Addr.add] using h00)
      rw [Addr.add_lit, Addr.add_lit, Addr.add_lit, Addr.add_lit] at hfi
      rcases (show j = j / 4 * 4 ∨ j = j / 4 * 4 + 1 ∨ j = j / 4 * 4 + 2 ∨ j = j / 4 * 4 + 3 from by omega) with e | e | e | e
      · rw [e] at hj ⊢; rw [hg.1] at hj; rw [← hj]; exact hfi.1
      · rw [e] at hj ⊢; rw [hg.2.1] at hj; rw [← hj]; exact hfi.2.1
      · rw [e] at hj ⊢; rw [hg.2.2.1] at hj; rw [← hj]; exact hfi.2.2.1
      · rw [e] at hj ⊢; rw [hg.2.2.2] at hj; rw [← hj]; exact hfi.2.2.2
end
end Go.Proofs.Yafahw
