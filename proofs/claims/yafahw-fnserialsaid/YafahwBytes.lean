/- A growing buffer of bytes of the call's own, and a slice that is read. -/
import Derived.Test.YafahwBase
import Derived.Test.YafahwPlainFmt
namespace Go.Proofs.Yafahw
open Go.RowKit

def bytesL (s : ByteArray) : List Int := s.data.toList.map fun b => (b.toNat : Int)
theorem bytesL_len (s : ByteArray) : (bytesL s).length = s.size := by
  unfold bytesL; rw [List.length_map, Array.length_toList]; rfl
theorem bytesL_strOf (ns : List Int) (h : ∀ x ∈ ns, 0 ≤ x ∧ x < 256) : bytesL (strOf ns) = ns := by
  unfold bytesL
  rw [strOf_list, List.map_map]
  conv => rhs; rw [← List.map_id ns]
  refine List.map_congr_left (fun x hx => ?_)
  have := h x hx
  simp
  omega
theorem strCells_bytesL (s : ByteArray) : Lib.strCells s = (bytesL s).map (Value.int .u8) := by
  unfold Lib.strCells bytesL; rw [List.map_map]; rfl

/-- the slice v owns the bytes ns, in a block from B on -/
def Buf (B : Nat) (w : World) (v : Value) (ns : List Int) : Prop := w.ownsRow B 5 1 v ns.length (ns.map (Value.int .u8))

theorem Yahh.info5 : (Yahh.prog.info? 5).map (fun i => (i.zero, i.size, i.bytes)) = some (some (.int .u8 0), 1, 1) := by kernel_rfl

theorem Buf.nil (B : Nat) (w : World) : Buf B w (.slice none 0 0) [] := World.ownsRow_nil _ _ _ _
theorem Buf.alloc {B : Nat} {w : World} {v : Value} {ns : List Int} (h : Buf B w v ns) (o : Obj) : Buf B (w.alloc o) v ns := World.ownsRow.alloc h o
theorem Buf.below {B : Nat} {w w' : World} {v : Value} {ns : List Int} (h : Buf B w v ns) (hb : Below w.heap.size w w') : Buf B w' v ns := own_below h hb (Nat.le_refl _)

section
variable {ops : Array Oper} {rest : List Oper} {o : Oper} {a : Act} {Q : Exit → Act → World → Prop} {w : World}

theorem wpList_bufStr (hgd : o.guard = none) (sl x : Operand)
    (ho : o.op = .call { callee := .builtin .append, args := #[sl, x], argTypes := #[22, 9] })
    (B : Nat) (v : Value) (ns : List Int) (hs : a.eval sl = v) (hown : Buf B w v ns) (s : ByteArray) (hx : a.eval x = .string s)
    (hlen : ns.length < 100000000000) (hlen2 : s.size ≤ 1000) (hbase : B ≤ w.heap.size)
    (h : ∀ v' w' ns', Hid (ns' = ns ++ bytesL s) → ns'.length ≤ ns.length + 1000 → Buf B w' v' ns' → Below B w w' → (∀ (k : Nat) (c : Array Value) (e : TypeId) (f : Nat × Nat), w.heap[k]? = some (.cells c e f) → e ≠ 5 → w'.heap[k]? = some (.cells c e f)) → wpList Yahh.prog ops Q rest (a.put o.dst v') w') : wpList Yahh.prog ops Q (o :: rest) a w := by
  obtain ⟨i, hi, hz0, hz1, hz2⟩ := info_eq Yahh.info5
  refine Lib.wpList_append_own_string w hgd sl x 22 9 ho B 5 i Yahh.underlying22 Yahh.underlying9 hi hz0 hz1 hz2 v _ _ hs hown s hx (by unfold maxLen; omega) (by omega) hbase ?_
  intro v' w' h1 h2 _
  refine h v' w' _ (hid rfl) (by rw [List.length_append, bytesL_len]; omega) ?_ ((Below.refl _ _).grown h2 hbase (fun k hk => (own_lt hown hk).1)) (own_other hown h2)
  unfold Buf
  rw [List.length_append, List.map_append, bytesL_len, ← strCells_bytesL]
  exact h1

theorem wpList_buf1 (hgd : o.guard = none) (sl x : Operand)
    (ho : o.op = .call { callee := .builtin .append, args := #[sl, x], argTypes := #[22, 22] })
    (B : Nat) (v : Value) (ns : List Int) (hs : a.eval sl = v) (hown : Buf B w v ns) (g : Nat) (c : Int) (e' : TypeId) (fr : Nat × Nat) (hx : a.eval x = .slice (some ⟨g, 0, none⟩) 1 1) (hg : w.heap[g]? = some (.cells #[.int .u8 c] e' fr))
    (hlen : ns.length < 1000000000000) (hbase : B ≤ w.heap.size)
    (h : ∀ v' w' ns', Hid (ns' = ns ++ [c]) → ns'.length ≤ ns.length + 1 → Buf B w' v' ns' → Below B w w' → (∀ (k : Nat) (c : Array Value) (e : TypeId) (f : Nat × Nat), w.heap[k]? = some (.cells c e f) → e ≠ 5 → w'.heap[k]? = some (.cells c e f)) → wpList Yahh.prog ops Q rest (a.put o.dst v') w') : wpList Yahh.prog ops Q (o :: rest) a w := by
  refine wpList_app1 hgd sl x 22 ho B 5 (.int .u8 0) 1 1 Yahh.underlying22 Yahh.info5 rfl (by decide) v _ _ hs hown g _ _ _ hx hg rfl (one1 _ rfl) hlen (by decide) hbase _ rfl ?_
  intro g' cap w' h1 h2 _ _
  refine h _ w' _ (hid rfl) (by simp) ?_ ((Below.refl _ _).grown h2 hbase (fun k hk => (own_lt hown hk).1)) (own_other hown h2)
  unfold Buf
  simpa using h1
end

/-- the slice v, n elements of sz cells each, reads as the cells xs -/
def RowAt (w : World) (sz : Nat) (v : Value) (n : Nat) (xs : List Value) : Prop :=
  ∃ (a : Option Addr) (cap b off : Nat), v = .slice a n cap ∧ n ≤ cap ∧ xs.length = n * sz ∧ (0 < n → a = some ⟨b, off, none⟩) ∧ ∀ j u, xs[j]? = some u → w.cell? ⟨b, off + j, none⟩ = some u

theorem cell_below {w w' : World} (h : Below w.heap.size w w') {a : Addr} {u : Value} (hc : w.cell? a = some u) : w'.cell? a = some u := by
  rw [h.cell (block_lt_of_cell hc)]; exact hc

theorem RowAt.below {w w' : World} {sz : Nat} {v : Value} {n : Nat} {xs : List Value} (h : RowAt w sz v n xs) (hb : Below w.heap.size w w') : RowAt w' sz v n xs := by
  obtain ⟨a, cap, b, off, h1, h2, h3, h4, h5⟩ := h
  exact ⟨a, cap, b, off, h1, h2, h3, h4, fun j u hj => cell_below hb (h5 j u hj)⟩

theorem RowAt.of_own {w : World} {B : Nat} {e : TypeId} {sz : Nat} {v : Value} {n : Nat} {xs : List Value} (h : w.ownsRow B e sz v n xs) : RowAt w sz v n xs := by
  rcases h.2 with ⟨rfl, rfl⟩ | ⟨g, cap, cur, rfl, _, _, hnc, _⟩
  · have h0 : xs = [] := List.eq_nil_of_length_eq_zero (by simpa using h.1)
    subst h0
    exact ⟨none, 0, 0, 0, rfl, Nat.le_refl _, by simp, fun h => by omega, fun j u hj => by simp at hj⟩
  · exact ⟨_, cap, g, 0, rfl, hnc, h.1, fun _ => rfl, fun j u hj => by simpa using own_cell h j u hj⟩

/-- a result list as cells -/
def resCells (rs : List (Int × Int)) : List Value := rs.flatMap fun r => [.int .i64 r.1, .int .i64 r.2]
theorem resCells_len (rs : List (Int × Int)) : (resCells rs).length = rs.length * 2 := by
  induction rs with
  | nil => rfl
  | cons r rs ih => simp only [resCells, List.flatMap_cons, List.length_append, List.length_cons, List.length_nil] at *; omega
theorem resCells_snoc (rs : List (Int × Int)) (r : Int × Int) : resCells (rs ++ [r]) = resCells rs ++ [.int .i64 r.1, .int .i64 r.2] := by simp [resCells]
theorem resCells_at (rs : List (Int × Int)) : ∀ (k : Nat) (r : Int × Int), rs[k]? = some r → (resCells rs)[k * 2]? = some (.int .i64 r.1) ∧ (resCells rs)[k * 2 + 1]? = some (.int .i64 r.2) := by
  induction rs with
  | nil => intro k r h; simp at h
  | cons r0 rs ih =>
    intro k r h
    cases k with
    | zero => simp at h; subst h; simp [resCells]
    | succ k =>
      have := ih k r (by simpa using h)
      simp only [resCells, List.flatMap_cons] at this ⊢
      rw [show (k + 1) * 2 = k * 2 + 2 from by omega]
      simpa using this
end Go.Proofs.Yafahw
