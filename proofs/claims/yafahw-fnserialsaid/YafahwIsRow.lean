/- What the given shells tell of a []byte that came in (their own 'IsRow'), as the decoders want it. -/
import Derived.Test.YafahwReader
import Derived.Test.YafahwOpenIn
namespace Go.Proofs.Yafahw
open Go.RowKit

/-- the shells' own definition: nil, or a row of 'cap' cells, the numbers 'zs', each fitting its kind -/
def IsRow (k : IntKind) (w : World) (a : Option Addr) (len cap : Nat) (zs : List Int) : Prop :=
  (a = none ∧ len = 0 ∧ cap = 0 ∧ zs = []) ∨
  ∃ x, a = some x ∧ len ≤ cap ∧ cap ≤ maxLen ∧ zs.length = cap ∧ (∀ i, i < zs.length → w.cell? (x.add i) = some (.int k (zs.getD i 0))) ∧ ∀ n ∈ zs, (Lit.int k n).wf = true

theorem IsRow.data {w : World} {a : Option Addr} {len cap : Nat} {zs : List Int} (h : IsRow .u8 w a len cap zs) : ∃ b off, DataAt w a len b off ∧ len ≤ maxLen := by
  rcases h with ⟨rfl, rfl, rfl, rfl⟩ | ⟨x, rfl, hl, hm, hz, hc, hwf⟩
  · exact ⟨0, 0, ⟨fun h => by omega, fun j hj => by omega⟩, by unfold maxLen; omega⟩
  · by_cases h0 : 0 < len
    · have := hc 0 (by omega)
      obtain ⟨b, off, rfl⟩ := addr_plain (by simpa [Addr.add] using this)
      refine ⟨b, off, ⟨fun _ => rfl, fun j hj => ?_⟩, Nat.le_trans hl hm⟩
      have hcj := hc j (by omega)
      rw [Addr.add_lit] at hcj
      have hw := hwf (zs.getD j 0) (by
        rw [List.getD_eq_getElem?_getD, List.getElem?_eq_getElem (by omega)]; exact List.getElem_mem _)
      simp [Lit.wf, IntKind.min, IntKind.max, IntKind.signed, IntKind.bits] at hw
      rw [List.getD_eq_getElem?_getD] at hcj
      exact ⟨_, hw.1, by omega, hcj⟩
    · exact ⟨0, 0, ⟨fun h => by omega, fun j hj => by omega⟩, Nat.le_trans hl hm⟩
end Go.Proofs.Yafahw
