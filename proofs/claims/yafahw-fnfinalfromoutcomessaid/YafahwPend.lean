/- ReplayFinal's pending list and cells in memory. -/
import Derived.Test.YafahwCells
namespace Go.Proofs.Yafahw
open Go.RowKit
set_option linter.unusedVariables false

def pdC (p : Pend × Value) : List Value := [.int .i64 p.1.id, .bool p.1.live, p.2]
theorem pdC_len (p : Pend × Value) : (pdC p).length = 3 := rfl

structure PendM (B : Nat) (w : World) (pv cv : Value) (cp : List (Pend × Value)) (cs : List PC) : Prop where
  ps : w.ownsRow B 98 3 pv cp.length (cp.flatMap pdC)
  wrs : ∀ (i : Nat) (p : Pend × Value), cp[i]? = some p → w.ownsRow B 100 3 p.2 p.1.writes.length (wrCells p.1.writes)
  dp : Dist cp
  cells : w.ownsRow B 94 3 cv cs.length (pcCells cs)

section
variable {B : Nat} {w : World} {pv cv : Value} {cp : List (Pend × Value)} {cs : List PC}
theorem PendM.alloc (h : PendM B w pv cv cp cs) (o : Obj) : PendM B (w.alloc o) pv cv cp cs :=
  ⟨h.ps.alloc o, fun i p hp => (h.wrs i p hp).alloc o, h.dp, h.cells.alloc o⟩
theorem PendM.drewN (h : PendM B w pv cv cp cs) (n : Nat) : PendM B (w.drewN n) pv cv cp cs := ⟨h.ps, h.wrs, h.dp, h.cells⟩
theorem PendM.drew (h : PendM B w pv cv cp cs) : PendM B w.drew pv cv cp cs := ⟨h.ps, h.wrs, h.dp, h.cells⟩
/-- a pending transaction is added -/
theorem PendM.add (h : PendM B w pv cv cp cs) {w1 : World} (hg : w.grownBy w1 pv.ownBlock) (p : Pend × Value) {pv' : Value} (hown : w1.ownsRow B 98 3 pv' (cp ++ [p]).length ((cp ++ [p]).flatMap pdC))
    (hp : w1.ownsRow B 100 3 p.2 p.1.writes.length (wrCells p.1.writes)) (hpn : p.2.ownBlock = none) : PendM B w1 pv' cv (cp ++ [p]) cs := by
  have ht := RowTy.of_own h.ps
  refine ⟨hown, ?_, h.dp.snoc p (fun j q hq => .inl hpn), own_ty hg ht h.cells (by decide)⟩
  intro i q hq
  by_cases hi : i < cp.length
  · rw [List.getElem?_append_left hi] at hq
    exact own_ty hg ht (h.wrs i q hq) (by decide)
  · rw [List.getElem?_append_right (by omega)] at hq
    cases hz : i - cp.length with
    | zero => rw [hz] at hq; simp at hq; subst hq; exact hp
    | succ n => rw [hz] at hq; simp at hq
/-- a transaction's writes have grown, and the new header is stored -/
theorem PendM.grow (h : PendM B w pv cv cp cs) {i : Nat} {p : Pend × Value} (hp : cp[i]? = some p) {w1 : World} (hg : w.grownBy w1 p.2.ownBlock) {ws' : List Wr} {hd' : Value} (hown : w1.ownsRow B 100 3 hd' ws'.length (wrCells ws'))
    (hat : hd'.ownBlock = p.2.ownBlock ∨ hd'.ownBlock = some w.heap.size) {g cap : Nat} (hpv : pv = .slice (some ⟨g, 0, none⟩) cp.length cap) :
    PendM B (w1.setCell ⟨g, i * 3 + 2, none⟩ hd') pv cv (cp.set i (⟨p.1.id, p.1.live, ws'⟩, hd')) cs := by
  have ht : RowTy w p.2.ownBlock 100 := RowTy.of_own (h.wrs i _ hp)
  have h2 := own_ty hg ht h.ps (by decide)
  have ht2 : RowTy w1 (some g) 98 := by have := RowTy.of_own h2; rw [hpv] at this; exact this
  have hg2 := set_grown w1 g (i * 3 + 2) hd'
  refine ⟨?_, ?_, h.dp.set i _ ?_, own_ty hg2 ht2 (own_ty hg ht h.cells (by decide)) (by decide)⟩
  · rw [List.length_set, hpv]
    rw [hpv] at h2
    exact row_set pdC_len h2 hp (by omega) rfl
  · intro j q hj
    rcases set_get hj with ⟨rfl, rfl⟩ | ⟨hji, hj'⟩
    · exact own_ty hg2 ht2 hown (by decide)
    · exact own_ty hg2 ht2 (own_ne hg (h.wrs j q hj') (h.dp j i q _ hji hj' hp)) (by decide)
  · intro j q hj hq
    rcases hat with e | e
    · show hd'.ownBlock = none ∨ hd'.ownBlock ≠ q.2.ownBlock
      rw [e]; exact h.dp i j p q (fun e => hj e.symm) hp hq
    · right
      show hd'.ownBlock ≠ q.2.ownBlock
      rw [e]
      intro hq'
      have := (own_lt (h.wrs j q hq) hq'.symm).2
      omega
/-- a transaction is ended -/
theorem PendM.off (h : PendM B w pv cv cp cs) {i : Nat} {p : Pend × Value} (hp : cp[i]? = some p) {g cap : Nat} (hpv : pv = .slice (some ⟨g, 0, none⟩) cp.length cap) :
    PendM B (w.setCell ⟨g, i * 3 + 1, none⟩ (.bool false)) pv cv (cp.set i (⟨p.1.id, false, p.1.writes⟩, p.2)) cs := by
  have ht2 : RowTy w (some g) 98 := by have := RowTy.of_own h.ps; rw [hpv] at this; exact this
  have hg2 := set_grown w g (i * 3 + 1) (.bool false)
  have hps := h.ps
  rw [hpv] at hps
  refine ⟨?_, ?_, h.dp.set i _ ?_, own_ty hg2 ht2 h.cells (by decide)⟩
  · rw [List.length_set, hpv]
    exact row_set pdC_len hps hp (by omega) rfl
  · intro j q hj
    rcases set_get hj with ⟨rfl, rfl⟩ | ⟨hji, hj'⟩
    · exact own_ty hg2 ht2 (show w.ownsRow B 100 3 p.2 p.1.writes.length (wrCells p.1.writes) from h.wrs _ _ hp) (by decide)
    · exact own_ty hg2 ht2 (h.wrs j q hj') (by decide)
  · intro j q hj hq
    exact h.dp i j p q (fun e => hj e.symm) hp hq
/-- the cells have been replayed -/
theorem PendM.re (h : PendM B w pv cv cp cs) {w1 : World} {cv' : Value} {cs' : List PC} (hk : Keep B [94] w w1) (hc : w1.ownsRow B 94 3 cv' cs'.length (pcCells cs')) : PendM B w1 pv cv' cp cs' :=
  ⟨hk.own h.ps (by decide), fun i p hp => hk.own (h.wrs i p hp) (by decide), h.dp, hc⟩
end

/-- what the search of ReplayFinal asks -/
def hitP (tx : Int) (q : Pend × Value) : Bool := q.1.id == tx && q.1.live
theorem hit_tx {txs : List Txn} {cp : List (Pend × Value)} (h : cp.map (·.1) = pend txs) (hn : NodupT txs) {m : Nat} {q : Pend × Value} (hq : cp[m]? = some q) (hl : q.1.live = true) :
    ∃ t, findTx txs q.1.id = some m ∧ txs[m]? = some t ∧ t.id = q.1.id ∧ t.active = true ∧ t.buf = q.1.writes := by
  have h1 : (cp.map (·.1))[m]? = some q.1 := by rw [List.getElem?_map, hq]; rfl
  rw [h] at h1
  unfold pend at h1
  rw [List.getElem?_map] at h1
  cases ht : txs[m]? with
  | none => rw [ht] at h1; cases h1
  | some t =>
    rw [ht] at h1
    simp [pendT] at h1
    have e := findTx_uni hn ht
    refine ⟨t, ?_, rfl, ?_, ?_, ?_⟩
    · rw [← h1]; exact e
    · rw [← h1]
    · rw [← h1] at hl; exact hl
    · rw [← h1]
theorem no_hit {txs : List Txn} {cp : List (Pend × Value)} (h : cp.map (·.1) = pend txs) {tx : Int} (hno : ∀ (j : Nat) (a : Pend × Value), 0 ≤ j → cp[j]? = some a → hitP tx a = false) (hex : ∃ i t, findTx txs tx = some i ∧ txs[i]? = some t ∧ t.id = tx ∧ t.active = true) : False := by
  obtain ⟨i, t, _, ht, hid, ha⟩ := hex
  have h1 : (cp.map (·.1))[i]? = some (pendT t) := by rw [h]; unfold pend; rw [List.getElem?_map, ht]; rfl
  rw [List.getElem?_map] at h1
  cases hq : cp[i]? with
  | none => rw [hq] at h1; cases h1
  | some q =>
    rw [hq] at h1
    simp at h1
    have := hno i q (Nat.zero_le _) hq
    unfold hitP at this
    rw [h1] at this
    simp [pendT, hid, ha] at this
theorem pend_set {cp : List (Pend × Value)} {txs : List Txn} (h : cp.map (·.1) = pend txs) (i : Nat) (p : Pend) (v : Value) : (cp.set i (p, v)).map (·.1) = (pend txs).set i p := by
  rw [List.map_set, h]
end Go.Proofs.Yafahw
