/- Sizes of the model after k operations. -/
import Derived.Test.YafahwPlain2
namespace Go.Proofs.Yafahw
set_option linter.unusedSimpArgs false

structure SmallW (n : Nat) (s : Wld) : Prop where
  tx : s.txs.length ≤ n
  buf : ∀ t ∈ s.txs, t.buf.length ≤ n
  log : s.log.length ≤ n
  wr : ∀ c ∈ s.log, c.writes.length ≤ n

theorem SmallW.mono {n m : Nat} {s : Wld} (h : SmallW n s) (hm : n ≤ m) : SmallW m s :=
  ⟨Nat.le_trans h.tx hm, fun t ht => Nat.le_trans (h.buf t ht) hm, Nat.le_trans h.log hm, fun c hc => Nat.le_trans (h.wr c hc) hm⟩
theorem SmallW.set {n : Nat} {s : Wld} (h : SmallW n s) (i : Nat) (t : Txn) (ht : t.buf.length ≤ n) : SmallW n ⟨s.txs.set i t, s.log⟩ :=
  ⟨by simpa using h.tx, fun q hq => by rcases mem_set hq with rfl | hq; exact ht; exact h.buf q hq, h.log, h.wr⟩

theorem smallW_step {n : Nat} {s : Wld} (h : SmallW n s) (o : POp) : SmallW (n + 1) (stepS s o).1 := by
  have h1 := h.mono (Nat.le_succ n)
  unfold stepS
  by_cases k0 : o.kind = 0
  · simp only [k0, if_true]
    cases findTx s.txs o.tx with
    | some i => exact h1
    | none =>
      refine ⟨by have := h.tx; simp; omega, ?_, h1.log, h1.wr⟩
      intro q hq
      rcases List.mem_append.1 hq with hq | hq
      · exact h1.buf q hq
      · simp at hq; subst hq; simp
  · simp only [k0, if_false]
    cases findTx s.txs o.tx with
    | none => exact h1
    | some i =>
      simp only []
      cases ht : s.txs[i]? with
      | none => exact h1
      | some t =>
        simp only []
        have hb := h.buf t (List.mem_of_getElem? ht)
        split
        · exact h1
        split
        · exact h1
        split
        · exact h1.set i _ (by simp; omega)
        split
        · exact h1.set i _ (by simp; omega)
        split
        · exact h1.set i _ (by simp; omega)
        split
        · split
          · exact h1.set i _ (by simp; omega)
          · have hs := h1.set i ⟨t.id, false, t.snap, t.buf⟩ (by simp; omega)
            refine ⟨hs.tx, hs.buf, by have := h.log; simp; omega, ?_⟩
            intro c hc
            rcases List.mem_append.1 hc with hc | hc
            · exact h1.wr c hc
            · simp at hc; subst hc; simp; omega
        · exact h1

theorem smallW_st (ops : List POp) : ∀ k, SmallW (min k 20000) (stS ops k) := by
  intro k
  induction k with
  | zero => exact ⟨by simp [stS, wld0], by simp [stS, wld0], by simp [stS, wld0], by simp [stS, wld0]⟩
  | succ k ih =>
    simp only [stS]
    cases ops[k]? with
    | none => exact ih.mono (by omega)
    | some o =>
      simp only []
      split
      · have := smallW_step (n := k) (by rw [show min k 20000 = k from by omega] at ih; exact ih) o
        exact this.mono (by omega)
      · exact ih.mono (by omega)
end Go.Proofs.Yafahw
