/- The plain law behind ReplayFinal: its pending list is the model's transactions, its cells the replayed log. -/
import Derived.Test.YafahwPlainFin
namespace Go.Proofs.Yafahw
set_option linter.unusedSimpArgs false

structure Pend where
  id : Int
  live : Bool
  writes : List Wr
def pendT (t : Txn) : Pend := ⟨t.id, t.active, t.buf⟩
def pend (txs : List Txn) : List Pend := txs.map pendT
def NodupT (txs : List Txn) : Prop := (txs.map (·.id)).Nodup

theorem ids_set {txs : List Txn} {i : Nat} {t u : Txn} (h : txs[i]? = some t) (hid : u.id = t.id) : (txs.set i u).map (·.id) = txs.map (·.id) := by
  rw [List.map_set]
  apply List.ext_getElem?
  intro j
  rw [List.getElem?_set]
  obtain ⟨hi, rfl⟩ := List.getElem?_eq_some_iff.1 h
  split
  · rename_i e; subst e; simp [hi, hid]
  · rfl

/-- nothing found: no transaction of this id -/
theorem findTx_none {txs : List Txn} {id : Int} (h : findTx txs id = none) : ∀ t ∈ txs, t.id ≠ id := by
  unfold findTx at h
  rw [List.findIdx?_eq_none_iff] at h
  intro t ht e
  have := h t ht
  simp [e] at this
theorem findTx_at {txs : List Txn} {id : Int} {i : Nat} (h : findTx txs id = some i) : ∃ t, txs[i]? = some t ∧ t.id = id := by
  unfold findTx at h
  obtain ⟨hi, hp, _⟩ := List.findIdx?_eq_some_iff_getElem.1 h
  exact ⟨_, List.getElem?_eq_getElem hi, by simpa using hp⟩
theorem findTx_uni {txs : List Txn} (hn : NodupT txs) {j : Nat} {t : Txn} (h : txs[j]? = some t) : findTx txs t.id = some j := by
  unfold findTx
  rw [List.findIdx?_eq_some_iff_getElem]
  obtain ⟨hj, rfl⟩ := List.getElem?_eq_some_iff.1 h
  refine ⟨hj, by simp, fun i hi => ?_⟩
  have := (List.pairwise_iff_getElem.1 hn) i j (by simp; omega) (by simpa using hj) hi
  simpa using this

theorem nodup_step {w : Wld} (h : NodupT w.txs) (o : POp) : NodupT (stepS w o).1.txs := by
  unfold stepS
  split
  · split
    · exact h
    · rename_i hf
      have := findTx_none hf
      unfold NodupT
      simp only [List.map_append, List.map_cons, List.map_nil]
      rw [List.nodup_append]
      refine ⟨h, by simp, ?_⟩
      intro a ha b hb
      simp at hb; subst hb
      obtain ⟨c, hc, rfl⟩ := List.mem_map.1 ha
      exact this c hc
  · split
    · exact h
    · rename_i i hf
      split
      · exact h
      · rename_i t ht
        have key : ∀ u : Txn, u.id = t.id → NodupT (w.txs.set i u) := fun u hu => by unfold NodupT; rw [ids_set ht hu]; exact h
        split
        · exact h
        · split
          · exact h
          · split
            · exact key _ rfl
            · split
              · exact key _ rfl
              · split
                · exact key _ rfl
                · split
                  · split
                    · exact key _ rfl
                    · exact key _ rfl
                  · exact h
theorem nodup_st (ops : List POp) : ∀ k, NodupT (stS ops k).txs := by
  intro k
  induction k with
  | zero => exact List.Pairwise.nil
  | succ k ih =>
    unfold stS
    split
    · split
      · exact nodup_step ih _
      · exact ih
    · exact ih

theorem replay_snoc (log : List CR) (c : CR) : replay (log ++ [c]) = c.writes.foldl repl (replay log) := by simp [replay]

/-- what ReplayFinal does with one operation that is answered with code c -/
theorem rep_skip {w : Wld} {o : POp} (h : ¬ (stepS w o).2.1 = 0) (h' : ¬ (o.kind = 4 ∧ (stepS w o).2.1 = 3)) : pend (stepS w o).1.txs = pend w.txs ∧ (stepS w o).1.log = w.log := by
  unfold stepS at h h' ⊢
  split at h
  · rename_i h0
    simp only [h0, if_true] at h' ⊢
    split at h
    · rename_i hf; simp only [hf]; simp
    · simp at h
  · rename_i h0
    simp only [h0, if_false] at h' ⊢
    split at h
    · rename_i hf; simp only [hf]; simp
    · rename_i i hf
      simp only [hf] at h' ⊢
      split at h
      · rename_i ht; simp only [ht]; simp
      · rename_i t ht
        simp only [ht] at h' ⊢
        split at h
        · rename_i ha; simp only [ha, if_true]; simp
        · rename_i ha
          simp only [ha, if_false] at h' ⊢
          split at h
          · rename_i h1; simp only [h1, if_true]; simp
          · rename_i h1
            simp only [h1, if_false] at h' ⊢
            split at h
            · simp at h
            · rename_i h2
              simp only [h2, if_false] at h' ⊢
              split at h
              · simp at h
              · rename_i h3
                simp only [h3, if_false] at h' ⊢
                split at h
                · simp at h
                · rename_i h5
                  simp only [h5, if_false] at h' ⊢
                  split at h
                  · rename_i h4
                    simp only [h4, if_true] at h' ⊢
                    split at h
                    · rename_i hc
                      simp [hc] at h'
                    · simp at h
                  · rename_i h4
                    simp only [h4, if_false]; simp
theorem rep_begin {w : Wld} {o : POp} (h : (stepS w o).2.1 = 0) (h0 : o.kind = 0) : pend (stepS w o).1.txs = pend w.txs ++ [⟨o.tx, true, []⟩] ∧ (stepS w o).1.log = w.log := by
  unfold stepS at h ⊢
  simp only [h0, if_true] at h ⊢
  split at h
  · simp at h
  · rename_i hf; simp only [hf]; simp [pend, pendT]
/-- the operation is passed on and not a Begin: its transaction is there and active -/
theorem rep_there {w : Wld} {o : POp} (h : (stepS w o).2.1 = 0 ∨ (o.kind = 4 ∧ (stepS w o).2.1 = 3)) (h0 : ¬ o.kind = 0) : ∃ i t, findTx w.txs o.tx = some i ∧ w.txs[i]? = some t ∧ t.id = o.tx ∧ t.active = true := by
  have hh : (stepS w o).2.1 ≠ 2 := by omega
  unfold stepS at hh
  simp only [h0, if_false] at hh
  split at hh
  · simp at hh
  · rename_i i hf
    split at hh
    · simp at hh
    · rename_i t ht
      split at hh
      · simp at hh
      · rename_i ha
        obtain ⟨u, hu, hid⟩ := findTx_at hf
        rw [ht] at hu; simp at hu; subst hu
        exact ⟨i, t, hf, ht, hid, by simpa using ha⟩

def liveSet (ps : List Pend) (i : Nat) (t : Txn) (live : Bool) (ws : List Wr) : List Pend := ps.set i ⟨t.id, live, ws⟩
/-- the change of the pending list and of the log, by kind -/
theorem rep_kind {w : Wld} {o : POp} {i : Nat} {t : Txn} (hf : findTx w.txs o.tx = some i) (ht : w.txs[i]? = some t) (ha : t.active = true) (h : (stepS w o).2.1 = 0 ∨ (o.kind = 4 ∧ (stepS w o).2.1 = 3)) (h0 : ¬ o.kind = 0) :
    (o.kind = 1 → pend (stepS w o).1.txs = pend w.txs ∧ (stepS w o).1.log = w.log) ∧
    (o.kind = 2 → pend (stepS w o).1.txs = (pend w.txs).set i ⟨t.id, true, t.buf ++ [⟨o.key, false, o.val⟩]⟩ ∧ (stepS w o).1.log = w.log) ∧
    (o.kind = 3 → pend (stepS w o).1.txs = (pend w.txs).set i ⟨t.id, true, t.buf ++ [⟨o.key, true, 0⟩]⟩ ∧ (stepS w o).1.log = w.log) ∧
    (o.kind = 5 → pend (stepS w o).1.txs = (pend w.txs).set i ⟨t.id, false, t.buf⟩ ∧ (stepS w o).1.log = w.log) ∧
    (o.kind = 4 → pend (stepS w o).1.txs = (pend w.txs).set i ⟨t.id, false, t.buf⟩ ∧
      ((stepS w o).2.1 = 0 → replay (stepS w o).1.log = t.buf.foldl repl (replay w.log)) ∧ (¬ (stepS w o).2.1 = 0 → (stepS w o).1.log = w.log)) ∧
    (o.kind = 1 ∨ o.kind = 2 ∨ o.kind = 3 ∨ o.kind = 4 ∨ o.kind = 5) := by
  unfold stepS at h ⊢
  simp only [h0, if_false, hf, ht, ha] at h ⊢
  simp only [Bool.true_eq_false, if_false] at h ⊢
  refine ⟨fun hk => ?_, fun hk => ?_, fun hk => ?_, fun hk => ?_, fun hk => ?_, ?_⟩
  · simp [hk]
  · simp [hk, pend, pendT, List.map_set]
  · simp [hk, pend, pendT, List.map_set]
  · simp [hk, pend, pendT, List.map_set]
  · simp only [hk, show ¬ (4 : Int) = 1 from by omega, show ¬ (4 : Int) = 2 from by omega, show ¬ (4 : Int) = 3 from by omega, show ¬ (4 : Int) = 5 from by omega, if_false, if_true]
    cases hc : conflictS w.log t with
    | true => simp [pend, pendT, List.map_set]
    | false => simp [pend, pendT, List.map_set, replay_snoc]
  · by_cases h1 : o.kind = 1
    · exact .inl h1
    by_cases h2 : o.kind = 2
    · exact .inr (.inl h2)
    by_cases h3 : o.kind = 3
    · exact .inr (.inr (.inl h3))
    by_cases h4 : o.kind = 4
    · exact .inr (.inr (.inr (.inl h4)))
    by_cases h5 : o.kind = 5
    · exact .inr (.inr (.inr (.inr h5)))
    simp only [h1, h2, h3, h4, h5, if_false] at h
    omega
end Go.Proofs.Yafahw
