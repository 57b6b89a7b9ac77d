/- The plain law behind laws.FnClock: what an answer of the store may be. -/
import Derived.Test.YafahwPlain2
namespace Go.Proofs.Yafahw
set_option linter.unusedSimpArgs false

/-- every transaction with something in its buffer is among the writers -/
def WInv (s : Sto) (ws : List Int) : Prop := ∀ t ∈ s.txs, t.buf ≠ [] → t.id ∈ ws

theorem WInv.set {s : Sto} {ws : List Int} (h : WInv s ws) (c : Int) (ks : List KH) (i : Nat) (t : Txn) (ht : t.buf = []) : WInv ⟨c, ks, s.txs.set i t⟩ ws := by
  intro q hq hb
  rcases mem_set hq with rfl | hq
  · exact absurd ht hb
  · exact h q hq hb
theorem WInv.put {s : Sto} {ws : List Int} (h : WInv s ws) (c : Int) (ks : List KH) (i : Nat) (t : Txn) (x : Int) (ht : t.id = x) : WInv ⟨c, ks, s.txs.set i t⟩ (ws ++ [x]) := by
  intro q hq hb
  rcases mem_set hq with rfl | hq
  · simp [ht]
  · have := h q hq hb; simp [this]

/-- the eight shapes of an answer -/
inductive Ans (s : Sto) (ws : List Int) : POp → Int × Int → Sto → Prop
  | inv (o : POp) : Ans s ws o (2, 0) s
  | beg (tx key val : Int) (s' : Sto) (hc : s'.clock = s.clock) (hw : WInv s' ws) : Ans s ws ⟨0, tx, key, val⟩ (0, s.clock) s'
  | got (tx key val v : Int) : Ans s ws ⟨1, tx, key, val⟩ (0, v) s
  | miss (tx key val : Int) : Ans s ws ⟨1, tx, key, val⟩ (1, 0) s
  | put2 (tx key val : Int) (s' : Sto) (hc : s'.clock = s.clock) (hw : WInv s' (ws ++ [tx])) : Ans s ws ⟨2, tx, key, val⟩ (0, 0) s'
  | put3 (tx key val : Int) (s' : Sto) (hc : s'.clock = s.clock) (hw : WInv s' (ws ++ [tx])) : Ans s ws ⟨3, tx, key, val⟩ (0, 0) s'
  | conf (tx key val : Int) (s' : Sto) (hc : s'.clock = s.clock) (hw : WInv s' ws) (hin : tx ∈ ws) : Ans s ws ⟨4, tx, key, val⟩ (3, 0) s'
  | com (tx key val : Int) (s' : Sto) (hc : s'.clock = s.clock + 1) (hw : WInv s' ws) : Ans s ws ⟨4, tx, key, val⟩ (0, s.clock + 1) s'
  | abo (tx key val : Int) (s' : Sto) (hc : s'.clock = s.clock) (hw : WInv s' ws) : Ans s ws ⟨5, tx, key, val⟩ (0, 0) s'

theorem ansV_or (d : Bool) (v : Int) : ansV d v = (1, 0) ∨ ∃ x, ansV d v = (0, x) := by
  unfold ansV; split
  · exact .inl rfl
  · exact .inr ⟨_, rfl⟩
theorem readI_or (keys : List KH) (t : Txn) (k : Int) : readI keys t k = (1, 0) ∨ ∃ x, readI keys t k = (0, x) := by
  unfold readI
  split
  · exact ansV_or _ _
  · split
    · exact ansV_or _ _
    · exact .inl rfl

theorem ans_step {s : Sto} {ws : List Int} (h : WInv s ws) (o : POp) : Ans s ws o (stepI s o).2 (stepI s o).1 := by
  obtain ⟨kind, tx, key, val⟩ := o
  unfold stepI
  by_cases k0 : kind = 0
  · subst k0
    simp only [if_true]
    cases findTx s.txs tx with
    | some i => exact .inv _
    | none =>
      refine .beg _ _ _ _ rfl ?_
      intro q hq hb
      rcases List.mem_append.1 hq with hq | hq
      · exact h q hq hb
      · simp at hq; subst hq; simp at hb
  · simp only [k0, if_false]
    cases hf : findTx s.txs tx with
    | none => exact .inv _
    | some i =>
      simp only []
      cases ht : s.txs[i]? with
      | none => exact .inv _
      | some t =>
        simp only []
        have hid : t.id = tx := by
          unfold findTx at hf
          obtain ⟨hi, hp, _⟩ := List.findIdx?_eq_some_iff_getElem.1 hf
          rw [List.getElem?_eq_getElem hi] at ht
          simp at ht hp
          rw [← ht]; exact hp
        split
        · exact .inv _
        by_cases k1 : kind = 1
        · subst k1
          simp only [if_true]
          rcases readI_or s.keys t key with e | ⟨x, e⟩
          · rw [e]; exact .miss _ _ _
          · rw [e]; exact .got _ _ _ _
        simp only [k1, if_false]
        by_cases k2 : kind = 2
        · subst k2
          simp only [if_true]
          exact .put2 _ _ _ _ rfl (h.put _ _ _ _ _ hid)
        simp only [k2, if_false]
        by_cases k3 : kind = 3
        · subst k3
          simp only [if_true]
          exact .put3 _ _ _ _ rfl (h.put _ _ _ _ _ hid)
        simp only [k3, if_false]
        by_cases k4 : kind = 4
        · subst k4
          simp only [if_true]
          by_cases hc : conflictI s.keys t.snap t.buf = true
          · simp only [hc, if_true]
            refine .conf _ _ _ _ rfl (h.set _ _ _ _ rfl) ?_
            rw [← hid]
            refine h t (List.mem_of_getElem? ht) (fun e => ?_)
            rw [e] at hc
            simp [conflictI] at hc
          · simp only [hc, if_false]
            exact .com _ _ _ _ rfl (h.set _ _ _ _ rfl)
        simp only [k4, if_false]
        by_cases k5 : kind = 5
        · subst k5
          simp only [if_true]
          exact .abo _ _ _ _ rfl (h.set _ _ _ _ rfl)
        simp only [k5, if_false]
        exact .inv _
theorem winv0 (ops : List POp) : WInv (stI ops 0) [] := by intro t ht; simp [stI, sto0] at ht
end Go.Proofs.Yafahw
