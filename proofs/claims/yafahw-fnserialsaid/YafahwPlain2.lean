/- Sizes of the store and of the model after k operations; prefixes; the shape of a step. -/
import Derived.Test.YafahwPlain
namespace Go.Proofs.Yafahw
set_option linter.unusedSimpArgs false

theorem bufSet_len (b : List Wr) (x : Wr) : (bufSet b x).length ≤ b.length + 1 := by
  induction b with
  | nil => simp [bufSet]
  | cons y ys ih => simp only [bufSet]; split <;> simp <;> omega
theorem addVer_len (ts : Int) (keys : List KH) (x : Wr) : (addVer ts keys x).length ≤ keys.length + 1 := by
  induction keys with
  | nil => simp [addVer]
  | cons y ys ih => simp only [addVer]; split <;> simp <;> omega
theorem addVer_vlen (ts : Int) (n : Nat) (keys : List KH) (x : Wr) (h : ∀ q ∈ keys, q.vers.length ≤ n) : ∀ q ∈ addVer ts keys x, q.vers.length ≤ n + 1 := by
  induction keys with
  | nil => intro q hq; simp [addVer] at hq; subst hq; simp
  | cons y ys ih =>
    intro q hq
    simp only [addVer] at hq
    split at hq
    · rcases List.mem_cons.1 hq with rfl | hq
      · have := h y (by simp); simp; omega
      · have := h q (by simp [hq]); omega
    · rcases List.mem_cons.1 hq with rfl | hq
      · have := h q (by simp); omega
      · exact ih (fun q hq => h q (by simp [hq])) q hq
theorem foldl_len (ts : Int) (b : List Wr) : ∀ keys : List KH, (b.foldl (addVer ts) keys).length ≤ keys.length + b.length := by
  induction b with
  | nil => intro keys; simp
  | cons x xs ih => intro keys; have := ih (addVer ts keys x); have := addVer_len ts keys x; simp only [List.foldl_cons, List.length_cons]; omega
theorem foldl_vlen (ts : Int) (b : List Wr) : ∀ (n : Nat) (keys : List KH), (∀ q ∈ keys, q.vers.length ≤ n) → ∀ q ∈ b.foldl (addVer ts) keys, q.vers.length ≤ n + b.length := by
  induction b with
  | nil => intro n keys h q hq; simpa using h q hq
  | cons x xs ih =>
    intro n keys h q hq
    have := ih (n + 1) (addVer ts keys x) (addVer_vlen ts n keys x h) q hq
    simp; omega

structure Small (n : Nat) (s : Sto) : Prop where
  tx : s.txs.length ≤ n
  buf : ∀ t ∈ s.txs, t.buf.length ≤ n
  keys : s.keys.length ≤ n * 20000
  vers : ∀ h ∈ s.keys, h.vers.length ≤ n * 20000
  c0 : 0 ≤ s.clock
  c1 : s.clock ≤ n

theorem Small.mono {n m : Nat} {s : Sto} (h : Small n s) (hm : n ≤ m) : Small m s :=
  have e : n * 20000 ≤ m * 20000 := Nat.mul_le_mul_right _ hm
  ⟨Nat.le_trans h.tx hm, fun t ht => Nat.le_trans (h.buf t ht) hm, Nat.le_trans h.keys e, fun q hq => Nat.le_trans (h.vers q hq) e, h.c0, by have := h.c1; omega⟩

theorem mem_set {α : Type} {l : List α} {i : Nat} {a x : α} (h : x ∈ l.set i a) : x = a ∨ x ∈ l := by
  rcases List.mem_or_eq_of_mem_set h with h | h
  · exact .inr h
  · exact .inl h

theorem Small.set {n : Nat} {s : Sto} (h : Small n s) (i : Nat) (t : Txn) (ht : t.buf.length ≤ n) : Small n ⟨s.clock, s.keys, s.txs.set i t⟩ :=
  ⟨by simpa using h.tx, fun q hq => by rcases mem_set hq with rfl | hq; exact ht; exact h.buf q hq, h.keys, h.vers, h.c0, h.c1⟩

theorem small_step {n : Nat} {s : Sto} (h : Small n s) (hn : n < 20000) (o : POp) : Small (n + 1) (stepI s o).1 := by
  have h1 := h.mono (Nat.le_succ n)
  unfold stepI
  by_cases k0 : o.kind = 0
  · simp only [k0, if_true]
    cases findTx s.txs o.tx with
    | some i => exact h1
    | none =>
      refine ⟨by have := h.tx; simp; omega, ?_, h1.keys, h1.vers, h1.c0, h1.c1⟩
      intro q hq
      rcases List.mem_append.1 hq with hq | hq
      · exact h1.buf q hq
      · simp at hq; subst hq; simp
  · simp only [k0, if_false]
    cases findTx s.txs o.tx with
    | none => exact h1
    | some i =>
      simp only []
      cases ht : s.txs[i]? with
      | none => exact h1
      | some t =>
        simp only []
        have hb := h.buf t (List.mem_of_getElem? ht)
        split
        · exact h1
        split
        · exact h1
        split
        · exact h1.set i _ (by have := bufSet_len t.buf ⟨o.key, false, o.val⟩; simp only []; omega)
        split
        · exact h1.set i _ (by have := bufSet_len t.buf ⟨o.key, true, 0⟩; simp only []; omega)
        split
        · split
          · exact h1.set i _ (by simp)
          · have hs := h1.set i ⟨t.id, false, t.snap, []⟩ (by simp)
            refine ⟨hs.tx, hs.buf, ?_, ?_, ?_, ?_⟩
            · have := foldl_len (s.clock + 1) t.buf s.keys; have := h.keys; simp only []; omega
            · intro q hq
              have := foldl_vlen (s.clock + 1) t.buf _ s.keys h.vers q hq
              omega
            · have := h.c0; simp only []; omega
            · have := h.c1; simp only []; omega
        split
        · exact h1.set i _ (by simp)
        · exact h1

theorem small_st (ops : List POp) : ∀ k, Small (min k 20000) (stI ops k) := by
  intro k
  induction k with
  | zero => exact ⟨by simp [stI, sto0], by simp [stI, sto0], by simp [stI, sto0], by simp [stI, sto0], by simp [stI, sto0], by simp [stI, sto0]⟩
  | succ k ih =>
    simp only [stI]
    cases ops[k]? with
    | none => exact ih.mono (by omega)
    | some o =>
      simp only []
      split
      · have := small_step (n := k) (by rw [show min k 20000 = k from by omega] at ih; exact ih) (by omega) o
        exact this.mono (by omega)
      · exact ih.mono (by omega)

/-! ### the step by the index of an active transaction -/
def actTx (txs : List Txn) (id : Int) : Option Nat :=
  match findTx txs id with
  | some i => match txs[i]? with
    | some t => if t.active = true then some i else none
    | none => none
  | none => none

theorem actTx_some {txs : List Txn} {id : Int} {i : Nat} (h : actTx txs id = some i) : findTx txs id = some i ∧ ∃ t, txs[i]? = some t ∧ t.active = true := by
  unfold actTx at h
  cases hf : findTx txs id with
  | none => rw [hf] at h; cases h
  | some j =>
    rw [hf] at h
    simp only [] at h
    cases ht : txs[j]? with
    | none => rw [ht] at h; cases h
    | some t =>
      rw [ht] at h
      simp only [] at h
      split at h
      · rename_i ha; simp at h; subst h; exact ⟨rfl, t, ht, ha⟩
      · cases h
theorem actTx_none {txs : List Txn} {id : Int} (h : actTx txs id = none) : findTx txs id = none ∨ ∃ i t, findTx txs id = some i ∧ txs[i]? = some t ∧ t.active = false := by
  unfold actTx at h
  cases hf : findTx txs id with
  | none => exact .inl rfl
  | some j =>
    rw [hf] at h
    simp only [] at h
    have hj : j < txs.length := by
      unfold findTx at hf; exact (List.findIdx?_eq_some_iff_getElem.1 hf).1
    rw [List.getElem?_eq_getElem hj] at h
    simp only [] at h
    split at h
    · cases h
    · rename_i ha; exact .inr ⟨j, txs[j], rfl, List.getElem?_eq_getElem hj, by simpa using ha⟩

theorem stepI_inv {s : Sto} {o : POp} (h0 : ¬ o.kind = 0) (h : actTx s.txs o.tx = none) : stepI s o = (s, (2, 0)) := by
  unfold stepI
  simp only [h0, if_false]
  rcases actTx_none h with hf | ⟨i, t, hf, ht, ha⟩
  · rw [hf]
  · rw [hf]; simp only [ht, ha, if_true]
theorem stepI_act {s : Sto} {o : POp} {i : Nat} {t : Txn} (h0 : ¬ o.kind = 0) (h : actTx s.txs o.tx = some i) (ht : s.txs[i]? = some t) : t.active = true ∧ stepI s o =
    (if o.kind = 1 then (s, readI s.keys t o.key)
        else if o.kind = 2 then (⟨s.clock, s.keys, s.txs.set i ⟨t.id, true, t.snap, bufSet t.buf ⟨o.key, false, o.val⟩⟩⟩, (0, 0))
        else if o.kind = 3 then (⟨s.clock, s.keys, s.txs.set i ⟨t.id, true, t.snap, bufSet t.buf ⟨o.key, true, 0⟩⟩⟩, (0, 0))
        else if o.kind = 4 then
          if conflictI s.keys t.snap t.buf then (⟨s.clock, s.keys, s.txs.set i ⟨t.id, false, t.snap, []⟩⟩, (3, 0))
          else (⟨s.clock + 1, t.buf.foldl (addVer (s.clock + 1)) s.keys, s.txs.set i ⟨t.id, false, t.snap, []⟩⟩, (0, s.clock + 1))
        else if o.kind = 5 then (⟨s.clock, s.keys, s.txs.set i ⟨t.id, false, t.snap, []⟩⟩, (0, 0))
        else (s, (2, 0))) := by
  obtain ⟨hf, t', ht', ha⟩ := actTx_some h
  rw [ht] at ht'
  obtain rfl : t = t' := by simpa using ht'
  refine ⟨ha, ?_⟩
  unfold stepI
  simp only [h0, if_false, hf, ht, ha, Bool.true_eq_false]

/-! ### prefixes -/
theorem stI_take (ops : List POp) (n : Nat) : ∀ k, k ≤ n → stI (ops.take n) k = stI ops k := by
  intro k
  induction k with
  | zero => intro _; rfl
  | succ k ih =>
    intro hk
    simp only [stI]
    rw [ih (by omega), List.getElem?_take, if_pos (by omega)]
theorem resI_take (ops : List POp) (n k : Nat) (hk : k < n) : resI (ops.take n) k = resI ops k := by
  unfold resI
  rw [stI_take ops n k (by omega), List.getElem?_take, if_pos hk]
theorem runI_len (ops : List POp) : (runI ops).length = ops.length := by simp [runI]
theorem runS_len (ops : List POp) : (runS ops).length = ops.length := by simp [runS]
theorem runI_take (ops : List POp) (n : Nat) (hn : n ≤ ops.length) : runI (ops.take n) = (runI ops).take n := by
  unfold runI
  rw [← List.map_take, List.take_range, List.length_take]
  refine List.map_congr_left (fun k hk => ?_)
  have : k < n := by have := List.mem_range.1 hk; omega
  exact resI_take ops n k this
end Go.Proofs.Yafahw
