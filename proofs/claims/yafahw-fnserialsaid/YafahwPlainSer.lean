/- The plain law behind SerialModel: on a serial script one plain store answers as the model does. -/
import Derived.Test.YafahwPlainRep
namespace Go.Proofs.Yafahw
set_option linter.unusedSimpArgs false

/-- serial scripts: n transactions begun, the last one open or not -/
inductive SerTo : List POp → Nat → Bool → Prop
  | nil : SerTo [] 0 false
  | beg {ops : List POp} {n : Nat} (o : POp) : SerTo ops n false → o.kind = 0 → o.tx = 7 * (n + 1 : Int) - 3 → SerTo (ops ++ [o]) (n + 1) true
  | mid {ops : List POp} {n : Nat} (o : POp) : SerTo ops n true → o.tx = 7 * (n : Int) - 3 → (o.kind = 1 ∨ o.kind = 2 ∨ o.kind = 3) → SerTo (ops ++ [o]) n true
  | fin {ops : List POp} {n : Nat} (o : POp) : SerTo ops n true → o.tx = 7 * (n : Int) - 3 → (o.kind = 4 ∨ o.kind = 5) → SerTo (ops ++ [o]) n false

structure SerS where
  store : List PC
  saved : List PC
  clock : Int
def findC (cs : List PC) (k : Int) : Option Nat := cs.findIdx? (fun c => c.key == k)
def setv : List PC → Int → Int → List PC
  | [], k, v => [⟨k, v, true⟩]
  | c :: cs, k, v => if c.key == k then ⟨c.key, v, c.present⟩ :: cs else c :: setv cs k v
def delv (cs : List PC) (k : Int) : List PC := cs.filter (fun c => c.key != k)
def lk (cs : List PC) (k : Int) : Option Int := (cs.find? (fun c => c.key == k)).map (·.val)
def ansL : Option Int → Int × Int
  | some v => (0, v)
  | none => (1, 0)
def stepM (s : SerS) (o : POp) : SerS × (Int × Int) :=
  if o.kind = 0 then (⟨s.store, s.store, s.clock⟩, (0, s.clock))
  else if o.kind = 1 then (s, ansL (lk s.store o.key))
  else if o.kind = 2 then (⟨setv s.store o.key o.val, s.saved, s.clock⟩, (0, 0))
  else if o.kind = 3 then (⟨delv s.store o.key, s.saved, s.clock⟩, (0, 0))
  else if o.kind = 4 then (⟨s.store, s.saved, s.clock + 1⟩, (0, s.clock + 1))
  else if o.kind = 5 then (⟨s.saved, s.saved, s.clock⟩, (0, 0))
  else (s, (2, 0))
def ser0 : SerS := ⟨[], [], 0⟩
def stM (ops : List POp) : Nat → SerS
  | 0 => ser0
  | k + 1 => match ops[k]? with
    | some o => if k < 20000 then (stepM (stM ops k) o).1 else stM ops k
    | none => stM ops k
def resM (ops : List POp) (k : Nat) : Int × Int :=
  match ops[k]? with
  | some o => if k < 20000 then (stepM (stM ops k) o).2 else (2, 0)
  | none => (2, 0)
def runM (ops : List POp) : List (Int × Int) := (List.range ops.length).map (resM ops)
theorem runM_len (ops : List POp) : (runM ops).length = ops.length := by simp [runM]

theorem setv_none {cs : List PC} {k v : Int} (h : findC cs k = none) : setv cs k v = cs ++ [⟨k, v, true⟩] := by
  unfold findC at h
  induction cs with
  | nil => rfl
  | cons c cs ih =>
    rw [List.findIdx?_cons] at h
    by_cases e : c.key = k
    · simp [e] at h
    · have e' : (c.key == k) = false := by simp [e]
      rw [e'] at h; simp at h
      simp only [setv, e', Bool.false_eq_true, if_false, List.cons_append]
      rw [ih (by simpa using h)]
theorem setv_some {cs : List PC} {k v : Int} {i : Nat} {c : PC} (h : findC cs k = some i) (hc : cs[i]? = some c) : setv cs k v = cs.set i ⟨c.key, v, c.present⟩ := by
  unfold findC at h
  induction cs generalizing i with
  | nil => simp at h
  | cons d cs ih =>
    rw [List.findIdx?_cons] at h
    by_cases e : d.key = k
    · simp [e] at h; subst h
      simp at hc; subst hc
      simp [setv, e]
    · have e' : (d.key == k) = false := by simp [e]
      rw [e'] at h; simp at h
      obtain ⟨j, hj, rfl⟩ := h
      simp only [setv, e', Bool.false_eq_true, if_false, List.set_cons_succ]
      rw [ih (i := j) hj (by simpa using hc)]
theorem lk_setv (cs : List PC) (k v q : Int) : lk (setv cs k v) q = if k = q then some v else lk cs q := by
  unfold lk
  induction cs with
  | nil =>
    simp only [setv, List.find?_cons, List.find?_nil]
    by_cases h : k = q
    · simp [h]
    · have h' : (k == q) = false := by simp [h]
      simp [h', h]
  | cons c cs ih =>
    simp only [setv]
    by_cases e : c.key = k
    · simp only [e, beq_self_eq_true, if_true, List.find?_cons]
      by_cases h : k = q
      · simp [h]
      · have h' : (k == q) = false := by simp [h]
        simp [h', h]
    · have e' : (c.key == k) = false := by simp [e]
      simp only [e', Bool.false_eq_true, if_false, List.find?_cons, ih]
      by_cases h : c.key = q
      · have : ¬ k = q := fun e2 => e (by rw [h, e2])
        simp [h, this]
      · have h' : (c.key == q) = false := by simp [h]
        simp [h', ih]
theorem lk_delv (cs : List PC) (k q : Int) : lk (delv cs k) q = if k = q then none else lk cs q := by
  unfold lk delv
  rw [List.find?_filter]
  by_cases h : k = q
  · subst h
    simp only [if_true]
    have : cs.find? (fun c => decide (c.key ≠ k ∧ c.key = k)) = none := by
      rw [List.find?_eq_none]; intro x _; simp
    have h2 : cs.find? (fun a => a.key != k && a.key == k) = none := by
      rw [List.find?_eq_none]; intro x _; simp
    simp [h2]
  · simp only [h, if_false]
    congr 1
    congr 1
    funext a
    by_cases e : a.key = q
    · simp [e, Ne.symm h]
    · simp [e]
theorem lk_at {cs : List PC} {k : Int} {i : Nat} {c : PC} (h : findC cs k = some i) (hc : cs[i]? = some c) : lk cs k = some c.val := by
  unfold findC at h
  obtain ⟨hi, hp, hno⟩ := List.findIdx?_eq_some_iff_getElem.1 h
  obtain ⟨_, rfl⟩ := List.getElem?_eq_some_iff.1 hc
  have : cs.find? (fun c => c.key == k) = some cs[i] := by
    rw [List.find?_eq_some_iff_getElem]
    exact ⟨hp, i, hi, rfl, fun j hj => by simpa using hno j hj⟩
  unfold lk; rw [this]; rfl
theorem lk_no {cs : List PC} {k : Int} (h : findC cs k = none) : lk cs k = none := by
  unfold findC at h
  rw [List.findIdx?_eq_none_iff] at h
  have : cs.find? (fun c => c.key == k) = none := by
    rw [List.find?_eq_none]; intro x hx; simp [h x hx]
  unfold lk; rw [this]; rfl

/-- the open transaction's writes over the log -/
def over (log : List CR) (ws : List Wr) (k : Int) : Option Int :=
  match lastW ws k with
  | some x => if x.del then none else some x.val
  | none => lookS log k
theorem over_snoc (log : List CR) (ws : List Wr) (x : Wr) (k : Int) : over log (ws ++ [x]) k = if x.key = k then (if x.del then none else some x.val) else over log ws k := by
  unfold over
  rw [lastW_snoc]
  by_cases h : x.key = k
  · simp [h]
  · have h' : (x.key == k) = false := by simp [h]
    simp [h', h]
theorem over_nil (log : List CR) (k : Int) : over log [] k = lookS log k := rfl
theorem nodup_replay (log : List CR) : NodupC (replay log) := by
  refine snoc_induct (p := fun log => NodupC (replay log)) ?_ ?_ log
  · simp [replay, NodupC]
  · intro l c ih
    show NodupC (replay (l ++ [c]))
    rw [replay_snoc]; exact (see_fold c.writes 0 _ ih).1
theorem lookS_snoc (log : List CR) (ts : Int) (ws : List Wr) (k : Int) : lookS (log ++ [⟨ts, ws⟩]) k = over log ws k := by
  have h := (see_fold ws k _ (nodup_replay log)).2
  rw [foldW] at h
  unfold lookS over
  rw [replay_snoc]
  simp only [h]
  cases hl : lastW ws k with
  | none => rfl
  | some x => cases hd : x.del <;> simp [hd]

theorem read_over {w : Wld} {t : Txn} (hs : t.snap = w.log.length) (ht : ∀ c ∈ w.log, c.ts ≤ w.log.length) (k : Int) : ansP (readS w.log t k) = ansL (over w.log t.buf k) := by
  have h1 := (see_log w.log w.log.length k ht [] (by simp [NodupC])).2
  have h2 : see [] k = (false, 0) := rfl
  rw [h2] at h1
  unfold readS over
  cases hl : lastW t.buf k with
  | some x => cases hd : x.del <;> simp [ansP, ansL, hd]
  | none =>
    simp only []
    rw [hs, ← h1]
    unfold lookS
    show ansP (see (replay w.log) k) = _
    unfold ansP
    split <;> rfl

structure SerInv (s : SerS) (w : Wld) (n : Nat) (b : Bool) : Prop where
  len : w.txs.length = n
  ids : ∀ (i : Nat) (t : Txn), w.txs[i]? = some t → t.id = 7 * (i + 1 : Int) - 3
  clk : s.clock = w.log.length
  top : ∀ c ∈ w.log, c.ts ≤ w.log.length
  shut : b = false → ∀ k, lk s.store k = lookS w.log k
  opn : b = true → ∃ (m : Nat) (t : Txn), n = m + 1 ∧ w.txs[m]? = some t ∧ t.active = true ∧ t.snap = w.log.length ∧ (∀ k, lk s.saved k = lookS w.log k) ∧ ∀ k, lk s.store k = over w.log t.buf k

theorem ser_nodup {w : Wld} (h : ∀ (i : Nat) (t : Txn), w.txs[i]? = some t → t.id = 7 * (i + 1 : Int) - 3) : NodupT w.txs := by
  unfold NodupT
  refine List.pairwise_iff_getElem.2 (fun i j hi hj hij => ?_)
  simp at hi hj ⊢
  have h1 := h i _ (List.getElem?_eq_getElem hi)
  have h2 := h j _ (List.getElem?_eq_getElem hj)
  omega

theorem ids_put {txs : List Txn} (h : ∀ (i : Nat) t, txs[i]? = some t → t.id = 7 * (i + 1 : Int) - 3) {m : Nat} {u : Txn} (hu : u.id = 7 * (m + 1 : Int) - 3) : ∀ (i : Nat) t, (txs.set m u)[i]? = some t → t.id = 7 * (i + 1 : Int) - 3 := by
  intro i t hi
  rw [List.getElem?_set] at hi
  split at hi
  · rename_i e; subst e
    split at hi
    · simp at hi; subst hi; exact hu
    · simp at hi
  · exact h i t hi

/-- one operation of a serial script -/
inductive SerOk : Nat → Bool → POp → Nat → Bool → Prop
  | beg {n : Nat} {o : POp} : o.kind = 0 → o.tx = 7 * (n + 1 : Int) - 3 → SerOk n false o (n + 1) true
  | mid {n : Nat} {o : POp} : o.tx = 7 * (n : Int) - 3 → (o.kind = 1 ∨ o.kind = 2 ∨ o.kind = 3) → SerOk n true o n true
  | fin {n : Nat} {o : POp} : o.tx = 7 * (n : Int) - 3 → (o.kind = 4 ∨ o.kind = 5) → SerOk n true o n false

theorem ser_step {s : SerS} {w : Wld} {n n' : Nat} {b b' : Bool} {o : POp} (h : SerInv s w n b) (ho : SerOk n b o n' b') : (stepM s o).2 = (stepS w o).2 ∧ SerInv (stepM s o).1 (stepS w o).1 n' b' := by
  cases ho with
  | beg h0 htx =>
    have hf : findTx w.txs o.tx = none := by
      cases hf : findTx w.txs o.tx with
      | none => rfl
      | some i =>
        obtain ⟨t, ht, hid⟩ := findTx_at hf
        have := h.ids i t ht
        have hi : i < w.txs.length := (List.getElem?_eq_some_iff.1 ht).1
        rw [h.len] at hi
        omega
    have e1 : stepM s o = (⟨s.store, s.store, s.clock⟩, (0, s.clock)) := by unfold stepM; simp [h0]
    have e2 : stepS w o = ((⟨w.txs ++ [⟨o.tx, true, (w.log.length : Int), []⟩], w.log⟩ : Wld), ((0 : Int), (w.log.length : Int))) := by unfold stepS; simp [h0, hf]
    rw [e1, e2]
    refine ⟨by simp [h.clk], by simp [h.len], ?_, h.clk, h.top, by simp, fun _ => ⟨n, ⟨o.tx, true, w.log.length, []⟩, rfl, by simp [← h.len], rfl, rfl, h.shut rfl, h.shut rfl⟩⟩
    intro i t hi
    simp only [] at hi
    rw [List.getElem?_append] at hi
    split at hi
    · exact h.ids i t hi
    · rename_i hge
      have hz : i - w.txs.length = 0 := by
        rcases Nat.eq_zero_or_pos (i - w.txs.length) with e | e
        · exact e
        · rw [List.getElem?_eq_none (by simp; omega)] at hi; cases hi
      rw [hz] at hi; simp at hi; subst hi
      have : i = n := by have := h.len; omega
      subst this; exact htx
  | mid htx hk =>
    obtain ⟨m, t, hn, ht, ha, hs, hsv, hst⟩ := h.opn rfl
    have hid := h.ids m t ht
    have hf : findTx w.txs o.tx = some m := by
      have := findTx_uni (ser_nodup h.ids) ht
      rw [hid] at this; rw [htx, hn]; simpa using this
    have h0 : ¬ o.kind = 0 := by omega
    rcases hk with hk | hk | hk
    · have e1 : stepM s o = (s, ansL (lk s.store o.key)) := by unfold stepM; simp [hk]
      have e2 : stepS w o = (w, ansP (readS w.log t o.key)) := by unfold stepS; simp [hk, hf, ht, ha]
      rw [e1, e2]
      refine ⟨?_, h⟩
      show ansL (lk s.store o.key) = ansP (readS w.log t o.key)
      rw [read_over hs h.top, hst]
    · have e1 : stepM s o = (⟨setv s.store o.key o.val, s.saved, s.clock⟩, (0, 0)) := by unfold stepM; simp [hk]
      have e2 : stepS w o = (⟨w.txs.set m ⟨t.id, true, t.snap, t.buf ++ [⟨o.key, false, o.val⟩]⟩, w.log⟩, (0, 0)) := by unfold stepS; simp [hk, hf, ht, ha]
      rw [e1, e2]
      have hm : m < w.txs.length := (List.getElem?_eq_some_iff.1 ht).1
      refine ⟨rfl, by simp [h.len], ids_put h.ids hid, h.clk, h.top, by simp, fun _ => ⟨m, ⟨t.id, true, t.snap, t.buf ++ [⟨o.key, false, o.val⟩]⟩, hn, by simp [hm], rfl, hs, hsv, ?_⟩⟩
      intro k
      show lk (setv s.store o.key o.val) k = over w.log (t.buf ++ [⟨o.key, false, o.val⟩]) k
      rw [lk_setv, over_snoc, hst]; simp
    · have e1 : stepM s o = (⟨delv s.store o.key, s.saved, s.clock⟩, (0, 0)) := by unfold stepM; simp [hk]
      have e2 : stepS w o = (⟨w.txs.set m ⟨t.id, true, t.snap, t.buf ++ [⟨o.key, true, 0⟩]⟩, w.log⟩, (0, 0)) := by unfold stepS; simp [hk, hf, ht, ha]
      rw [e1, e2]
      have hm : m < w.txs.length := (List.getElem?_eq_some_iff.1 ht).1
      refine ⟨rfl, by simp [h.len], ids_put h.ids hid, h.clk, h.top, by simp, fun _ => ⟨m, ⟨t.id, true, t.snap, t.buf ++ [⟨o.key, true, 0⟩]⟩, hn, by simp [hm], rfl, hs, hsv, ?_⟩⟩
      intro k
      show lk (delv s.store o.key) k = over w.log (t.buf ++ [⟨o.key, true, 0⟩]) k
      rw [lk_delv, over_snoc, hst]; simp
  | fin htx hk =>
    obtain ⟨m, t, hn, ht, ha, hs, hsv, hst⟩ := h.opn rfl
    have hid := h.ids m t ht
    have hf : findTx w.txs o.tx = some m := by
      have := findTx_uni (ser_nodup h.ids) ht
      rw [hid] at this; rw [htx, hn]; simpa using this
    have hm : m < w.txs.length := (List.getElem?_eq_some_iff.1 ht).1
    have hcf : conflictS w.log t = false := by
      unfold conflictS
      rw [List.any_eq_false]
      intro c hc
      have := h.top c hc
      unfold clashC
      simp [hs]; omega
    rcases hk with hk | hk
    · have e1 : stepM s o = (⟨s.store, s.saved, s.clock + 1⟩, (0, s.clock + 1)) := by unfold stepM; simp [hk]
      have e2 : stepS w o = ((⟨w.txs.set m ⟨t.id, false, t.snap, t.buf⟩, w.log ++ [⟨(w.log.length : Int) + 1, t.buf⟩]⟩ : Wld), ((0 : Int), (w.log.length : Int) + 1)) := by unfold stepS; simp [hk, hf, ht, ha, hcf]
      rw [e1, e2]
      refine ⟨by simp [h.clk], by simp [h.len], ids_put h.ids hid, by simp [h.clk], ?_, fun _ k => ?_, by simp⟩
      · intro c hc
        simp only [List.length_append, List.length_cons, List.length_nil] at hc ⊢
        rcases List.mem_append.1 hc with hc | hc
        · have := h.top c hc; omega
        · simp at hc; subst hc; simp
      · show lk s.store k = lookS (w.log ++ [_]) k
        rw [lookS_snoc, hst]
    · have e1 : stepM s o = (⟨s.saved, s.saved, s.clock⟩, (0, 0)) := by unfold stepM; simp [hk]
      have e2 : stepS w o = (⟨w.txs.set m ⟨t.id, false, t.snap, t.buf⟩, w.log⟩, (0, 0)) := by unfold stepS; simp [hk, hf, ht, ha]
      rw [e1, e2]
      exact ⟨rfl, by simp [h.len], ids_put h.ids hid, h.clk, h.top, fun _ => hsv, by simp⟩

theorem ser_at {ops : List POp} {n : Nat} {b : Bool} (h : SerTo ops n b) : ∃ f : Nat → Nat × Bool, f 0 = (0, false) ∧ f ops.length = (n, b) ∧ ∀ k o, ops[k]? = some o → SerOk (f k).1 (f k).2 o (f (k + 1)).1 (f (k + 1)).2 := by
  have key : ∀ {ops : List POp} {o : POp} {n n' : Nat} {b b' : Bool}, SerOk n b o n' b' → (∃ f : Nat → Nat × Bool, f 0 = (0, false) ∧ f ops.length = (n, b) ∧ ∀ k o, ops[k]? = some o → SerOk (f k).1 (f k).2 o (f (k + 1)).1 (f (k + 1)).2) →
      ∃ f : Nat → Nat × Bool, f 0 = (0, false) ∧ f (ops ++ [o]).length = (n', b') ∧ ∀ k x, (ops ++ [o])[k]? = some x → SerOk (f k).1 (f k).2 x (f (k + 1)).1 (f (k + 1)).2 := by
    intro ops o n n' b b' ho ⟨f, h0, hl, hs⟩
    refine ⟨fun k => if k ≤ ops.length then f k else (n', b'), by simp [h0], by simp; omega, fun k x hx => ?_⟩
    rw [List.getElem?_append] at hx
    split at hx
    · rename_i hlt
      have := hs k x hx
      simp only [show k ≤ ops.length from by omega, show k + 1 ≤ ops.length from by omega, if_true]
      exact this
    · rename_i hge
      have hk : k = ops.length := by
        rcases Nat.eq_zero_or_pos (k - ops.length) with e | e
        · omega
        · rw [List.getElem?_eq_none (by simp; omega)] at hx; cases hx
      subst hk
      simp at hx; subst hx
      simp only [Nat.le_refl, if_true, show ¬ ops.length + 1 ≤ ops.length from by omega, if_false]
      rw [hl]; exact ho
  induction h with
  | nil => exact ⟨fun _ => (0, false), rfl, rfl, fun k o hk => by simp at hk⟩
  | beg o _ h0 htx ih => exact key (.beg h0 htx) ih
  | mid o _ htx hk ih => exact key (.mid htx hk) ih
  | fin o _ htx hk ih => exact key (.fin htx hk) ih

theorem ser_all {ops : List POp} {n : Nat} {b : Bool} (h : SerTo ops n b) : runM ops = runS ops := by
  obtain ⟨f, h0, _, hs⟩ := ser_at h
  have inv : ∀ k, k ≤ 20000 → k ≤ ops.length → SerInv (stM ops k) (stS ops k) (f k).1 (f k).2 := by
    intro k
    induction k with
    | zero =>
      intro _ _
      rw [h0]
      exact ⟨rfl, fun i t hi => by simp [stS, wld0] at hi, rfl, fun c hc => by simp [stS, wld0] at hc, fun _ k => rfl, by simp⟩
    | succ k ih =>
      intro hk hl
      obtain ⟨o, ho⟩ : ∃ o, ops[k]? = some o := ⟨_, List.getElem?_eq_getElem (by omega)⟩
      have := (ser_step (ih (by omega) (by omega)) (hs k o ho)).2
      have e1 : stM ops (k + 1) = (stepM (stM ops k) o).1 := by simp [stM, ho, show k < 20000 from by omega]
      have e2 : stS ops (k + 1) = (stepS (stS ops k) o).1 := by simp [stS, ho, show k < 20000 from by omega]
      rw [e1, e2]; exact this
  unfold runM runS
  apply List.map_congr_left
  intro k hk
  have hk' : k < ops.length := by simpa using hk
  obtain ⟨o, ho⟩ : ∃ o, ops[k]? = some o := ⟨_, List.getElem?_eq_getElem hk'⟩
  unfold resM resS
  rw [ho]
  simp only []
  by_cases hlt : k < 20000
  · simp only [hlt, if_true]
    exact (ser_step (inv k (by omega) (by omega)) (hs k o ho)).1
  · simp only [hlt, if_false]
end Go.Proofs.Yafahw
