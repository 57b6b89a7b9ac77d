/- The store and the model as plain functions, and the law that they answer alike. No Go here: Init alone. -/
namespace Go.Proofs.Yafahw
set_option linter.unusedSimpArgs false

/-- an operation as its four numbers -/
structure POp where
  kind : Int
  tx : Int
  key : Int
  val : Int

structure Wr where
  key : Int
  del : Bool
  val : Int
structure Ver where
  ts : Int
  del : Bool
  val : Int
structure KH where
  key : Int
  vers : List Ver
structure Txn where
  id : Int
  active : Bool
  snap : Int
  buf : List Wr
structure Sto where
  clock : Int
  keys : List KH
  txs : List Txn
structure CR where
  ts : Int
  writes : List Wr
structure Wld where
  txs : List Txn
  log : List CR

def findTx (txs : List Txn) (id : Int) : Option Nat := txs.findIdx? (fun t => t.id == id)
def findKey (keys : List KH) (k : Int) : Option Nat := keys.findIdx? (fun h => h.key == k)
/-- an index as Go's search gives it -/
def idxI : Option Nat → Int
  | some i => i
  | none => -1

def bufSet : List Wr → Wr → List Wr
  | [], x => [x]
  | y :: ys, x => if y.key == x.key then x :: ys else y :: bufSet ys x

def addVer (ts : Int) : List KH → Wr → List KH
  | [], x => [⟨x.key, [⟨ts, x.del, x.val⟩]⟩]
  | h :: hs, x => if h.key == x.key then ⟨h.key, h.vers ++ [⟨ts, x.del, x.val⟩]⟩ :: hs else h :: addVer ts hs x

def versOf (keys : List KH) (k : Int) : List Ver :=
  match keys.find? (fun h => h.key == k) with
  | some h => h.vers
  | none => []

/-- (Missing, 0) or (Ok, v) -/
def ansV (del : Bool) (v : Int) : Int × Int := if del then (1, 0) else (0, v)

def readI (keys : List KH) (t : Txn) (k : Int) : Int × Int :=
  match t.buf.find? (fun y => y.key == k) with
  | some x => ansV x.del x.val
  | none =>
    match (versOf keys k).reverse.find? (fun v => decide (v.ts ≤ t.snap)) with
    | some v => ansV v.del v.val
    | none => (1, 0)

def lateI (keys : List KH) (snap : Int) (k : Int) : Bool :=
  match (versOf keys k).getLast? with
  | some v => decide (snap < v.ts)
  | none => false
def conflictI (keys : List KH) (snap : Int) (b : List Wr) : Bool := b.any fun x => lateI keys snap x.key

def stepI (s : Sto) (o : POp) : Sto × (Int × Int) :=
  if o.kind = 0 then
    match findTx s.txs o.tx with
    | some _ => (s, (2, 0))
    | none => (⟨s.clock, s.keys, s.txs ++ [⟨o.tx, true, s.clock, []⟩]⟩, (0, s.clock))
  else
    match findTx s.txs o.tx with
    | none => (s, (2, 0))
    | some i =>
      match s.txs[i]? with
      | none => (s, (2, 0))
      | some t =>
        if t.active = false then (s, (2, 0))
        else if o.kind = 1 then (s, readI s.keys t o.key)
        else if o.kind = 2 then (⟨s.clock, s.keys, s.txs.set i ⟨t.id, true, t.snap, bufSet t.buf ⟨o.key, false, o.val⟩⟩⟩, (0, 0))
        else if o.kind = 3 then (⟨s.clock, s.keys, s.txs.set i ⟨t.id, true, t.snap, bufSet t.buf ⟨o.key, true, 0⟩⟩⟩, (0, 0))
        else if o.kind = 4 then
          if conflictI s.keys t.snap t.buf then (⟨s.clock, s.keys, s.txs.set i ⟨t.id, false, t.snap, []⟩⟩, (3, 0))
          else (⟨s.clock + 1, t.buf.foldl (addVer (s.clock + 1)) s.keys, s.txs.set i ⟨t.id, false, t.snap, []⟩⟩, (0, s.clock + 1))
        else if o.kind = 5 then (⟨s.clock, s.keys, s.txs.set i ⟨t.id, false, t.snap, []⟩⟩, (0, 0))
        else (s, (2, 0))

/-- the newest write of key k -/
def lastW (ws : List Wr) (k : Int) : Option Wr := ws.reverse.find? (fun y => y.key == k)

def seeW (k : Int) (acc : Bool × Int) (x : Wr) : Bool × Int := if x.key == k then (!x.del, x.val) else acc
def seeC (snap k : Int) (acc : Bool × Int) (c : CR) : Bool × Int := if snap < c.ts then acc else c.writes.foldl (seeW k) acc
def readS (log : List CR) (t : Txn) (k : Int) : Bool × Int :=
  match lastW t.buf k with
  | some x => (!x.del, x.val)
  | none => log.foldl (seeC t.snap k) (false, 0)
def ansP (r : Bool × Int) : Int × Int := if r.1 then (0, r.2) else (1, 0)

def clashC (t : Txn) (c : CR) : Bool := decide (t.snap < c.ts) && c.writes.any fun x => t.buf.any fun y => x.key == y.key
def conflictS (log : List CR) (t : Txn) : Bool := log.any (clashC t)

def stepS (w : Wld) (o : POp) : Wld × (Int × Int) :=
  if o.kind = 0 then
    match findTx w.txs o.tx with
    | some _ => (w, (2, 0))
    | none => (⟨w.txs ++ [⟨o.tx, true, w.log.length, []⟩], w.log⟩, (0, w.log.length))
  else
    match findTx w.txs o.tx with
    | none => (w, (2, 0))
    | some i =>
      match w.txs[i]? with
      | none => (w, (2, 0))
      | some t =>
        if t.active = false then (w, (2, 0))
        else if o.kind = 1 then (w, ansP (readS w.log t o.key))
        else if o.kind = 2 then (⟨w.txs.set i ⟨t.id, true, t.snap, t.buf ++ [⟨o.key, false, o.val⟩]⟩, w.log⟩, (0, 0))
        else if o.kind = 3 then (⟨w.txs.set i ⟨t.id, true, t.snap, t.buf ++ [⟨o.key, true, 0⟩]⟩, w.log⟩, (0, 0))
        else if o.kind = 5 then (⟨w.txs.set i ⟨t.id, false, t.snap, t.buf⟩, w.log⟩, (0, 0))
        else if o.kind = 4 then
          if conflictS w.log t then (⟨w.txs.set i ⟨t.id, false, t.snap, t.buf⟩, w.log⟩, (3, 0))
          else (⟨w.txs.set i ⟨t.id, false, t.snap, t.buf⟩, w.log ++ [⟨w.log.length + 1, t.buf⟩]⟩, (0, w.log.length + 1))
        else (w, (2, 0))

/-! ### states and answers after k operations; the lid -/
def sto0 : Sto := ⟨0, [], []⟩
def wld0 : Wld := ⟨[], []⟩
def stI (ops : List POp) : Nat → Sto
  | 0 => sto0
  | k + 1 => match ops[k]? with
    | some o => if k < 20000 then (stepI (stI ops k) o).1 else stI ops k
    | none => stI ops k
def stS (ops : List POp) : Nat → Wld
  | 0 => wld0
  | k + 1 => match ops[k]? with
    | some o => if k < 20000 then (stepS (stS ops k) o).1 else stS ops k
    | none => stS ops k
def resI (ops : List POp) (k : Nat) : Int × Int :=
  match ops[k]? with
  | some o => if k < 20000 then (stepI (stI ops k) o).2 else (2, 0)
  | none => (2, 0)
def resS (ops : List POp) (k : Nat) : Int × Int :=
  match ops[k]? with
  | some o => if k < 20000 then (stepS (stS ops k) o).2 else (2, 0)
  | none => (2, 0)
def runI (ops : List POp) : List (Int × Int) := (List.range ops.length).map (resI ops)
def runS (ops : List POp) : List (Int × Int) := (List.range ops.length).map (resS ops)

/-! ### lemmas on the buffer -/
theorem bufSet_find (b : List Wr) (x : Wr) (k : Int) : (bufSet b x).find? (fun y => y.key == k) = if x.key == k then some x else b.find? (fun y => y.key == k) := by
  induction b with
  | nil => simp only [bufSet, List.find?_cons, List.find?_nil]; split <;> simp_all
  | cons y ys ih =>
    simp only [bufSet]
    by_cases h : y.key = x.key
    · simp only [h, beq_self_eq_true, if_true, List.find?_cons]
      by_cases hk : x.key = k
      · simp [hk]
      · have hk' : (x.key == k) = false := by simp [hk]
        simp [hk']
    · have h' : (y.key == x.key) = false := by simp [h]
      simp only [h', Bool.false_eq_true, if_false, List.find?_cons, ih]
      by_cases hk : y.key = k
      · have : ¬ x.key = k := fun e => h (by rw [hk, e])
        simp [hk, this]
      · have hk' : (y.key == k) = false := by simp [hk]
        simp [hk']

def norm (ws : List Wr) : List Wr := ws.foldl bufSet []
theorem norm_snoc (ws : List Wr) (x : Wr) : norm (ws ++ [x]) = bufSet (norm ws) x := by simp [norm]

theorem lastW_snoc (ws : List Wr) (x : Wr) (k : Int) : lastW (ws ++ [x]) k = if x.key == k then some x else lastW ws k := by
  simp only [lastW, List.reverse_append, List.reverse_cons, List.reverse_nil, List.nil_append, List.cons_append, List.find?_cons]
  split <;> simp_all

theorem snoc_induct {α : Type} {p : List α → Prop} (h0 : p []) (h1 : ∀ l x, p l → p (l ++ [x])) : ∀ l, p l := by
  intro l
  have key : ∀ l : List α, p l.reverse := by
    intro l
    induction l with
    | nil => exact h0
    | cons x l ih => rw [List.reverse_cons]; exact h1 _ _ ih
  have := key l.reverse
  rwa [List.reverse_reverse] at this

theorem norm_find (ws : List Wr) (k : Int) : (norm ws).find? (fun y => y.key == k) = lastW ws k := by
  refine snoc_induct (p := fun ws => (norm ws).find? (fun y => y.key == k) = lastW ws k) ?_ ?_ ws
  · rfl
  · intro l x ih
    show (norm (l ++ [x])).find? _ = _
    rw [norm_snoc, bufSet_find, lastW_snoc, ih]

/-- 'k is the key of one of them' -/
def hasK (ws : List Wr) (k : Int) : Prop := ∃ x, x ∈ ws ∧ x.key = k
theorem hasK_find (ws : List Wr) (k : Int) : hasK ws k ↔ (ws.find? (fun y => y.key == k)).isSome = true := by
  rw [List.find?_isSome]; simp [hasK]
theorem hasK_last (ws : List Wr) (k : Int) : hasK ws k ↔ (lastW ws k).isSome = true := by
  unfold lastW; rw [List.find?_isSome]; simp [hasK]
theorem hasK_norm (ws : List Wr) (k : Int) : hasK (norm ws) k ↔ hasK ws k := by
  rw [hasK_find, norm_find, ← hasK_last]

theorem bufSet_keys (b : List Wr) (x : Wr) (k : Int) : hasK (bufSet b x) k ↔ x.key = k ∨ hasK b k := by
  rw [hasK_find, bufSet_find, hasK_find]
  by_cases h : x.key = k <;> simp [h]

theorem bufSet_nodup (b : List Wr) (x : Wr) (h : (b.map (·.key)).Nodup) : ((bufSet b x).map (·.key)).Nodup := by
  induction b with
  | nil => simp [bufSet]
  | cons y ys ih =>
    simp only [List.map_cons, List.nodup_cons] at h
    simp only [bufSet]
    by_cases hk : y.key = x.key
    · simp only [hk, beq_self_eq_true, if_true, List.map_cons, List.nodup_cons]
      exact ⟨by rw [← hk]; exact h.1, h.2⟩
    · have h' : (y.key == x.key) = false := by simp [hk]
      simp only [h', Bool.false_eq_true, if_false, List.map_cons, List.nodup_cons]
      refine ⟨fun hm => ?_, ih h.2⟩
      obtain ⟨z, hz, hzk⟩ := List.mem_map.1 hm
      rcases (bufSet_keys ys x y.key).1 ⟨z, hz, hzk⟩ with e | ⟨u, hu, huk⟩
      · exact hk e.symm
      · exact h.1 (List.mem_map.2 ⟨u, hu, huk⟩)
theorem norm_nodup (ws : List Wr) : ((norm ws).map (·.key)).Nodup := by
  refine snoc_induct (p := fun ws => ((norm ws).map (·.key)).Nodup) ?_ ?_ ws
  · simp [norm]
  · intro l x ih; show ((norm (l ++ [x])).map _).Nodup; rw [norm_snoc]; exact bufSet_nodup _ _ ih

/-! ### lemmas on the histories -/
def verOf (ts : Int) (x : Wr) : Ver := ⟨ts, x.del, x.val⟩
theorem addVer_vers (ts : Int) (keys : List KH) (x : Wr) (k : Int) : versOf (addVer ts keys x) k = if x.key = k then versOf keys k ++ [verOf ts x] else versOf keys k := by
  induction keys with
  | nil =>
    by_cases h : x.key = k <;> simp [addVer, versOf, h, verOf]
  | cons y ys ih =>
    simp only [addVer]
    by_cases h : y.key = x.key
    · by_cases hk : x.key = k
      · simp [versOf, h, hk, verOf]
      · simp [versOf, h, hk]
    · have h' : (y.key == x.key) = false := by simp [h]
      simp only [h', Bool.false_eq_true, if_false]
      by_cases hy : y.key = k
      · have hx : ¬ x.key = k := fun e => h (by rw [hy, e])
        simp [versOf, hy, hx]
      · have e1 : ∀ zs : List KH, versOf (y :: zs) k = versOf zs k := by intro zs; simp [versOf, hy]
        rw [e1, e1, ih]

theorem foldl_vers (ts : Int) (b : List Wr) (k : Int) : ∀ keys, (b.map (·.key)).Nodup → versOf (b.foldl (addVer ts) keys) k = versOf keys k ++ ((b.find? (fun y => y.key == k)).map (verOf ts)).toList := by
  induction b with
  | nil => intro keys _; simp
  | cons x xs ih =>
    intro keys h
    simp only [List.map_cons, List.nodup_cons] at h
    rw [List.foldl_cons, ih _ h.2, addVer_vers]
    by_cases hk : x.key = k
    · have hn : xs.find? (fun y => y.key == k) = none := by
        rw [List.find?_eq_none]
        intro z hz hzk
        apply h.1
        rw [hk]
        have : z.key = k := by simpa using hzk
        exact List.mem_map.2 ⟨z, hz, this⟩
      simp [hk, hn]
    · simp [hk]

def histC (k : Int) (c : CR) : Option Ver := (lastW c.writes k).map (verOf c.ts)
def hist (log : List CR) (k : Int) : List Ver := log.filterMap (histC k)
theorem hist_snoc (log : List CR) (c : CR) (k : Int) : hist (log ++ [c]) k = hist log k ++ (histC k c).toList := by
  unfold hist
  rw [List.filterMap_append]
  cases h : histC k c <;> simp [h]

/-- reading: the fold over the log is the newest version that is not too late -/
theorem foldW (ws : List Wr) (k : Int) (acc : Bool × Int) : ws.foldl (seeW k) acc = match lastW ws k with | some x => (!x.del, x.val) | none => acc := by
  refine snoc_induct (p := fun ws => ws.foldl (seeW k) acc = match lastW ws k with | some x => (!x.del, x.val) | none => acc) ?_ ?_ ws
  · rfl
  · intro l x ih
    show (l ++ [x]).foldl (seeW k) acc = match lastW (l ++ [x]) k with | some x => (!x.del, x.val) | none => acc
    rw [List.foldl_append, lastW_snoc]
    by_cases h : x.key = k
    · simp [seeW, h]
    · simp only [List.foldl_cons, List.foldl_nil, seeW]
      simp only [h, beq_iff_eq, if_false]
      exact ih

theorem foldLog (log : List CR) (snap k : Int) (acc : Bool × Int) : log.foldl (seeC snap k) acc = match (hist log k).reverse.find? (fun v => decide (v.ts ≤ snap)) with | some v => (!v.del, v.val) | none => acc := by
  refine snoc_induct (p := fun log => log.foldl (seeC snap k) acc = match (hist log k).reverse.find? (fun v => decide (v.ts ≤ snap)) with | some v => (!v.del, v.val) | none => acc) ?_ ?_ log
  · rfl
  · intro l c ih
    show (l ++ [c]).foldl (seeC snap k) acc = match (hist (l ++ [c]) k).reverse.find? (fun v => decide (v.ts ≤ snap)) with | some v => (!v.del, v.val) | none => acc
    rw [List.foldl_append, hist_snoc, List.reverse_append, List.find?_append]
    simp only [List.foldl_cons, List.foldl_nil, seeC, foldW]
    unfold histC
    cases hl : lastW c.writes k with
    | none =>
      simp only [Option.map_none, Option.toList_none, List.reverse_nil, List.find?_nil, Option.none_or]
      split
      · exact ih
      · exact ih
    | some x =>
      simp only [Option.map_some, Option.toList_some, List.reverse_cons, List.reverse_nil, List.nil_append, List.find?_cons, verOf]
      by_cases h : snap < c.ts
      · have : ¬ c.ts ≤ snap := by omega
        simp only [h, if_true, this, decide_false, List.find?_nil, Option.none_or]
        exact ih
      · have : c.ts ≤ snap := by omega
        simp only [h, if_false, this, decide_true, Option.some_or]

/-! ### the simulation -/
structure Sim (s : Sto) (w : Wld) : Prop where
  clk : s.clock = w.log.length
  asc : w.log.Pairwise (fun a b => a.ts < b.ts)
  top : ∀ c ∈ w.log, c.ts ≤ w.log.length
  len : s.txs.length = w.txs.length
  tx : ∀ (i : Nat) (a b : Txn), s.txs[i]? = some a → w.txs[i]? = some b → a.id = b.id ∧ a.active = b.active ∧ a.snap = b.snap ∧ (a.active = true → a.buf = norm b.buf)
  vers : ∀ k, versOf s.keys k = hist w.log k
  nodup : (s.keys.map (·.key)).Nodup

theorem sim0 : Sim sto0 wld0 := ⟨rfl, List.Pairwise.nil, fun c h => by simp [wld0] at h, rfl, fun i a b h => by simp [sto0] at h, fun k => rfl, List.Pairwise.nil⟩

theorem Sim.find {s : Sto} {w : Wld} (h : Sim s w) (id : Int) : findTx s.txs id = findTx w.txs id := by
  have e : s.txs.map (·.id) = w.txs.map (·.id) := by
    apply List.ext_getElem?
    intro i
    rw [List.getElem?_map, List.getElem?_map]
    by_cases hi : i < s.txs.length
    · have hi' : i < w.txs.length := by rw [← h.len]; exact hi
      rw [List.getElem?_eq_getElem hi, List.getElem?_eq_getElem hi']
      simp only [Option.map_some]
      rw [(h.tx i _ _ (List.getElem?_eq_getElem hi) (List.getElem?_eq_getElem hi')).1]
    · rw [List.getElem?_eq_none (by omega), List.getElem?_eq_none (by have := h.len; omega)]
  have g : ∀ l : List Txn, findTx l id = (l.map (·.id)).findIdx? (fun x => x == id) := by
    intro l; unfold findTx; rw [List.findIdx?_map]; rfl
  rw [g, g, e]

theorem addVer_keys (ts : Int) (keys : List KH) (x : Wr) (h : (keys.map (·.key)).Nodup) : ((addVer ts keys x).map (·.key)).Nodup ∧ ∀ k, k ∈ (addVer ts keys x).map (·.key) ↔ k = x.key ∨ k ∈ keys.map (·.key) := by
  induction keys with
  | nil => simp [addVer]
  | cons y ys ih =>
    simp only [List.map_cons, List.nodup_cons] at h
    simp only [addVer]
    by_cases hk : y.key = x.key
    · simp only [hk, beq_self_eq_true, if_true, List.map_cons, List.nodup_cons]
      refine ⟨⟨by rw [← hk]; exact h.1, h.2⟩, fun k => ?_⟩
      simp
    · have h' : (y.key == x.key) = false := by simp [hk]
      simp only [h', Bool.false_eq_true, if_false, List.map_cons, List.nodup_cons]
      obtain ⟨i1, i2⟩ := ih h.2
      refine ⟨⟨fun hm => ?_, i1⟩, fun k => ?_⟩
      · rcases (i2 _).1 hm with e | e
        · exact hk e
        · exact h.1 e
      · rw [List.mem_cons, i2, List.mem_cons]
        constructor
        · rintro (h | h | h)
          · exact .inr (.inl h)
          · exact .inl h
          · exact .inr (.inr h)
        · rintro (h | h | h)
          · exact .inr (.inl h)
          · exact .inl h
          · exact .inr (.inr h)
theorem foldl_keys (ts : Int) (b : List Wr) : ∀ keys : List KH, (keys.map (·.key)).Nodup → ((b.foldl (addVer ts) keys).map (·.key)).Nodup := by
  induction b with
  | nil => intro keys h; exact h
  | cons x xs ih => intro keys h; rw [List.foldl_cons]; exact ih _ (addVer_keys ts keys x h).1

/-- what reading says, on both sides -/
theorem Sim.read {s : Sto} {w : Wld} (h : Sim s w) {a b : Txn} (hs : a.snap = b.snap) (hb : a.buf = norm b.buf) (k : Int) : readI s.keys a k = ansP (readS w.log b k) := by
  unfold readI readS
  rw [hb, norm_find]
  cases lastW b.buf k with
  | some x => cases hx : x.del <;> simp [ansV, ansP, hx]
  | none =>
    simp only []
    rw [foldLog, h.vers k, hs]
    cases (hist w.log k).reverse.find? (fun v => decide (v.ts ≤ b.snap)) with
    | some v => cases hv : v.del <;> simp [ansV, ansP, hv]
    | none => simp [ansP]

theorem hist_mem {log : List CR} {k : Int} {v : Ver} (h : v ∈ hist log k) : ∃ c x, c ∈ log ∧ lastW c.writes k = some x ∧ v.ts = c.ts := by
  unfold hist at h
  obtain ⟨c, hc, hv⟩ := List.mem_filterMap.1 h
  unfold histC at hv
  cases hl : lastW c.writes k with
  | none => rw [hl] at hv; cases hv
  | some x => rw [hl] at hv; simp at hv; exact ⟨c, x, hc, hl, by rw [← hv]; rfl⟩

theorem hist_asc {log : List CR} (h : log.Pairwise (fun a b => a.ts < b.ts)) (k : Int) : (hist log k).Pairwise (fun a b => a.ts < b.ts) := by
  unfold hist
  rw [List.pairwise_filterMap]
  refine h.imp ?_
  intro a b hab u hu v hv
  unfold histC at hu hv
  cases ha : lastW a.writes k with
  | none => rw [ha] at hu; cases hu
  | some x =>
    cases hb : lastW b.writes k with
    | none => rw [hb] at hv; cases hv
    | some y =>
      rw [ha] at hu; rw [hb] at hv
      simp at hu hv
      rw [← hu, ← hv]
      exact hab

theorem last_top {l : List Ver} (h : l.Pairwise (fun a b => a.ts < b.ts)) {v : Ver} (hv : l.getLast? = some v) : ∀ u ∈ l, u.ts ≤ v.ts := by
  obtain ⟨l', rfl⟩ := List.getLast?_eq_some_iff.1 hv
  rw [List.pairwise_append] at h
  intro u hu
  rcases List.mem_append.1 hu with hu | hu
  · have := h.2.2 u hu v (by simp); omega
  · simp at hu; subst hu; omega

theorem Sim.conflict {s : Sto} {w : Wld} (h : Sim s w) {a b : Txn} (hs : a.snap = b.snap) (hb : a.buf = norm b.buf) : conflictI s.keys a.snap a.buf = conflictS w.log b := by
  rw [Bool.eq_iff_iff]
  unfold conflictI conflictS
  rw [List.any_eq_true, List.any_eq_true]
  constructor
  · rintro ⟨x, hx, hl⟩
    unfold lateI at hl
    rw [h.vers] at hl
    have hk : hasK b.buf x.key := (hasK_norm _ _).1 ⟨x, by rw [← hb]; exact hx, rfl⟩
    cases hg : (hist w.log x.key).getLast? with
    | none => rw [hg] at hl; cases hl
    | some v =>
      rw [hg] at hl
      have hlt : a.snap < v.ts := by simpa using hl
      obtain ⟨c, y, hc, hy, hts⟩ := hist_mem (List.mem_of_getLast? hg)
      refine ⟨c, hc, ?_⟩
      unfold clashC
      have hwk : hasK c.writes x.key := (hasK_last _ _).2 (by rw [hy]; rfl)
      obtain ⟨u, hu, huk⟩ := hwk
      obtain ⟨z, hz, hzk⟩ := hk
      simp only [Bool.and_eq_true, decide_eq_true_eq, List.any_eq_true, beq_iff_eq]
      exact ⟨by omega, u, hu, z, hz, by rw [huk, hzk]⟩
  · rintro ⟨c, hc, hcl⟩
    unfold clashC at hcl
    simp only [Bool.and_eq_true, decide_eq_true_eq, List.any_eq_true, beq_iff_eq] at hcl
    obtain ⟨hlt, u, hu, z, hz, e⟩ := hcl
    obtain ⟨x, hx, hxk⟩ := (hasK_norm b.buf z.key).2 ⟨z, hz, rfl⟩
    refine ⟨x, by rw [hb]; exact hx, ?_⟩
    have hsome := (hasK_last c.writes z.key).1 ⟨u, hu, e⟩
    obtain ⟨y, hy⟩ := Option.isSome_iff_exists.1 hsome
    have hm : (verOf c.ts y) ∈ hist w.log z.key := by
      unfold hist
      refine List.mem_filterMap.2 ⟨c, hc, ?_⟩
      unfold histC; rw [hy]; rfl
    unfold lateI
    rw [h.vers, hxk]
    cases hg : (hist w.log z.key).getLast? with
    | none =>
      rw [List.getLast?_eq_none_iff] at hg
      rw [hg] at hm; simp at hm
    | some v =>
      have := last_top (hist_asc h.asc _) hg _ hm
      have e2 : (verOf c.ts y).ts = c.ts := rfl
      simp only [decide_eq_true_eq]
      omega

/-- changing one transaction on both sides -/
theorem Sim.set {s : Sto} {w : Wld} (h : Sim s w) (i : Nat) (a b : Txn) (hid : a.id = b.id) (hac : a.active = b.active) (hsn : a.snap = b.snap) (hbf : a.active = true → a.buf = norm b.buf) :
    Sim ⟨s.clock, s.keys, s.txs.set i a⟩ ⟨w.txs.set i b, w.log⟩ := by
  refine ⟨h.clk, h.asc, h.top, by simpa using h.len, ?_, h.vers, h.nodup⟩
  intro j u v hu hv
  simp only [List.getElem?_set] at hu hv
  by_cases hj : i = j
  · subst hj
    simp only [if_true] at hu hv
    split at hu
    · split at hv
      · simp at hu hv; subst hu; subst hv; exact ⟨hid, hac, hsn, hbf⟩
      · cases hv
    · cases hu
  · simp only [hj, if_false] at hu hv
    exact h.tx j u v hu hv

theorem sim_step {s : Sto} {w : Wld} (h : Sim s w) (o : POp) : (stepI s o).2 = (stepS w o).2 ∧ Sim (stepI s o).1 (stepS w o).1 := by
  unfold stepI stepS
  rw [h.find o.tx]
  by_cases h0 : o.kind = 0
  · simp only [h0, if_true]
    cases findTx w.txs o.tx with
    | some i => exact ⟨by trivial, h⟩
    | none =>
      refine ⟨by simp [h.clk], h.clk, h.asc, h.top, by simp [h.len], ?_, h.vers, h.nodup⟩
      intro j u v hu hv
      simp only [] at hu hv
      by_cases hj : j < s.txs.length
      · rw [List.getElem?_append_left hj] at hu
        rw [List.getElem?_append_left (by rw [← h.len]; exact hj)] at hv
        exact h.tx j u v hu hv
      · rw [List.getElem?_append_right (by omega)] at hu
        rw [List.getElem?_append_right (by have := h.len; omega)] at hv
        rw [h.len] at hu
        cases hq : j - w.txs.length with
        | zero => rw [hq] at hu hv; simp at hu hv; subst hu; subst hv; exact ⟨rfl, rfl, h.clk, fun _ => rfl⟩
        | succ n => rw [hq] at hu; simp at hu
  · simp only [h0, if_false]
    cases hf : findTx w.txs o.tx with
    | none => exact ⟨by trivial, h⟩
    | some i =>
      simp only []
      have hi : i < w.txs.length := by
        unfold findTx at hf
        exact (List.findIdx?_eq_some_iff_getElem.1 hf).1
      have hi' : i < s.txs.length := by rw [h.len]; exact hi
      obtain ⟨a, ha⟩ : ∃ a, s.txs[i]? = some a := ⟨_, List.getElem?_eq_getElem hi'⟩
      obtain ⟨b, hb⟩ : ∃ b, w.txs[i]? = some b := ⟨_, List.getElem?_eq_getElem hi⟩
      obtain ⟨hid, hac, hsn, hbf⟩ := h.tx i a b ha hb
      rw [ha, hb]
      simp only [← hac]
      by_cases hact : a.active = false
      · simp only [hact, if_true]; exact ⟨by trivial, h⟩
      · have hact' : a.active = true := by simpa using hact
        have hbuf := hbf hact'
        simp only [hact', Bool.true_eq_false, if_false]
        by_cases h1 : o.kind = 1
        · simp only [h1, if_true]; exact ⟨h.read hsn hbuf _, h⟩
        simp only [h1, if_false]
        by_cases h2 : o.kind = 2
        · simp only [h2, if_true]
          exact ⟨by trivial, h.set i _ _ hid rfl hsn (fun _ => by simp only [hbuf, norm_snoc])⟩
        simp only [h2, if_false]
        by_cases h3 : o.kind = 3
        · simp only [h3, if_true]
          exact ⟨by trivial, h.set i _ _ hid rfl hsn (fun _ => by simp only [hbuf, norm_snoc])⟩
        simp only [h3, if_false]
        by_cases h5 : o.kind = 5
        · have h4 : ¬ o.kind = 4 := by omega
          simp only [h4, h5, if_false, if_true]
          exact ⟨by trivial, h.set i _ _ hid rfl hsn (fun hc => by cases hc)⟩
        simp only [h5, if_false]
        by_cases h4 : o.kind = 4
        · simp only [h4, if_true, h.conflict hsn hbuf]
          by_cases hc : conflictS w.log b = true
          · simp only [hc, if_true]
            exact ⟨by trivial, h.set i _ _ hid rfl hsn (fun hc => by cases hc)⟩
          · have hc' : conflictS w.log b = false := by simpa using hc
            simp only [hc', Bool.false_eq_true, if_false]
            have hset := h.set i ⟨a.id, false, a.snap, []⟩ ⟨b.id, false, b.snap, b.buf⟩ hid rfl hsn (fun hc => by cases hc)
            refine ⟨by simp [h.clk], by simp [h.clk], ?_, ?_, hset.len, hset.tx, ?_, foldl_keys _ _ _ h.nodup⟩
            · refine List.pairwise_append.2 ⟨h.asc, List.pairwise_singleton _ _, ?_⟩
              intro x hx y hy
              simp at hy
              have := h.top x hx
              subst hy
              show x.ts < (w.log.length : Int) + 1
              omega
            · intro c hcm
              simp only [List.length_append, List.length_cons, List.length_nil]
              rcases List.mem_append.1 hcm with hm | hm
              · have := h.top c hm; omega
              · simp at hm; subst hm; simp
            · intro k
              rw [foldl_vers _ _ _ _ (by rw [hbuf]; exact norm_nodup _), h.vers k, hist_snoc, hbuf, norm_find, h.clk]
              rfl
        · simp only [h4, if_false]; exact ⟨by trivial, h⟩

theorem sim_all (ops : List POp) : ∀ k, Sim (stI ops k) (stS ops k) := by
  intro k
  induction k with
  | zero => exact sim0
  | succ k ih =>
    simp only [stI, stS]
    cases ops[k]? with
    | none => exact ih
    | some o =>
      simp only []
      split
      · exact (sim_step ih o).2
      · exact ih

theorem res_eq (ops : List POp) (k : Nat) : resI ops k = resS ops k := by
  unfold resI resS
  cases ops[k]? with
  | none => rfl
  | some o =>
    simp only []
    split
    · exact (sim_step (sim_all ops k) o).1
    · rfl
/-- the answers of the store are the model's -/
theorem run_eq (ops : List POp) : runI ops = runS ops := by
  unfold runI runS
  exact List.map_congr_left (fun k _ => res_eq ops k)
end Go.Proofs.Yafahw
