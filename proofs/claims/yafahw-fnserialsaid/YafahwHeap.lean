/- Rows of structs in memory; what a write to one row leaves alone. -/
import Derived.Test.YafahwOpenIn
namespace Go.Proofs.Yafahw
open Go.RowKit
set_option linter.unusedVariables false

section
variable {α : Type} (f : α → List Value) (sz : Nat) (hf : ∀ a, (f a).length = sz)
include hf
theorem flat_len (l : List α) : (l.flatMap f).length = l.length * sz := by
  induction l with
  | nil => simp
  | cons a l ih => rw [List.flatMap_cons, List.length_append, ih, hf, List.length_cons, Nat.add_mul]; omega
theorem flat_at (l : List α) : ∀ (i : Nat) (a : α), l[i]? = some a → ∀ j, j < sz → (l.flatMap f)[i * sz + j]? = (f a)[j]? := by
  induction l with
  | nil => intro i a h; simp at h
  | cons b l ih =>
    intro i a h j hj
    rw [List.flatMap_cons]
    cases i with
    | zero =>
      simp at h; subst h
      rw [List.getElem?_append_left (by rw [hf]; omega)]; simp
    | succ i =>
      rw [List.getElem?_append_right (by rw [hf, Nat.add_mul]; omega), hf, show (i + 1) * sz + j - sz = i * sz + j from by rw [Nat.add_mul]; omega]
      exact ih i a (by simpa using h) j hj
theorem flat_set (l : List α) : ∀ (i : Nat) (a a' : α), l[i]? = some a → ∀ (j : Nat) (u : Value), j < sz → f a' = (f a).set j u → (l.flatMap f).set (i * sz + j) u = (l.set i a').flatMap f := by
  induction l with
  | nil => intro i a a' h; simp at h
  | cons b l ih =>
    intro i a a' h j u hj he
    rw [List.flatMap_cons]
    cases i with
    | zero =>
      simp at h; subst h
      rw [List.set_append_left _ _ (by rw [hf]; omega), List.set_cons_zero, List.flatMap_cons, he]; simp
    | succ i =>
      rw [List.set_append_right _ _ (by rw [hf, Nat.add_mul]; omega), hf, show (i + 1) * sz + j - sz = i * sz + j from by rw [Nat.add_mul]; omega, ih i a a' (by simpa using h) j u hj he]
      simp
end

def wrC (x : Wr) : List Value := [.int .i64 x.key, .bool x.del, .int .i64 x.val]
def verC (x : Ver) : List Value := [.int .i64 x.ts, .bool x.del, .int .i64 x.val]
def khC (p : KH × Value) : List Value := [.int .i64 p.1.key, p.2]
def txC (p : Txn × Value) : List Value := [.int .i64 p.1.id, .bool p.1.active, .int .i64 p.1.snap, p.2]
def crC (p : CR × Value) : List Value := [.int .i64 p.1.ts, p.2]
def wrCells (l : List Wr) : List Value := l.flatMap wrC
def verCells (l : List Ver) : List Value := l.flatMap verC
theorem wrC_len (x : Wr) : (wrC x).length = 3 := rfl
theorem verC_len (x : Ver) : (verC x).length = 3 := rfl
theorem khC_len (x : KH × Value) : (khC x).length = 2 := rfl
theorem txC_len (x : Txn × Value) : (txC x).length = 4 := rfl
theorem crC_len (x : CR × Value) : (crC x).length = 2 := rfl

/-- the block behind an owned value, with its element type -/
theorem own_blk {w : World} {base : Nat} {e : TypeId} {size : Nat} {v : Value} {n : Nat} {xs : List Value} (h : w.ownsRow base e size v n xs) {g : Nat} (hg : v.ownBlock = some g) : ∃ cur, w.heap[g]? = some (.cells cur e (0, 0)) := by
  rcases h.2 with ⟨rfl, _⟩ | ⟨g', cap, cur, rfl, _, hgg, _⟩
  · simp [Value.ownBlock] at hg
  · simp [Value.ownBlock] at hg; subst hg; exact ⟨cur, hgg⟩

theorem at_or {v : Value} {g n cap H hs : Nat} (h : v.ownBlock = some g ∨ g = H) (hH : hs = H) : (Value.slice (some ⟨g, 0, none⟩) n cap).ownBlock = v.ownBlock ∨ (Value.slice (some ⟨g, 0, none⟩) n cap).ownBlock = some hs := by
  rcases h with q | q
  · exact .inl q.symm
  · right; rw [q, hH]; rfl

/-- two blocks of different element types are two -/
theorem blk_ne {w : World} {g : Nat} {c c' : Array Value} {e e' : TypeId} {f f' : Nat × Nat} {k : Nat} (h : w.heap[g]? = some (.cells c e f)) (h' : w.heap[k]? = some (.cells c' e' f')) (he : e ≠ e') : g ≠ k := by
  intro q; subst q; rw [h] at h'; simp at h'; exact he h'.2.1
theorem own_bne {w : World} {base : Nat} {e : TypeId} {size g n cap : Nat} {xs : List Value} (h : w.ownsRow base e size (.slice (some ⟨g, 0, none⟩) n cap) n xs) {k : Nat} {c' : Array Value} {e' : TypeId} {f' : Nat × Nat} (h' : w.heap[k]? = some (.cells c' e' f')) (he : e ≠ e') : g ≠ k := by
  obtain ⟨cur, hc⟩ := own_blk h rfl
  exact blk_ne hc h' he

/-- 'row' names at most one block, and that is of element type e -/
def RowTy (w : World) (row : Option Nat) (e : TypeId) : Prop := ∀ g, row = some g → ∃ c f, w.heap[g]? = some (.cells c e f)
theorem RowTy.of_own {w : World} {base : Nat} {e : TypeId} {size : Nat} {v : Value} {n : Nat} {xs : List Value} (h : w.ownsRow base e size v n xs) : RowTy w v.ownBlock e := fun g hg => by
  obtain ⟨cur, hc⟩ := own_blk h hg; exact ⟨cur, _, hc⟩

theorem blk_ty {w w' : World} {row : Option Nat} {e : TypeId} (hg : w.grownBy w' row) (ht : RowTy w row e) {k : Nat} {c : Array Value} {e' : TypeId} {f : Nat × Nat} (hk : w.heap[k]? = some (.cells c e' f)) (he : e' ≠ e) : w'.heap[k]? = some (.cells c e' f) := by
  rw [hg.block k (blk_lt hk) ?_, hk]
  intro hr
  obtain ⟨c', f', hc⟩ := ht k hr.symm
  rw [hk] at hc
  simp at hc
  exact he hc.2.1
theorem own_ty {w w' : World} {row : Option Nat} {e : TypeId} (hg : w.grownBy w' row) (ht : RowTy w row e) {base : Nat} {e' : TypeId} {size : Nat} {v : Value} {n : Nat} {xs : List Value} (h : w.ownsRow base e' size v n xs) (he : e' ≠ e) : w'.ownsRow base e' size v n xs :=
  own_keep h fun g hgg => by
    obtain ⟨cur, hc⟩ := own_blk h hgg
    rw [blk_ty hg ht hc he, hc]
theorem own_ne {w w' : World} {row : Option Nat} (hg : w.grownBy w' row) {base : Nat} {e' : TypeId} {size : Nat} {v : Value} {n : Nat} {xs : List Value} (h : w.ownsRow base e' size v n xs) (hne : v.ownBlock = none ∨ v.ownBlock ≠ row) : w'.ownsRow base e' size v n xs :=
  own_keep h fun g hgg => hg.block g (own_lt h hgg).2 (by
    rcases hne with h' | h'
    · rw [h'] at hgg; cases hgg
    · rw [hgg] at h'; exact h')

/-- only blocks from B on, of an element type among T, may have turned -/
structure Keep (B : Nat) (T : List TypeId) (w w' : World) : Prop where
  below : Below B w w'
  block : ∀ (k : Nat) (c : Array Value) (e : TypeId) (f : Nat × Nat), w.heap[k]? = some (.cells c e f) → e ∉ T → w'.heap[k]? = some (.cells c e f)
theorem Keep.refl (B : Nat) (T : List TypeId) (w : World) : Keep B T w w := ⟨Below.refl _ _, fun _ _ _ _ h _ => h⟩
theorem Keep.trans {B : Nat} {T : List TypeId} {a b c : World} (h : Keep B T a b) (h2 : Keep B T b c) : Keep B T a c :=
  ⟨h.below.trans h2.below, fun k x e f hk he => h2.block k x e f (h.block k x e f hk he) he⟩
theorem Keep.drewN {B : Nat} {T : List TypeId} {a b : World} (h : Keep B T a b) (n : Nat) : Keep B T a (b.drewN n) := ⟨below_drewN h.below n, h.block⟩
theorem Keep.drew {B : Nat} {T : List TypeId} {a b : World} (h : Keep B T a b) : Keep B T a b.drew := ⟨h.below.drew, h.block⟩
theorem Keep.alloc {B : Nat} {T : List TypeId} {a b : World} (h : Keep B T a b) (hB : B ≤ b.heap.size) (o : Obj) : Keep B T a (b.alloc o) :=
  ⟨h.below.alloc hB o, fun k x e f hk he => alloc_keep (h.block k x e f hk he) o⟩
theorem Keep.grown {B : Nat} {T : List TypeId} {a b c : World} {row : Option Nat} {e : TypeId} (h : Keep B T a b) (hg : b.grownBy c row) (hB : B ≤ b.heap.size) (hr : ∀ k, row = some k → B ≤ k) (ht : RowTy b row e) (he : e ∈ T) : Keep B T a c :=
  ⟨h.below.grown hg hB hr, fun k x e' f hk he' => blk_ty hg ht (h.block k x e' f hk he') (fun q => he' (by rw [q]; exact he))⟩
theorem Keep.own {B : Nat} {T : List TypeId} {w w' : World} (h : Keep B T w w') {base : Nat} {e : TypeId} {size : Nat} {v : Value} {n : Nat} {xs : List Value} (ho : w.ownsRow base e size v n xs) (he : e ∉ T) : w'.ownsRow base e size v n xs :=
  own_keep ho fun g hg => by
    obtain ⟨cur, hc⟩ := own_blk ho hg
    rw [h.block _ _ _ _ hc he, hc]

/-- a store of one cell, as 'grownBy' -/
theorem set_grown (w : World) (g j : Nat) (u : Value) : w.grownBy (w.setCell ⟨g, j, none⟩ u) (some g) := grown_setCell w ⟨g, j, none⟩ u

/-- among the pairs no two headers lead to one block -/
def Dist {α : Type} (l : List (α × Value)) : Prop := ∀ (i j : Nat) (p q : α × Value), i ≠ j → l[i]? = some p → l[j]? = some q → p.2.ownBlock = none ∨ p.2.ownBlock ≠ q.2.ownBlock

theorem Dist.set {α : Type} {l : List (α × Value)} (h : Dist l) (i : Nat) (p : α × Value) (hp : ∀ (j : Nat) (q : α × Value), j ≠ i → l[j]? = some q → p.2.ownBlock = none ∨ p.2.ownBlock ≠ q.2.ownBlock) : Dist (l.set i p) := by
  intro a b x y hab hx hy
  rw [List.getElem?_set] at hx hy
  by_cases ha : i = a
  · subst ha
    have hb : ¬ i = b := hab
    simp only [if_true] at hx
    simp only [hb, if_false] at hy
    split at hx
    · simp at hx; subst hx; exact hp b y (fun e => hab e.symm) hy
    · cases hx
  · simp only [ha, if_false] at hx
    by_cases hb : i = b
    · subst hb
      simp only [if_true] at hy
      split at hy
      · simp at hy; subst hy
        rcases hp a x (fun e => hab e) hx with h' | h'
        · rcases hq : x.2.ownBlock with _ | g
          · exact .inl rfl
          · right; rw [h']; simp
        · right; exact fun e => h' e.symm
      · cases hy
    · simp only [hb, if_false] at hy
      exact h a b x y hab hx hy
theorem Dist.snoc {α : Type} {l : List (α × Value)} (h : Dist l) (p : α × Value) (hp : ∀ (j : Nat) (q : α × Value), l[j]? = some q → p.2.ownBlock = none ∨ p.2.ownBlock ≠ q.2.ownBlock) : Dist (l ++ [p]) := by
  intro a b x y hab hx hy
  have one : ∀ (j : Nat) (z : α × Value), (l ++ [p])[j]? = some z → (j < l.length ∧ l[j]? = some z) ∨ (j = l.length ∧ z = p) := by
    intro j z hz
    by_cases hj : j < l.length
    · left; rw [List.getElem?_append_left hj] at hz; exact ⟨hj, hz⟩
    · right
      rw [List.getElem?_append_right (by omega)] at hz
      cases hq : j - l.length with
      | zero => rw [hq] at hz; simp at hz; exact ⟨by omega, hz.symm⟩
      | succ n => rw [hq] at hz; simp at hz
  rcases one a x hx with ⟨ha, hx'⟩ | ⟨ha, rfl⟩ <;> rcases one b y hy with ⟨hb, hy'⟩ | ⟨hb, rfl⟩
  · exact h a b x y hab hx' hy'
  · rcases hp a x hx' with h' | h'
    · rcases hq : x.2.ownBlock with _ | g
      · exact .inl rfl
      · right; rw [h']; simp
    · right; exact fun e => h' e.symm
  · exact hp b y hy'
  · omega

/-- the store in memory: the struct's block bs, the rows, the rows behind the headers -/
structure StoM (B : Nat) (w : World) (bs : Nat) (clock : Int) (kv tv : Value) (ck : List (KH × Value)) (ct : List (Txn × Value)) : Prop where
  base : B ≤ bs
  blk : w.heap[bs]? = some (.cells #[.int .i64 clock, kv, tv] 72 (0, 0))
  keys : w.ownsRow B 80 2 kv ck.length (ck.flatMap khC)
  txs : w.ownsRow B 109 4 tv ct.length (ct.flatMap txC)
  vers : ∀ (i : Nat) (p : KH × Value), ck[i]? = some p → w.ownsRow B 82 3 p.2 p.1.vers.length (verCells p.1.vers)
  bufs : ∀ (i : Nat) (p : Txn × Value), ct[i]? = some p → w.ownsRow B 111 3 p.2 p.1.buf.length (wrCells p.1.buf)
  dk : Dist ck
  dt : Dist ct
def stoT : List TypeId := [72, 80, 109, 82, 111]

section
variable {B : Nat} {w : World} {bs : Nat} {clock : Int} {kv tv : Value} {ck : List (KH × Value)} {ct : List (Txn × Value)}
theorem StoM.keep {w' : World} {B' : Nat} {T : List TypeId} (h : StoM B w bs clock kv tv ck ct) (hk : Keep B' T w w') (hT : ∀ e ∈ stoT, e ∉ T) : StoM B w' bs clock kv tv ck ct :=
  ⟨h.base, hk.block _ _ _ _ h.blk (hT _ (by decide)), hk.own h.keys (hT _ (by decide)), hk.own h.txs (hT _ (by decide)), fun i p hp => hk.own (h.vers i p hp) (hT _ (by decide)), fun i p hp => hk.own (h.bufs i p hp) (hT _ (by decide)), h.dk, h.dt⟩
theorem StoM.alloc (h : StoM B w bs clock kv tv ck ct) (o : Obj) : StoM B (w.alloc o) bs clock kv tv ck ct :=
  ⟨h.base, alloc_keep h.blk o, h.keys.alloc o, h.txs.alloc o, fun i p hp => (h.vers i p hp).alloc o, fun i p hp => (h.bufs i p hp).alloc o, h.dk, h.dt⟩
theorem StoM.drewN (h : StoM B w bs clock kv tv ck ct) (n : Nat) : StoM B (w.drewN n) bs clock kv tv ck ct := ⟨h.base, h.blk, h.keys, h.txs, h.vers, h.bufs, h.dk, h.dt⟩
theorem StoM.drew (h : StoM B w bs clock kv tv ck ct) : StoM B w.drew bs clock kv tv ck ct := ⟨h.base, h.blk, h.keys, h.txs, h.vers, h.bufs, h.dk, h.dt⟩
theorem StoM.c0 (h : StoM B w bs clock kv tv ck ct) : w.cell? ⟨bs, 0, none⟩ = some (.int .i64 clock) := by have := cell_of_row w bs 0 _ _ _ h.blk; simpa using this
theorem StoM.c1 (h : StoM B w bs clock kv tv ck ct) : w.cell? ⟨bs, 1, none⟩ = some kv := by have := cell_of_row w bs 1 _ _ _ h.blk; simpa using this
theorem StoM.c2 (h : StoM B w bs clock kv tv ck ct) : w.cell? ⟨bs, 2, none⟩ = some tv := by have := cell_of_row w bs 2 _ _ _ h.blk; simpa using this
theorem StoM.fz (h : StoM B w bs clock kv tv ck ct) (j : Nat) : w.frozen? ⟨bs, j, none⟩ = false := frozen_of_row w bs j _ _ h.blk
theorem StoM.lt (h : StoM B w bs clock kv tv ck ct) : bs < w.heap.size := blk_lt h.blk
end

/-- the cells of element i of an owned row of structs -/
theorem row_cell {α : Type} {f : α → List Value} {sz : Nat} (hf : ∀ a, (f a).length = sz) {w : World} {B : Nat} {e : TypeId} {g n cap : Nat} {l : List α} (h : w.ownsRow B e sz (.slice (some ⟨g, 0, none⟩) n cap) n (l.flatMap f)) {i : Nat} {a : α} (hi : l[i]? = some a) {j : Nat} (hj : j < sz) {u : Value} (hu : (f a)[j]? = some u) : w.cell? ⟨g, i * sz + j, none⟩ = some u :=
  own_cell h _ _ (by rw [flat_at f sz hf l i a hi j hj]; exact hu)
/-- one cell of element i written -/
theorem row_set {α : Type} {f : α → List Value} {sz : Nat} (hf : ∀ a, (f a).length = sz) {w : World} {B : Nat} {e : TypeId} {g n cap : Nat} {l : List α} (h : w.ownsRow B e sz (.slice (some ⟨g, 0, none⟩) n cap) n (l.flatMap f)) {i : Nat} {a a' : α} (hi : l[i]? = some a) {j : Nat} (hj : j < sz) {u : Value} (he : f a' = (f a).set j u) : (w.setCell ⟨g, i * sz + j, none⟩ u).ownsRow B e sz (.slice (some ⟨g, 0, none⟩) n cap) n ((l.set i a').flatMap f) := by
  rw [← flat_set f sz hf l i a a' hi j u hj he]
  exact (h.stored _ _).1
theorem flat_same {α : Type} (f : α → List Value) (l : List α) : ∀ (i : Nat) (a a' : α), l[i]? = some a → f a' = f a → (l.set i a').flatMap f = l.flatMap f := by
  induction l with
  | nil => intro i a a' h; simp at h
  | cons b l ih =>
    intro i a a' h he
    cases i with
    | zero => simp at h; subst h; simp [he]
    | succ i => simp [ih i a a' (by simpa using h) he]

theorem set_get {α : Type} {l : List α} {i j : Nat} {a p : α} (h : (l.set i a)[j]? = some p) : (j = i ∧ p = a) ∨ (j ≠ i ∧ l[j]? = some p) := by
  rw [List.getElem?_set] at h
  by_cases hj : i = j
  · subst hj
    simp only [if_true] at h
    split at h
    · simp at h; exact .inl ⟨rfl, h.symm⟩
    · cases h
  · simp only [hj, if_false] at h
    exact .inr ⟨fun e => hj e.symm, h⟩

/-- one transaction's buffer has been written or has moved; its header is not yet stored -/
theorem StoM.bufRow {B : Nat} {w : World} {bs : Nat} {clock : Int} {kv tv : Value} {ck : List (KH × Value)} {ct : List (Txn × Value)} (h : StoM B w bs clock kv tv ck ct) {i : Nat} {t : Txn} {hd : Value} (hp : ct[i]? = some (t, hd)) {w1 : World} (hg : w.grownBy w1 hd.ownBlock) :
    w1.heap[bs]? = some (.cells #[.int .i64 clock, kv, tv] 72 (0, 0)) ∧ w1.ownsRow B 80 2 kv ck.length (ck.flatMap khC) ∧ w1.ownsRow B 109 4 tv ct.length (ct.flatMap txC) ∧
    (∀ (j : Nat) (p : KH × Value), ck[j]? = some p → w1.ownsRow B 82 3 p.2 p.1.vers.length (verCells p.1.vers)) ∧
    (∀ (j : Nat) (p : Txn × Value), j ≠ i → ct[j]? = some p → w1.ownsRow B 111 3 p.2 p.1.buf.length (wrCells p.1.buf)) := by
  have ht : RowTy w hd.ownBlock 111 := RowTy.of_own (h.bufs i _ hp)
  exact ⟨blk_ty hg ht h.blk (by decide), own_ty hg ht h.keys (by decide), own_ty hg ht h.txs (by decide), fun j p hj => own_ty hg ht (h.vers j p hj) (by decide),
    fun j p hji hj => own_ne hg (h.bufs j p hj) (h.dt j i p _ hji hj hp)⟩

/-- .. in place: the header is as it was -/
theorem StoM.bufPut {B : Nat} {w : World} {bs : Nat} {clock : Int} {kv tv : Value} {ck : List (KH × Value)} {ct : List (Txn × Value)} (h : StoM B w bs clock kv tv ck ct) {i : Nat} {t : Txn} {hd : Value} (hp : ct[i]? = some (t, hd)) {w1 : World} (hg : w.grownBy w1 hd.ownBlock) {b' : List Wr} (hown : w1.ownsRow B 111 3 hd b'.length (wrCells b')) :
    StoM B w1 bs clock kv tv ck (ct.set i (⟨t.id, t.active, t.snap, b'⟩, hd)) := by
  obtain ⟨h1, h2, h3, h4, h5⟩ := h.bufRow hp hg
  refine ⟨h.base, h1, h2, ?_, h4, ?_, h.dk, h.dt.set i _ (fun j q hj hq => h.dt i j (t, hd) q (fun e => hj e.symm) hp hq)⟩
  · rw [List.length_set, flat_same txC ct i (t, hd) (⟨t.id, t.active, t.snap, b'⟩, hd) hp rfl]; exact h3
  · intro j p hj
    rcases set_get hj with ⟨rfl, rfl⟩ | ⟨hji, hj'⟩
    · exact hown
    · exact h5 j p hji hj'

/-- .. and the new header stored into the row of transactions -/
theorem StoM.bufMove {B : Nat} {w : World} {bs : Nat} {clock : Int} {kv tv : Value} {ck : List (KH × Value)} {ct : List (Txn × Value)} (h : StoM B w bs clock kv tv ck ct) {i : Nat} {t : Txn} {hd : Value} (hp : ct[i]? = some (t, hd)) {w1 : World} (hg : w.grownBy w1 hd.ownBlock) {b' : List Wr} {hd' : Value} (hown : w1.ownsRow B 111 3 hd' b'.length (wrCells b'))
    (hat : hd'.ownBlock = hd.ownBlock ∨ hd'.ownBlock = some w.heap.size) {gt tcap : Nat} (htv : tv = .slice (some ⟨gt, 0, none⟩) ct.length tcap) :
    StoM B (w1.setCell ⟨gt, i * 4 + 3, none⟩ hd') bs clock kv tv ck (ct.set i (⟨t.id, t.active, t.snap, b'⟩, hd')) := by
  obtain ⟨h1, h2, h3, h4, h5⟩ := h.bufRow hp hg
  have ht : RowTy w1 (some gt) 109 := by have := RowTy.of_own h3; rw [htv] at this; exact this
  have hg2 := set_grown w1 gt (i * 4 + 3) hd'
  refine ⟨h.base, blk_ty hg2 ht h1 (by decide), own_ty hg2 ht h2 (by decide), ?_, fun j p hj => own_ty hg2 ht (h4 j p hj) (by decide), ?_, h.dk, h.dt.set i _ ?_⟩
  · rw [List.length_set, htv]
    rw [htv] at h3
    exact row_set txC_len h3 hp (by omega) rfl
  · intro j p hj
    rcases set_get hj with ⟨rfl, rfl⟩ | ⟨hji, hj'⟩
    · exact own_ty hg2 ht hown (by decide)
    · exact own_ty hg2 ht (h5 j p hji hj') (by decide)
  · intro j q hj hq
    rcases hat with e | e
    · show hd'.ownBlock = none ∨ hd'.ownBlock ≠ q.2.ownBlock
      rw [e]; exact h.dt i j (t, hd) q (fun e => hj e.symm) hp hq
    · right
      show hd'.ownBlock ≠ q.2.ownBlock
      rw [e]
      intro hq'
      have := (own_lt (h.bufs j q hq) hq'.symm).2
      omega


theorem StoM.other {B : Nat} {w w' : World} {bs : Nat} {clock : Int} {kv tv : Value} {ck : List (KH × Value)} {ct : List (Txn × Value)} (h : StoM B w bs clock kv tv ck ct) {row : Option Nat} {e : TypeId} (hg : w.grownBy w' row) (ht : RowTy w row e) (he : e ∉ stoT) : StoM B w' bs clock kv tv ck ct := by
  have ne : ∀ e', e' ∈ stoT → e' ≠ e := fun e' h' q => he (by rw [← q]; exact h')
  exact ⟨h.base, blk_ty hg ht h.blk (ne _ (by decide)), own_ty hg ht h.keys (ne _ (by decide)), own_ty hg ht h.txs (ne _ (by decide)), fun i p hp => own_ty hg ht (h.vers i p hp) (ne _ (by decide)), fun i p hp => own_ty hg ht (h.bufs i p hp) (ne _ (by decide)), h.dk, h.dt⟩

/-- a cell of a block of another element type than the store's is written -/
theorem StoM.put {B : Nat} {w : World} {bs : Nat} {clock : Int} {kv tv : Value} {ck : List (KH × Value)} {ct : List (Txn × Value)} (h : StoM B w bs clock kv tv ck ct) {g j : Nat} {c : Array Value} {e : TypeId} {f : Nat × Nat} (hb : w.heap[g]? = some (.cells c e f)) (he : e ∉ stoT) (u : Value) : StoM B (w.setCell ⟨g, j, none⟩ u) bs clock kv tv ck ct :=
  h.other (set_grown w g j u) (fun k hk => by simp at hk; subst hk; exact ⟨c, f, hb⟩) he

/-- a transaction is added: the row, and then its header stored -/
theorem StoM.txAdd {B : Nat} {w : World} {bs : Nat} {clock : Int} {kv tv : Value} {ck : List (KH × Value)} {ct : List (Txn × Value)} (h : StoM B w bs clock kv tv ck ct) {w1 : World} (hg : w.grownBy w1 tv.ownBlock) (p : Txn × Value) {tv' : Value} (hown : w1.ownsRow B 109 4 tv' (ct ++ [p]).length ((ct ++ [p]).flatMap txC))
    (hp : w1.ownsRow B 111 3 p.2 p.1.buf.length (wrCells p.1.buf)) (hpn : p.2.ownBlock = none) :
    StoM B (w1.setCell ⟨bs, 2, none⟩ tv') bs clock kv tv' ck (ct ++ [p]) := by
  have ht := RowTy.of_own h.txs
  have b1 := blk_ty hg ht h.blk (by decide)
  have hg2 := set_grown w1 bs 2 tv'
  have ht2 : RowTy w1 (some bs) 72 := fun k hk => by simp at hk; subst hk; exact ⟨_, _, b1⟩
  refine ⟨h.base, ?_, own_ty hg2 ht2 (own_ty hg ht h.keys (by decide)) (by decide), own_ty hg2 ht2 hown (by decide), fun i q hq => own_ty hg2 ht2 (own_ty hg ht (h.vers i q hq) (by decide)) (by decide), ?_, h.dk, h.dt.snoc p (fun j q hq => .inl hpn)⟩
  · have := heap_setCell_same w1 bs 2 _ _ tv' b1
    simpa using this
  · intro i q hq
    by_cases hi : i < ct.length
    · rw [List.getElem?_append_left hi] at hq
      exact own_ty hg2 ht2 (own_ty hg ht (h.bufs i q hq) (by decide)) (by decide)
    · rw [List.getElem?_append_right (by omega)] at hq
      cases hz : i - ct.length with
      | zero => rw [hz] at hq; simp at hq; subst hq; exact own_ty hg2 ht2 hp (by decide)
      | succ n => rw [hz] at hq; simp at hq

/-- one cell of one transaction is written -/
theorem StoM.txSet {B : Nat} {w : World} {bs : Nat} {clock : Int} {kv : Value} {ck : List (KH × Value)} {ct : List (Txn × Value)} {g cap : Nat} (h : StoM B w bs clock kv (.slice (some ⟨g, 0, none⟩) ct.length cap) ck ct) {i : Nat} {p p' : Txn × Value} (hp : ct[i]? = some p) {j : Nat} (hj : j < 4) {u : Value} (he : txC p' = (txC p).set j u)
    (hb : w.ownsRow B 111 3 p'.2 p'.1.buf.length (wrCells p'.1.buf)) (hd : p'.2.ownBlock = none ∨ p'.2.ownBlock = p.2.ownBlock) :
    StoM B (w.setCell ⟨g, i * 4 + j, none⟩ u) bs clock kv (.slice (some ⟨g, 0, none⟩) ct.length cap) ck (ct.set i p') := by
  have ht : RowTy w (some g) 109 := RowTy.of_own (v := .slice (some ⟨g, 0, none⟩) ct.length cap) h.txs
  have hg := set_grown w g (i * 4 + j) u
  refine ⟨h.base, blk_ty hg ht h.blk (by decide), own_ty hg ht h.keys (by decide), ?_, fun k q hq => own_ty hg ht (h.vers k q hq) (by decide), ?_, h.dk, h.dt.set i p' (fun k q hk hq => ?_)⟩
  · rw [List.length_set]; exact row_set txC_len h.txs hp hj he
  · intro k q hq
    rcases set_get hq with ⟨rfl, rfl⟩ | ⟨hki, hq'⟩
    · exact own_ty hg ht hb (by decide)
    · exact own_ty hg ht (h.bufs k q hq') (by decide)
  · rcases hd with e | e
    · exact .inl e
    · rw [e]; exact h.dt i k p q (fun e => hk e.symm) hp hq

theorem StoM.clockSet {B : Nat} {w : World} {bs : Nat} {clock : Int} {kv tv : Value} {ck : List (KH × Value)} {ct : List (Txn × Value)} (h : StoM B w bs clock kv tv ck ct) (c : Int) : StoM B (w.setCell ⟨bs, 0, none⟩ (.int .i64 c)) bs c kv tv ck ct := by
  have hg := set_grown w bs 0 (.int .i64 c)
  have ht : RowTy w (some bs) 72 := fun k hk => by simp at hk; subst hk; exact ⟨_, _, h.blk⟩
  refine ⟨h.base, ?_, own_ty hg ht h.keys (by decide), own_ty hg ht h.txs (by decide), fun i p hp => own_ty hg ht (h.vers i p hp) (by decide), fun i p hp => own_ty hg ht (h.bufs i p hp) (by decide), h.dk, h.dt⟩
  have := heap_setCell_same w bs 0 _ _ (.int .i64 c) h.blk
  simpa using this

/-- a key is added: the row, and then its header stored -/
theorem StoM.keyAdd {B : Nat} {w : World} {bs : Nat} {clock : Int} {kv tv : Value} {ck : List (KH × Value)} {ct : List (Txn × Value)} (h : StoM B w bs clock kv tv ck ct) {w1 : World} (hg : w.grownBy w1 kv.ownBlock) (p : KH × Value) {kv' : Value} (hown : w1.ownsRow B 80 2 kv' (ck ++ [p]).length ((ck ++ [p]).flatMap khC))
    (hp : w1.ownsRow B 82 3 p.2 p.1.vers.length (verCells p.1.vers)) (hpn : p.2.ownBlock = none) :
    StoM B (w1.setCell ⟨bs, 1, none⟩ kv') bs clock kv' tv (ck ++ [p]) ct := by
  have ht := RowTy.of_own h.keys
  have b1 := blk_ty hg ht h.blk (by decide)
  have hg2 := set_grown w1 bs 1 kv'
  have ht2 : RowTy w1 (some bs) 72 := fun k hk => by simp at hk; subst hk; exact ⟨_, _, b1⟩
  refine ⟨h.base, ?_, own_ty hg2 ht2 hown (by decide), own_ty hg2 ht2 (own_ty hg ht h.txs (by decide)) (by decide), ?_, fun i q hq => own_ty hg2 ht2 (own_ty hg ht (h.bufs i q hq) (by decide)) (by decide), h.dk.snoc p (fun j q hq => .inl hpn), h.dt⟩
  · have := heap_setCell_same w1 bs 1 _ _ kv' b1
    simpa using this
  · intro i q hq
    by_cases hi : i < ck.length
    · rw [List.getElem?_append_left hi] at hq
      exact own_ty hg2 ht2 (own_ty hg ht (h.vers i q hq) (by decide)) (by decide)
    · rw [List.getElem?_append_right (by omega)] at hq
      cases hz : i - ck.length with
      | zero => rw [hz] at hq; simp at hq; subst hq; exact own_ty hg2 ht2 hp (by decide)
      | succ n => rw [hz] at hq; simp at hq

theorem StoM.versRow {B : Nat} {w : World} {bs : Nat} {clock : Int} {kv tv : Value} {ck : List (KH × Value)} {ct : List (Txn × Value)} (h : StoM B w bs clock kv tv ck ct) {i : Nat} {p : KH × Value} (hp : ck[i]? = some p) {w1 : World} (hg : w.grownBy w1 p.2.ownBlock) :
    w1.heap[bs]? = some (.cells #[.int .i64 clock, kv, tv] 72 (0, 0)) ∧ w1.ownsRow B 80 2 kv ck.length (ck.flatMap khC) ∧ w1.ownsRow B 109 4 tv ct.length (ct.flatMap txC) ∧
    (∀ (j : Nat) (q : Txn × Value), ct[j]? = some q → w1.ownsRow B 111 3 q.2 q.1.buf.length (wrCells q.1.buf)) ∧
    (∀ (j : Nat) (q : KH × Value), j ≠ i → ck[j]? = some q → w1.ownsRow B 82 3 q.2 q.1.vers.length (verCells q.1.vers)) := by
  have ht : RowTy w p.2.ownBlock 82 := RowTy.of_own (h.vers i _ hp)
  exact ⟨blk_ty hg ht h.blk (by decide), own_ty hg ht h.keys (by decide), own_ty hg ht h.txs (by decide), fun j q hj => own_ty hg ht (h.bufs j q hj) (by decide),
    fun j q hji hj => own_ne hg (h.vers j q hj) (h.dk j i q _ hji hj hp)⟩

/-- a key's versions have grown, and the new header is stored into the row of keys -/
theorem StoM.versMove {B : Nat} {w : World} {bs : Nat} {clock : Int} {kv tv : Value} {ck : List (KH × Value)} {ct : List (Txn × Value)} (h : StoM B w bs clock kv tv ck ct) {i : Nat} {p : KH × Value} (hp : ck[i]? = some p) {w1 : World} (hg : w.grownBy w1 p.2.ownBlock) {vs' : List Ver} {hd' : Value} (hown : w1.ownsRow B 82 3 hd' vs'.length (verCells vs'))
    (hat : hd'.ownBlock = p.2.ownBlock ∨ hd'.ownBlock = some w.heap.size) {gk kcap : Nat} (hkv : kv = .slice (some ⟨gk, 0, none⟩) ck.length kcap) :
    StoM B (w1.setCell ⟨gk, i * 2 + 1, none⟩ hd') bs clock kv tv (ck.set i (⟨p.1.key, vs'⟩, hd')) ct := by
  obtain ⟨h1, h2, h3, h4, h5⟩ := h.versRow hp hg
  have ht : RowTy w1 (some gk) 80 := by have := RowTy.of_own h2; rw [hkv] at this; exact this
  have hg2 := set_grown w1 gk (i * 2 + 1) hd'
  refine ⟨h.base, blk_ty hg2 ht h1 (by decide), ?_, own_ty hg2 ht h3 (by decide), ?_, fun j q hj => own_ty hg2 ht (h4 j q hj) (by decide), h.dk.set i _ ?_, h.dt⟩
  · rw [List.length_set, hkv]
    rw [hkv] at h2
    exact row_set khC_len h2 hp (by omega) rfl
  · intro j q hj
    rcases set_get hj with ⟨rfl, rfl⟩ | ⟨hji, hj'⟩
    · exact own_ty hg2 ht hown (by decide)
    · exact own_ty hg2 ht (h5 j q hji hj') (by decide)
  · intro j q hj hq
    rcases hat with e | e
    · show hd'.ownBlock = none ∨ hd'.ownBlock ≠ q.2.ownBlock
      rw [e]; exact h.dk i j p q (fun e => hj e.symm) hp hq
    · right
      show hd'.ownBlock ≠ q.2.ownBlock
      rw [e]
      intro hq'
      have := (own_lt (h.vers j q hq) hq'.symm).2
      omega
end Go.Proofs.Yafahw
