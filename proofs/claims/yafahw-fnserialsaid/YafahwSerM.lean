/- SerialModel's store, saved copy and answers in memory. -/
import Derived.Test.YafahwCells
import Derived.Test.YafahwLawRes
namespace Go.Proofs.Yafahw
open Go.RowKit
set_option linter.unusedVariables false
set_option linter.unusedSimpArgs false

structure SerM (B : Nat) (W : World) (sv vv ou : Value) (store saved : List PC) (out : List (Int × Int)) : Prop where
  st : W.ownsRow B 94 3 sv store.length (pcCells store)
  sa : W.ownsRow B 94 3 vv saved.length (pcCells saved)
  ap : Apart sv vv
  out : W.ownsRow B 37 2 ou out.length (resCells out)

/-- .. and the answer's variable in block rb -/
structure SerX (B : Nat) (W : World) (sv vv ou : Value) (store saved : List PC) (out : List (Int × Int)) (rb : Nat) (c x : Int) : Prop where
  m : SerM B W sv vv ou store saved out
  nrb : ou.ownBlock ≠ some rb
  hrb : W.heap[rb]? = some (.cells #[.int .i64 c, .int .i64 x] 37 (0, 0))
  brb : B ≤ rb

section
variable {B : Nat} {W : World} {sv vv ou : Value} {store saved : List PC} {out : List (Int × Int)} {rb : Nat} {c x : Int}
theorem SerM.alloc (h : SerM B W sv vv ou store saved out) (o : Obj) : SerM B (W.alloc o) sv vv ou store saved out :=
  ⟨h.st.alloc o, h.sa.alloc o, h.ap, h.out.alloc o⟩
theorem SerM.below {W' : World} (h : SerM B W sv vv ou store saved out) (hb : Below W.heap.size W W') : SerM B W' sv vv ou store saved out :=
  ⟨own_below h.st hb (Nat.le_refl _), own_below h.sa hb (Nat.le_refl _), h.ap, own_below h.out hb (Nat.le_refl _)⟩
theorem SerX.init (h : SerM B W sv vv ou store saved out) (hB : B ≤ W.heap.size) (o : Obj) (c x : Int) : SerX B ((W.alloc o).alloc (.cells #[.int .i64 c, .int .i64 x] 37 (0, 0))) sv vv ou store saved out (W.heap.size + 1) c x :=
  ⟨(h.alloc _).alloc _, fun e => by have := (own_lt h.out e).2; omega, alloc2c W _ _, by omega⟩
theorem SerX.below {W' : World} (h : SerX B W sv vv ou store saved out rb c x) (hb : Below W.heap.size W W') : SerX B W' sv vv ou store saved out rb c x :=
  ⟨h.m.below hb, h.nrb, by rw [hb.block rb (blk_lt h.hrb)]; exact h.hrb, h.brb⟩
theorem SerX.tyr (h : SerX B W sv vv ou store saved out rb c x) : RowTy W (some rb) 37 := fun k hk => by simp at hk; subst hk; exact ⟨_, _, h.hrb⟩
theorem SerX.setV (h : SerX B W sv vv ou store saved out rb c x) (u : Int) : SerX B (W.setCell ⟨rb, 1, none⟩ (.int .i64 u)) sv vv ou store saved out rb c u := by
  have hg := set_grown W rb 1 (.int .i64 u)
  refine ⟨⟨own_ty hg h.tyr h.m.st (by decide), own_ty hg h.tyr h.m.sa (by decide), h.m.ap, own_ne hg h.m.out (.inr h.nrb)⟩, h.nrb, ?_, h.brb⟩
  have := heap_setCell_same W rb 1 _ _ (.int .i64 u) h.hrb
  simpa using this
theorem SerX.setC (h : SerX B W sv vv ou store saved out rb c x) (u : Int) : SerX B (W.setCell ⟨rb, 0, none⟩ (.int .i64 u)) sv vv ou store saved out rb u x := by
  have hg := set_grown W rb 0 (.int .i64 u)
  refine ⟨⟨own_ty hg h.tyr h.m.st (by decide), own_ty hg h.tyr h.m.sa (by decide), h.m.ap, own_ne hg h.m.out (.inr h.nrb)⟩, h.nrb, ?_, h.brb⟩
  have := heap_setCell_same W rb 0 _ _ (.int .i64 u) h.hrb
  simpa using this
theorem SerX.cells (h : SerX B W sv vv ou store saved out rb c x) : W.cell? ⟨rb, 0, none⟩ = some (.int .i64 c) ∧ W.cell? ⟨rb, 1, none⟩ = some (.int .i64 x) ∧ W.frozen? ⟨rb, 0, none⟩ = false ∧ W.frozen? ⟨rb, 1, none⟩ = false := by
  have x0 := cell_of_row W rb 0 _ _ _ h.hrb
  have x1 := cell_of_row W rb 1 _ _ _ h.hrb
  simp at x0 x1
  exact ⟨x0, x1, frozen_of_row W _ _ _ _ h.hrb, frozen_of_row W _ _ _ _ h.hrb⟩
/-- a fresh row lies apart from the older ones -/
theorem fresh_apart {W W' : World} {B e s n n' e' s' : Nat} {u v : Value} {xs ys : List Value} (hu : W.ownsRow B e s u n xs) (hv : W'.ownsRow W.heap.size e' s' v n' ys) : Apart u v := by
  rcases hq : u.ownBlock with _ | g
  · exact .inl hq
  · right
    rw [hq]
    intro e
    have h1 := (own_lt hu hq).2
    have h2 := (own_lt hv e.symm).1
    omega
/-- Begin: a copy is saved -/
theorem SerX.save {W' : World} {v' : Value} (h : SerX B W sv vv ou store saved out rb c x) (hB : B ≤ W.heap.size) (hb : Below W.heap.size W W') (hv : W'.ownsRow W.heap.size 94 3 v' store.length (pcCells store)) : SerX B W' sv v' ou store store out rb c x := by
  have h' := h.below hb
  exact ⟨⟨h'.m.st, own_mono hv hB, fresh_apart h.m.st hv, h'.m.out⟩, h'.nrb, h'.hrb, h'.brb⟩
/-- the store is laid anew (Delete, Abort) -/
theorem SerX.anew {W' : World} {v' : Value} {store' : List PC} (h : SerX B W sv vv ou store saved out rb c x) (hB : B ≤ W.heap.size) (hb : Below W.heap.size W W') (hv : W'.ownsRow W.heap.size 94 3 v' store'.length (pcCells store')) : SerX B W' v' vv ou store' saved out rb c x := by
  have h' := h.below hb
  exact ⟨⟨own_mono hv hB, h'.m.sa, (fresh_apart h.m.sa hv).symm, h'.m.out⟩, h'.nrb, h'.hrb, h'.brb⟩
/-- the store's row has grown or been written -/
theorem SerX.grow {W' : World} {sv' : Value} {store' : List PC} (h : SerX B W sv vv ou store saved out rb c x) (hg : W.grownBy W' sv.ownBlock) (hown : W'.ownsRow B 94 3 sv' store'.length (pcCells store')) (hat : sv'.ownBlock = sv.ownBlock ∨ sv'.ownBlock = some W.heap.size) : SerX B W' sv' vv ou store' saved out rb c x := by
  have ht := RowTy.of_own h.m.st
  refine ⟨⟨hown, own_ne hg h.m.sa h.m.ap.symm, ?_, own_ty hg ht h.m.out (by decide)⟩, h.nrb, blk_ty hg ht h.hrb (by decide), h.brb⟩
  rcases hat with e | e
  · unfold Apart; rw [e]; exact h.m.ap
  · right
    rw [e]
    intro q
    have := (own_lt h.m.sa q.symm).2
    omega
/-- the answer is added -/
theorem SerM.add {W' : World} {ou' : Value} {r : Int × Int} (h : SerM B W sv vv ou store saved out) (hg : W.grownBy W' ou.ownBlock) (hown : W'.ownsRow B 37 2 ou' (out ++ [r]).length (resCells (out ++ [r]))) : SerM B W' sv vv ou' store saved (out ++ [r]) := by
  have ht := RowTy.of_own h.out
  exact ⟨own_ty hg ht h.st (by decide), own_ty hg ht h.sa (by decide), h.ap, hown⟩
end

theorem setv_len (cs : List PC) (k v : Int) : (setv cs k v).length ≤ cs.length + 1 := by
  induction cs with
  | nil => simp [setv]
  | cons c cs ih => simp only [setv]; split <;> simp; omega
structure SmallM (n : Nat) (s : SerS) : Prop where
  st : s.store.length ≤ n
  sa : s.saved.length ≤ n
  c0 : 0 ≤ s.clock
  c1 : s.clock ≤ n
theorem smallM_step {n : Nat} {s : SerS} (h : SmallM n s) (o : POp) : SmallM (n + 1) (stepM s o).1 := by
  have h1 := h.st
  have h2 := h.sa
  have h3 := h.c0
  have h4 := h.c1
  have h5 := setv_len s.store o.key o.val
  have h6 := delv_len s.store o.key
  unfold stepM
  repeat' split
  all_goals exact ⟨by simp only []; omega, by simp only []; omega, by simp only []; omega, by simp only []; omega⟩
theorem smallM_st (ops : List POp) : ∀ k, SmallM (min k 20000) (stM ops k) := by
  intro k
  induction k with
  | zero => exact ⟨Nat.le_refl _, Nat.le_refl _, by simp [stM, ser0], by simp [stM, ser0]⟩
  | succ k ih =>
    have mono : SmallM (min (k + 1) 20000) (stM ops k) := ⟨by have := ih.st; omega, by have := ih.sa; omega, ih.c0, by have := ih.c1; omega⟩
    unfold stM
    split
    · split
      · have := smallM_step ih (by assumption)
        rw [show min (k + 1) 20000 = min k 20000 + 1 from by omega]
        exact this
      · exact mono
    · exact mono
end Go.Proofs.Yafahw
