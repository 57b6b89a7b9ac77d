/- The model's world in memory: the struct's block, the rows of transactions and of the log, the rows of writes. -/
import Derived.Test.YafahwStepRead
namespace Go.Proofs.Yafahw
open Go.RowKit
set_option linter.unusedVariables false

/-- two headers that lead to no common block -/
def Apart (u v : Value) : Prop := u.ownBlock = none ∨ u.ownBlock ≠ v.ownBlock
theorem Apart.symm {u v : Value} (h : Apart u v) : Apart v u := by
  rcases h with h | h
  · rcases hv : v.ownBlock with _ | g
    · exact .inl hv
    · right; rw [hv, h]; simp
  · exact .inr (fun e => h e.symm)

structure WldM (B : Nat) (w : World) (bw : Nat) (tv lv : Value) (ct : List (Txn × Value)) (cl : List (CR × Value)) : Prop where
  base : B ≤ bw
  blk : w.heap[bw]? = some (.cells #[tv, lv] 77 (0, 0))
  txs : w.ownsRow B 115 4 tv ct.length (ct.flatMap txC)
  log : w.ownsRow B 86 2 lv cl.length (cl.flatMap crC)
  bufs : ∀ (i : Nat) (p : Txn × Value), ct[i]? = some p → p.1.active = true → w.ownsRow B 100 3 p.2 p.1.buf.length (wrCells p.1.buf)
  lws : ∀ (i : Nat) (p : CR × Value), cl[i]? = some p → w.ownsRow B 100 3 p.2 p.1.writes.length (wrCells p.1.writes)
  dt : ∀ (i j : Nat) (p q : Txn × Value), i ≠ j → ct[i]? = some p → ct[j]? = some q → p.1.active = true → q.1.active = true → Apart p.2 q.2
  dl : ∀ (i j : Nat) (p : Txn × Value) (q : CR × Value), ct[i]? = some p → p.1.active = true → cl[j]? = some q → Apart p.2 q.2
def wldT : List TypeId := [77, 115, 86, 100]

section
variable {B : Nat} {w : World} {bw : Nat} {tv lv : Value} {ct : List (Txn × Value)} {cl : List (CR × Value)}
theorem WldM.lt (h : WldM B w bw tv lv ct cl) : bw < w.heap.size := blk_lt h.blk
theorem WldM.below {w' : World} (h : WldM B w bw tv lv ct cl) (hb : Below w.heap.size w w') : WldM B w' bw tv lv ct cl :=
  ⟨h.base, by rw [hb.block bw h.lt]; exact h.blk, own_below h.txs hb (Nat.le_refl _), own_below h.log hb (Nat.le_refl _), fun i p hp ha => own_below (h.bufs i p hp ha) hb (Nat.le_refl _), fun i p hp => own_below (h.lws i p hp) hb (Nat.le_refl _), h.dt, h.dl⟩
theorem WldM.ty {w' : World} {row : Option Nat} {e : TypeId} (h : WldM B w bw tv lv ct cl) (hg : w.grownBy w' row) (ht : RowTy w row e) (he : ∀ t ∈ wldT, t ≠ e) : WldM B w' bw tv lv ct cl :=
  ⟨h.base, blk_ty hg ht h.blk (he _ (by decide)), own_ty hg ht h.txs (he _ (by decide)), own_ty hg ht h.log (he _ (by decide)), fun i p hp ha => own_ty hg ht (h.bufs i p hp ha) (he _ (by decide)), fun i p hp => own_ty hg ht (h.lws i p hp) (he _ (by decide)), h.dt, h.dl⟩
theorem WldM.alloc (h : WldM B w bw tv lv ct cl) (o : Obj) : WldM B (w.alloc o) bw tv lv ct cl := h.below ((Below.refl _ _).alloc (Nat.le_refl _) o)
theorem WldM.drewN (h : WldM B w bw tv lv ct cl) (n : Nat) : WldM B (w.drewN n) bw tv lv ct cl := ⟨h.base, h.blk, h.txs, h.log, h.bufs, h.lws, h.dt, h.dl⟩
theorem WldM.drew (h : WldM B w bw tv lv ct cl) : WldM B w.drew bw tv lv ct cl := ⟨h.base, h.blk, h.txs, h.log, h.bufs, h.lws, h.dt, h.dl⟩
theorem WldM.c0 (h : WldM B w bw tv lv ct cl) : w.cell? ⟨bw, 0, none⟩ = some tv := by have := cell_of_row w bw 0 _ _ _ h.blk; simpa using this
theorem WldM.c1 (h : WldM B w bw tv lv ct cl) : w.cell? ⟨bw, 1, none⟩ = some lv := by have := cell_of_row w bw 1 _ _ _ h.blk; simpa using this
theorem WldM.fz (h : WldM B w bw tv lv ct cl) (j : Nat) : w.frozen? ⟨bw, j, none⟩ = false := frozen_of_row w bw j _ _ h.blk
theorem WldM.put {r : Nat} {c : Array Value} {e : TypeId} {f : Nat × Nat} (h : WldM B w bw tv lv ct cl) (hr : w.heap[r]? = some (.cells c e f)) (he : ∀ t ∈ wldT, t ≠ e) (j : Nat) (u : Value) : WldM B (w.setCell ⟨r, j, none⟩ u) bw tv lv ct cl :=
  h.ty (set_grown w r j u) (fun k hk => by simp at hk; subst hk; exact ⟨_, _, hr⟩) he

/-- a transaction is added: the row, and then its header stored -/
theorem WldM.txAdd (h : WldM B w bw tv lv ct cl) {w1 : World} (hg : w.grownBy w1 tv.ownBlock) (p : Txn × Value) {tv' : Value} (hown : w1.ownsRow B 115 4 tv' (ct ++ [p]).length ((ct ++ [p]).flatMap txC))
    (hp : w1.ownsRow B 100 3 p.2 p.1.buf.length (wrCells p.1.buf)) (hpn : p.2.ownBlock = none) :
    WldM B (w1.setCell ⟨bw, 0, none⟩ tv') bw tv' lv (ct ++ [p]) cl := by
  have ht := RowTy.of_own h.txs
  have b1 := blk_ty hg ht h.blk (by decide)
  have hg2 := set_grown w1 bw 0 tv'
  have ht2 : RowTy w1 (some bw) 77 := fun k hk => by simp at hk; subst hk; exact ⟨_, _, b1⟩
  have one : ∀ (j : Nat) (z : Txn × Value), (ct ++ [p])[j]? = some z → (ct[j]? = some z) ∨ z = p := by
    intro j z hz
    by_cases hj : j < ct.length
    · left; rwa [List.getElem?_append_left hj] at hz
    · right
      rw [List.getElem?_append_right (by omega)] at hz
      cases hq : j - ct.length with
      | zero => rw [hq] at hz; simp at hz; exact hz.symm
      | succ n => rw [hq] at hz; simp at hz
  refine ⟨h.base, ?_, own_ty hg2 ht2 hown (by decide), own_ty hg2 ht2 (own_ty hg ht h.log (by decide)) (by decide), ?_, fun i q hq => own_ty hg2 ht2 (own_ty hg ht (h.lws i q hq) (by decide)) (by decide), ?_, ?_⟩
  · have := heap_setCell_same w1 bw 0 _ _ tv' b1
    simpa using this
  · intro i q hq ha
    rcases one i q hq with hq | rfl
    · exact own_ty hg2 ht2 (own_ty hg ht (h.bufs i q hq ha) (by decide)) (by decide)
    · exact own_ty hg2 ht2 hp (by decide)
  · intro i j x y hij hx hy hxa hya
    rcases one i x hx with hx' | rfl
    · rcases one j y hy with hy' | rfl
      · exact h.dt i j x y hij hx' hy' hxa hya
      · exact Apart.symm (.inl hpn)
    · exact .inl hpn
  · intro i j x y hx hxa hy
    rcases one i x hx with hx' | rfl
    · exact h.dl i j x y hx' hxa hy
    · exact .inl hpn

/-- an active transaction's writes have grown, and the new header is stored into the row of transactions -/
theorem WldM.bufGrow (h : WldM B w bw tv lv ct cl) {i : Nat} {t : Txn} {hd : Value} (hp : ct[i]? = some (t, hd)) (hact : t.active = true) {w1 : World} (hg : w.grownBy w1 hd.ownBlock) {b' : List Wr} {hd' : Value} (hown : w1.ownsRow B 100 3 hd' b'.length (wrCells b'))
    (hat : hd'.ownBlock = hd.ownBlock ∨ hd'.ownBlock = some w.heap.size) {gt tcap : Nat} (htv : tv = .slice (some ⟨gt, 0, none⟩) ct.length tcap) :
    WldM B (w1.setCell ⟨gt, i * 4 + 3, none⟩ hd') bw tv lv (ct.set i (⟨t.id, t.active, t.snap, b'⟩, hd')) cl := by
  have ht : RowTy w hd.ownBlock 100 := RowTy.of_own (h.bufs i _ hp hact)
  have h1 := blk_ty hg ht h.blk (by decide)
  have h2 := own_ty hg ht h.txs (by decide)
  have h3 := own_ty hg ht h.log (by decide)
  have ht2 : RowTy w1 (some gt) 115 := by have := RowTy.of_own h2; rw [htv] at this; exact this
  have hg2 := set_grown w1 gt (i * 4 + 3) hd'
  have far : ∀ v : Value, (∀ g, v.ownBlock = some g → g < w.heap.size) → Apart hd v → Apart hd' v := by
    intro v hv ha
    rcases hat with e | e
    · unfold Apart; rw [e]; exact ha
    · right; rw [e]; intro q; have := hv _ q.symm; omega
  refine ⟨h.base, blk_ty hg2 ht2 h1 (by decide), ?_, own_ty hg2 ht2 h3 (by decide), ?_, ?_, ?_, ?_⟩
  · rw [List.length_set, htv]
    rw [htv] at h2
    exact row_set txC_len h2 hp (by omega) rfl
  · intro j q hj ha
    rcases set_get hj with ⟨rfl, rfl⟩ | ⟨hji, hj'⟩
    · exact own_ty hg2 ht2 hown (by decide)
    · exact own_ty hg2 ht2 (own_ne hg (h.bufs j q hj' ha) (h.dt j i q _ hji hj' hp ha hact)) (by decide)
  · intro j q hj
    exact own_ty hg2 ht2 (own_ne hg (h.lws j q hj) (h.dl i j _ q hp hact hj).symm) (by decide)
  · intro a b x y hab hx hy hxa hya
    rcases set_get hx with ⟨rfl, rfl⟩ | ⟨hai, hx'⟩ <;> rcases set_get hy with ⟨rfl, rfl⟩ | ⟨hbi, hy'⟩
    · exact absurd rfl hab
    · exact far y.2 (fun g hgg => (own_lt (h.bufs b y hy' hya) hgg).2) (h.dt a b _ y hab hp hy' hact hya)
    · exact (far x.2 (fun g hgg => (own_lt (h.bufs a x hx' hxa) hgg).2) (h.dt b a _ x (fun e => hab e.symm) hp hx' hact hxa)).symm
    · exact h.dt a b x y hab hx' hy' hxa hya
  · intro a b x y hx hxa hy
    rcases set_get hx with ⟨rfl, rfl⟩ | ⟨hai, hx'⟩
    · exact far y.2 (fun g hgg => (own_lt (h.lws b y hy) hgg).2) (h.dl a b _ y hp hact hy)
    · exact h.dl a b x y hx' hxa hy

/-- a transaction is ended -/
theorem WldM.off (h : WldM B w bw tv lv ct cl) {i : Nat} {t : Txn} {hd : Value} (hp : ct[i]? = some (t, hd)) {gt tcap : Nat} (htv : tv = .slice (some ⟨gt, 0, none⟩) ct.length tcap) :
    WldM B (w.setCell ⟨gt, i * 4 + 1, none⟩ (.bool false)) bw tv lv (ct.set i (⟨t.id, false, t.snap, t.buf⟩, hd)) cl := by
  have ht2 : RowTy w (some gt) 115 := by have := RowTy.of_own h.txs; rw [htv] at this; exact this
  have hg2 := set_grown w gt (i * 4 + 1) (.bool false)
  have htx := h.txs
  rw [htv] at htx
  refine ⟨h.base, blk_ty hg2 ht2 h.blk (by decide), ?_, own_ty hg2 ht2 h.log (by decide), ?_, fun j q hj => own_ty hg2 ht2 (h.lws j q hj) (by decide), ?_, ?_⟩
  · rw [List.length_set, htv]
    exact row_set txC_len htx hp (by omega) rfl
  · intro j q hj ha
    rcases set_get hj with ⟨rfl, rfl⟩ | ⟨hji, hj'⟩
    · simp at ha
    · exact own_ty hg2 ht2 (h.bufs j q hj' ha) (by decide)
  · intro a b x y hab hx hy hxa hya
    rcases set_get hx with ⟨rfl, rfl⟩ | ⟨hai, hx'⟩
    · simp at hxa
    rcases set_get hy with ⟨rfl, rfl⟩ | ⟨hbi, hy'⟩
    · simp at hya
    exact h.dt a b x y hab hx' hy' hxa hya
  · intro a b x y hx hxa hy
    rcases set_get hx with ⟨rfl, rfl⟩ | ⟨hai, hx'⟩
    · simp at hxa
    · exact h.dl a b x y hx' hxa hy

/-- a commit is logged: the row, and then its header stored -/
theorem WldM.logAdd (h : WldM B w bw tv lv ct cl) {w1 : World} (hg : w.grownBy w1 lv.ownBlock) (c : CR × Value) {lv' : Value} (hown : w1.ownsRow B 86 2 lv' (cl ++ [c]).length ((cl ++ [c]).flatMap crC))
    (hc : w.ownsRow B 100 3 c.2 c.1.writes.length (wrCells c.1.writes)) (hap : ∀ (j : Nat) (q : Txn × Value), ct[j]? = some q → q.1.active = true → Apart q.2 c.2) :
    WldM B (w1.setCell ⟨bw, 1, none⟩ lv') bw tv lv' ct (cl ++ [c]) := by
  have ht := RowTy.of_own h.log
  have b1 := blk_ty hg ht h.blk (by decide)
  have hg2 := set_grown w1 bw 1 lv'
  have ht2 : RowTy w1 (some bw) 77 := fun k hk => by simp at hk; subst hk; exact ⟨_, _, b1⟩
  have one : ∀ (j : Nat) (z : CR × Value), (cl ++ [c])[j]? = some z → (cl[j]? = some z) ∨ z = c := by
    intro j z hz
    by_cases hj : j < cl.length
    · left; rwa [List.getElem?_append_left hj] at hz
    · right
      rw [List.getElem?_append_right (by omega)] at hz
      cases hq : j - cl.length with
      | zero => rw [hq] at hz; simp at hz; exact hz.symm
      | succ n => rw [hq] at hz; simp at hz
  refine ⟨h.base, ?_, own_ty hg2 ht2 (own_ty hg ht h.txs (by decide)) (by decide), own_ty hg2 ht2 hown (by decide), fun i q hq ha => own_ty hg2 ht2 (own_ty hg ht (h.bufs i q hq ha) (by decide)) (by decide), ?_, h.dt, ?_⟩
  · have := heap_setCell_same w1 bw 1 _ _ lv' b1
    simpa using this
  · intro i q hq
    rcases one i q hq with hq | rfl
    · exact own_ty hg2 ht2 (own_ty hg ht (h.lws i q hq) (by decide)) (by decide)
    · exact own_ty hg2 ht2 (own_ty hg ht hc (by decide)) (by decide)
  · intro i j x y hx hxa hy
    rcases one j y hy with hy' | rfl
    · exact h.dl i j x y hx hxa hy'
    · exact hap i x hx hxa
end

def WldAt (B : Nat) (w : World) (bw : Nat) (s : Wld) : Prop := ∃ tv lv ct cl, WldM B w bw tv lv ct cl ∧ ct.map (·.1) = s.txs ∧ cl.map (·.1) = s.log
def StepPostS (B : Nat) (w : World) (bw : Nat) (s' : Wld) (w' : World) : Prop := WldAt B w' bw s' ∧ Keep B wldT w w'

set_option maxHeartbeats 1000000 in
set_option maxRecDepth 100000 in
theorem findS_any {B : Nat} {w : World} {bw : Nat} {tv lv : Value} {ct : List (Txn × Value)} {cl : List (CR × Value)} (h : WldM B w bw tv lv ct cl) (id : Int) (hn : ct.length ≤ 1000000) :
    Calls Yahh.prog 62 #[.pointer (some ⟨bw, 0, none⟩), .int .i64 id] w fun e w' => e = .returned (.int .i64 (idxI (findTx (ct.map (·.1)) id))) ∧ w' = w := by
  have c2 := h.c0
  have htx := h.txs
  obtain ⟨ad, cap, g, rfl, had⟩ := own_shape htx
  clear h
  go_enter Yahh.func62, Yahh.ntmps62
  go_wp2
  go_loopw [11] (fun i wr => SearchR w ct (fun p => p.1.id == id) i wr) (fun i _ => ct.length - (intOf i).toNat)
  case atStart => exact ⟨0, rfl, Nat.zero_le _, fun j a hj => by omega, rfl⟩
  case round =>
    obtain ⟨k, rfl, hk, hno, rfl⟩ := hrel
    by_cases hlt : k < ct.length
    · obtain ⟨p, hp⟩ : ∃ p, ct[k]? = some p := ⟨_, List.getElem?_eq_getElem hlt⟩
      obtain rfl := had (by omega)
      have hc0 := row_cell txC_len htx hp (j := 0) (by omega) rfl
      rw [Nat.add_zero] at hc0
      have Hp := hid hp
      have Hno := hid hno
      clear hp hno
      by_cases hq : (p.1.id == id) = true
      · go_wp2
        go_ret
        refine ⟨?_, rfl⟩
        rw [findTx_pairs, find_hit Hno.out Hp.out hq]
        rfl
      · have hq' : (p.1.id == id) = false := by simpa using hq
        go_wp2
        refine ⟨⟨k + 1, by go_num, by omega, ?_, rfl⟩, by simp [intOf]; omega⟩
        intro j a hj ha
        by_cases hjk : j = k
        · subst hjk; rw [Hp.out] at ha; simp at ha; subst ha; exact hq'
        · exact Hno.out j a (by omega) ha
    · obtain rfl : k = ct.length := by omega
      have Hno := hid hno
      clear hno
      go_wp2
      go_ret
      refine ⟨?_, rfl⟩
      rw [findTx_pairs, find_miss Hno.out]
      rfl
end Go.Proofs.Yafahw
