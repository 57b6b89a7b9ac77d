/- Walk: (*store).step (47), Begin. -/
import Derived.Test.YafahwStoBuf
import Derived.Test.YafahwOrders
namespace Go.Proofs.Yafahw
open Go.RowKit
set_option linter.unusedVariables false
set_option linter.unusedSimpArgs false
attribute [local go_sem ↓] Go.wp_at_zero Go.wp_at_succ

theorem Yahh.info109 : (Yahh.prog.info? 109).map (fun i => (i.zero, i.size, i.bytes)) = some (some (.agg #[.int .i64 0, .bool false, .int .i64 0, .slice none 0 0]), 4, 48) := by kernel_rfl

def StoAt (B : Nat) (w : World) (bs : Nat) (s : Sto) : Prop := ∃ kv tv ck ct, StoM B w bs s.clock kv tv ck ct ∧ ck.map (·.1) = s.keys ∧ ct.map (·.1) = s.txs

def opV (o : POp) : Value := .agg #[.int .i64 o.kind, .int .i64 o.tx, .int .i64 o.key, .int .i64 o.val]
def resV (r : Int × Int) : Value := .agg #[.int .i64 r.1, .int .i64 r.2]

/-- what a step leaves -/
def StepPost (B : Nat) (w : World) (bs : Nat) (s' : Sto) (w' : World) : Prop := StoAt B w' bs s' ∧ Keep B stoT w w'

theorem Keep.put {B : Nat} {T : List TypeId} {w W : World} (h : Keep B T w W) {r : Nat} (hr : w.heap.size ≤ r) (hB : B ≤ r) (j : Nat) (u : Value) : Keep B T w (W.setCell ⟨r, j, none⟩ u) :=
  ⟨h.below.setCell hB u, fun k c e f hk he => by rw [Below.heap_setCell _ _ _ _ (by have := blk_lt hk; show k ≠ r; omega)]; exact h.block k c e f hk he⟩

/-- the answer is laid into its variable, block r -/
theorem step_fin {B : Nat} {w W : World} {bs : Nat} {s' : Sto} {r : Nat} {x y : Value} (hsto : StoAt B W bs s') (hk : Keep B stoT w W) (hr : W.heap[r]? = some (.cells #[x, y] 37 (0, 0))) (hwr : w.heap.size ≤ r) (hB : B ≤ w.heap.size) (u v : Value) :
    StepPost B w bs s' ((W.setCell ⟨r, 0, none⟩ u).setCell ⟨r, 1, none⟩ v) := by
  obtain ⟨kv, tv, ck, ct, h, h1, h2⟩ := hsto
  have hr2 := heap_setCell_same W r 0 _ _ u hr
  exact ⟨⟨kv, tv, ck, ct, (h.put hr (by decide) u).put hr2 (by decide) v, h1, h2⟩, (hk.put hwr (by omega) 0 u).put hwr (by omega) 1 v⟩

/-- .. and read back from there -/
theorem res_run {fn : Func} (hfn : fn.results = #[ResultVar.cell 4 37]) {W : World} {r : Nat} {x y : Value} (hr : W.heap[r]? = some (.cells #[x, y] 37 (0, 0))) {tmps : Array Value} (ht : tmps.getD 4 undef = .pointer (some ⟨r, 0, none⟩)) (u v : Value) :
    (results fn tmps).run Yahh.prog ((W.setCell ⟨r, 0, none⟩ u).setCell ⟨r, 1, none⟩ v) = .ok (.agg #[u, v]) ((W.setCell ⟨r, 0, none⟩ u).setCell ⟨r, 1, none⟩ v) := by
  have h1 := heap_setCell_same W r 0 _ _ u hr
  have h2 := heap_setCell_same _ r 1 _ _ v h1
  have c0 := cell_of_row _ r 0 _ _ _ h2
  have c1 := cell_of_row _ r 1 _ _ _ h2
  simp at c0 c1
  rw [Array.getD_eq_getD_getElem?] at ht
  simp [results, hfn, go_sem, ht, c0, c1]

set_option maxHeartbeats 4000000 in
set_option maxRecDepth 100000 in
theorem step_begin_hit {B : Nat} {w : World} {bs : Nat} {clock : Int} {kv tv : Value} {ck : List (KH × Value)} {ct : List (Txn × Value)} (h : StoM B w bs clock kv tv ck ct) (hB : B ≤ w.heap.size) (tx key val : Int) (i : Nat) (hf : findTx (ct.map (·.1)) tx = some i) (hn : ct.length ≤ 1000000) :
    Calls Yahh.prog 47 #[.pointer (some ⟨bs, 0, none⟩), .agg #[.int .i64 0, .int .i64 tx, .int .i64 key, .int .i64 val]] w fun e w' => e = .returned (.agg #[.int .i64 2, .int .i64 0]) ∧ StepPost B w bs ⟨clock, ck.map (·.1), ct.map (·.1)⟩ w' := by
  have hM := (h.alloc (Obj.cells #[.int .i64 0, .int .i64 tx, .int .i64 key, .int .i64 val] 35)).alloc (Obj.cells #[.int .i64 0, .int .i64 0] 37)
  have hfc := findTx_any hM tx hn
  rw [hf] at hfc
  clear hf
  go_enter Yahh.func47, Yahh.ntmps47
  go_wp2_with fail
  refine hfc.mono ?_
  rintro e w1 ⟨rfl, rfl⟩
  simp only [idxI]
  go_wp2
  refine bodyPost_ret (v := .agg #[.int .i64 2, .int .i64 0]) (by simp [results, Yahh.results47, go_sem]) rfl ⟨rfl, ⟨kv, tv, ck, ct, (h.alloc _).alloc _, rfl, rfl⟩, ((Keep.refl _ _ _).alloc hB _).alloc (by simp; omega) _⟩

set_option maxHeartbeats 4000000 in
set_option maxRecDepth 100000 in
theorem step_begin_miss {B : Nat} {w : World} {bs : Nat} {clock : Int} {kv tv : Value} {ck : List (KH × Value)} {ct : List (Txn × Value)} (h : StoM B w bs clock kv tv ck ct) (hB : B ≤ w.heap.size) (tx key val : Int) (hf : findTx (ct.map (·.1)) tx = none) (hn : ct.length ≤ 1000000) :
    Calls Yahh.prog 47 #[.pointer (some ⟨bs, 0, none⟩), .agg #[.int .i64 0, .int .i64 tx, .int .i64 key, .int .i64 val]] w fun e w' => e = .returned (.agg #[.int .i64 0, .int .i64 clock]) ∧ StepPost B w bs ⟨clock, ck.map (·.1), ct.map (·.1) ++ [⟨tx, true, clock, []⟩]⟩ w' := by
  have hM := (h.alloc (Obj.cells #[.int .i64 0, .int .i64 tx, .int .i64 key, .int .i64 val] 35)).alloc (Obj.cells #[.int .i64 0, .int .i64 0] 37)
  have hfc := findTx_any hM tx hn
  rw [hf] at hfc
  have hlt := h.lt
  have k0 : Keep B stoT w ((w.alloc (Obj.cells #[.int .i64 0, .int .i64 tx, .int .i64 key, .int .i64 val] 35)).alloc (Obj.cells #[.int .i64 0, .int .i64 0] 37)) := ((Keep.refl _ _ _).alloc hB _).alloc (by simp; omega) _
  have ho := alloc_keep (heap_alloc_new w (Obj.cells #[.int .i64 0, .int .i64 tx, .int .i64 key, .int .i64 val] 35)) (Obj.cells #[.int .i64 0, .int .i64 0] 37)
  have hr := heap_alloc_new (w.alloc (Obj.cells #[.int .i64 0, .int .i64 tx, .int .i64 key, .int .i64 val] 35)) (Obj.cells #[.int .i64 0, .int .i64 0] 37)
  rw [World.size_alloc] at hr
  have Ho := hid ho
  have Hr := hid hr
  have Hf := hid hf
  clear hf ho hr
  have bne : bs ≠ w.heap.size := by omega
  have bne1 : bs ≠ w.heap.size + 1 := by omega
  have bne2 : w.heap.size + 1 ≠ bs := by omega
  go_enter Yahh.func47, Yahh.ntmps47
  go_wp2_with fail
  refine hfc.mono ?_
  rintro e w1 ⟨rfl, rfl⟩
  simp only [idxI]
  generalize hW : (w.alloc (Obj.cells #[.int .i64 0, .int .i64 tx, .int .i64 key, .int .i64 val] 35)).alloc (Obj.cells #[.int .i64 0, .int .i64 0] 37) = W at *
  have hsW : W.heap.size = w.heap.size + 2 := by rw [← hW]; simp
  clear hW hfc
  have c0 := hM.c0
  have c2 := hM.c2
  have f2 := hM.fz 2
  have o1 := cell_of_row W w.heap.size 1 _ _ _ Ho.out
  simp only [List.getElem?_toArray, List.getElem?_cons_succ, List.getElem?_cons_zero] at o1
  have HsW := hid hsW
  have hsW1 : w.heap.size + 2 ≤ W.heap.size := by omega
  clear hsW
  go_wp2
  refine wp_region_cut (fun w' => w'.cell? ⟨bs, 2, none⟩ = some tv ∧ w'.cell? ⟨w.heap.size, 1, none⟩ = some (.int .i64 tx) ∧ w'.cell? ⟨bs, 0, none⟩ = some (.int .i64 clock)) (by simp) (by kernel_rfl) (by kernel_rfl) (by exact ⟨c2, o1, c0⟩) (fun hHeld => ?_)
  simp only [List.dropLast_cons_cons, List.dropLast_singleton, List.length_cons, List.length_nil, Nat.reduceAdd]
  refine wpAnyH_take (i := 0) (v := ?_) rfl (by kernel_rfl) (by kernel_rfl) (by kernel_rfl) (fun _ _ _ h => h) (Or.inl ⟨by rfl, ?_⟩) (by assumption) ?_
  rotate_left 1
  · (intro w hSw; (try dsimp only at hSw); go_simp; try with_reducible rfl)
  try simp only [Act.put, List.setIfInBounds_toArray, List.set_cons_zero, List.set_cons_succ]
  refine wpAnyH_take (i := 1) (v := ?_) rfl (by kernel_rfl) (by kernel_rfl) (by kernel_rfl) (fun _ _ _ h => h) (Or.inl ⟨by rfl, ?_⟩) (by assumption) ?_
  rotate_left 1
  · (intro w hSw; (try dsimp only at hSw); go_simp; try with_reducible rfl)
  try simp only [Act.put, List.setIfInBounds_toArray, List.set_cons_zero, List.set_cons_succ]
  refine wpAnyH_take (i := 2) (v := ?_) rfl (by kernel_rfl) (by kernel_rfl) (by kernel_rfl) (fun _ _ _ h => h) (Or.inl ⟨by rfl, ?_⟩) (by assumption) ?_
  rotate_left 1
  · (intro w hSw; (try dsimp only at hSw); go_simp; try with_reducible rfl)
  try simp only [Act.put, List.setIfInBounds_toArray, List.set_cons_zero, List.set_cons_succ]
  refine wpAnyH_take (i := 3) (v := ?_) rfl (by kernel_rfl) (by kernel_rfl) (by kernel_rfl) (fun _ _ _ h => h) (Or.inl ⟨by rfl, ?_⟩) (by assumption) ?_
  rotate_left 1
  · (intro w hSw; (try dsimp only at hSw); go_simp; try with_reducible rfl)
  try simp only [Act.put, List.setIfInBounds_toArray, List.set_cons_zero, List.set_cons_succ]
  refine wpAnyH_take (i := 4) (v := ?_) rfl (by kernel_rfl) (by kernel_rfl) (by kernel_rfl) (fun _ _ _ h => h) (Or.inl ⟨by rfl, ?_⟩) (by assumption) ?_
  rotate_left 1
  · (intro w hSw; (try dsimp only at hSw); go_simp; try with_reducible rfl)
  try simp only [Act.put, List.setIfInBounds_toArray, List.set_cons_zero, List.set_cons_succ]
  refine wpAnyH_take (i := 5) (v := ?_) rfl (by kernel_rfl) (by kernel_rfl) (by kernel_rfl) (fun _ _ _ h => h) (Or.inl ⟨by rfl, ?_⟩) (by assumption) ?_
  rotate_left 1
  · (intro w hSw; (try dsimp only at hSw); go_simp; try with_reducible rfl)
  try simp only [Act.put, List.setIfInBounds_toArray, List.set_cons_zero, List.set_cons_succ]
  refine wpAnyH_take (i := 6) (v := ?_) rfl (by kernel_rfl) (by kernel_rfl) (by kernel_rfl) (fun _ _ _ h => h) (Or.inl ⟨by rfl, ?_⟩) (by assumption) ?_
  rotate_left 1
  · (intro w hSw; (try dsimp only at hSw); go_simp; try with_reducible rfl)
  try simp only [Act.put, List.setIfInBounds_toArray, List.set_cons_zero, List.set_cons_succ]
  refine wpAnyH_take (i := 7) (v := ?_) rfl (by kernel_rfl) (by kernel_rfl) (by kernel_rfl) (fun _ _ _ h => h) (Or.inl ⟨by rfl, ?_⟩) (by assumption) ?_
  rotate_left 1
  · (intro w hSw; (try dsimp only at hSw); go_simp; try with_reducible rfl)
  try simp only [Act.put, List.setIfInBounds_toArray, List.set_cons_zero, List.set_cons_succ]
  refine wpAnyH_take (i := 8) (v := ?_) rfl (by kernel_rfl) (by kernel_rfl) (by kernel_rfl) (fun _ _ _ h => h) (Or.inl ⟨by rfl, ?_⟩) (by assumption) ?_
  rotate_left 1
  · (intro w hSw; (try dsimp only at hSw); go_simp; try with_reducible rfl)
  try simp only [Act.put, List.setIfInBounds_toArray, List.set_cons_zero, List.set_cons_succ]
  refine wpAnyH_take (i := 9) (v := ?_) rfl (by kernel_rfl) (by kernel_rfl) (by kernel_rfl) (fun _ _ _ h => h) (Or.inl ⟨by rfl, ?_⟩) (by assumption) ?_
  rotate_left 1
  · (intro w hSw; (try dsimp only at hSw); go_simp; try with_reducible rfl)
  try simp only [Act.put, List.setIfInBounds_toArray, List.set_cons_zero, List.set_cons_succ]
  refine wpAnyH_take (i := 10) (v := ?_) rfl (by kernel_rfl) (by kernel_rfl) (by kernel_rfl) (fun _ _ _ h => h) (Or.inl ⟨by rfl, ?_⟩) (by assumption) ?_
  rotate_left 1
  · (intro w hSw; (try dsimp only at hSw); go_simp; try with_reducible rfl)
  try simp only [Act.put, List.setIfInBounds_toArray, List.set_cons_zero, List.set_cons_succ]
  refine wpAnyH_take (i := 11) (v := ?_) rfl (by kernel_rfl) (by kernel_rfl) (by kernel_rfl) (fun _ _ _ h => h) (Or.inl ⟨by rfl, ?_⟩) (by assumption) ?_
  rotate_left 1
  · (intro w hSw; (try dsimp only at hSw); go_simp; try with_reducible rfl)
  try simp only [Act.put, List.setIfInBounds_toArray, List.set_cons_zero, List.set_cons_succ]
  refine wpAnyH_ready (rs := [12]) (by kernel_rfl) (by simp) ?_
  refine AllReadyH.cons rfl (fun K hK => ?_) AllReadyH.nil
  go_simp
  refine hK.out _ _ ?_ (fun hHeld => ?_)
  · go_keep
  clear hK K
  try simp only [Act.put, List.setIfInBounds_toArray, List.set_cons_zero, List.set_cons_succ]
  refine wpAnyH_ready (rs := [13]) (by kernel_rfl) (by simp) ?_
  refine AllReadyH.cons rfl (fun K hK => ?_) AllReadyH.nil
  (refine step_app1 (by rfl) (.tmp 36) (.tmp 44) 70 (by rfl) B 109 _ 4 48 Yahh.underlying70 Yahh.info109 rfl (by decide) _ ct.length _ (by rfl) (hM.txs.drew.alloc _) W.heap.size _ _ _ (by rfl) (heap_alloc_new W.drew _) rfl (one4 _ _ _ _ rfl rfl rfl rfl) (by omega) (by decide) (by simp; omega) (W.heap.size + 1) (by simp) ?_; intro g2 cap2 w2 hown2 hgrow2 hat2 hlt2; have r := hid (blk_ty hgrow2 (RowTy.of_own (hM.txs.drew.alloc _)) (hM.drew.alloc _).blk (by decide)); have q0 := cell_of_row w2 bs 0 _ _ _ r.out; have q2 := cell_of_row w2 bs 2 _ _ _ r.out; have q4 := frozen_of_row w2 bs 2 _ _ r.out; have ro := blk_ty hgrow2 (RowTy.of_own (hM.txs.drew.alloc _)) (alloc_keep (w := W.drew) Ho.out _) (by decide); have q1 := cell_of_row w2 w.heap.size 1 _ _ _ ro; simp only [List.getElem?_toArray, List.getElem?_cons_succ, List.getElem?_cons_zero] at q0 q1 q2; clear ro; have rr := hid (blk_ty hgrow2 (RowTy.of_own (hM.txs.drew.alloc _)) (alloc_keep (w := W.drew) Hr.out _) (by decide)); have x0 := cell_of_row w2 (w.heap.size + 1) 0 _ _ _ rr.out; have x1 := cell_of_row w2 (w.heap.size + 1) 1 _ _ _ rr.out; have y0 := frozen_of_row w2 (w.heap.size + 1) 0 _ _ rr.out; have y1 := frozen_of_row w2 (w.heap.size + 1) 1 _ _ rr.out; simp only [List.getElem?_toArray, List.getElem?_cons_succ, List.getElem?_cons_zero] at x0 x1)
  refine hK.out _ _ ?_ (fun hHeld => ?_)
  · exact ⟨q2, q1, q0⟩
  clear hK K
  try simp only [Act.put, List.setIfInBounds_toArray, List.set_cons_zero, List.set_cons_succ]
  refine wpAnyH_take (i := 14) (v := ?_) rfl (by kernel_rfl) (by kernel_rfl) (by kernel_rfl) (fun _ _ _ h => h) (Or.inl ⟨by rfl, ?_⟩) (by assumption) ?_
  rotate_left 1
  · (intro w hSw; (try dsimp only at hSw); go_simp; try with_reducible rfl)
  try simp only [Act.put, List.setIfInBounds_toArray, List.set_cons_zero, List.set_cons_succ]
  refine wpAnyH_take (i := 15) (v := ?_) rfl (by kernel_rfl) (by kernel_rfl) (by kernel_rfl) (fun _ _ _ h => h) (Or.inl ⟨by rfl, ?_⟩) (by assumption) ?_
  rotate_left 1
  · (intro w hSw; (try dsimp only at hSw); go_simp; try with_reducible rfl)
  try simp only [Act.put, List.setIfInBounds_toArray, List.set_cons_zero, List.set_cons_succ]
  refine wpAnyH_done (by kernel_rfl) ?_ _
  refine lastQ_mk rfl rfl (fun K hK => ?_)
  go_wp2
  have hM2 := (hM.alloc (Obj.cells #[.int .i64 tx, .bool true, .int .i64 clock, .slice none 0 0] 109)).drew.txAdd hgrow2 (⟨tx, true, clock, []⟩, .slice none 0 0) (tv' := .slice (some ⟨g2, 0, none⟩) (ct.length + 1) cap2) (by simpa [txC] using hown2) (World.ownsRow_nil _ _ _ _) rfl
  have k2 : Keep B stoT w w2 := ((k0.alloc (by omega) _).drew).grown (e := 109) hgrow2 (by simp; omega) (fun j hj => (own_lt hM.txs hj).1) (RowTy.of_own ((hM.txs.alloc _).drew)) (by decide)
  have k3 : Keep B stoT w (w2.setCell ⟨bs, 2, none⟩ (.slice (some ⟨g2, 0, none⟩) (ct.length + 1) cap2)) := k2.grown (e := 72) (set_grown _ _ _ _) (by have := k2.below.size; omega) (fun j hj => by simp at hj; subst hj; exact h.base) (fun j hj => by simp at hj; subst hj; exact ⟨_, _, r.out⟩) (by decide)
  have rr3 : (w2.setCell ⟨bs, 2, none⟩ (.slice (some ⟨g2, 0, none⟩) (ct.length + 1) cap2)).heap[w.heap.size + 1]? = some (.cells #[.int .i64 0, .int .i64 0] 37 (0, 0)) := by
    rw [Below.heap_setCell _ _ _ _ (by exact bne2)]; exact rr.out
  exact bodyPost_ret (v := .agg #[.int .i64 0, .int .i64 clock]) (res_run rfl rr3 rfl _ _) rfl ⟨rfl, step_fin ⟨_, _, _, _, hM2, rfl, by simp⟩ k3 rr3 (by omega) hB _ _⟩
end Go.Proofs.Yafahw
