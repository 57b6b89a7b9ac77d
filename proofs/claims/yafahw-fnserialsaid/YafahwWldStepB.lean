/- Walks: (*world).step (48): Begin of a new transaction. -/
import Derived.Test.YafahwWldStepA
namespace Go.Proofs.Yafahw
open Go.RowKit
set_option linter.unusedVariables false
set_option linter.unusedSimpArgs false
attribute [local go_sem ↓] Go.wp_at_zero Go.wp_at_succ

theorem Yahh.info115 : (Yahh.prog.info? 115).map (fun i => (i.zero, i.size, i.bytes)) = some (some (.agg #[.int .i64 0, .bool false, .int .i64 0, .slice none 0 0]), 4, 48) := by kernel_rfl
theorem Yahh.info100 : (Yahh.prog.info? 100).map (fun i => (i.zero, i.size, i.bytes)) = some (some (.agg #[.int .i64 0, .bool false, .int .i64 0]), 3, 24) := by kernel_rfl
theorem Yahh.info86 : (Yahh.prog.info? 86).map (fun i => (i.zero, i.size, i.bytes)) = some (some (.agg #[.int .i64 0, .slice none 0 0]), 2, 32) := by kernel_rfl

set_option maxHeartbeats 8000000 in
set_option maxRecDepth 100000 in
theorem stepS_begin_miss {B : Nat} {w : World} {bw : Nat} {tv lv : Value} {ct : List (Txn × Value)} {cl : List (CR × Value)} (h : WldM B w bw tv lv ct cl) (hB : B ≤ w.heap.size) (tx key val : Int) (hf : findTx (ct.map (·.1)) tx = none) (hn : ct.length ≤ 1000000) (hln : cl.length ≤ 1000000) :
    Calls Yahh.prog 48 #[.pointer (some ⟨bw, 0, none⟩), .agg #[.int .i64 0, .int .i64 tx, .int .i64 key, .int .i64 val]] w fun e w' => e = .returned (resV (0, (cl.length : Int))) ∧ StepPostS B w bw ⟨ct.map (·.1) ++ [⟨tx, true, (cl.length : Int), []⟩], cl.map (·.1)⟩ w' := by
  have hM := (((h.alloc (Obj.cells #[.int .i64 0, .int .i64 tx, .int .i64 key, .int .i64 val] 35)).alloc (Obj.cells #[.int .i64 0, .int .i64 0] 37)).alloc (Obj.cells #[.int .i64 2, .int .i64 0] 37)).alloc (Obj.cells #[.int .i64 0, .int .i64 0] 37)
  have P := hid (pre48 w 0 tx key val)
  have k0 : Keep B wldT w ((((w.alloc (Obj.cells #[.int .i64 0, .int .i64 tx, .int .i64 key, .int .i64 val] 35)).alloc (Obj.cells #[.int .i64 0, .int .i64 0] 37)).alloc (Obj.cells #[.int .i64 2, .int .i64 0] 37)).alloc (Obj.cells #[.int .i64 0, .int .i64 0] 37)) := (((( Keep.refl _ _ _).alloc hB _).alloc (by simp; omega) _).alloc (by simp; omega) _).alloc (by simp; omega) _
  have hlt := h.lt
  have hfc := findS_any hM tx hn
  rw [hf] at hfc
  go_enter Yahh.func48, Yahh.ntmps48
  go_wp2_with fail
  refine hfc.mono ?_
  rintro e w1 ⟨rfl, rfl⟩
  simp only [idxI]
  generalize hW : (((w.alloc (Obj.cells #[.int .i64 0, .int .i64 tx, .int .i64 key, .int .i64 val] 35)).alloc (Obj.cells #[.int .i64 0, .int .i64 0] 37)).alloc (Obj.cells #[.int .i64 2, .int .i64 0] 37)).alloc (Obj.cells #[.int .i64 0, .int .i64 0] 37) = W at *
  clear hW hfc
  have hsW := P.out.size
  have hsW1 : w.heap.size + 4 ≤ W.heap.size := by omega
  have Ho := hid P.out.ho
  have Hr := hid P.out.hr
  have o0 := cell_of_row W w.heap.size 0 _ _ _ P.out.ho
  have o1 := cell_of_row W w.heap.size 1 _ _ _ P.out.ho
  have o2 := cell_of_row W w.heap.size 2 _ _ _ P.out.ho
  have o3 := cell_of_row W w.heap.size 3 _ _ _ P.out.ho
  have x0 := cell_of_row W (w.heap.size + 1) 0 _ _ _ P.out.hr
  have x1 := cell_of_row W (w.heap.size + 1) 1 _ _ _ P.out.hr
  have y0 := frozen_of_row W (w.heap.size + 1) 0 _ _ P.out.hr
  have y1 := frozen_of_row W (w.heap.size + 1) 1 _ _ P.out.hr
  have i0 := cell_of_row W (w.heap.size + 2) 0 _ _ _ P.out.hi
  have i1 := cell_of_row W (w.heap.size + 2) 1 _ _ _ P.out.hi
  have d0 := cell_of_row W (w.heap.size + 3) 0 _ _ _ P.out.hd
  have d1 := cell_of_row W (w.heap.size + 3) 1 _ _ _ P.out.hd
  simp only [List.getElem?_toArray, List.getElem?_cons_succ, List.getElem?_cons_zero] at o0 o1 o2 o3 x0 x1 i0 i1 d0 d1
  have c0 := hM.c0
  have c1 := hM.c1
  have bn1 : bw ≠ w.heap.size + 1 := by omega
  have bn1' : w.heap.size + 1 ≠ bw := by omega
  have bn0' : w.heap.size ≠ bw := by omega
  have bn2' : w.heap.size + 2 ≠ bw := by omega
  have bn3' : w.heap.size + 3 ≠ bw := by omega
  clear hsW hf
  obtain ⟨ld, lcap, lg, hlv, hld⟩ := own_shape hM.log
  subst hlv
  have hlogl : (0 : Int) ≤ (cl.length : Int) := by omega
  go_wp2
  refine wp_region_cut (fun w' => w'.cell? ⟨bw, 0, none⟩ = some tv ∧ w'.cell? ⟨w.heap.size, 1, none⟩ = some (.int .i64 tx)) (by simp) (by kernel_rfl) (by kernel_rfl) (by exact ⟨c0, o1⟩) (fun hHeld => ?_)
  simp only [List.dropLast_cons_cons, List.dropLast_singleton, List.length_cons, List.length_nil, Nat.reduceAdd]
  refine wpAnyH_take (i := 0) (v := ?_) rfl (by kernel_rfl) (by kernel_rfl) (by kernel_rfl) (fun _ _ _ h => h) (Or.inl ⟨by rfl, ?_⟩) (by assumption) ?_
  rotate_left 1
  · (intro w hSw; (try dsimp only at hSw); go_simp; try with_reducible rfl)
  try simp only [Act.put, List.setIfInBounds_toArray, List.set_cons_zero, List.set_cons_succ]
  refine wpAnyH_take (i := 1) (v := ?_) rfl (by kernel_rfl) (by kernel_rfl) (by kernel_rfl) (fun _ _ _ h => h) (Or.inl ⟨by rfl, ?_⟩) (by assumption) ?_
  rotate_left 1
  · (intro w hSw; (try dsimp only at hSw); go_simp; try with_reducible rfl)
  try simp only [Act.put, List.setIfInBounds_toArray, List.set_cons_zero, List.set_cons_succ]
  refine wpAnyH_take (i := 2) (v := ?_) rfl (by kernel_rfl) (by kernel_rfl) (by kernel_rfl) (fun _ _ _ h => h) (Or.inl ⟨by rfl, ?_⟩) (by assumption) ?_
  rotate_left 1
  · (intro w hSw; (try dsimp only at hSw); go_simp; try with_reducible rfl)
  try simp only [Act.put, List.setIfInBounds_toArray, List.set_cons_zero, List.set_cons_succ]
  refine wpAnyH_take (i := 3) (v := ?_) rfl (by kernel_rfl) (by kernel_rfl) (by kernel_rfl) (fun _ _ _ h => h) (Or.inl ⟨by rfl, ?_⟩) (by assumption) ?_
  rotate_left 1
  · (intro w hSw; (try dsimp only at hSw); go_simp; try with_reducible rfl)
  try simp only [Act.put, List.setIfInBounds_toArray, List.set_cons_zero, List.set_cons_succ]
  refine wpAnyH_take (i := 4) (v := ?_) rfl (by kernel_rfl) (by kernel_rfl) (by kernel_rfl) (fun _ _ _ h => h) (Or.inl ⟨by rfl, ?_⟩) (by assumption) ?_
  rotate_left 1
  · (intro w hSw; (try dsimp only at hSw); go_simp; try with_reducible rfl)
  try simp only [Act.put, List.setIfInBounds_toArray, List.set_cons_zero, List.set_cons_succ]
  refine wpAnyH_take (i := 5) (v := ?_) rfl (by kernel_rfl) (by kernel_rfl) (by kernel_rfl) (fun _ _ _ h => h) (Or.inl ⟨by rfl, ?_⟩) (by assumption) ?_
  rotate_left 1
  · (intro w hSw; (try dsimp only at hSw); go_simp; try with_reducible rfl)
  try simp only [Act.put, List.setIfInBounds_toArray, List.set_cons_zero, List.set_cons_succ]
  refine wpAnyH_take (i := 6) (v := ?_) rfl (by kernel_rfl) (by kernel_rfl) (by kernel_rfl) (fun _ _ _ h => h) (Or.inl ⟨by rfl, ?_⟩) (by assumption) ?_
  rotate_left 1
  · (intro w hSw; (try dsimp only at hSw); go_simp; try with_reducible rfl)
  try simp only [Act.put, List.setIfInBounds_toArray, List.set_cons_zero, List.set_cons_succ]
  refine wpAnyH_take (i := 7) (v := ?_) rfl (by kernel_rfl) (by kernel_rfl) (by kernel_rfl) (fun _ _ _ h => h) (Or.inl ⟨by rfl, ?_⟩) (by assumption) ?_
  rotate_left 1
  · (intro w hSw; (try dsimp only at hSw); go_simp; try with_reducible rfl)
  try simp only [Act.put, List.setIfInBounds_toArray, List.set_cons_zero, List.set_cons_succ]
  refine wpAnyH_take (i := 8) (v := ?_) rfl (by kernel_rfl) (by kernel_rfl) (by kernel_rfl) (fun _ _ _ h => h) (Or.inl ⟨by rfl, ?_⟩) (by assumption) ?_
  rotate_left 1
  · (intro w hSw; (try dsimp only at hSw); go_simp; try with_reducible rfl)
  try simp only [Act.put, List.setIfInBounds_toArray, List.set_cons_zero, List.set_cons_succ]
  refine wpAnyH_ready (rs := [9]) (by kernel_rfl) (by simp) ?_
  refine AllReadyH.cons rfl (fun K hK => ?_) AllReadyH.nil
  go_simp
  refine hK.out _ _ ?_ (fun hHeld => ?_)
  · go_keep
  clear hK K
  try simp only [Act.put, List.setIfInBounds_toArray, List.set_cons_zero, List.set_cons_succ]
  refine wpAnyH_ready (rs := [10]) (by kernel_rfl) (by simp) ?_
  refine AllReadyH.cons rfl (fun K hK => ?_) AllReadyH.nil
  (refine step_app1 (by rfl) (.tmp 33) (.tmp 38) 74 (by rfl) B 115 _ 4 48 Yahh.underlying74 Yahh.info115 rfl (by decide) _ ct.length _ (by rfl) (hM.txs.drew.alloc _) W.heap.size _ _ _ (by rfl) (heap_alloc_new W.drew _) rfl (one4 _ _ _ _ rfl rfl rfl rfl) (by omega) (by decide) (by simp; omega) (W.heap.size + 1) (by simp) ?_; intro g2 cap2 w2 hown2 hgrow2 hat2 hlt2; have r := hid (blk_ty hgrow2 (RowTy.of_own (hM.txs.drew.alloc _)) (hM.drew.alloc _).blk (by decide)); have q0 := cell_of_row w2 bw 0 _ _ _ r.out; have q4 := frozen_of_row w2 bw 0 _ _ r.out; have ro := blk_ty hgrow2 (RowTy.of_own (hM.txs.drew.alloc _)) (alloc_keep (w := W.drew) Ho.out _) (by decide); have q1 := cell_of_row w2 w.heap.size 1 _ _ _ ro; simp only [List.getElem?_toArray, List.getElem?_cons_succ, List.getElem?_cons_zero] at q0 q1; clear ro; have rr := hid (blk_ty hgrow2 (RowTy.of_own (hM.txs.drew.alloc _)) (alloc_keep (w := W.drew) Hr.out _) (by decide)); have x0 := cell_of_row w2 (w.heap.size + 1) 0 _ _ _ rr.out; have x1 := cell_of_row w2 (w.heap.size + 1) 1 _ _ _ rr.out; have y0 := frozen_of_row w2 (w.heap.size + 1) 0 _ _ rr.out; have y1 := frozen_of_row w2 (w.heap.size + 1) 1 _ _ rr.out; simp only [List.getElem?_toArray, List.getElem?_cons_succ, List.getElem?_cons_zero] at x0 x1)
  refine hK.out _ _ ?_ (fun hHeld => ?_)
  · exact ⟨q0, q1⟩
  clear hK K
  try simp only [Act.put, List.setIfInBounds_toArray, List.set_cons_zero, List.set_cons_succ]
  refine wpAnyH_take (i := 11) (v := ?_) rfl (by kernel_rfl) (by kernel_rfl) (by kernel_rfl) (fun _ _ _ h => h) (Or.inl ⟨by rfl, ?_⟩) (by assumption) ?_
  rotate_left 1
  · (intro w hSw; (try dsimp only at hSw); go_simp; try with_reducible rfl)
  try simp only [Act.put, List.setIfInBounds_toArray, List.set_cons_zero, List.set_cons_succ]
  refine wpAnyH_take (i := 12) (v := ?_) rfl (by kernel_rfl) (by kernel_rfl) (by kernel_rfl) (fun _ _ _ h => h) (Or.inl ⟨by rfl, ?_⟩) (by assumption) ?_
  rotate_left 1
  · (intro w hSw; (try dsimp only at hSw); go_simp; try with_reducible rfl)
  try simp only [Act.put, List.setIfInBounds_toArray, List.set_cons_zero, List.set_cons_succ]
  refine wpAnyH_done (by kernel_rfl) ?_ _
  refine lastQ_mk rfl rfl (fun K hK => ?_)
  go_wp2
  have hM2 := (hM.alloc (Obj.cells #[.int .i64 tx, .bool true, .int .i64 (cl.length : Int), .slice none 0 0] 115)).drew.txAdd hgrow2 (⟨tx, true, (cl.length : Int), []⟩, .slice none 0 0) (tv' := .slice (some ⟨g2, 0, none⟩) (ct.length + 1) cap2) (by simpa [txC] using hown2) (World.ownsRow_nil _ _ _ _) rfl
  have k2 : Keep B wldT w w2 := ((k0.alloc (by omega) _).drew).grown (e := 115) hgrow2 (by simp; omega) (fun j hj => (own_lt hM.txs hj).1) (RowTy.of_own ((hM.txs.alloc _).drew)) (by decide)
  have k3 : Keep B wldT w (w2.setCell ⟨bw, 0, none⟩ (.slice (some ⟨g2, 0, none⟩) (ct.length + 1) cap2)) := k2.grown (e := 77) (set_grown _ _ _ _) (by have := k2.below.size; omega) (fun j hj => by simp at hj; subst hj; exact h.base) (fun j hj => by simp at hj; subst hj; exact ⟨_, _, r.out⟩) (by decide)
  have rr3 : (w2.setCell ⟨bw, 0, none⟩ (.slice (some ⟨g2, 0, none⟩) (ct.length + 1) cap2)).heap[w.heap.size + 1]? = some (.cells #[.int .i64 0, .int .i64 0] 37 (0, 0)) := by
    rw [Below.heap_setCell _ _ _ _ (by exact bn1')]; exact rr.out
  exact bodyPost_ret (v := resV _) (res_run rfl rr3 rfl _ _) rfl ⟨rfl, step_finS ⟨_, _, _, _, hM2, by simp, rfl⟩ k3 rr3 (by omega) hB _ _⟩

end Go.Proofs.Yafahw
