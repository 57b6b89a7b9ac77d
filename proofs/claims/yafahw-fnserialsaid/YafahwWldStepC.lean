/- Walks: (*world).step (48): Write, Delete. -/
import Derived.Test.YafahwWldStepB
namespace Go.Proofs.Yafahw
open Go.RowKit
set_option linter.unusedVariables false
set_option linter.unusedSimpArgs false
attribute [local go_sem ↓] Go.wp_at_zero Go.wp_at_succ


set_option maxHeartbeats 8000000 in
set_option maxRecDepth 100000 in
theorem stepS_put2 {B : Nat} {w : World} {bw : Nat} {tv lv : Value} {ct : List (Txn × Value)} {cl : List (CR × Value)} (h : WldM B w bw tv lv ct cl) (hB : B ≤ w.heap.size) (tx key val : Int) (i : Nat) (t : Txn) (hd : Value) (hf : findTx (ct.map (·.1)) tx = some i) (hp : ct[i]? = some (t, hd)) (hn : ct.length ≤ 1000000) (hact : t.active = true) (hb : t.buf.length ≤ 1000000) :
    Calls Yahh.prog 48 #[.pointer (some ⟨bw, 0, none⟩), .agg #[.int .i64 2, .int .i64 tx, .int .i64 key, .int .i64 val]] w fun e w' => e = .returned (resV (0, 0)) ∧ StepPostS B w bw ⟨(ct.map (·.1)).set i ⟨t.id, true, t.snap, t.buf ++ [⟨key, false, val⟩]⟩, cl.map (·.1)⟩ w' := by
  have hM := (((h.alloc (Obj.cells #[.int .i64 2, .int .i64 tx, .int .i64 key, .int .i64 val] 35)).alloc (Obj.cells #[.int .i64 0, .int .i64 0] 37)).alloc (Obj.cells #[.int .i64 2, .int .i64 0] 37)).alloc (Obj.cells #[.int .i64 0, .int .i64 0] 37)
  have P := hid (pre48 w 2 tx key val)
  have k0 : Keep B wldT w ((((w.alloc (Obj.cells #[.int .i64 2, .int .i64 tx, .int .i64 key, .int .i64 val] 35)).alloc (Obj.cells #[.int .i64 0, .int .i64 0] 37)).alloc (Obj.cells #[.int .i64 2, .int .i64 0] 37)).alloc (Obj.cells #[.int .i64 0, .int .i64 0] 37)) := (((( Keep.refl _ _ _).alloc hB _).alloc (by simp; omega) _).alloc (by simp; omega) _).alloc (by simp; omega) _
  have hlt := h.lt
  have hfc := findS_any hM tx hn
  rw [hf] at hfc
  go_enter Yahh.func48, Yahh.ntmps48
  go_wp2_with fail
  refine hfc.mono ?_
  rintro e w1 ⟨rfl, rfl⟩
  simp only [idxI]
  generalize hW : (((w.alloc (Obj.cells #[.int .i64 2, .int .i64 tx, .int .i64 key, .int .i64 val] 35)).alloc (Obj.cells #[.int .i64 0, .int .i64 0] 37)).alloc (Obj.cells #[.int .i64 2, .int .i64 0] 37)).alloc (Obj.cells #[.int .i64 0, .int .i64 0] 37) = W at *
  clear hW hfc
  have hsW := P.out.size
  have hsW1 : w.heap.size + 4 ≤ W.heap.size := by omega
  have Ho := hid P.out.ho
  have Hr := hid P.out.hr
  have o0 := cell_of_row W w.heap.size 0 _ _ _ P.out.ho
  have o1 := cell_of_row W w.heap.size 1 _ _ _ P.out.ho
  have o2 := cell_of_row W w.heap.size 2 _ _ _ P.out.ho
  have o3 := cell_of_row W w.heap.size 3 _ _ _ P.out.ho
  have x0 := cell_of_row W (w.heap.size + 1) 0 _ _ _ P.out.hr
  have x1 := cell_of_row W (w.heap.size + 1) 1 _ _ _ P.out.hr
  have y0 := frozen_of_row W (w.heap.size + 1) 0 _ _ P.out.hr
  have y1 := frozen_of_row W (w.heap.size + 1) 1 _ _ P.out.hr
  have i0 := cell_of_row W (w.heap.size + 2) 0 _ _ _ P.out.hi
  have i1 := cell_of_row W (w.heap.size + 2) 1 _ _ _ P.out.hi
  have d0 := cell_of_row W (w.heap.size + 3) 0 _ _ _ P.out.hd
  have d1 := cell_of_row W (w.heap.size + 3) 1 _ _ _ P.out.hd
  simp only [List.getElem?_toArray, List.getElem?_cons_succ, List.getElem?_cons_zero] at o0 o1 o2 o3 x0 x1 i0 i1 d0 d1
  have c0 := hM.c0
  have c1 := hM.c1
  have bn1 : bw ≠ w.heap.size + 1 := by omega
  have bn1' : w.heap.size + 1 ≠ bw := by omega
  have bn0' : w.heap.size ≠ bw := by omega
  have bn2' : w.heap.size + 2 ≠ bw := by omega
  have bn3' : w.heap.size + 3 ≠ bw := by omega
  clear hsW hf
  have hi : i < ct.length := (List.getElem?_eq_some_iff.1 hp).1
  have hil : (i : Int) < (ct.length : Int) := by omega
  have hi0 : (0 : Int) ≤ (i : Int) := by omega
  have htx := hM.txs
  obtain ⟨ad, cap, g, htv, had⟩ := own_shape htx
  subst htv
  obtain rfl := had (by omega)
  have t1 := row_cell txC_len htx hp (j := 1) (by omega) rfl
  have t3 := row_cell txC_len htx hp (j := 3) (by omega) rfl
  simp only [] at t1 t3
  rw [hact] at t1
  have tf1 := htx.frozenAt (i * 4 + 1)
  have tf3 := htx.frozenAt (i * 4 + 3)
  have gbw : g ≠ bw := own_bne htx hM.blk (by decide)
  have gbw' : bw ≠ g := gbw.symm
  have go_ : w.heap.size ≠ g := (own_bne htx Ho.out (by decide)).symm
  have gr : w.heap.size + 1 ≠ g := (own_bne htx Hr.out (by decide)).symm
  have gi : w.heap.size + 2 ≠ g := (own_bne htx P.out.hi (by decide)).symm
  have gd : w.heap.size + 3 ≠ g := (own_bne htx P.out.hd (by decide)).symm
  have gr' : g ≠ w.heap.size + 1 := gr.symm
  have hbuf := hM.bufs i _ hp hact
  obtain ⟨bd, bcap, bg, hbv, hbd⟩ := own_shape hbuf
  simp only [] at hbv
  subst hbv
  have tg : RowTy W (some g) 115 := RowTy.of_own (v := .slice (some ⟨g, 0, none⟩) ct.length cap) htx
  have bgB : B ≤ g := (own_lt htx rfl).1
  go_wp2
  refine wp_region_cut (fun w' => w'.cell? ⟨bw, 0, none⟩ = some (.slice (some ⟨g, 0, none⟩) ct.length cap) ∧ w'.cell? ⟨g, i * 4 + 3, none⟩ = some (.slice bd t.buf.length bcap) ∧ w'.cell? ⟨w.heap.size, 2, none⟩ = some (.int .i64 key) ∧ w'.cell? ⟨w.heap.size, 3, none⟩ = some (.int .i64 val)) (by simp) (by kernel_rfl) (by kernel_rfl) (by exact ⟨c0, t3, o2, o3⟩) (fun hHeld => ?_)
  simp only [List.dropLast_cons_cons, List.dropLast_singleton, List.length_cons, List.length_nil, Nat.reduceAdd]
  refine wpAnyH_take (i := 0) (v := ?_) rfl (by kernel_rfl) (by kernel_rfl) (by kernel_rfl) (fun _ _ _ h => h) (Or.inl ⟨by rfl, ?_⟩) (by assumption) ?_
  rotate_left 1
  · (intro w hSw; (try dsimp only at hSw); go_simp; try with_reducible rfl)
  try simp only [Act.put, List.setIfInBounds_toArray, List.set_cons_zero, List.set_cons_succ]
  refine wpAnyH_take (i := 1) (v := ?_) rfl (by kernel_rfl) (by kernel_rfl) (by kernel_rfl) (fun _ _ _ h => h) (Or.inl ⟨by rfl, ?_⟩) (by assumption) ?_
  rotate_left 1
  · (intro w hSw; (try dsimp only at hSw); go_simp; try with_reducible rfl)
  try simp only [Act.put, List.setIfInBounds_toArray, List.set_cons_zero, List.set_cons_succ]
  refine wpAnyH_take (i := 2) (v := ?_) rfl (by kernel_rfl) (by kernel_rfl) (by kernel_rfl) (fun _ _ _ h => h) (Or.inl ⟨by rfl, ?_⟩) (by assumption) ?_
  rotate_left 1
  · (intro w hSw; (try dsimp only at hSw); go_simp; try with_reducible rfl)
  try simp only [Act.put, List.setIfInBounds_toArray, List.set_cons_zero, List.set_cons_succ]
  refine wpAnyH_take (i := 3) (v := ?_) rfl (by kernel_rfl) (by kernel_rfl) (by kernel_rfl) (fun _ _ _ h => h) (Or.inl ⟨by rfl, ?_⟩) (by assumption) ?_
  rotate_left 1
  · (intro w hSw; (try dsimp only at hSw); go_simp; try with_reducible rfl)
  try simp only [Act.put, List.setIfInBounds_toArray, List.set_cons_zero, List.set_cons_succ]
  refine wpAnyH_take (i := 4) (v := ?_) rfl (by kernel_rfl) (by kernel_rfl) (by kernel_rfl) (fun _ _ _ h => h) (Or.inl ⟨by rfl, ?_⟩) (by assumption) ?_
  rotate_left 1
  · (intro w hSw; (try dsimp only at hSw); go_simp; try with_reducible rfl)
  try simp only [Act.put, List.setIfInBounds_toArray, List.set_cons_zero, List.set_cons_succ]
  refine wpAnyH_take (i := 5) (v := ?_) rfl (by kernel_rfl) (by kernel_rfl) (by kernel_rfl) (fun _ _ _ h => h) (Or.inl ⟨by rfl, ?_⟩) (by assumption) ?_
  rotate_left 1
  · (intro w hSw; (try dsimp only at hSw); go_simp; try with_reducible rfl)
  try simp only [Act.put, List.setIfInBounds_toArray, List.set_cons_zero, List.set_cons_succ]
  refine wpAnyH_take (i := 6) (v := ?_) rfl (by kernel_rfl) (by kernel_rfl) (by kernel_rfl) (fun _ _ _ h => h) (Or.inl ⟨by rfl, ?_⟩) (by assumption) ?_
  rotate_left 1
  · (intro w hSw; (try dsimp only at hSw); go_simp; try with_reducible rfl)
  try simp only [Act.put, List.setIfInBounds_toArray, List.set_cons_zero, List.set_cons_succ]
  refine wpAnyH_take (i := 7) (v := ?_) rfl (by kernel_rfl) (by kernel_rfl) (by kernel_rfl) (fun _ _ _ h => h) (Or.inl ⟨by rfl, ?_⟩) (by assumption) ?_
  rotate_left 1
  · (intro w hSw; (try dsimp only at hSw); go_simp; try with_reducible rfl)
  try simp only [Act.put, List.setIfInBounds_toArray, List.set_cons_zero, List.set_cons_succ]
  refine wpAnyH_take (i := 8) (v := ?_) rfl (by kernel_rfl) (by kernel_rfl) (by kernel_rfl) (fun _ _ _ h => h) (Or.inl ⟨by rfl, ?_⟩) (by assumption) ?_
  rotate_left 1
  · (intro w hSw; (try dsimp only at hSw); go_simp; try with_reducible rfl)
  try simp only [Act.put, List.setIfInBounds_toArray, List.set_cons_zero, List.set_cons_succ]
  refine wpAnyH_take (i := 9) (v := ?_) rfl (by kernel_rfl) (by kernel_rfl) (by kernel_rfl) (fun _ _ _ h => h) (Or.inl ⟨by rfl, ?_⟩) (by assumption) ?_
  rotate_left 1
  · (intro w hSw; (try dsimp only at hSw); go_simp; try with_reducible rfl)
  try simp only [Act.put, List.setIfInBounds_toArray, List.set_cons_zero, List.set_cons_succ]
  refine wpAnyH_take (i := 10) (v := ?_) rfl (by kernel_rfl) (by kernel_rfl) (by kernel_rfl) (fun _ _ _ h => h) (Or.inl ⟨by rfl, ?_⟩) (by assumption) ?_
  rotate_left 1
  · (intro w hSw; (try dsimp only at hSw); go_simp; try with_reducible rfl)
  try simp only [Act.put, List.setIfInBounds_toArray, List.set_cons_zero, List.set_cons_succ]
  refine wpAnyH_take (i := 11) (v := ?_) rfl (by kernel_rfl) (by kernel_rfl) (by kernel_rfl) (fun _ _ _ h => h) (Or.inl ⟨by rfl, ?_⟩) (by assumption) ?_
  rotate_left 1
  · (intro w hSw; (try dsimp only at hSw); go_simp; try with_reducible rfl)
  try simp only [Act.put, List.setIfInBounds_toArray, List.set_cons_zero, List.set_cons_succ]
  refine wpAnyH_take (i := 12) (v := ?_) rfl (by kernel_rfl) (by kernel_rfl) (by kernel_rfl) (fun _ _ _ h => h) (Or.inl ⟨by rfl, ?_⟩) (by assumption) ?_
  rotate_left 1
  · (intro w hSw; (try dsimp only at hSw); go_simp; try with_reducible rfl)
  try simp only [Act.put, List.setIfInBounds_toArray, List.set_cons_zero, List.set_cons_succ]
  refine wpAnyH_take (i := 13) (v := ?_) rfl (by kernel_rfl) (by kernel_rfl) (by kernel_rfl) (fun _ _ _ h => h) (Or.inl ⟨by rfl, ?_⟩) (by assumption) ?_
  rotate_left 1
  · (intro w hSw; (try dsimp only at hSw); go_simp; try with_reducible rfl)
  try simp only [Act.put, List.setIfInBounds_toArray, List.set_cons_zero, List.set_cons_succ]
  refine wpAnyH_take (i := 14) (v := ?_) rfl (by kernel_rfl) (by kernel_rfl) (by kernel_rfl) (fun _ _ _ h => h) (Or.inl ⟨by rfl, ?_⟩) (by assumption) ?_
  rotate_left 1
  · (intro w hSw; (try dsimp only at hSw); go_simp; try with_reducible rfl)
  try simp only [Act.put, List.setIfInBounds_toArray, List.set_cons_zero, List.set_cons_succ]
  refine wpAnyH_take (i := 15) (v := ?_) rfl (by kernel_rfl) (by kernel_rfl) (by kernel_rfl) (fun _ _ _ h => h) (Or.inl ⟨by rfl, ?_⟩) (by assumption) ?_
  rotate_left 1
  · (intro w hSw; (try dsimp only at hSw); go_simp; try with_reducible rfl)
  try simp only [Act.put, List.setIfInBounds_toArray, List.set_cons_zero, List.set_cons_succ]
  refine wpAnyH_take (i := 16) (v := ?_) rfl (by kernel_rfl) (by kernel_rfl) (by kernel_rfl) (fun _ _ _ h => h) (Or.inl ⟨by rfl, ?_⟩) (by assumption) ?_
  rotate_left 1
  · (intro w hSw; (try dsimp only at hSw); go_simp; try with_reducible rfl)
  try simp only [Act.put, List.setIfInBounds_toArray, List.set_cons_zero, List.set_cons_succ]
  refine wpAnyH_take (i := 17) (v := ?_) rfl (by kernel_rfl) (by kernel_rfl) (by kernel_rfl) (fun _ _ _ h => h) (Or.inl ⟨by rfl, ?_⟩) (by assumption) ?_
  rotate_left 1
  · (intro w hSw; (try dsimp only at hSw); go_simp; try with_reducible rfl)
  try simp only [Act.put, List.setIfInBounds_toArray, List.set_cons_zero, List.set_cons_succ]
  refine wpAnyH_ready (rs := [18]) (by kernel_rfl) (by simp) ?_
  refine AllReadyH.cons rfl (fun K hK => ?_) AllReadyH.nil
  go_simp
  refine hK.out _ _ ?_ (fun hHeld => ?_)
  · go_keep
  clear hK K
  try simp only [Act.put, List.setIfInBounds_toArray, List.set_cons_zero, List.set_cons_succ]
  refine wpAnyH_ready (rs := [19]) (by kernel_rfl) (by simp) ?_
  refine AllReadyH.cons rfl (fun K hK => ?_) AllReadyH.nil
  (refine step_app1 (by rfl) (.tmp 89) (.tmp 95) 84 (by rfl) B 100 _ 3 24 Yahh.underlying84 Yahh.info100 rfl (by decide) _ t.buf.length _ (by rfl) (hbuf.drew.alloc _) W.heap.size _ _ _ (by rfl) (heap_alloc_new W.drew _) rfl (one3 _ _ _ rfl rfl rfl) (by omega) (by decide) (by simp; omega) (W.heap.size + 1) (by simp) ?_; intro g2 cap2 w2 hown2 hgrow2 hat2 hlt2; have tb := hid (RowTy.of_own (hbuf.drew.alloc (Obj.cells #[.int .i64 key, .bool false, .int .i64 val] 100))); have r := hid (blk_ty hgrow2 tb.out (hM.drew.alloc _).blk (by decide)); have q0 := cell_of_row w2 bw 0 _ _ _ r.out; have ro := blk_ty hgrow2 tb.out (alloc_keep (w := W.drew) Ho.out _) (by decide); have q2 := cell_of_row w2 w.heap.size 2 _ _ _ ro; have q3 := cell_of_row w2 w.heap.size 3 _ _ _ ro; have hb2 := own_ty hgrow2 tb.out (htx.drew.alloc _) (by decide); have q5 := row_cell txC_len hb2 hp (j := 3) (by omega) rfl; have q6 := hb2.frozenAt (i * 4 + 3); simp only [List.getElem?_toArray, List.getElem?_cons_succ, List.getElem?_cons_zero] at q0 q2 q3; clear ro; have rr := hid (blk_ty hgrow2 tb.out (alloc_keep (w := W.drew) Hr.out _) (by decide)); have x0 := cell_of_row w2 (w.heap.size + 1) 0 _ _ _ rr.out; have x1 := cell_of_row w2 (w.heap.size + 1) 1 _ _ _ rr.out; have y0 := frozen_of_row w2 (w.heap.size + 1) 0 _ _ rr.out; have y1 := frozen_of_row w2 (w.heap.size + 1) 1 _ _ rr.out; have rd := blk_ty hgrow2 tb.out (alloc_keep (w := W.drew) P.out.hd _) (by decide); have d0 := cell_of_row w2 (w.heap.size + 3) 0 _ _ _ rd; have d1 := cell_of_row w2 (w.heap.size + 3) 1 _ _ _ rd; simp only [List.getElem?_toArray, List.getElem?_cons_succ, List.getElem?_cons_zero] at x0 x1 d0 d1)
  refine hK.out _ _ ?_ (fun hHeld => ?_)
  · exact ⟨q0, q5, q2, q3⟩
  clear hK K
  try simp only [Act.put, List.setIfInBounds_toArray, List.set_cons_zero, List.set_cons_succ]
  refine wpAnyH_take (i := 20) (v := ?_) rfl (by kernel_rfl) (by kernel_rfl) (by kernel_rfl) (fun _ _ _ h => h) (Or.inl ⟨by rfl, ?_⟩) (by assumption) ?_
  rotate_left 1
  · (intro w hSw; (try dsimp only at hSw); go_simp; try with_reducible rfl)
  try simp only [Act.put, List.setIfInBounds_toArray, List.set_cons_zero, List.set_cons_succ]
  refine wpAnyH_take (i := 21) (v := ?_) rfl (by kernel_rfl) (by kernel_rfl) (by kernel_rfl) (fun _ _ _ h => h) (Or.inl ⟨by rfl, ?_⟩) (by assumption) ?_
  rotate_left 1
  · (intro w hSw; (try dsimp only at hSw); go_simp; try with_reducible rfl)
  try simp only [Act.put, List.setIfInBounds_toArray, List.set_cons_zero, List.set_cons_succ]
  refine wpAnyH_done (by kernel_rfl) ?_ _
  refine lastQ_mk rfl rfl (fun K hK => ?_)
  go_wp2
  have hM2 := (hM.alloc (Obj.cells #[.int .i64 key, .bool false, .int .i64 val] 100)).drew.bufGrow hp hact hgrow2 (b' := t.buf ++ [⟨key, false, val⟩]) (hd' := .slice (some ⟨g2, 0, none⟩) (t.buf.length + 1) cap2) (by simpa [wrCells, wrC] using hown2) (at_or hat2 (by simp)) rfl
  have k2 : Keep B wldT w w2 := ((k0.alloc (by omega) _).drew).grown (e := 100) hgrow2 (by simp; omega) (fun j hj => (own_lt hbuf hj).1) tb.out (by decide)
  have k3 : Keep B wldT w (w2.setCell ⟨g, i * 4 + 3, none⟩ (.slice (some ⟨g2, 0, none⟩) (t.buf.length + 1) cap2)) := k2.grown (e := 115) (set_grown _ _ _ _) (by have := k2.below.size; omega) (fun j hj => by simp at hj; omega) (RowTy.of_own (v := .slice (some ⟨g, 0, none⟩) ct.length cap) hb2) (by decide)
  have rr3 : (w2.setCell ⟨g, i * 4 + 3, none⟩ (.slice (some ⟨g2, 0, none⟩) (t.buf.length + 1) cap2)).heap[w.heap.size + 1]? = some (.cells #[.int .i64 0, .int .i64 0] 37 (0, 0)) := by
    rw [Below.heap_setCell _ _ _ _ (by exact gr)]; exact rr.out
  exact bodyPost_ret (v := resV _) (res_run rfl rr3 rfl _ _) rfl ⟨rfl, step_finS ⟨_, _, _, _, hM2, by rw [List.map_set, hact], rfl⟩ k3 rr3 (by omega) hB _ _⟩

set_option maxHeartbeats 8000000 in
set_option maxRecDepth 100000 in
theorem stepS_put3 {B : Nat} {w : World} {bw : Nat} {tv lv : Value} {ct : List (Txn × Value)} {cl : List (CR × Value)} (h : WldM B w bw tv lv ct cl) (hB : B ≤ w.heap.size) (tx key val : Int) (i : Nat) (t : Txn) (hd : Value) (hf : findTx (ct.map (·.1)) tx = some i) (hp : ct[i]? = some (t, hd)) (hn : ct.length ≤ 1000000) (hact : t.active = true) (hb : t.buf.length ≤ 1000000) :
    Calls Yahh.prog 48 #[.pointer (some ⟨bw, 0, none⟩), .agg #[.int .i64 3, .int .i64 tx, .int .i64 key, .int .i64 val]] w fun e w' => e = .returned (resV (0, 0)) ∧ StepPostS B w bw ⟨(ct.map (·.1)).set i ⟨t.id, true, t.snap, t.buf ++ [⟨key, true, 0⟩]⟩, cl.map (·.1)⟩ w' := by
  have hM := (((h.alloc (Obj.cells #[.int .i64 3, .int .i64 tx, .int .i64 key, .int .i64 val] 35)).alloc (Obj.cells #[.int .i64 0, .int .i64 0] 37)).alloc (Obj.cells #[.int .i64 2, .int .i64 0] 37)).alloc (Obj.cells #[.int .i64 0, .int .i64 0] 37)
  have P := hid (pre48 w 3 tx key val)
  have k0 : Keep B wldT w ((((w.alloc (Obj.cells #[.int .i64 3, .int .i64 tx, .int .i64 key, .int .i64 val] 35)).alloc (Obj.cells #[.int .i64 0, .int .i64 0] 37)).alloc (Obj.cells #[.int .i64 2, .int .i64 0] 37)).alloc (Obj.cells #[.int .i64 0, .int .i64 0] 37)) := (((( Keep.refl _ _ _).alloc hB _).alloc (by simp; omega) _).alloc (by simp; omega) _).alloc (by simp; omega) _
  have hlt := h.lt
  have hfc := findS_any hM tx hn
  rw [hf] at hfc
  go_enter Yahh.func48, Yahh.ntmps48
  go_wp2_with fail
  refine hfc.mono ?_
  rintro e w1 ⟨rfl, rfl⟩
  simp only [idxI]
  generalize hW : (((w.alloc (Obj.cells #[.int .i64 3, .int .i64 tx, .int .i64 key, .int .i64 val] 35)).alloc (Obj.cells #[.int .i64 0, .int .i64 0] 37)).alloc (Obj.cells #[.int .i64 2, .int .i64 0] 37)).alloc (Obj.cells #[.int .i64 0, .int .i64 0] 37) = W at *
  clear hW hfc
  have hsW := P.out.size
  have hsW1 : w.heap.size + 4 ≤ W.heap.size := by omega
  have Ho := hid P.out.ho
  have Hr := hid P.out.hr
  have o0 := cell_of_row W w.heap.size 0 _ _ _ P.out.ho
  have o1 := cell_of_row W w.heap.size 1 _ _ _ P.out.ho
  have o2 := cell_of_row W w.heap.size 2 _ _ _ P.out.ho
  have o3 := cell_of_row W w.heap.size 3 _ _ _ P.out.ho
  have x0 := cell_of_row W (w.heap.size + 1) 0 _ _ _ P.out.hr
  have x1 := cell_of_row W (w.heap.size + 1) 1 _ _ _ P.out.hr
  have y0 := frozen_of_row W (w.heap.size + 1) 0 _ _ P.out.hr
  have y1 := frozen_of_row W (w.heap.size + 1) 1 _ _ P.out.hr
  have i0 := cell_of_row W (w.heap.size + 2) 0 _ _ _ P.out.hi
  have i1 := cell_of_row W (w.heap.size + 2) 1 _ _ _ P.out.hi
  have d0 := cell_of_row W (w.heap.size + 3) 0 _ _ _ P.out.hd
  have d1 := cell_of_row W (w.heap.size + 3) 1 _ _ _ P.out.hd
  simp only [List.getElem?_toArray, List.getElem?_cons_succ, List.getElem?_cons_zero] at o0 o1 o2 o3 x0 x1 i0 i1 d0 d1
  have c0 := hM.c0
  have c1 := hM.c1
  have bn1 : bw ≠ w.heap.size + 1 := by omega
  have bn1' : w.heap.size + 1 ≠ bw := by omega
  have bn0' : w.heap.size ≠ bw := by omega
  have bn2' : w.heap.size + 2 ≠ bw := by omega
  have bn3' : w.heap.size + 3 ≠ bw := by omega
  clear hsW hf
  have hi : i < ct.length := (List.getElem?_eq_some_iff.1 hp).1
  have hil : (i : Int) < (ct.length : Int) := by omega
  have hi0 : (0 : Int) ≤ (i : Int) := by omega
  have htx := hM.txs
  obtain ⟨ad, cap, g, htv, had⟩ := own_shape htx
  subst htv
  obtain rfl := had (by omega)
  have t1 := row_cell txC_len htx hp (j := 1) (by omega) rfl
  have t3 := row_cell txC_len htx hp (j := 3) (by omega) rfl
  simp only [] at t1 t3
  rw [hact] at t1
  have tf1 := htx.frozenAt (i * 4 + 1)
  have tf3 := htx.frozenAt (i * 4 + 3)
  have gbw : g ≠ bw := own_bne htx hM.blk (by decide)
  have gbw' : bw ≠ g := gbw.symm
  have go_ : w.heap.size ≠ g := (own_bne htx Ho.out (by decide)).symm
  have gr : w.heap.size + 1 ≠ g := (own_bne htx Hr.out (by decide)).symm
  have gi : w.heap.size + 2 ≠ g := (own_bne htx P.out.hi (by decide)).symm
  have gd : w.heap.size + 3 ≠ g := (own_bne htx P.out.hd (by decide)).symm
  have gr' : g ≠ w.heap.size + 1 := gr.symm
  have hbuf := hM.bufs i _ hp hact
  obtain ⟨bd, bcap, bg, hbv, hbd⟩ := own_shape hbuf
  simp only [] at hbv
  subst hbv
  have tg : RowTy W (some g) 115 := RowTy.of_own (v := .slice (some ⟨g, 0, none⟩) ct.length cap) htx
  have bgB : B ≤ g := (own_lt htx rfl).1
  go_wp2
  refine wp_region_cut (fun w' => w'.cell? ⟨bw, 0, none⟩ = some (.slice (some ⟨g, 0, none⟩) ct.length cap) ∧ w'.cell? ⟨g, i * 4 + 3, none⟩ = some (.slice bd t.buf.length bcap) ∧ w'.cell? ⟨w.heap.size, 2, none⟩ = some (.int .i64 key) ∧ w'.cell? ⟨w.heap.size, 3, none⟩ = some (.int .i64 val)) (by simp) (by kernel_rfl) (by kernel_rfl) (by exact ⟨c0, t3, o2, o3⟩) (fun hHeld => ?_)
  simp only [List.dropLast_cons_cons, List.dropLast_singleton, List.length_cons, List.length_nil, Nat.reduceAdd]
  refine wpAnyH_take (i := 0) (v := ?_) rfl (by kernel_rfl) (by kernel_rfl) (by kernel_rfl) (fun _ _ _ h => h) (Or.inl ⟨by rfl, ?_⟩) (by assumption) ?_
  rotate_left 1
  · (intro w hSw; (try dsimp only at hSw); go_simp; try with_reducible rfl)
  try simp only [Act.put, List.setIfInBounds_toArray, List.set_cons_zero, List.set_cons_succ]
  refine wpAnyH_take (i := 1) (v := ?_) rfl (by kernel_rfl) (by kernel_rfl) (by kernel_rfl) (fun _ _ _ h => h) (Or.inl ⟨by rfl, ?_⟩) (by assumption) ?_
  rotate_left 1
  · (intro w hSw; (try dsimp only at hSw); go_simp; try with_reducible rfl)
  try simp only [Act.put, List.setIfInBounds_toArray, List.set_cons_zero, List.set_cons_succ]
  refine wpAnyH_take (i := 2) (v := ?_) rfl (by kernel_rfl) (by kernel_rfl) (by kernel_rfl) (fun _ _ _ h => h) (Or.inl ⟨by rfl, ?_⟩) (by assumption) ?_
  rotate_left 1
  · (intro w hSw; (try dsimp only at hSw); go_simp; try with_reducible rfl)
  try simp only [Act.put, List.setIfInBounds_toArray, List.set_cons_zero, List.set_cons_succ]
  refine wpAnyH_take (i := 3) (v := ?_) rfl (by kernel_rfl) (by kernel_rfl) (by kernel_rfl) (fun _ _ _ h => h) (Or.inl ⟨by rfl, ?_⟩) (by assumption) ?_
  rotate_left 1
  · (intro w hSw; (try dsimp only at hSw); go_simp; try with_reducible rfl)
  try simp only [Act.put, List.setIfInBounds_toArray, List.set_cons_zero, List.set_cons_succ]
  refine wpAnyH_take (i := 4) (v := ?_) rfl (by kernel_rfl) (by kernel_rfl) (by kernel_rfl) (fun _ _ _ h => h) (Or.inl ⟨by rfl, ?_⟩) (by assumption) ?_
  rotate_left 1
  · (intro w hSw; (try dsimp only at hSw); go_simp; try with_reducible rfl)
  try simp only [Act.put, List.setIfInBounds_toArray, List.set_cons_zero, List.set_cons_succ]
  refine wpAnyH_take (i := 5) (v := ?_) rfl (by kernel_rfl) (by kernel_rfl) (by kernel_rfl) (fun _ _ _ h => h) (Or.inl ⟨by rfl, ?_⟩) (by assumption) ?_
  rotate_left 1
  · (intro w hSw; (try dsimp only at hSw); go_simp; try with_reducible rfl)
  try simp only [Act.put, List.setIfInBounds_toArray, List.set_cons_zero, List.set_cons_succ]
  refine wpAnyH_take (i := 6) (v := ?_) rfl (by kernel_rfl) (by kernel_rfl) (by kernel_rfl) (fun _ _ _ h => h) (Or.inl ⟨by rfl, ?_⟩) (by assumption) ?_
  rotate_left 1
  · (intro w hSw; (try dsimp only at hSw); go_simp; try with_reducible rfl)
  try simp only [Act.put, List.setIfInBounds_toArray, List.set_cons_zero, List.set_cons_succ]
  refine wpAnyH_take (i := 7) (v := ?_) rfl (by kernel_rfl) (by kernel_rfl) (by kernel_rfl) (fun _ _ _ h => h) (Or.inl ⟨by rfl, ?_⟩) (by assumption) ?_
  rotate_left 1
  · (intro w hSw; (try dsimp only at hSw); go_simp; try with_reducible rfl)
  try simp only [Act.put, List.setIfInBounds_toArray, List.set_cons_zero, List.set_cons_succ]
  refine wpAnyH_take (i := 8) (v := ?_) rfl (by kernel_rfl) (by kernel_rfl) (by kernel_rfl) (fun _ _ _ h => h) (Or.inl ⟨by rfl, ?_⟩) (by assumption) ?_
  rotate_left 1
  · (intro w hSw; (try dsimp only at hSw); go_simp; try with_reducible rfl)
  try simp only [Act.put, List.setIfInBounds_toArray, List.set_cons_zero, List.set_cons_succ]
  refine wpAnyH_take (i := 9) (v := ?_) rfl (by kernel_rfl) (by kernel_rfl) (by kernel_rfl) (fun _ _ _ h => h) (Or.inl ⟨by rfl, ?_⟩) (by assumption) ?_
  rotate_left 1
  · (intro w hSw; (try dsimp only at hSw); go_simp; try with_reducible rfl)
  try simp only [Act.put, List.setIfInBounds_toArray, List.set_cons_zero, List.set_cons_succ]
  refine wpAnyH_take (i := 10) (v := ?_) rfl (by kernel_rfl) (by kernel_rfl) (by kernel_rfl) (fun _ _ _ h => h) (Or.inl ⟨by rfl, ?_⟩) (by assumption) ?_
  rotate_left 1
  · (intro w hSw; (try dsimp only at hSw); go_simp; try with_reducible rfl)
  try simp only [Act.put, List.setIfInBounds_toArray, List.set_cons_zero, List.set_cons_succ]
  refine wpAnyH_take (i := 11) (v := ?_) rfl (by kernel_rfl) (by kernel_rfl) (by kernel_rfl) (fun _ _ _ h => h) (Or.inl ⟨by rfl, ?_⟩) (by assumption) ?_
  rotate_left 1
  · (intro w hSw; (try dsimp only at hSw); go_simp; try with_reducible rfl)
  try simp only [Act.put, List.setIfInBounds_toArray, List.set_cons_zero, List.set_cons_succ]
  refine wpAnyH_take (i := 12) (v := ?_) rfl (by kernel_rfl) (by kernel_rfl) (by kernel_rfl) (fun _ _ _ h => h) (Or.inl ⟨by rfl, ?_⟩) (by assumption) ?_
  rotate_left 1
  · (intro w hSw; (try dsimp only at hSw); go_simp; try with_reducible rfl)
  try simp only [Act.put, List.setIfInBounds_toArray, List.set_cons_zero, List.set_cons_succ]
  refine wpAnyH_take (i := 13) (v := ?_) rfl (by kernel_rfl) (by kernel_rfl) (by kernel_rfl) (fun _ _ _ h => h) (Or.inl ⟨by rfl, ?_⟩) (by assumption) ?_
  rotate_left 1
  · (intro w hSw; (try dsimp only at hSw); go_simp; try with_reducible rfl)
  try simp only [Act.put, List.setIfInBounds_toArray, List.set_cons_zero, List.set_cons_succ]
  refine wpAnyH_take (i := 14) (v := ?_) rfl (by kernel_rfl) (by kernel_rfl) (by kernel_rfl) (fun _ _ _ h => h) (Or.inl ⟨by rfl, ?_⟩) (by assumption) ?_
  rotate_left 1
  · (intro w hSw; (try dsimp only at hSw); go_simp; try with_reducible rfl)
  try simp only [Act.put, List.setIfInBounds_toArray, List.set_cons_zero, List.set_cons_succ]
  refine wpAnyH_take (i := 15) (v := ?_) rfl (by kernel_rfl) (by kernel_rfl) (by kernel_rfl) (fun _ _ _ h => h) (Or.inl ⟨by rfl, ?_⟩) (by assumption) ?_
  rotate_left 1
  · (intro w hSw; (try dsimp only at hSw); go_simp; try with_reducible rfl)
  try simp only [Act.put, List.setIfInBounds_toArray, List.set_cons_zero, List.set_cons_succ]
  refine wpAnyH_ready (rs := [16]) (by kernel_rfl) (by simp) ?_
  refine AllReadyH.cons rfl (fun K hK => ?_) AllReadyH.nil
  go_simp
  refine hK.out _ _ ?_ (fun hHeld => ?_)
  · go_keep
  clear hK K
  try simp only [Act.put, List.setIfInBounds_toArray, List.set_cons_zero, List.set_cons_succ]
  refine wpAnyH_ready (rs := [17]) (by kernel_rfl) (by simp) ?_
  refine AllReadyH.cons rfl (fun K hK => ?_) AllReadyH.nil
  (refine step_app1 (by rfl) (.tmp 114) (.tmp 118) 84 (by rfl) B 100 _ 3 24 Yahh.underlying84 Yahh.info100 rfl (by decide) _ t.buf.length _ (by rfl) (hbuf.drew.alloc _) W.heap.size _ _ _ (by rfl) (heap_alloc_new W.drew _) rfl (one3 _ _ _ rfl rfl rfl) (by omega) (by decide) (by simp; omega) (W.heap.size + 1) (by simp) ?_; intro g2 cap2 w2 hown2 hgrow2 hat2 hlt2; have tb := hid (RowTy.of_own (hbuf.drew.alloc (Obj.cells #[.int .i64 key, .bool true, .int .i64 0] 100))); have r := hid (blk_ty hgrow2 tb.out (hM.drew.alloc _).blk (by decide)); have q0 := cell_of_row w2 bw 0 _ _ _ r.out; have ro := blk_ty hgrow2 tb.out (alloc_keep (w := W.drew) Ho.out _) (by decide); have q2 := cell_of_row w2 w.heap.size 2 _ _ _ ro; have q3 := cell_of_row w2 w.heap.size 3 _ _ _ ro; have hb2 := own_ty hgrow2 tb.out (htx.drew.alloc _) (by decide); have q5 := row_cell txC_len hb2 hp (j := 3) (by omega) rfl; have q6 := hb2.frozenAt (i * 4 + 3); simp only [List.getElem?_toArray, List.getElem?_cons_succ, List.getElem?_cons_zero] at q0 q2 q3; clear ro; have rr := hid (blk_ty hgrow2 tb.out (alloc_keep (w := W.drew) Hr.out _) (by decide)); have x0 := cell_of_row w2 (w.heap.size + 1) 0 _ _ _ rr.out; have x1 := cell_of_row w2 (w.heap.size + 1) 1 _ _ _ rr.out; have y0 := frozen_of_row w2 (w.heap.size + 1) 0 _ _ rr.out; have y1 := frozen_of_row w2 (w.heap.size + 1) 1 _ _ rr.out; have rd := blk_ty hgrow2 tb.out (alloc_keep (w := W.drew) P.out.hd _) (by decide); have d0 := cell_of_row w2 (w.heap.size + 3) 0 _ _ _ rd; have d1 := cell_of_row w2 (w.heap.size + 3) 1 _ _ _ rd; simp only [List.getElem?_toArray, List.getElem?_cons_succ, List.getElem?_cons_zero] at x0 x1 d0 d1)
  refine hK.out _ _ ?_ (fun hHeld => ?_)
  · exact ⟨q0, q5, q2, q3⟩
  clear hK K
  try simp only [Act.put, List.setIfInBounds_toArray, List.set_cons_zero, List.set_cons_succ]
  refine wpAnyH_take (i := 18) (v := ?_) rfl (by kernel_rfl) (by kernel_rfl) (by kernel_rfl) (fun _ _ _ h => h) (Or.inl ⟨by rfl, ?_⟩) (by assumption) ?_
  rotate_left 1
  · (intro w hSw; (try dsimp only at hSw); go_simp; try with_reducible rfl)
  try simp only [Act.put, List.setIfInBounds_toArray, List.set_cons_zero, List.set_cons_succ]
  refine wpAnyH_take (i := 19) (v := ?_) rfl (by kernel_rfl) (by kernel_rfl) (by kernel_rfl) (fun _ _ _ h => h) (Or.inl ⟨by rfl, ?_⟩) (by assumption) ?_
  rotate_left 1
  · (intro w hSw; (try dsimp only at hSw); go_simp; try with_reducible rfl)
  try simp only [Act.put, List.setIfInBounds_toArray, List.set_cons_zero, List.set_cons_succ]
  refine wpAnyH_done (by kernel_rfl) ?_ _
  refine lastQ_mk rfl rfl (fun K hK => ?_)
  go_wp2
  have hM2 := (hM.alloc (Obj.cells #[.int .i64 key, .bool true, .int .i64 0] 100)).drew.bufGrow hp hact hgrow2 (b' := t.buf ++ [⟨key, true, 0⟩]) (hd' := .slice (some ⟨g2, 0, none⟩) (t.buf.length + 1) cap2) (by simpa [wrCells, wrC] using hown2) (at_or hat2 (by simp)) rfl
  have k2 : Keep B wldT w w2 := ((k0.alloc (by omega) _).drew).grown (e := 100) hgrow2 (by simp; omega) (fun j hj => (own_lt hbuf hj).1) tb.out (by decide)
  have k3 : Keep B wldT w (w2.setCell ⟨g, i * 4 + 3, none⟩ (.slice (some ⟨g2, 0, none⟩) (t.buf.length + 1) cap2)) := k2.grown (e := 115) (set_grown _ _ _ _) (by have := k2.below.size; omega) (fun j hj => by simp at hj; omega) (RowTy.of_own (v := .slice (some ⟨g, 0, none⟩) ct.length cap) hb2) (by decide)
  have rr3 : (w2.setCell ⟨g, i * 4 + 3, none⟩ (.slice (some ⟨g2, 0, none⟩) (t.buf.length + 1) cap2)).heap[w.heap.size + 1]? = some (.cells #[.int .i64 0, .int .i64 0] 37 (0, 0)) := by
    rw [Below.heap_setCell _ _ _ _ (by exact gr)]; exact rr.out
  exact bodyPost_ret (v := resV _) (res_run rfl rr3 rfl _ _) rfl ⟨rfl, step_finS ⟨_, _, _, _, hM2, by rw [List.map_set, hact], rfl⟩ k3 rr3 (by omega) hB _ _⟩

end Go.Proofs.Yafahw
