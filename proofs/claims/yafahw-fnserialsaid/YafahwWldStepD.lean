/- Walks: (*world).step (48): Commit without a conflict. -/
import Derived.Test.YafahwWldStepC
namespace Go.Proofs.Yafahw
open Go.RowKit
set_option linter.unusedVariables false
set_option linter.unusedSimpArgs false
attribute [local go_sem ↓] Go.wp_at_zero Go.wp_at_succ


set_option maxHeartbeats 8000000 in
set_option maxRecDepth 100000 in
theorem stepS_com {B : Nat} {w : World} {bw : Nat} {tv lv : Value} {ct : List (Txn × Value)} {cl : List (CR × Value)} (h : WldM B w bw tv lv ct cl) (hB : B ≤ w.heap.size) (tx key val : Int) (i : Nat) (t : Txn) (hd : Value) (hf : findTx (ct.map (·.1)) tx = some i) (hp : ct[i]? = some (t, hd)) (hn : ct.length ≤ 1000000) (hact : t.active = true) (hb : t.buf.length ≤ 1000000) (hln : cl.length ≤ 1000000) (hlw : ∀ p ∈ cl, p.1.writes.length ≤ 1000000) (hcf : conflictS (cl.map (·.1)) t = false) :
    Calls Yahh.prog 48 #[.pointer (some ⟨bw, 0, none⟩), .agg #[.int .i64 4, .int .i64 tx, .int .i64 key, .int .i64 val]] w fun e w' => e = .returned (resV (0, (cl.length : Int) + 1)) ∧ StepPostS B w bw ⟨(ct.map (·.1)).set i ⟨t.id, false, t.snap, t.buf⟩, cl.map (·.1) ++ [⟨(cl.length : Int) + 1, t.buf⟩]⟩ w' := by
  obtain ⟨bd, bcap, bg, hbv, hbd⟩ := own_shape (h.bufs i _ hp hact)
  simp only [] at hbv
  subst hbv
  have hM := (((h.alloc (Obj.cells #[.int .i64 4, .int .i64 tx, .int .i64 key, .int .i64 val] 35)).alloc (Obj.cells #[.int .i64 0, .int .i64 0] 37)).alloc (Obj.cells #[.int .i64 2, .int .i64 0] 37)).alloc (Obj.cells #[.int .i64 0, .int .i64 0] 37)
  have P := hid (pre48 w 4 tx key val)
  have k0 : Keep B wldT w ((((w.alloc (Obj.cells #[.int .i64 4, .int .i64 tx, .int .i64 key, .int .i64 val] 35)).alloc (Obj.cells #[.int .i64 0, .int .i64 0] 37)).alloc (Obj.cells #[.int .i64 2, .int .i64 0] 37)).alloc (Obj.cells #[.int .i64 0, .int .i64 0] 37)) := (((( Keep.refl _ _ _).alloc hB _).alloc (by simp; omega) _).alloc (by simp; omega) _).alloc (by simp; omega) _
  have hlt := h.lt
  have hfc := findS_any hM tx hn
  rw [hf] at hfc
  go_enter Yahh.func48, Yahh.ntmps48
  go_wp2_with fail
  refine hfc.mono ?_
  rintro e w1 ⟨rfl, rfl⟩
  simp only [idxI]
  generalize hW : (((w.alloc (Obj.cells #[.int .i64 4, .int .i64 tx, .int .i64 key, .int .i64 val] 35)).alloc (Obj.cells #[.int .i64 0, .int .i64 0] 37)).alloc (Obj.cells #[.int .i64 2, .int .i64 0] 37)).alloc (Obj.cells #[.int .i64 0, .int .i64 0] 37) = W at *
  clear hW hfc
  have hsW := P.out.size
  have hsW1 : w.heap.size + 4 ≤ W.heap.size := by omega
  have Ho := hid P.out.ho
  have Hr := hid P.out.hr
  have o0 := cell_of_row W w.heap.size 0 _ _ _ P.out.ho
  have o1 := cell_of_row W w.heap.size 1 _ _ _ P.out.ho
  have o2 := cell_of_row W w.heap.size 2 _ _ _ P.out.ho
  have o3 := cell_of_row W w.heap.size 3 _ _ _ P.out.ho
  have x0 := cell_of_row W (w.heap.size + 1) 0 _ _ _ P.out.hr
  have x1 := cell_of_row W (w.heap.size + 1) 1 _ _ _ P.out.hr
  have y0 := frozen_of_row W (w.heap.size + 1) 0 _ _ P.out.hr
  have y1 := frozen_of_row W (w.heap.size + 1) 1 _ _ P.out.hr
  have i0 := cell_of_row W (w.heap.size + 2) 0 _ _ _ P.out.hi
  have i1 := cell_of_row W (w.heap.size + 2) 1 _ _ _ P.out.hi
  have d0 := cell_of_row W (w.heap.size + 3) 0 _ _ _ P.out.hd
  have d1 := cell_of_row W (w.heap.size + 3) 1 _ _ _ P.out.hd
  simp only [List.getElem?_toArray, List.getElem?_cons_succ, List.getElem?_cons_zero] at o0 o1 o2 o3 x0 x1 i0 i1 d0 d1
  have c0 := hM.c0
  have c1 := hM.c1
  have bn1 : bw ≠ w.heap.size + 1 := by omega
  have bn1' : w.heap.size + 1 ≠ bw := by omega
  have bn0' : w.heap.size ≠ bw := by omega
  have bn2' : w.heap.size + 2 ≠ bw := by omega
  have bn3' : w.heap.size + 3 ≠ bw := by omega
  clear hsW hf
  have hi : i < ct.length := (List.getElem?_eq_some_iff.1 hp).1
  have hil : (i : Int) < (ct.length : Int) := by omega
  have hi0 : (0 : Int) ≤ (i : Int) := by omega
  have htx := hM.txs
  obtain ⟨ad, cap, g, htv, had⟩ := own_shape htx
  subst htv
  obtain rfl := had (by omega)
  have t1 := row_cell txC_len htx hp (j := 1) (by omega) rfl
  have t3 := row_cell txC_len htx hp (j := 3) (by omega) rfl
  simp only [] at t1 t3
  rw [hact] at t1
  have tf1 := htx.frozenAt (i * 4 + 1)
  have tf3 := htx.frozenAt (i * 4 + 3)
  have gbw : g ≠ bw := own_bne htx hM.blk (by decide)
  have gbw' : bw ≠ g := gbw.symm
  have go_ : w.heap.size ≠ g := (own_bne htx Ho.out (by decide)).symm
  have gr : w.heap.size + 1 ≠ g := (own_bne htx Hr.out (by decide)).symm
  have gi : w.heap.size + 2 ≠ g := (own_bne htx P.out.hi (by decide)).symm
  have gd : w.heap.size + 3 ≠ g := (own_bne htx P.out.hd (by decide)).symm
  have gr' : g ≠ w.heap.size + 1 := gr.symm
  have hbuf := hM.bufs i _ hp hact
  have hap : ∀ (j : Nat) (q : Txn × Value), j ≠ i → ct[j]? = some q → q.1.active = true → Apart q.2 (.slice bd t.buf.length bcap) := fun j q hji hq hqa => hM.dt j i q _ hji hq hp hqa hact
  have m1 := hM.off hp rfl
  have tg : RowTy W (some g) 115 := RowTy.of_own (v := .slice (some ⟨g, 0, none⟩) ct.length cap) htx
  have bgB : B ≤ g := (own_lt htx rfl).1
  have k1 := k0.grown (e := 115) (set_grown W g (i * 4 + 1) (.bool false)) (by omega) (fun k hk => by simp at hk; omega) tg (by decide)
  have hbuf1 := own_ty (set_grown W g (i * 4 + 1) (.bool false)) tg hbuf (by decide)
  have Hr1 := hid (show (W.setCell ⟨g, i * 4 + 1, none⟩ (.bool false)).heap[w.heap.size + 1]? = some (.cells #[.int .i64 0, .int .i64 0] 37 (0, 0)) by rw [Below.heap_setCell _ _ _ _ (by exact gr)]; exact Hr.out)
  have hsz1 := k1.below.size
  have hcc := conflictS_any m1 i ⟨t.id, false, t.snap, t.buf⟩ (.slice bd t.buf.length bcap) (by simp [hi]) hbuf1 (by simpa using hn) hb hln hlw
  have hcE : conflictS (cl.map (·.1)) ⟨t.id, false, t.snap, t.buf⟩ = conflictS (cl.map (·.1)) t := rfl
  rw [hcE, hcf] at hcc
  clear hbuf tg
  go_wp2_with fail
  refine hcc.mono ?_
  rintro e w2 ⟨rfl, hb2⟩
  clear hcc
  have hszW1 : (W.setCell ⟨g, i * 4 + 1, none⟩ (.bool false)).heap.size = W.heap.size := by simp [World.setCell]
  have hM2 := m1.below hb2
  have hr2 : w2.heap[w.heap.size + 1]? = some (.cells #[.int .i64 0, .int .i64 0] 37 (0, 0)) := by rw [hb2.block _ (by omega)]; exact Hr1.out
  have Hr2 := hid hr2
  have k2 : Keep B wldT w w2 := ⟨k1.below.trans (hb2.mono (by omega)), fun k c e f hk he => by rw [hb2.block k (by have := blk_lt hk; omega)]; exact k1.block k c e f hk he⟩
  clear x0 x1 y0 y1 i0 i1 d0 d1 o0 o1 o2 o3 c0 c1 t1 t3 tf1 tf3
  have x0 := cell_of_row w2 (w.heap.size + 1) 0 _ _ _ hr2
  have x1 := cell_of_row w2 (w.heap.size + 1) 1 _ _ _ hr2
  have y0 := frozen_of_row w2 (w.heap.size + 1) 0 _ _ hr2
  have y1 := frozen_of_row w2 (w.heap.size + 1) 1 _ _ hr2
  simp only [List.getElem?_toArray, List.getElem?_cons_succ, List.getElem?_cons_zero] at x0 x1
  clear hr2
  have hbuf2 := own_below hbuf1 hb2 (Nat.le_refl _)
  have hps : (ct.set i (⟨t.id, false, t.snap, t.buf⟩, (.slice bd t.buf.length bcap : Value)))[i]? = some (⟨t.id, false, t.snap, t.buf⟩, .slice bd t.buf.length bcap) := by simp [hi]
  have Hps := hid hps
  have c0 := hM2.c0
  have c1 := hM2.c1
  have f1 := hM2.fz 1
  have htx2 := hM2.txs
  rw [List.length_set] at htx2
  have t3 := row_cell txC_len htx2 hps (j := 3) (by omega) rfl
  simp only [] at t3
  obtain ⟨ld, lcap, lg, hlv, hld⟩ := own_shape hM2.log
  subst hlv
  have hsz2 := k2.below.size
  have hsz2' : w.heap.size + 4 ≤ w2.heap.size := by have := hb2.size; omega
  clear htx2 hps hld
  go_wp2
  refine wp_region_cut (fun w' => w'.cell? ⟨bw, 0, none⟩ = some (.slice (some ⟨g, 0, none⟩) ct.length cap) ∧ w'.cell? ⟨bw, 1, none⟩ = some (.slice ld cl.length lcap) ∧ w'.cell? ⟨g, i * 4 + 3, none⟩ = some (.slice bd t.buf.length bcap)) (by simp) (by kernel_rfl) (by kernel_rfl) (by exact ⟨c0, c1, t3⟩) (fun hHeld => ?_)
  simp only [List.dropLast_cons_cons, List.dropLast_singleton, List.length_cons, List.length_nil, Nat.reduceAdd]
  refine wpAnyH_take (i := 0) (v := ?_) rfl (by kernel_rfl) (by kernel_rfl) (by kernel_rfl) (fun _ _ _ h => h) (Or.inl ⟨by rfl, ?_⟩) (by assumption) ?_
  rotate_left 1
  · (intro w hSw; (try dsimp only at hSw); go_simp; try with_reducible rfl)
  try simp only [Act.put, List.setIfInBounds_toArray, List.set_cons_zero, List.set_cons_succ]
  refine wpAnyH_take (i := 1) (v := ?_) rfl (by kernel_rfl) (by kernel_rfl) (by kernel_rfl) (fun _ _ _ h => h) (Or.inl ⟨by rfl, ?_⟩) (by assumption) ?_
  rotate_left 1
  · (intro w hSw; (try dsimp only at hSw); go_simp; try with_reducible rfl)
  try simp only [Act.put, List.setIfInBounds_toArray, List.set_cons_zero, List.set_cons_succ]
  refine wpAnyH_take (i := 2) (v := ?_) rfl (by kernel_rfl) (by kernel_rfl) (by kernel_rfl) (fun _ _ _ h => h) (Or.inl ⟨by rfl, ?_⟩) (by assumption) ?_
  rotate_left 1
  · (intro w hSw; (try dsimp only at hSw); go_simp; try with_reducible rfl)
  try simp only [Act.put, List.setIfInBounds_toArray, List.set_cons_zero, List.set_cons_succ]
  refine wpAnyH_take (i := 3) (v := ?_) rfl (by kernel_rfl) (by kernel_rfl) (by kernel_rfl) (fun _ _ _ h => h) (Or.inl ⟨by rfl, ?_⟩) (by assumption) ?_
  rotate_left 1
  · (intro w hSw; (try dsimp only at hSw); go_simp; try with_reducible rfl)
  try simp only [Act.put, List.setIfInBounds_toArray, List.set_cons_zero, List.set_cons_succ]
  refine wpAnyH_take (i := 4) (v := ?_) rfl (by kernel_rfl) (by kernel_rfl) (by kernel_rfl) (fun _ _ _ h => h) (Or.inl ⟨by rfl, ?_⟩) (by assumption) ?_
  rotate_left 1
  · (intro w hSw; (try dsimp only at hSw); go_simp; try with_reducible rfl)
  try simp only [Act.put, List.setIfInBounds_toArray, List.set_cons_zero, List.set_cons_succ]
  refine wpAnyH_take (i := 5) (v := ?_) rfl (by kernel_rfl) (by kernel_rfl) (by kernel_rfl) (fun _ _ _ h => h) (Or.inl ⟨by rfl, ?_⟩) (by assumption) ?_
  rotate_left 1
  · (intro w hSw; (try dsimp only at hSw); go_simp; try with_reducible rfl)
  try simp only [Act.put, List.setIfInBounds_toArray, List.set_cons_zero, List.set_cons_succ]
  refine wpAnyH_take (i := 6) (v := ?_) rfl (by kernel_rfl) (by kernel_rfl) (by kernel_rfl) (fun _ _ _ h => h) (Or.inl ⟨by rfl, ?_⟩) (by assumption) ?_
  rotate_left 1
  · (intro w hSw; (try dsimp only at hSw); go_simp; try with_reducible rfl)
  try simp only [Act.put, List.setIfInBounds_toArray, List.set_cons_zero, List.set_cons_succ]
  refine wpAnyH_take (i := 7) (v := ?_) rfl (by kernel_rfl) (by kernel_rfl) (by kernel_rfl) (fun _ _ _ h => h) (Or.inl ⟨by rfl, ?_⟩) (by assumption) ?_
  rotate_left 1
  · (intro w hSw; (try dsimp only at hSw); go_simp; try with_reducible rfl)
  try simp only [Act.put, List.setIfInBounds_toArray, List.set_cons_zero, List.set_cons_succ]
  refine wpAnyH_take (i := 8) (v := ?_) rfl (by kernel_rfl) (by kernel_rfl) (by kernel_rfl) (fun _ _ _ h => h) (Or.inl ⟨by rfl, ?_⟩) (by assumption) ?_
  rotate_left 1
  · (intro w hSw; (try dsimp only at hSw); go_simp; try with_reducible rfl)
  try simp only [Act.put, List.setIfInBounds_toArray, List.set_cons_zero, List.set_cons_succ]
  refine wpAnyH_take (i := 9) (v := ?_) rfl (by kernel_rfl) (by kernel_rfl) (by kernel_rfl) (fun _ _ _ h => h) (Or.inl ⟨by rfl, ?_⟩) (by assumption) ?_
  rotate_left 1
  · (intro w hSw; (try dsimp only at hSw); go_simp; try with_reducible rfl)
  try simp only [Act.put, List.setIfInBounds_toArray, List.set_cons_zero, List.set_cons_succ]
  refine wpAnyH_take (i := 10) (v := ?_) rfl (by kernel_rfl) (by kernel_rfl) (by kernel_rfl) (fun _ _ _ h => h) (Or.inl ⟨by rfl, ?_⟩) (by assumption) ?_
  rotate_left 1
  · (intro w hSw; (try dsimp only at hSw); go_simp; try with_reducible rfl)
  try simp only [Act.put, List.setIfInBounds_toArray, List.set_cons_zero, List.set_cons_succ]
  refine wpAnyH_take (i := 11) (v := ?_) rfl (by kernel_rfl) (by kernel_rfl) (by kernel_rfl) (fun _ _ _ h => h) (Or.inl ⟨by rfl, ?_⟩) (by assumption) ?_
  rotate_left 1
  · (intro w hSw; (try dsimp only at hSw); go_simp; try with_reducible rfl)
  try simp only [Act.put, List.setIfInBounds_toArray, List.set_cons_zero, List.set_cons_succ]
  refine wpAnyH_take (i := 12) (v := ?_) rfl (by kernel_rfl) (by kernel_rfl) (by kernel_rfl) (fun _ _ _ h => h) (Or.inl ⟨by rfl, ?_⟩) (by assumption) ?_
  rotate_left 1
  · (intro w hSw; (try dsimp only at hSw); go_simp; try with_reducible rfl)
  try simp only [Act.put, List.setIfInBounds_toArray, List.set_cons_zero, List.set_cons_succ]
  refine wpAnyH_take (i := 13) (v := ?_) rfl (by kernel_rfl) (by kernel_rfl) (by kernel_rfl) (fun _ _ _ h => h) (Or.inl ⟨by rfl, ?_⟩) (by assumption) ?_
  rotate_left 1
  · (intro w hSw; (try dsimp only at hSw); go_simp; try with_reducible rfl)
  try simp only [Act.put, List.setIfInBounds_toArray, List.set_cons_zero, List.set_cons_succ]
  refine wpAnyH_take (i := 14) (v := ?_) rfl (by kernel_rfl) (by kernel_rfl) (by kernel_rfl) (fun _ _ _ h => h) (Or.inl ⟨by rfl, ?_⟩) (by assumption) ?_
  rotate_left 1
  · (intro w hSw; (try dsimp only at hSw); go_simp; try with_reducible rfl)
  try simp only [Act.put, List.setIfInBounds_toArray, List.set_cons_zero, List.set_cons_succ]
  refine wpAnyH_ready (rs := [15]) (by kernel_rfl) (by simp) ?_
  refine AllReadyH.cons rfl (fun K hK => ?_) AllReadyH.nil
  go_simp
  refine hK.out _ _ ?_ (fun hHeld => ?_)
  · go_keep
  clear hK K
  try simp only [Act.put, List.setIfInBounds_toArray, List.set_cons_zero, List.set_cons_succ]
  refine wpAnyH_ready (rs := [16]) (by kernel_rfl) (by simp) ?_
  refine AllReadyH.cons rfl (fun K hK => ?_) AllReadyH.nil
  (refine step_app1 (by rfl) (.tmp 156) (.tmp 167) 75 (by rfl) B 86 _ 2 32 Yahh.underlying75 Yahh.info86 rfl (by decide) _ cl.length _ (by rfl) (hM2.log.drew.alloc _) w2.heap.size _ _ _ (by rfl) (heap_alloc_new w2.drew _) rfl (one2 _ _ rfl rfl) (by omega) (by decide) (by simp; omega) (w2.heap.size + 1) (by simp) ?_; intro g3 cap3 w3 hown3 hgrow3 hat3 hlt3; have tb := hid (RowTy.of_own (hM2.log.drew.alloc (Obj.cells #[.int .i64 ((cl.length : Int) + 1), .slice bd t.buf.length bcap] 86))); have r := hid (blk_ty hgrow3 tb.out (hM2.drew.alloc _).blk (by decide)); have q0 := cell_of_row w3 bw 0 _ _ _ r.out; have q1 := cell_of_row w3 bw 1 _ _ _ r.out; have q4 := frozen_of_row w3 bw 1 _ _ r.out; have hb3 := own_ty hgrow3 tb.out (hM2.txs.drew.alloc _) (by decide); rw [List.length_set] at hb3; have q5 := row_cell txC_len hb3 Hps.out (j := 3) (by omega) rfl; simp only [List.getElem?_toArray, List.getElem?_cons_succ, List.getElem?_cons_zero] at q0 q1; have rr := hid (blk_ty hgrow3 tb.out (alloc_keep (w := w2.drew) Hr2.out _) (by decide)); have x0 := cell_of_row w3 (w.heap.size + 1) 0 _ _ _ rr.out; have x1 := cell_of_row w3 (w.heap.size + 1) 1 _ _ _ rr.out; have y0 := frozen_of_row w3 (w.heap.size + 1) 0 _ _ rr.out; have y1 := frozen_of_row w3 (w.heap.size + 1) 1 _ _ rr.out; simp only [List.getElem?_toArray, List.getElem?_cons_succ, List.getElem?_cons_zero] at x0 x1)
  refine hK.out _ _ ?_ (fun hHeld => ?_)
  · exact ⟨q0, q1, q5⟩
  clear hK K
  try simp only [Act.put, List.setIfInBounds_toArray, List.set_cons_zero, List.set_cons_succ]
  refine wpAnyH_take (i := 17) (v := ?_) rfl (by kernel_rfl) (by kernel_rfl) (by kernel_rfl) (fun _ _ _ h => h) (Or.inl ⟨by rfl, ?_⟩) (by assumption) ?_
  rotate_left 1
  · (intro w hSw; (try dsimp only at hSw); go_simp; try with_reducible rfl)
  try simp only [Act.put, List.setIfInBounds_toArray, List.set_cons_zero, List.set_cons_succ]
  refine wpAnyH_take (i := 18) (v := ?_) rfl (by kernel_rfl) (by kernel_rfl) (by kernel_rfl) (fun _ _ _ h => h) (Or.inl ⟨by rfl, ?_⟩) (by assumption) ?_
  rotate_left 1
  · (intro w hSw; (try dsimp only at hSw); go_simp; try with_reducible rfl)
  try simp only [Act.put, List.setIfInBounds_toArray, List.set_cons_zero, List.set_cons_succ]
  refine wpAnyH_done (by kernel_rfl) ?_ _
  refine lastQ_mk rfl rfl (fun K hK => ?_)
  go_wp2
  have hM3 := (hM2.alloc (Obj.cells #[.int .i64 ((cl.length : Int) + 1), .slice bd t.buf.length bcap] 86)).drew.logAdd hgrow3 (⟨(cl.length : Int) + 1, t.buf⟩, .slice bd t.buf.length bcap) (lv' := .slice (some ⟨g3, 0, none⟩) (cl.length + 1) cap3) (by simpa [crC] using hown3) ((hbuf2.alloc _).drew) (fun j q hq hqa => by
    rcases set_get hq with ⟨rfl, rfl⟩ | ⟨hji, hq'⟩
    · simp at hqa
    · exact hap j q hji hq' hqa)
  have k3 : Keep B wldT w w3 := ((k2.alloc (by omega) _).drew).grown (e := 86) hgrow3 (by simp; omega) (fun j hj => (own_lt hM2.log hj).1) tb.out (by decide)
  have k4 : Keep B wldT w (w3.setCell ⟨bw, 1, none⟩ (.slice (some ⟨g3, 0, none⟩) (cl.length + 1) cap3)) := k3.grown (e := 77) (set_grown _ _ _ _) (by have := k3.below.size; omega) (fun j hj => by simp at hj; subst hj; exact h.base) (fun j hj => by simp at hj; subst hj; exact ⟨_, _, r.out⟩) (by decide)
  have rr3 : (w3.setCell ⟨bw, 1, none⟩ (.slice (some ⟨g3, 0, none⟩) (cl.length + 1) cap3)).heap[w.heap.size + 1]? = some (.cells #[.int .i64 0, .int .i64 0] 37 (0, 0)) := by
    rw [Below.heap_setCell _ _ _ _ (by exact bn1')]; exact rr.out
  exact bodyPost_ret (v := resV _) (res_run rfl rr3 rfl _ _) rfl ⟨rfl, step_finS ⟨_, _, _, _, hM3, by rw [List.map_set], by simp⟩ k4 rr3 (by omega) hB _ _⟩

end Go.Proofs.Yafahw
