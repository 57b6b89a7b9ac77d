/- Walks: (*world).step (48): the ways without an append. -/
import Derived.Test.YafahwWldConf
namespace Go.Proofs.Yafahw
open Go.RowKit
set_option linter.unusedVariables false
set_option linter.unusedSimpArgs false
attribute [local go_sem ↓] Go.wp_at_zero Go.wp_at_succ

/-- the four variables that a step lays first -/
structure Pre48 (w W : World) (kind tx key val : Int) : Prop where
  ho : W.heap[w.heap.size]? = some (.cells #[.int .i64 kind, .int .i64 tx, .int .i64 key, .int .i64 val] 35 (0, 0))
  hr : W.heap[w.heap.size + 1]? = some (.cells #[.int .i64 0, .int .i64 0] 37 (0, 0))
  hi : W.heap[w.heap.size + 2]? = some (.cells #[.int .i64 2, .int .i64 0] 37 (0, 0))
  hd : W.heap[w.heap.size + 3]? = some (.cells #[.int .i64 0, .int .i64 0] 37 (0, 0))
  size : W.heap.size = w.heap.size + 4
theorem pre48 (w : World) (kind tx key val : Int) : Pre48 w ((((w.alloc (Obj.cells #[.int .i64 kind, .int .i64 tx, .int .i64 key, .int .i64 val] 35)).alloc (Obj.cells #[.int .i64 0, .int .i64 0] 37)).alloc (Obj.cells #[.int .i64 2, .int .i64 0] 37)).alloc (Obj.cells #[.int .i64 0, .int .i64 0] 37)) kind tx key val := by
  refine ⟨?_, ?_, ?_, ?_, by simp⟩
  · exact alloc_keep (alloc_keep (alloc_keep (heap_alloc_new w _) _) _) _
  · refine alloc_keep (alloc_keep ?_ _) _
    have := heap_alloc_new (w.alloc (Obj.cells #[.int .i64 kind, .int .i64 tx, .int .i64 key, .int .i64 val] 35)) (Obj.cells #[.int .i64 0, .int .i64 0] 37)
    simpa using this
  · refine alloc_keep ?_ _
    have := heap_alloc_new ((w.alloc (Obj.cells #[.int .i64 kind, .int .i64 tx, .int .i64 key, .int .i64 val] 35)).alloc (Obj.cells #[.int .i64 0, .int .i64 0] 37)) (Obj.cells #[.int .i64 2, .int .i64 0] 37)
    simpa using this
  · have := heap_alloc_new (((w.alloc (Obj.cells #[.int .i64 kind, .int .i64 tx, .int .i64 key, .int .i64 val] 35)).alloc (Obj.cells #[.int .i64 0, .int .i64 0] 37)).alloc (Obj.cells #[.int .i64 2, .int .i64 0] 37)) (Obj.cells #[.int .i64 0, .int .i64 0] 37)
    simpa using this
theorem step_finS {B : Nat} {w W : World} {bw : Nat} {s' : Wld} {r : Nat} {x y : Value} (hsto : WldAt B W bw s') (hk : Keep B wldT w W) (hr : W.heap[r]? = some (.cells #[x, y] 37 (0, 0))) (hwr : w.heap.size ≤ r) (hB : B ≤ w.heap.size) (u v : Value) :
    StepPostS B w bw s' ((W.setCell ⟨r, 0, none⟩ u).setCell ⟨r, 1, none⟩ v) := by
  obtain ⟨tv, lv, ct, cl, h, h1, h2⟩ := hsto
  have hr2 := heap_setCell_same W r 0 _ _ u hr
  exact ⟨⟨tv, lv, ct, cl, (h.put hr (by decide) 0 u).put hr2 (by decide) 1 v, h1, h2⟩, (hk.put hwr (by omega) 0 u).put hwr (by omega) 1 v⟩

set_option maxHeartbeats 8000000 in
set_option maxRecDepth 100000 in
theorem stepS_begin_hit {B : Nat} {w : World} {bw : Nat} {tv lv : Value} {ct : List (Txn × Value)} {cl : List (CR × Value)} (h : WldM B w bw tv lv ct cl) (hB : B ≤ w.heap.size) (tx key val : Int) (i : Nat) (hf : findTx (ct.map (·.1)) tx = some i) (hn : ct.length ≤ 1000000) :
    Calls Yahh.prog 48 #[.pointer (some ⟨bw, 0, none⟩), .agg #[.int .i64 0, .int .i64 tx, .int .i64 key, .int .i64 val]] w fun e w' => e = .returned (resV (2, 0)) ∧ StepPostS B w bw ⟨ct.map (·.1), cl.map (·.1)⟩ w' := by
  have hM := (((h.alloc (Obj.cells #[.int .i64 0, .int .i64 tx, .int .i64 key, .int .i64 val] 35)).alloc (Obj.cells #[.int .i64 0, .int .i64 0] 37)).alloc (Obj.cells #[.int .i64 2, .int .i64 0] 37)).alloc (Obj.cells #[.int .i64 0, .int .i64 0] 37)
  have P := hid (pre48 w 0 tx key val)
  have k0 : Keep B wldT w ((((w.alloc (Obj.cells #[.int .i64 0, .int .i64 tx, .int .i64 key, .int .i64 val] 35)).alloc (Obj.cells #[.int .i64 0, .int .i64 0] 37)).alloc (Obj.cells #[.int .i64 2, .int .i64 0] 37)).alloc (Obj.cells #[.int .i64 0, .int .i64 0] 37)) := (((( Keep.refl _ _ _).alloc hB _).alloc (by simp; omega) _).alloc (by simp; omega) _).alloc (by simp; omega) _
  have hlt := h.lt
  have hfc := findS_any hM tx hn
  rw [hf] at hfc
  go_enter Yahh.func48, Yahh.ntmps48
  go_wp2_with fail
  refine hfc.mono ?_
  rintro e w1 ⟨rfl, rfl⟩
  simp only [idxI]
  generalize hW : (((w.alloc (Obj.cells #[.int .i64 0, .int .i64 tx, .int .i64 key, .int .i64 val] 35)).alloc (Obj.cells #[.int .i64 0, .int .i64 0] 37)).alloc (Obj.cells #[.int .i64 2, .int .i64 0] 37)).alloc (Obj.cells #[.int .i64 0, .int .i64 0] 37) = W at *
  clear hW hfc
  have hsW := P.out.size
  have hsW1 : w.heap.size + 4 ≤ W.heap.size := by omega
  have Ho := hid P.out.ho
  have Hr := hid P.out.hr
  have o0 := cell_of_row W w.heap.size 0 _ _ _ P.out.ho
  have o1 := cell_of_row W w.heap.size 1 _ _ _ P.out.ho
  have o2 := cell_of_row W w.heap.size 2 _ _ _ P.out.ho
  have o3 := cell_of_row W w.heap.size 3 _ _ _ P.out.ho
  have x0 := cell_of_row W (w.heap.size + 1) 0 _ _ _ P.out.hr
  have x1 := cell_of_row W (w.heap.size + 1) 1 _ _ _ P.out.hr
  have y0 := frozen_of_row W (w.heap.size + 1) 0 _ _ P.out.hr
  have y1 := frozen_of_row W (w.heap.size + 1) 1 _ _ P.out.hr
  have i0 := cell_of_row W (w.heap.size + 2) 0 _ _ _ P.out.hi
  have i1 := cell_of_row W (w.heap.size + 2) 1 _ _ _ P.out.hi
  have d0 := cell_of_row W (w.heap.size + 3) 0 _ _ _ P.out.hd
  have d1 := cell_of_row W (w.heap.size + 3) 1 _ _ _ P.out.hd
  simp only [List.getElem?_toArray, List.getElem?_cons_succ, List.getElem?_cons_zero] at o0 o1 o2 o3 x0 x1 i0 i1 d0 d1
  have c0 := hM.c0
  have c1 := hM.c1
  have bn1 : bw ≠ w.heap.size + 1 := by omega
  have bn1' : w.heap.size + 1 ≠ bw := by omega
  have bn0' : w.heap.size ≠ bw := by omega
  have bn2' : w.heap.size + 2 ≠ bw := by omega
  have bn3' : w.heap.size + 3 ≠ bw := by omega
  clear hsW hf
  go_wp2
  exact bodyPost_ret (v := resV _) (res_run rfl Hr.out rfl _ _) rfl ⟨rfl, step_finS ⟨_, _, _, _, hM, rfl, rfl⟩ k0 Hr.out (by omega) hB _ _⟩

set_option maxHeartbeats 8000000 in
set_option maxRecDepth 100000 in
theorem stepS_none {B : Nat} {w : World} {bw : Nat} {tv lv : Value} {ct : List (Txn × Value)} {cl : List (CR × Value)} (h : WldM B w bw tv lv ct cl) (hB : B ≤ w.heap.size) (tx key val : Int) (kind : Int) (hk : (kind == 0) = false) (hf : findTx (ct.map (·.1)) tx = none) (hn : ct.length ≤ 1000000) :
    Calls Yahh.prog 48 #[.pointer (some ⟨bw, 0, none⟩), .agg #[.int .i64 kind, .int .i64 tx, .int .i64 key, .int .i64 val]] w fun e w' => e = .returned (resV (2, 0)) ∧ StepPostS B w bw ⟨ct.map (·.1), cl.map (·.1)⟩ w' := by
  have hM := (((h.alloc (Obj.cells #[.int .i64 kind, .int .i64 tx, .int .i64 key, .int .i64 val] 35)).alloc (Obj.cells #[.int .i64 0, .int .i64 0] 37)).alloc (Obj.cells #[.int .i64 2, .int .i64 0] 37)).alloc (Obj.cells #[.int .i64 0, .int .i64 0] 37)
  have P := hid (pre48 w kind tx key val)
  have k0 : Keep B wldT w ((((w.alloc (Obj.cells #[.int .i64 kind, .int .i64 tx, .int .i64 key, .int .i64 val] 35)).alloc (Obj.cells #[.int .i64 0, .int .i64 0] 37)).alloc (Obj.cells #[.int .i64 2, .int .i64 0] 37)).alloc (Obj.cells #[.int .i64 0, .int .i64 0] 37)) := (((( Keep.refl _ _ _).alloc hB _).alloc (by simp; omega) _).alloc (by simp; omega) _).alloc (by simp; omega) _
  have hlt := h.lt
  have hfc := findS_any hM tx hn
  rw [hf] at hfc
  go_enter Yahh.func48, Yahh.ntmps48
  go_wp2_with fail
  refine hfc.mono ?_
  rintro e w1 ⟨rfl, rfl⟩
  simp only [idxI]
  generalize hW : (((w.alloc (Obj.cells #[.int .i64 kind, .int .i64 tx, .int .i64 key, .int .i64 val] 35)).alloc (Obj.cells #[.int .i64 0, .int .i64 0] 37)).alloc (Obj.cells #[.int .i64 2, .int .i64 0] 37)).alloc (Obj.cells #[.int .i64 0, .int .i64 0] 37) = W at *
  clear hW hfc
  have hsW := P.out.size
  have hsW1 : w.heap.size + 4 ≤ W.heap.size := by omega
  have Ho := hid P.out.ho
  have Hr := hid P.out.hr
  have o0 := cell_of_row W w.heap.size 0 _ _ _ P.out.ho
  have o1 := cell_of_row W w.heap.size 1 _ _ _ P.out.ho
  have o2 := cell_of_row W w.heap.size 2 _ _ _ P.out.ho
  have o3 := cell_of_row W w.heap.size 3 _ _ _ P.out.ho
  have x0 := cell_of_row W (w.heap.size + 1) 0 _ _ _ P.out.hr
  have x1 := cell_of_row W (w.heap.size + 1) 1 _ _ _ P.out.hr
  have y0 := frozen_of_row W (w.heap.size + 1) 0 _ _ P.out.hr
  have y1 := frozen_of_row W (w.heap.size + 1) 1 _ _ P.out.hr
  have i0 := cell_of_row W (w.heap.size + 2) 0 _ _ _ P.out.hi
  have i1 := cell_of_row W (w.heap.size + 2) 1 _ _ _ P.out.hi
  have d0 := cell_of_row W (w.heap.size + 3) 0 _ _ _ P.out.hd
  have d1 := cell_of_row W (w.heap.size + 3) 1 _ _ _ P.out.hd
  simp only [List.getElem?_toArray, List.getElem?_cons_succ, List.getElem?_cons_zero] at o0 o1 o2 o3 x0 x1 i0 i1 d0 d1
  have c0 := hM.c0
  have c1 := hM.c1
  have bn1 : bw ≠ w.heap.size + 1 := by omega
  have bn1' : w.heap.size + 1 ≠ bw := by omega
  have bn0' : w.heap.size ≠ bw := by omega
  have bn2' : w.heap.size + 2 ≠ bw := by omega
  have bn3' : w.heap.size + 3 ≠ bw := by omega
  clear hsW hf
  go_wp2
  exact bodyPost_ret (v := resV _) (res_run rfl Hr.out rfl _ _) rfl ⟨rfl, step_finS ⟨_, _, _, _, hM, rfl, rfl⟩ k0 Hr.out (by omega) hB _ _⟩

set_option maxHeartbeats 8000000 in
set_option maxRecDepth 100000 in
theorem stepS_dead {B : Nat} {w : World} {bw : Nat} {tv lv : Value} {ct : List (Txn × Value)} {cl : List (CR × Value)} (h : WldM B w bw tv lv ct cl) (hB : B ≤ w.heap.size) (tx key val : Int) (kind : Int) (hk : (kind == 0) = false) (i : Nat) (t : Txn) (hd : Value) (hf : findTx (ct.map (·.1)) tx = some i) (hp : ct[i]? = some (t, hd)) (hn : ct.length ≤ 1000000) (hact : t.active = false) :
    Calls Yahh.prog 48 #[.pointer (some ⟨bw, 0, none⟩), .agg #[.int .i64 kind, .int .i64 tx, .int .i64 key, .int .i64 val]] w fun e w' => e = .returned (resV (2, 0)) ∧ StepPostS B w bw ⟨ct.map (·.1), cl.map (·.1)⟩ w' := by
  have hM := (((h.alloc (Obj.cells #[.int .i64 kind, .int .i64 tx, .int .i64 key, .int .i64 val] 35)).alloc (Obj.cells #[.int .i64 0, .int .i64 0] 37)).alloc (Obj.cells #[.int .i64 2, .int .i64 0] 37)).alloc (Obj.cells #[.int .i64 0, .int .i64 0] 37)
  have P := hid (pre48 w kind tx key val)
  have k0 : Keep B wldT w ((((w.alloc (Obj.cells #[.int .i64 kind, .int .i64 tx, .int .i64 key, .int .i64 val] 35)).alloc (Obj.cells #[.int .i64 0, .int .i64 0] 37)).alloc (Obj.cells #[.int .i64 2, .int .i64 0] 37)).alloc (Obj.cells #[.int .i64 0, .int .i64 0] 37)) := (((( Keep.refl _ _ _).alloc hB _).alloc (by simp; omega) _).alloc (by simp; omega) _).alloc (by simp; omega) _
  have hlt := h.lt
  have hfc := findS_any hM tx hn
  rw [hf] at hfc
  go_enter Yahh.func48, Yahh.ntmps48
  go_wp2_with fail
  refine hfc.mono ?_
  rintro e w1 ⟨rfl, rfl⟩
  simp only [idxI]
  generalize hW : (((w.alloc (Obj.cells #[.int .i64 kind, .int .i64 tx, .int .i64 key, .int .i64 val] 35)).alloc (Obj.cells #[.int .i64 0, .int .i64 0] 37)).alloc (Obj.cells #[.int .i64 2, .int .i64 0] 37)).alloc (Obj.cells #[.int .i64 0, .int .i64 0] 37) = W at *
  clear hW hfc
  have hsW := P.out.size
  have hsW1 : w.heap.size + 4 ≤ W.heap.size := by omega
  have Ho := hid P.out.ho
  have Hr := hid P.out.hr
  have o0 := cell_of_row W w.heap.size 0 _ _ _ P.out.ho
  have o1 := cell_of_row W w.heap.size 1 _ _ _ P.out.ho
  have o2 := cell_of_row W w.heap.size 2 _ _ _ P.out.ho
  have o3 := cell_of_row W w.heap.size 3 _ _ _ P.out.ho
  have x0 := cell_of_row W (w.heap.size + 1) 0 _ _ _ P.out.hr
  have x1 := cell_of_row W (w.heap.size + 1) 1 _ _ _ P.out.hr
  have y0 := frozen_of_row W (w.heap.size + 1) 0 _ _ P.out.hr
  have y1 := frozen_of_row W (w.heap.size + 1) 1 _ _ P.out.hr
  have i0 := cell_of_row W (w.heap.size + 2) 0 _ _ _ P.out.hi
  have i1 := cell_of_row W (w.heap.size + 2) 1 _ _ _ P.out.hi
  have d0 := cell_of_row W (w.heap.size + 3) 0 _ _ _ P.out.hd
  have d1 := cell_of_row W (w.heap.size + 3) 1 _ _ _ P.out.hd
  simp only [List.getElem?_toArray, List.getElem?_cons_succ, List.getElem?_cons_zero] at o0 o1 o2 o3 x0 x1 i0 i1 d0 d1
  have c0 := hM.c0
  have c1 := hM.c1
  have bn1 : bw ≠ w.heap.size + 1 := by omega
  have bn1' : w.heap.size + 1 ≠ bw := by omega
  have bn0' : w.heap.size ≠ bw := by omega
  have bn2' : w.heap.size + 2 ≠ bw := by omega
  have bn3' : w.heap.size + 3 ≠ bw := by omega
  clear hsW hf
  have hi : i < ct.length := (List.getElem?_eq_some_iff.1 hp).1
  have hil : (i : Int) < (ct.length : Int) := by omega
  have hi0 : (0 : Int) ≤ (i : Int) := by omega
  have htx := hM.txs
  obtain ⟨ad, cap, g, htv, had⟩ := own_shape htx
  subst htv
  obtain rfl := had (by omega)
  have t1 := row_cell txC_len htx hp (j := 1) (by omega) rfl
  have t3 := row_cell txC_len htx hp (j := 3) (by omega) rfl
  simp only [] at t1 t3
  rw [hact] at t1
  have tf1 := htx.frozenAt (i * 4 + 1)
  have tf3 := htx.frozenAt (i * 4 + 3)
  have gbw : g ≠ bw := own_bne htx hM.blk (by decide)
  have gbw' : bw ≠ g := gbw.symm
  have go_ : w.heap.size ≠ g := (own_bne htx Ho.out (by decide)).symm
  have gr : w.heap.size + 1 ≠ g := (own_bne htx Hr.out (by decide)).symm
  have gi : w.heap.size + 2 ≠ g := (own_bne htx P.out.hi (by decide)).symm
  have gd : w.heap.size + 3 ≠ g := (own_bne htx P.out.hd (by decide)).symm
  have gr' : g ≠ w.heap.size + 1 := gr.symm
  go_wp2
  exact bodyPost_ret (v := resV _) (res_run rfl Hr.out rfl _ _) rfl ⟨rfl, step_finS ⟨_, _, _, _, hM, rfl, rfl⟩ k0 Hr.out (by omega) hB _ _⟩

set_option maxHeartbeats 8000000 in
set_option maxRecDepth 100000 in
theorem stepS_other {B : Nat} {w : World} {bw : Nat} {tv lv : Value} {ct : List (Txn × Value)} {cl : List (CR × Value)} (h : WldM B w bw tv lv ct cl) (hB : B ≤ w.heap.size) (tx key val : Int) (kind : Int) (hk : (kind == 0) = false) (hk1 : (kind == 1) = false) (hk2 : (kind == 2) = false) (hk3 : (kind == 3) = false) (hk4 : (kind == 4) = false) (hk5 : (kind == 5) = false) (i : Nat) (t : Txn) (hd : Value) (hf : findTx (ct.map (·.1)) tx = some i) (hp : ct[i]? = some (t, hd)) (hn : ct.length ≤ 1000000) (hact : t.active = true) :
    Calls Yahh.prog 48 #[.pointer (some ⟨bw, 0, none⟩), .agg #[.int .i64 kind, .int .i64 tx, .int .i64 key, .int .i64 val]] w fun e w' => e = .returned (resV (2, 0)) ∧ StepPostS B w bw ⟨ct.map (·.1), cl.map (·.1)⟩ w' := by
  have hM := (((h.alloc (Obj.cells #[.int .i64 kind, .int .i64 tx, .int .i64 key, .int .i64 val] 35)).alloc (Obj.cells #[.int .i64 0, .int .i64 0] 37)).alloc (Obj.cells #[.int .i64 2, .int .i64 0] 37)).alloc (Obj.cells #[.int .i64 0, .int .i64 0] 37)
  have P := hid (pre48 w kind tx key val)
  have k0 : Keep B wldT w ((((w.alloc (Obj.cells #[.int .i64 kind, .int .i64 tx, .int .i64 key, .int .i64 val] 35)).alloc (Obj.cells #[.int .i64 0, .int .i64 0] 37)).alloc (Obj.cells #[.int .i64 2, .int .i64 0] 37)).alloc (Obj.cells #[.int .i64 0, .int .i64 0] 37)) := (((( Keep.refl _ _ _).alloc hB _).alloc (by simp; omega) _).alloc (by simp; omega) _).alloc (by simp; omega) _
  have hlt := h.lt
  have hfc := findS_any hM tx hn
  rw [hf] at hfc
  go_enter Yahh.func48, Yahh.ntmps48
  go_wp2_with fail
  refine hfc.mono ?_
  rintro e w1 ⟨rfl, rfl⟩
  simp only [idxI]
  generalize hW : (((w.alloc (Obj.cells #[.int .i64 kind, .int .i64 tx, .int .i64 key, .int .i64 val] 35)).alloc (Obj.cells #[.int .i64 0, .int .i64 0] 37)).alloc (Obj.cells #[.int .i64 2, .int .i64 0] 37)).alloc (Obj.cells #[.int .i64 0, .int .i64 0] 37) = W at *
  clear hW hfc
  have hsW := P.out.size
  have hsW1 : w.heap.size + 4 ≤ W.heap.size := by omega
  have Ho := hid P.out.ho
  have Hr := hid P.out.hr
  have o0 := cell_of_row W w.heap.size 0 _ _ _ P.out.ho
  have o1 := cell_of_row W w.heap.size 1 _ _ _ P.out.ho
  have o2 := cell_of_row W w.heap.size 2 _ _ _ P.out.ho
  have o3 := cell_of_row W w.heap.size 3 _ _ _ P.out.ho
  have x0 := cell_of_row W (w.heap.size + 1) 0 _ _ _ P.out.hr
  have x1 := cell_of_row W (w.heap.size + 1) 1 _ _ _ P.out.hr
  have y0 := frozen_of_row W (w.heap.size + 1) 0 _ _ P.out.hr
  have y1 := frozen_of_row W (w.heap.size + 1) 1 _ _ P.out.hr
  have i0 := cell_of_row W (w.heap.size + 2) 0 _ _ _ P.out.hi
  have i1 := cell_of_row W (w.heap.size + 2) 1 _ _ _ P.out.hi
  have d0 := cell_of_row W (w.heap.size + 3) 0 _ _ _ P.out.hd
  have d1 := cell_of_row W (w.heap.size + 3) 1 _ _ _ P.out.hd
  simp only [List.getElem?_toArray, List.getElem?_cons_succ, List.getElem?_cons_zero] at o0 o1 o2 o3 x0 x1 i0 i1 d0 d1
  have c0 := hM.c0
  have c1 := hM.c1
  have bn1 : bw ≠ w.heap.size + 1 := by omega
  have bn1' : w.heap.size + 1 ≠ bw := by omega
  have bn0' : w.heap.size ≠ bw := by omega
  have bn2' : w.heap.size + 2 ≠ bw := by omega
  have bn3' : w.heap.size + 3 ≠ bw := by omega
  clear hsW hf
  have hi : i < ct.length := (List.getElem?_eq_some_iff.1 hp).1
  have hil : (i : Int) < (ct.length : Int) := by omega
  have hi0 : (0 : Int) ≤ (i : Int) := by omega
  have htx := hM.txs
  obtain ⟨ad, cap, g, htv, had⟩ := own_shape htx
  subst htv
  obtain rfl := had (by omega)
  have t1 := row_cell txC_len htx hp (j := 1) (by omega) rfl
  have t3 := row_cell txC_len htx hp (j := 3) (by omega) rfl
  simp only [] at t1 t3
  rw [hact] at t1
  have tf1 := htx.frozenAt (i * 4 + 1)
  have tf3 := htx.frozenAt (i * 4 + 3)
  have gbw : g ≠ bw := own_bne htx hM.blk (by decide)
  have gbw' : bw ≠ g := gbw.symm
  have go_ : w.heap.size ≠ g := (own_bne htx Ho.out (by decide)).symm
  have gr : w.heap.size + 1 ≠ g := (own_bne htx Hr.out (by decide)).symm
  have gi : w.heap.size + 2 ≠ g := (own_bne htx P.out.hi (by decide)).symm
  have gd : w.heap.size + 3 ≠ g := (own_bne htx P.out.hd (by decide)).symm
  have gr' : g ≠ w.heap.size + 1 := gr.symm
  go_wp2
  exact bodyPost_ret (v := resV _) (res_run rfl Hr.out rfl _ _) rfl ⟨rfl, step_finS ⟨_, _, _, _, hM, rfl, rfl⟩ k0 Hr.out (by omega) hB _ _⟩

set_option maxHeartbeats 8000000 in
set_option maxRecDepth 100000 in
theorem stepS_read {B : Nat} {w : World} {bw : Nat} {tv lv : Value} {ct : List (Txn × Value)} {cl : List (CR × Value)} (h : WldM B w bw tv lv ct cl) (hB : B ≤ w.heap.size) (tx key val : Int) (i : Nat) (t : Txn) (hd : Value) (hf : findTx (ct.map (·.1)) tx = some i) (hp : ct[i]? = some (t, hd)) (hn : ct.length ≤ 1000000) (hact : t.active = true) (hb : t.buf.length ≤ 1000000) (hln : cl.length ≤ 1000000) (hlw : ∀ p ∈ cl, p.1.writes.length ≤ 1000000) :
    Calls Yahh.prog 48 #[.pointer (some ⟨bw, 0, none⟩), .agg #[.int .i64 1, .int .i64 tx, .int .i64 key, .int .i64 val]] w fun e w' => e = .returned (resV (ansP (readS (cl.map (·.1)) t key))) ∧ StepPostS B w bw ⟨ct.map (·.1), cl.map (·.1)⟩ w' := by
  have hM := (((h.alloc (Obj.cells #[.int .i64 1, .int .i64 tx, .int .i64 key, .int .i64 val] 35)).alloc (Obj.cells #[.int .i64 0, .int .i64 0] 37)).alloc (Obj.cells #[.int .i64 2, .int .i64 0] 37)).alloc (Obj.cells #[.int .i64 0, .int .i64 0] 37)
  have P := hid (pre48 w 1 tx key val)
  have k0 : Keep B wldT w ((((w.alloc (Obj.cells #[.int .i64 1, .int .i64 tx, .int .i64 key, .int .i64 val] 35)).alloc (Obj.cells #[.int .i64 0, .int .i64 0] 37)).alloc (Obj.cells #[.int .i64 2, .int .i64 0] 37)).alloc (Obj.cells #[.int .i64 0, .int .i64 0] 37)) := (((( Keep.refl _ _ _).alloc hB _).alloc (by simp; omega) _).alloc (by simp; omega) _).alloc (by simp; omega) _
  have hlt := h.lt
  have hfc := findS_any hM tx hn
  rw [hf] at hfc
  go_enter Yahh.func48, Yahh.ntmps48
  go_wp2_with fail
  refine hfc.mono ?_
  rintro e w1 ⟨rfl, rfl⟩
  simp only [idxI]
  generalize hW : (((w.alloc (Obj.cells #[.int .i64 1, .int .i64 tx, .int .i64 key, .int .i64 val] 35)).alloc (Obj.cells #[.int .i64 0, .int .i64 0] 37)).alloc (Obj.cells #[.int .i64 2, .int .i64 0] 37)).alloc (Obj.cells #[.int .i64 0, .int .i64 0] 37) = W at *
  clear hW hfc
  have hsW := P.out.size
  have hsW1 : w.heap.size + 4 ≤ W.heap.size := by omega
  have Ho := hid P.out.ho
  have Hr := hid P.out.hr
  have o0 := cell_of_row W w.heap.size 0 _ _ _ P.out.ho
  have o1 := cell_of_row W w.heap.size 1 _ _ _ P.out.ho
  have o2 := cell_of_row W w.heap.size 2 _ _ _ P.out.ho
  have o3 := cell_of_row W w.heap.size 3 _ _ _ P.out.ho
  have x0 := cell_of_row W (w.heap.size + 1) 0 _ _ _ P.out.hr
  have x1 := cell_of_row W (w.heap.size + 1) 1 _ _ _ P.out.hr
  have y0 := frozen_of_row W (w.heap.size + 1) 0 _ _ P.out.hr
  have y1 := frozen_of_row W (w.heap.size + 1) 1 _ _ P.out.hr
  have i0 := cell_of_row W (w.heap.size + 2) 0 _ _ _ P.out.hi
  have i1 := cell_of_row W (w.heap.size + 2) 1 _ _ _ P.out.hi
  have d0 := cell_of_row W (w.heap.size + 3) 0 _ _ _ P.out.hd
  have d1 := cell_of_row W (w.heap.size + 3) 1 _ _ _ P.out.hd
  simp only [List.getElem?_toArray, List.getElem?_cons_succ, List.getElem?_cons_zero] at o0 o1 o2 o3 x0 x1 i0 i1 d0 d1
  have c0 := hM.c0
  have c1 := hM.c1
  have bn1 : bw ≠ w.heap.size + 1 := by omega
  have bn1' : w.heap.size + 1 ≠ bw := by omega
  have bn0' : w.heap.size ≠ bw := by omega
  have bn2' : w.heap.size + 2 ≠ bw := by omega
  have bn3' : w.heap.size + 3 ≠ bw := by omega
  clear hsW hf
  have hi : i < ct.length := (List.getElem?_eq_some_iff.1 hp).1
  have hil : (i : Int) < (ct.length : Int) := by omega
  have hi0 : (0 : Int) ≤ (i : Int) := by omega
  have htx := hM.txs
  obtain ⟨ad, cap, g, htv, had⟩ := own_shape htx
  subst htv
  obtain rfl := had (by omega)
  have t1 := row_cell txC_len htx hp (j := 1) (by omega) rfl
  have t3 := row_cell txC_len htx hp (j := 3) (by omega) rfl
  simp only [] at t1 t3
  rw [hact] at t1
  have tf1 := htx.frozenAt (i * 4 + 1)
  have tf3 := htx.frozenAt (i * 4 + 3)
  have gbw : g ≠ bw := own_bne htx hM.blk (by decide)
  have gbw' : bw ≠ g := gbw.symm
  have go_ : w.heap.size ≠ g := (own_bne htx Ho.out (by decide)).symm
  have gr : w.heap.size + 1 ≠ g := (own_bne htx Hr.out (by decide)).symm
  have gi : w.heap.size + 2 ≠ g := (own_bne htx P.out.hi (by decide)).symm
  have gd : w.heap.size + 3 ≠ g := (own_bne htx P.out.hd (by decide)).symm
  have gr' : g ≠ w.heap.size + 1 := gr.symm
  have hbuf := hM.bufs i _ hp hact
  have hrc := readS_any hM i t hd hp hbuf key hn hb hln hlw
  generalize hA : readS (cl.map (·.1)) t key = A at *
  obtain ⟨A1, A2⟩ := A
  have HA := hid hA
  clear hA
  go_wp2_with fail
  refine hrc.mono ?_
  rintro e w2 ⟨rfl, hb2⟩
  clear hrc
  have hM2 := hM.below hb2
  have hr2 : w2.heap[w.heap.size + 1]? = some (.cells #[.int .i64 0, .int .i64 0] 37 (0, 0)) := by rw [hb2.block _ (by omega)]; exact Hr.out
  have Hr2 := hid hr2
  have k2 : Keep B wldT w w2 := ⟨k0.below.trans (hb2.mono (by omega)), fun k c e f hk he => by rw [hb2.block k (by have := blk_lt hk; omega)]; exact k0.block k c e f hk he⟩
  clear x0 x1 y0 y1 i0 i1 d0 d1 o0 o1 o2 o3 c0 c1 t1 t3 tf1 tf3
  have x0 := cell_of_row w2 (w.heap.size + 1) 0 _ _ _ hr2
  have x1 := cell_of_row w2 (w.heap.size + 1) 1 _ _ _ hr2
  have y0 := frozen_of_row w2 (w.heap.size + 1) 0 _ _ hr2
  have y1 := frozen_of_row w2 (w.heap.size + 1) 1 _ _ hr2
  simp only [List.getElem?_toArray, List.getElem?_cons_succ, List.getElem?_cons_zero] at x0 x1
  clear hr2
  cases A1 with
  | true =>
    go_wp2
    exact bodyPost_ret (v := .agg #[_, _]) (res_run rfl Hr2.out rfl _ _) rfl ⟨by rw [HA.out]; rfl, step_finS ⟨_, _, _, _, hM2, rfl, rfl⟩ k2 Hr2.out (by omega) hB _ _⟩
  | false =>
    go_wp2
    exact bodyPost_ret (v := .agg #[_, _]) (res_run rfl Hr2.out rfl _ _) rfl ⟨by rw [HA.out]; rfl, step_finS ⟨_, _, _, _, hM2, rfl, rfl⟩ k2 Hr2.out (by omega) hB _ _⟩

set_option maxHeartbeats 8000000 in
set_option maxRecDepth 100000 in
theorem stepS_abort {B : Nat} {w : World} {bw : Nat} {tv lv : Value} {ct : List (Txn × Value)} {cl : List (CR × Value)} (h : WldM B w bw tv lv ct cl) (hB : B ≤ w.heap.size) (tx key val : Int) (i : Nat) (t : Txn) (hd : Value) (hf : findTx (ct.map (·.1)) tx = some i) (hp : ct[i]? = some (t, hd)) (hn : ct.length ≤ 1000000) (hact : t.active = true) :
    Calls Yahh.prog 48 #[.pointer (some ⟨bw, 0, none⟩), .agg #[.int .i64 5, .int .i64 tx, .int .i64 key, .int .i64 val]] w fun e w' => e = .returned (resV (0, 0)) ∧ StepPostS B w bw ⟨(ct.map (·.1)).set i ⟨t.id, false, t.snap, t.buf⟩, cl.map (·.1)⟩ w' := by
  have hM := (((h.alloc (Obj.cells #[.int .i64 5, .int .i64 tx, .int .i64 key, .int .i64 val] 35)).alloc (Obj.cells #[.int .i64 0, .int .i64 0] 37)).alloc (Obj.cells #[.int .i64 2, .int .i64 0] 37)).alloc (Obj.cells #[.int .i64 0, .int .i64 0] 37)
  have P := hid (pre48 w 5 tx key val)
  have k0 : Keep B wldT w ((((w.alloc (Obj.cells #[.int .i64 5, .int .i64 tx, .int .i64 key, .int .i64 val] 35)).alloc (Obj.cells #[.int .i64 0, .int .i64 0] 37)).alloc (Obj.cells #[.int .i64 2, .int .i64 0] 37)).alloc (Obj.cells #[.int .i64 0, .int .i64 0] 37)) := (((( Keep.refl _ _ _).alloc hB _).alloc (by simp; omega) _).alloc (by simp; omega) _).alloc (by simp; omega) _
  have hlt := h.lt
  have hfc := findS_any hM tx hn
  rw [hf] at hfc
  go_enter Yahh.func48, Yahh.ntmps48
  go_wp2_with fail
  refine hfc.mono ?_
  rintro e w1 ⟨rfl, rfl⟩
  simp only [idxI]
  generalize hW : (((w.alloc (Obj.cells #[.int .i64 5, .int .i64 tx, .int .i64 key, .int .i64 val] 35)).alloc (Obj.cells #[.int .i64 0, .int .i64 0] 37)).alloc (Obj.cells #[.int .i64 2, .int .i64 0] 37)).alloc (Obj.cells #[.int .i64 0, .int .i64 0] 37) = W at *
  clear hW hfc
  have hsW := P.out.size
  have hsW1 : w.heap.size + 4 ≤ W.heap.size := by omega
  have Ho := hid P.out.ho
  have Hr := hid P.out.hr
  have o0 := cell_of_row W w.heap.size 0 _ _ _ P.out.ho
  have o1 := cell_of_row W w.heap.size 1 _ _ _ P.out.ho
  have o2 := cell_of_row W w.heap.size 2 _ _ _ P.out.ho
  have o3 := cell_of_row W w.heap.size 3 _ _ _ P.out.ho
  have x0 := cell_of_row W (w.heap.size + 1) 0 _ _ _ P.out.hr
  have x1 := cell_of_row W (w.heap.size + 1) 1 _ _ _ P.out.hr
  have y0 := frozen_of_row W (w.heap.size + 1) 0 _ _ P.out.hr
  have y1 := frozen_of_row W (w.heap.size + 1) 1 _ _ P.out.hr
  have i0 := cell_of_row W (w.heap.size + 2) 0 _ _ _ P.out.hi
  have i1 := cell_of_row W (w.heap.size + 2) 1 _ _ _ P.out.hi
  have d0 := cell_of_row W (w.heap.size + 3) 0 _ _ _ P.out.hd
  have d1 := cell_of_row W (w.heap.size + 3) 1 _ _ _ P.out.hd
  simp only [List.getElem?_toArray, List.getElem?_cons_succ, List.getElem?_cons_zero] at o0 o1 o2 o3 x0 x1 i0 i1 d0 d1
  have c0 := hM.c0
  have c1 := hM.c1
  have bn1 : bw ≠ w.heap.size + 1 := by omega
  have bn1' : w.heap.size + 1 ≠ bw := by omega
  have bn0' : w.heap.size ≠ bw := by omega
  have bn2' : w.heap.size + 2 ≠ bw := by omega
  have bn3' : w.heap.size + 3 ≠ bw := by omega
  clear hsW hf
  have hi : i < ct.length := (List.getElem?_eq_some_iff.1 hp).1
  have hil : (i : Int) < (ct.length : Int) := by omega
  have hi0 : (0 : Int) ≤ (i : Int) := by omega
  have htx := hM.txs
  obtain ⟨ad, cap, g, htv, had⟩ := own_shape htx
  subst htv
  obtain rfl := had (by omega)
  have t1 := row_cell txC_len htx hp (j := 1) (by omega) rfl
  have t3 := row_cell txC_len htx hp (j := 3) (by omega) rfl
  simp only [] at t1 t3
  rw [hact] at t1
  have tf1 := htx.frozenAt (i * 4 + 1)
  have tf3 := htx.frozenAt (i * 4 + 3)
  have gbw : g ≠ bw := own_bne htx hM.blk (by decide)
  have gbw' : bw ≠ g := gbw.symm
  have go_ : w.heap.size ≠ g := (own_bne htx Ho.out (by decide)).symm
  have gr : w.heap.size + 1 ≠ g := (own_bne htx Hr.out (by decide)).symm
  have gi : w.heap.size + 2 ≠ g := (own_bne htx P.out.hi (by decide)).symm
  have gd : w.heap.size + 3 ≠ g := (own_bne htx P.out.hd (by decide)).symm
  have gr' : g ≠ w.heap.size + 1 := gr.symm
  have hbuf := hM.bufs i _ hp hact
  have hap : ∀ (j : Nat) (q : Txn × Value), j ≠ i → ct[j]? = some q → q.1.active = true → Apart q.2 hd := fun j q hji hq hqa => hM.dt j i q _ hji hq hp hqa hact
  have m1 := hM.off hp rfl
  have tg : RowTy W (some g) 115 := RowTy.of_own (v := .slice (some ⟨g, 0, none⟩) ct.length cap) htx
  have bgB : B ≤ g := (own_lt htx rfl).1
  have k1 := k0.grown (e := 115) (set_grown W g (i * 4 + 1) (.bool false)) (by omega) (fun k hk => by simp at hk; omega) tg (by decide)
  have hbuf1 := own_ty (set_grown W g (i * 4 + 1) (.bool false)) tg hbuf (by decide)
  have Hr1 := hid (show (W.setCell ⟨g, i * 4 + 1, none⟩ (.bool false)).heap[w.heap.size + 1]? = some (.cells #[.int .i64 0, .int .i64 0] 37 (0, 0)) by rw [Below.heap_setCell _ _ _ _ (by exact gr)]; exact Hr.out)
  clear hbuf hbuf1 tg
  go_wp2
  exact bodyPost_ret (v := resV _) (res_run rfl Hr1.out rfl _ _) rfl ⟨rfl, step_finS ⟨_, _, _, _, m1, by rw [List.map_set], rfl⟩ k1 Hr1.out (by omega) hB _ _⟩

set_option maxHeartbeats 8000000 in
set_option maxRecDepth 100000 in
theorem stepS_conf {B : Nat} {w : World} {bw : Nat} {tv lv : Value} {ct : List (Txn × Value)} {cl : List (CR × Value)} (h : WldM B w bw tv lv ct cl) (hB : B ≤ w.heap.size) (tx key val : Int) (i : Nat) (t : Txn) (hd : Value) (hf : findTx (ct.map (·.1)) tx = some i) (hp : ct[i]? = some (t, hd)) (hn : ct.length ≤ 1000000) (hact : t.active = true) (hb : t.buf.length ≤ 1000000) (hln : cl.length ≤ 1000000) (hlw : ∀ p ∈ cl, p.1.writes.length ≤ 1000000) (hcf : conflictS (cl.map (·.1)) t = true) :
    Calls Yahh.prog 48 #[.pointer (some ⟨bw, 0, none⟩), .agg #[.int .i64 4, .int .i64 tx, .int .i64 key, .int .i64 val]] w fun e w' => e = .returned (resV (3, 0)) ∧ StepPostS B w bw ⟨(ct.map (·.1)).set i ⟨t.id, false, t.snap, t.buf⟩, cl.map (·.1)⟩ w' := by
  have hM := (((h.alloc (Obj.cells #[.int .i64 4, .int .i64 tx, .int .i64 key, .int .i64 val] 35)).alloc (Obj.cells #[.int .i64 0, .int .i64 0] 37)).alloc (Obj.cells #[.int .i64 2, .int .i64 0] 37)).alloc (Obj.cells #[.int .i64 0, .int .i64 0] 37)
  have P := hid (pre48 w 4 tx key val)
  have k0 : Keep B wldT w ((((w.alloc (Obj.cells #[.int .i64 4, .int .i64 tx, .int .i64 key, .int .i64 val] 35)).alloc (Obj.cells #[.int .i64 0, .int .i64 0] 37)).alloc (Obj.cells #[.int .i64 2, .int .i64 0] 37)).alloc (Obj.cells #[.int .i64 0, .int .i64 0] 37)) := (((( Keep.refl _ _ _).alloc hB _).alloc (by simp; omega) _).alloc (by simp; omega) _).alloc (by simp; omega) _
  have hlt := h.lt
  have hfc := findS_any hM tx hn
  rw [hf] at hfc
  go_enter Yahh.func48, Yahh.ntmps48
  go_wp2_with fail
  refine hfc.mono ?_
  rintro e w1 ⟨rfl, rfl⟩
  simp only [idxI]
  generalize hW : (((w.alloc (Obj.cells #[.int .i64 4, .int .i64 tx, .int .i64 key, .int .i64 val] 35)).alloc (Obj.cells #[.int .i64 0, .int .i64 0] 37)).alloc (Obj.cells #[.int .i64 2, .int .i64 0] 37)).alloc (Obj.cells #[.int .i64 0, .int .i64 0] 37) = W at *
  clear hW hfc
  have hsW := P.out.size
  have hsW1 : w.heap.size + 4 ≤ W.heap.size := by omega
  have Ho := hid P.out.ho
  have Hr := hid P.out.hr
  have o0 := cell_of_row W w.heap.size 0 _ _ _ P.out.ho
  have o1 := cell_of_row W w.heap.size 1 _ _ _ P.out.ho
  have o2 := cell_of_row W w.heap.size 2 _ _ _ P.out.ho
  have o3 := cell_of_row W w.heap.size 3 _ _ _ P.out.ho
  have x0 := cell_of_row W (w.heap.size + 1) 0 _ _ _ P.out.hr
  have x1 := cell_of_row W (w.heap.size + 1) 1 _ _ _ P.out.hr
  have y0 := frozen_of_row W (w.heap.size + 1) 0 _ _ P.out.hr
  have y1 := frozen_of_row W (w.heap.size + 1) 1 _ _ P.out.hr
  have i0 := cell_of_row W (w.heap.size + 2) 0 _ _ _ P.out.hi
  have i1 := cell_of_row W (w.heap.size + 2) 1 _ _ _ P.out.hi
  have d0 := cell_of_row W (w.heap.size + 3) 0 _ _ _ P.out.hd
  have d1 := cell_of_row W (w.heap.size + 3) 1 _ _ _ P.out.hd
  simp only [List.getElem?_toArray, List.getElem?_cons_succ, List.getElem?_cons_zero] at o0 o1 o2 o3 x0 x1 i0 i1 d0 d1
  have c0 := hM.c0
  have c1 := hM.c1
  have bn1 : bw ≠ w.heap.size + 1 := by omega
  have bn1' : w.heap.size + 1 ≠ bw := by omega
  have bn0' : w.heap.size ≠ bw := by omega
  have bn2' : w.heap.size + 2 ≠ bw := by omega
  have bn3' : w.heap.size + 3 ≠ bw := by omega
  clear hsW hf
  have hi : i < ct.length := (List.getElem?_eq_some_iff.1 hp).1
  have hil : (i : Int) < (ct.length : Int) := by omega
  have hi0 : (0 : Int) ≤ (i : Int) := by omega
  have htx := hM.txs
  obtain ⟨ad, cap, g, htv, had⟩ := own_shape htx
  subst htv
  obtain rfl := had (by omega)
  have t1 := row_cell txC_len htx hp (j := 1) (by omega) rfl
  have t3 := row_cell txC_len htx hp (j := 3) (by omega) rfl
  simp only [] at t1 t3
  rw [hact] at t1
  have tf1 := htx.frozenAt (i * 4 + 1)
  have tf3 := htx.frozenAt (i * 4 + 3)
  have gbw : g ≠ bw := own_bne htx hM.blk (by decide)
  have gbw' : bw ≠ g := gbw.symm
  have go_ : w.heap.size ≠ g := (own_bne htx Ho.out (by decide)).symm
  have gr : w.heap.size + 1 ≠ g := (own_bne htx Hr.out (by decide)).symm
  have gi : w.heap.size + 2 ≠ g := (own_bne htx P.out.hi (by decide)).symm
  have gd : w.heap.size + 3 ≠ g := (own_bne htx P.out.hd (by decide)).symm
  have gr' : g ≠ w.heap.size + 1 := gr.symm
  have hbuf := hM.bufs i _ hp hact
  have hap : ∀ (j : Nat) (q : Txn × Value), j ≠ i → ct[j]? = some q → q.1.active = true → Apart q.2 hd := fun j q hji hq hqa => hM.dt j i q _ hji hq hp hqa hact
  have m1 := hM.off hp rfl
  have tg : RowTy W (some g) 115 := RowTy.of_own (v := .slice (some ⟨g, 0, none⟩) ct.length cap) htx
  have bgB : B ≤ g := (own_lt htx rfl).1
  have k1 := k0.grown (e := 115) (set_grown W g (i * 4 + 1) (.bool false)) (by omega) (fun k hk => by simp at hk; omega) tg (by decide)
  have hbuf1 := own_ty (set_grown W g (i * 4 + 1) (.bool false)) tg hbuf (by decide)
  have Hr1 := hid (show (W.setCell ⟨g, i * 4 + 1, none⟩ (.bool false)).heap[w.heap.size + 1]? = some (.cells #[.int .i64 0, .int .i64 0] 37 (0, 0)) by rw [Below.heap_setCell _ _ _ _ (by exact gr)]; exact Hr.out)
  have hsz1 := k1.below.size
  have hcc := conflictS_any m1 i ⟨t.id, false, t.snap, t.buf⟩ hd (by simp [hi]) hbuf1 (by simpa using hn) hb hln hlw
  have hcE : conflictS (cl.map (·.1)) ⟨t.id, false, t.snap, t.buf⟩ = conflictS (cl.map (·.1)) t := rfl
  rw [hcE, hcf] at hcc
  clear hbuf tg
  go_wp2_with fail
  refine hcc.mono ?_
  rintro e w2 ⟨rfl, hb2⟩
  clear hcc
  have hszW1 : (W.setCell ⟨g, i * 4 + 1, none⟩ (.bool false)).heap.size = W.heap.size := by simp [World.setCell]
  have hM2 := m1.below hb2
  have hr2 : w2.heap[w.heap.size + 1]? = some (.cells #[.int .i64 0, .int .i64 0] 37 (0, 0)) := by rw [hb2.block _ (by omega)]; exact Hr1.out
  have Hr2 := hid hr2
  have k2 : Keep B wldT w w2 := ⟨k1.below.trans (hb2.mono (by omega)), fun k c e f hk he => by rw [hb2.block k (by have := blk_lt hk; omega)]; exact k1.block k c e f hk he⟩
  clear x0 x1 y0 y1 i0 i1 d0 d1 o0 o1 o2 o3 c0 c1 t1 t3 tf1 tf3
  have x0 := cell_of_row w2 (w.heap.size + 1) 0 _ _ _ hr2
  have x1 := cell_of_row w2 (w.heap.size + 1) 1 _ _ _ hr2
  have y0 := frozen_of_row w2 (w.heap.size + 1) 0 _ _ hr2
  have y1 := frozen_of_row w2 (w.heap.size + 1) 1 _ _ hr2
  simp only [List.getElem?_toArray, List.getElem?_cons_succ, List.getElem?_cons_zero] at x0 x1
  clear hr2
  go_wp2
  exact bodyPost_ret (v := resV _) (res_run rfl Hr2.out rfl _ _) rfl ⟨rfl, step_finS ⟨_, _, _, _, hM2, by rw [List.map_set], rfl⟩ k2 Hr2.out (by omega) hB _ _⟩
end Go.Proofs.Yafahw
