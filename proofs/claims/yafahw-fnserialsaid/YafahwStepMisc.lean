/- Walks: (*store).step (47): the invalid ways, Write, Delete, Abort, unknown kinds. -/
import Derived.Test.YafahwStepRead
namespace Go.Proofs.Yafahw
open Go.RowKit
set_option linter.unusedVariables false
set_option linter.unusedSimpArgs false

set_option maxHeartbeats 4000000 in
set_option maxRecDepth 100000 in
theorem step_inv1 {B : Nat} {w : World} {bs : Nat} {clock : Int} {kv tv : Value} {ck : List (KH × Value)} {ct : List (Txn × Value)} (h : StoM B w bs clock kv tv ck ct) (hB : B ≤ w.heap.size) (tx key val : Int) (hf : actTx (ct.map (·.1)) tx = none) (hn : ct.length ≤ 1000000) :
    Calls Yahh.prog 47 #[.pointer (some ⟨bs, 0, none⟩), .agg #[.int .i64 1, .int .i64 tx, .int .i64 key, .int .i64 val]] w fun e w' => e = .returned (resV (2, 0)) ∧ StepPost B w bs ⟨clock, ck.map (·.1), ct.map (·.1)⟩ w' := by
  have hM := (h.alloc (Obj.cells #[.int .i64 1, .int .i64 tx, .int .i64 key, .int .i64 val] 35)).alloc (Obj.cells #[.int .i64 0, .int .i64 0] 37)
  have k0 : Keep B stoT w ((w.alloc (Obj.cells #[.int .i64 1, .int .i64 tx, .int .i64 key, .int .i64 val] 35)).alloc (Obj.cells #[.int .i64 0, .int .i64 0] 37)) := ((Keep.refl _ _ _).alloc hB _).alloc (by simp; omega) _
  have ho := alloc_keep (heap_alloc_new w (Obj.cells #[.int .i64 1, .int .i64 tx, .int .i64 key, .int .i64 val] 35)) (Obj.cells #[.int .i64 0, .int .i64 0] 37)
  have hr := heap_alloc_new (w.alloc (Obj.cells #[.int .i64 1, .int .i64 tx, .int .i64 key, .int .i64 val] 35)) (Obj.cells #[.int .i64 0, .int .i64 0] 37)
  rw [World.size_alloc] at hr
  have Ho := hid ho
  have Hr := hid hr
  clear ho hr
  have hfc := activeTx_any hM tx hn
  rw [hf] at hfc
  clear hf
  go_enter Yahh.func47, Yahh.ntmps47
  go_wp2_with fail
  refine hfc.mono ?_
  rintro e w1 ⟨rfl, rfl⟩
  simp only [idxI]
  generalize hW : (w.alloc (Obj.cells #[.int .i64 1, .int .i64 tx, .int .i64 key, .int .i64 val] 35)).alloc (Obj.cells #[.int .i64 0, .int .i64 0] 37) = W at *
  have hsW : w.heap.size + 2 = W.heap.size := by rw [← hW]; simp
  have hsW1 : w.heap.size + 2 ≤ W.heap.size := by omega
  clear hW hfc hsW
  have o0 := cell_of_row W w.heap.size 0 _ _ _ Ho.out
  have o2 := cell_of_row W w.heap.size 2 _ _ _ Ho.out
  have o3 := cell_of_row W w.heap.size 3 _ _ _ Ho.out
  have x0 := cell_of_row W (w.heap.size + 1) 0 _ _ _ Hr.out
  have x1 := cell_of_row W (w.heap.size + 1) 1 _ _ _ Hr.out
  have y0 := frozen_of_row W (w.heap.size + 1) 0 _ _ Hr.out
  have y1 := frozen_of_row W (w.heap.size + 1) 1 _ _ Hr.out
  simp only [List.getElem?_toArray, List.getElem?_cons_succ, List.getElem?_cons_zero] at o0 o2 o3 x0 x1
  go_wp2
  exact bodyPost_ret (v := resV _) (res_run rfl Hr.out rfl _ _) rfl ⟨rfl, step_fin ⟨_, _, _, _, hM, rfl, rfl⟩ k0 Hr.out (by omega) hB _ _⟩

set_option maxHeartbeats 4000000 in
set_option maxRecDepth 100000 in
theorem step_inv2 {B : Nat} {w : World} {bs : Nat} {clock : Int} {kv tv : Value} {ck : List (KH × Value)} {ct : List (Txn × Value)} (h : StoM B w bs clock kv tv ck ct) (hB : B ≤ w.heap.size) (tx key val : Int) (hf : actTx (ct.map (·.1)) tx = none) (hn : ct.length ≤ 1000000) :
    Calls Yahh.prog 47 #[.pointer (some ⟨bs, 0, none⟩), .agg #[.int .i64 2, .int .i64 tx, .int .i64 key, .int .i64 val]] w fun e w' => e = .returned (resV (2, 0)) ∧ StepPost B w bs ⟨clock, ck.map (·.1), ct.map (·.1)⟩ w' := by
  have hM := (h.alloc (Obj.cells #[.int .i64 2, .int .i64 tx, .int .i64 key, .int .i64 val] 35)).alloc (Obj.cells #[.int .i64 0, .int .i64 0] 37)
  have k0 : Keep B stoT w ((w.alloc (Obj.cells #[.int .i64 2, .int .i64 tx, .int .i64 key, .int .i64 val] 35)).alloc (Obj.cells #[.int .i64 0, .int .i64 0] 37)) := ((Keep.refl _ _ _).alloc hB _).alloc (by simp; omega) _
  have ho := alloc_keep (heap_alloc_new w (Obj.cells #[.int .i64 2, .int .i64 tx, .int .i64 key, .int .i64 val] 35)) (Obj.cells #[.int .i64 0, .int .i64 0] 37)
  have hr := heap_alloc_new (w.alloc (Obj.cells #[.int .i64 2, .int .i64 tx, .int .i64 key, .int .i64 val] 35)) (Obj.cells #[.int .i64 0, .int .i64 0] 37)
  rw [World.size_alloc] at hr
  have Ho := hid ho
  have Hr := hid hr
  clear ho hr
  have hfc := activeTx_any hM tx hn
  rw [hf] at hfc
  clear hf
  go_enter Yahh.func47, Yahh.ntmps47
  go_wp2_with fail
  refine hfc.mono ?_
  rintro e w1 ⟨rfl, rfl⟩
  simp only [idxI]
  generalize hW : (w.alloc (Obj.cells #[.int .i64 2, .int .i64 tx, .int .i64 key, .int .i64 val] 35)).alloc (Obj.cells #[.int .i64 0, .int .i64 0] 37) = W at *
  have hsW : w.heap.size + 2 = W.heap.size := by rw [← hW]; simp
  have hsW1 : w.heap.size + 2 ≤ W.heap.size := by omega
  clear hW hfc hsW
  have o0 := cell_of_row W w.heap.size 0 _ _ _ Ho.out
  have o2 := cell_of_row W w.heap.size 2 _ _ _ Ho.out
  have o3 := cell_of_row W w.heap.size 3 _ _ _ Ho.out
  have x0 := cell_of_row W (w.heap.size + 1) 0 _ _ _ Hr.out
  have x1 := cell_of_row W (w.heap.size + 1) 1 _ _ _ Hr.out
  have y0 := frozen_of_row W (w.heap.size + 1) 0 _ _ Hr.out
  have y1 := frozen_of_row W (w.heap.size + 1) 1 _ _ Hr.out
  simp only [List.getElem?_toArray, List.getElem?_cons_succ, List.getElem?_cons_zero] at o0 o2 o3 x0 x1
  go_wp2
  exact bodyPost_ret (v := resV _) (res_run rfl Hr.out rfl _ _) rfl ⟨rfl, step_fin ⟨_, _, _, _, hM, rfl, rfl⟩ k0 Hr.out (by omega) hB _ _⟩

set_option maxHeartbeats 4000000 in
set_option maxRecDepth 100000 in
theorem step_inv3 {B : Nat} {w : World} {bs : Nat} {clock : Int} {kv tv : Value} {ck : List (KH × Value)} {ct : List (Txn × Value)} (h : StoM B w bs clock kv tv ck ct) (hB : B ≤ w.heap.size) (tx key val : Int) (hf : actTx (ct.map (·.1)) tx = none) (hn : ct.length ≤ 1000000) :
    Calls Yahh.prog 47 #[.pointer (some ⟨bs, 0, none⟩), .agg #[.int .i64 3, .int .i64 tx, .int .i64 key, .int .i64 val]] w fun e w' => e = .returned (resV (2, 0)) ∧ StepPost B w bs ⟨clock, ck.map (·.1), ct.map (·.1)⟩ w' := by
  have hM := (h.alloc (Obj.cells #[.int .i64 3, .int .i64 tx, .int .i64 key, .int .i64 val] 35)).alloc (Obj.cells #[.int .i64 0, .int .i64 0] 37)
  have k0 : Keep B stoT w ((w.alloc (Obj.cells #[.int .i64 3, .int .i64 tx, .int .i64 key, .int .i64 val] 35)).alloc (Obj.cells #[.int .i64 0, .int .i64 0] 37)) := ((Keep.refl _ _ _).alloc hB _).alloc (by simp; omega) _
  have ho := alloc_keep (heap_alloc_new w (Obj.cells #[.int .i64 3, .int .i64 tx, .int .i64 key, .int .i64 val] 35)) (Obj.cells #[.int .i64 0, .int .i64 0] 37)
  have hr := heap_alloc_new (w.alloc (Obj.cells #[.int .i64 3, .int .i64 tx, .int .i64 key, .int .i64 val] 35)) (Obj.cells #[.int .i64 0, .int .i64 0] 37)
  rw [World.size_alloc] at hr
  have Ho := hid ho
  have Hr := hid hr
  clear ho hr
  have hfc := activeTx_any hM tx hn
  rw [hf] at hfc
  clear hf
  go_enter Yahh.func47, Yahh.ntmps47
  go_wp2_with fail
  refine hfc.mono ?_
  rintro e w1 ⟨rfl, rfl⟩
  simp only [idxI]
  generalize hW : (w.alloc (Obj.cells #[.int .i64 3, .int .i64 tx, .int .i64 key, .int .i64 val] 35)).alloc (Obj.cells #[.int .i64 0, .int .i64 0] 37) = W at *
  have hsW : w.heap.size + 2 = W.heap.size := by rw [← hW]; simp
  have hsW1 : w.heap.size + 2 ≤ W.heap.size := by omega
  clear hW hfc hsW
  have o0 := cell_of_row W w.heap.size 0 _ _ _ Ho.out
  have o2 := cell_of_row W w.heap.size 2 _ _ _ Ho.out
  have o3 := cell_of_row W w.heap.size 3 _ _ _ Ho.out
  have x0 := cell_of_row W (w.heap.size + 1) 0 _ _ _ Hr.out
  have x1 := cell_of_row W (w.heap.size + 1) 1 _ _ _ Hr.out
  have y0 := frozen_of_row W (w.heap.size + 1) 0 _ _ Hr.out
  have y1 := frozen_of_row W (w.heap.size + 1) 1 _ _ Hr.out
  simp only [List.getElem?_toArray, List.getElem?_cons_succ, List.getElem?_cons_zero] at o0 o2 o3 x0 x1
  go_wp2
  exact bodyPost_ret (v := resV _) (res_run rfl Hr.out rfl _ _) rfl ⟨rfl, step_fin ⟨_, _, _, _, hM, rfl, rfl⟩ k0 Hr.out (by omega) hB _ _⟩

set_option maxHeartbeats 4000000 in
set_option maxRecDepth 100000 in
theorem step_inv4 {B : Nat} {w : World} {bs : Nat} {clock : Int} {kv tv : Value} {ck : List (KH × Value)} {ct : List (Txn × Value)} (h : StoM B w bs clock kv tv ck ct) (hB : B ≤ w.heap.size) (tx key val : Int) (hf : actTx (ct.map (·.1)) tx = none) (hn : ct.length ≤ 1000000) :
    Calls Yahh.prog 47 #[.pointer (some ⟨bs, 0, none⟩), .agg #[.int .i64 4, .int .i64 tx, .int .i64 key, .int .i64 val]] w fun e w' => e = .returned (resV (2, 0)) ∧ StepPost B w bs ⟨clock, ck.map (·.1), ct.map (·.1)⟩ w' := by
  have hM := (h.alloc (Obj.cells #[.int .i64 4, .int .i64 tx, .int .i64 key, .int .i64 val] 35)).alloc (Obj.cells #[.int .i64 0, .int .i64 0] 37)
  have k0 : Keep B stoT w ((w.alloc (Obj.cells #[.int .i64 4, .int .i64 tx, .int .i64 key, .int .i64 val] 35)).alloc (Obj.cells #[.int .i64 0, .int .i64 0] 37)) := ((Keep.refl _ _ _).alloc hB _).alloc (by simp; omega) _
  have ho := alloc_keep (heap_alloc_new w (Obj.cells #[.int .i64 4, .int .i64 tx, .int .i64 key, .int .i64 val] 35)) (Obj.cells #[.int .i64 0, .int .i64 0] 37)
  have hr := heap_alloc_new (w.alloc (Obj.cells #[.int .i64 4, .int .i64 tx, .int .i64 key, .int .i64 val] 35)) (Obj.cells #[.int .i64 0, .int .i64 0] 37)
  rw [World.size_alloc] at hr
  have Ho := hid ho
  have Hr := hid hr
  clear ho hr
  have hfc := activeTx_any hM tx hn
  rw [hf] at hfc
  clear hf
  go_enter Yahh.func47, Yahh.ntmps47
  go_wp2_with fail
  refine hfc.mono ?_
  rintro e w1 ⟨rfl, rfl⟩
  simp only [idxI]
  generalize hW : (w.alloc (Obj.cells #[.int .i64 4, .int .i64 tx, .int .i64 key, .int .i64 val] 35)).alloc (Obj.cells #[.int .i64 0, .int .i64 0] 37) = W at *
  have hsW : w.heap.size + 2 = W.heap.size := by rw [← hW]; simp
  have hsW1 : w.heap.size + 2 ≤ W.heap.size := by omega
  clear hW hfc hsW
  have o0 := cell_of_row W w.heap.size 0 _ _ _ Ho.out
  have o2 := cell_of_row W w.heap.size 2 _ _ _ Ho.out
  have o3 := cell_of_row W w.heap.size 3 _ _ _ Ho.out
  have x0 := cell_of_row W (w.heap.size + 1) 0 _ _ _ Hr.out
  have x1 := cell_of_row W (w.heap.size + 1) 1 _ _ _ Hr.out
  have y0 := frozen_of_row W (w.heap.size + 1) 0 _ _ Hr.out
  have y1 := frozen_of_row W (w.heap.size + 1) 1 _ _ Hr.out
  simp only [List.getElem?_toArray, List.getElem?_cons_succ, List.getElem?_cons_zero] at o0 o2 o3 x0 x1
  go_wp2
  exact bodyPost_ret (v := resV _) (res_run rfl Hr.out rfl _ _) rfl ⟨rfl, step_fin ⟨_, _, _, _, hM, rfl, rfl⟩ k0 Hr.out (by omega) hB _ _⟩

set_option maxHeartbeats 4000000 in
set_option maxRecDepth 100000 in
theorem step_inv5 {B : Nat} {w : World} {bs : Nat} {clock : Int} {kv tv : Value} {ck : List (KH × Value)} {ct : List (Txn × Value)} (h : StoM B w bs clock kv tv ck ct) (hB : B ≤ w.heap.size) (tx key val : Int) (hf : actTx (ct.map (·.1)) tx = none) (hn : ct.length ≤ 1000000) :
    Calls Yahh.prog 47 #[.pointer (some ⟨bs, 0, none⟩), .agg #[.int .i64 5, .int .i64 tx, .int .i64 key, .int .i64 val]] w fun e w' => e = .returned (resV (2, 0)) ∧ StepPost B w bs ⟨clock, ck.map (·.1), ct.map (·.1)⟩ w' := by
  have hM := (h.alloc (Obj.cells #[.int .i64 5, .int .i64 tx, .int .i64 key, .int .i64 val] 35)).alloc (Obj.cells #[.int .i64 0, .int .i64 0] 37)
  have k0 : Keep B stoT w ((w.alloc (Obj.cells #[.int .i64 5, .int .i64 tx, .int .i64 key, .int .i64 val] 35)).alloc (Obj.cells #[.int .i64 0, .int .i64 0] 37)) := ((Keep.refl _ _ _).alloc hB _).alloc (by simp; omega) _
  have ho := alloc_keep (heap_alloc_new w (Obj.cells #[.int .i64 5, .int .i64 tx, .int .i64 key, .int .i64 val] 35)) (Obj.cells #[.int .i64 0, .int .i64 0] 37)
  have hr := heap_alloc_new (w.alloc (Obj.cells #[.int .i64 5, .int .i64 tx, .int .i64 key, .int .i64 val] 35)) (Obj.cells #[.int .i64 0, .int .i64 0] 37)
  rw [World.size_alloc] at hr
  have Ho := hid ho
  have Hr := hid hr
  clear ho hr
  have hfc := activeTx_any hM tx hn
  rw [hf] at hfc
  clear hf
  go_enter Yahh.func47, Yahh.ntmps47
  go_wp2_with fail
  refine hfc.mono ?_
  rintro e w1 ⟨rfl, rfl⟩
  simp only [idxI]
  generalize hW : (w.alloc (Obj.cells #[.int .i64 5, .int .i64 tx, .int .i64 key, .int .i64 val] 35)).alloc (Obj.cells #[.int .i64 0, .int .i64 0] 37) = W at *
  have hsW : w.heap.size + 2 = W.heap.size := by rw [← hW]; simp
  have hsW1 : w.heap.size + 2 ≤ W.heap.size := by omega
  clear hW hfc hsW
  have o0 := cell_of_row W w.heap.size 0 _ _ _ Ho.out
  have o2 := cell_of_row W w.heap.size 2 _ _ _ Ho.out
  have o3 := cell_of_row W w.heap.size 3 _ _ _ Ho.out
  have x0 := cell_of_row W (w.heap.size + 1) 0 _ _ _ Hr.out
  have x1 := cell_of_row W (w.heap.size + 1) 1 _ _ _ Hr.out
  have y0 := frozen_of_row W (w.heap.size + 1) 0 _ _ Hr.out
  have y1 := frozen_of_row W (w.heap.size + 1) 1 _ _ Hr.out
  simp only [List.getElem?_toArray, List.getElem?_cons_succ, List.getElem?_cons_zero] at o0 o2 o3 x0 x1
  go_wp2
  exact bodyPost_ret (v := resV _) (res_run rfl Hr.out rfl _ _) rfl ⟨rfl, step_fin ⟨_, _, _, _, hM, rfl, rfl⟩ k0 Hr.out (by omega) hB _ _⟩

set_option maxHeartbeats 4000000 in
set_option maxRecDepth 100000 in
theorem step_other {B : Nat} {w : World} {bs : Nat} {clock : Int} {kv tv : Value} {ck : List (KH × Value)} {ct : List (Txn × Value)} (h : StoM B w bs clock kv tv ck ct) (hB : B ≤ w.heap.size) (tx key val : Int) (kind : Int) (h0 : (kind == 0) = false) (h1 : (kind == 1) = false) (h2 : (kind == 2) = false) (h3 : (kind == 3) = false) (h4 : (kind == 4) = false) (h5 : (kind == 5) = false) :
    Calls Yahh.prog 47 #[.pointer (some ⟨bs, 0, none⟩), .agg #[.int .i64 kind, .int .i64 tx, .int .i64 key, .int .i64 val]] w fun e w' => e = .returned (resV (2, 0)) ∧ StepPost B w bs ⟨clock, ck.map (·.1), ct.map (·.1)⟩ w' := by
  go_enter Yahh.func47, Yahh.ntmps47
  go_wp2
  refine bodyPost_ret (v := .agg #[.int .i64 2, .int .i64 0]) (by simp [results, Yahh.results47, go_sem]) rfl ⟨rfl, ⟨kv, tv, ck, ct, (h.alloc _).alloc _, rfl, rfl⟩, ((Keep.refl _ _ _).alloc hB _).alloc (by simp; omega) _⟩

set_option maxHeartbeats 4000000 in
set_option maxRecDepth 100000 in
theorem step_put2 {B : Nat} {w : World} {bs : Nat} {clock : Int} {kv tv : Value} {ck : List (KH × Value)} {ct : List (Txn × Value)} (h : StoM B w bs clock kv tv ck ct) (hB : B ≤ w.heap.size) (tx key val : Int) (i : Nat) (t : Txn) (hd : Value) (hf : actTx (ct.map (·.1)) tx = some i) (hp : ct[i]? = some (t, hd)) (hn : ct.length ≤ 1000000) (hb : t.buf.length ≤ 1000000) :
    Calls Yahh.prog 47 #[.pointer (some ⟨bs, 0, none⟩), .agg #[.int .i64 2, .int .i64 tx, .int .i64 key, .int .i64 val]] w fun e w' => e = .returned (resV (0, 0)) ∧ StepPost B w bs ⟨clock, ck.map (·.1), (ct.map (·.1)).set i ⟨t.id, t.active, t.snap, bufSet t.buf ⟨key, false, val⟩⟩⟩ w' := by
  have hM := (h.alloc (Obj.cells #[.int .i64 2, .int .i64 tx, .int .i64 key, .int .i64 val] 35)).alloc (Obj.cells #[.int .i64 0, .int .i64 0] 37)
  have k0 : Keep B stoT w ((w.alloc (Obj.cells #[.int .i64 2, .int .i64 tx, .int .i64 key, .int .i64 val] 35)).alloc (Obj.cells #[.int .i64 0, .int .i64 0] 37)) := ((Keep.refl _ _ _).alloc hB _).alloc (by simp; omega) _
  have ho := alloc_keep (heap_alloc_new w (Obj.cells #[.int .i64 2, .int .i64 tx, .int .i64 key, .int .i64 val] 35)) (Obj.cells #[.int .i64 0, .int .i64 0] 37)
  have hr := heap_alloc_new (w.alloc (Obj.cells #[.int .i64 2, .int .i64 tx, .int .i64 key, .int .i64 val] 35)) (Obj.cells #[.int .i64 0, .int .i64 0] 37)
  rw [World.size_alloc] at hr
  have Ho := hid ho
  have Hr := hid hr
  clear ho hr
  have hfc := activeTx_any hM tx hn
  rw [hf] at hfc
  clear hf
  go_enter Yahh.func47, Yahh.ntmps47
  go_wp2_with fail
  refine hfc.mono ?_
  rintro e w1 ⟨rfl, rfl⟩
  simp only [idxI]
  generalize hW : (w.alloc (Obj.cells #[.int .i64 2, .int .i64 tx, .int .i64 key, .int .i64 val] 35)).alloc (Obj.cells #[.int .i64 0, .int .i64 0] 37) = W at *
  have hsW : w.heap.size + 2 = W.heap.size := by rw [← hW]; simp
  have hsW1 : w.heap.size + 2 ≤ W.heap.size := by omega
  clear hW hfc hsW
  have o0 := cell_of_row W w.heap.size 0 _ _ _ Ho.out
  have o2 := cell_of_row W w.heap.size 2 _ _ _ Ho.out
  have o3 := cell_of_row W w.heap.size 3 _ _ _ Ho.out
  have x0 := cell_of_row W (w.heap.size + 1) 0 _ _ _ Hr.out
  have x1 := cell_of_row W (w.heap.size + 1) 1 _ _ _ Hr.out
  have y0 := frozen_of_row W (w.heap.size + 1) 0 _ _ Hr.out
  have y1 := frozen_of_row W (w.heap.size + 1) 1 _ _ Hr.out
  simp only [List.getElem?_toArray, List.getElem?_cons_succ, List.getElem?_cons_zero] at o0 o2 o3 x0 x1
  go_wp2_with fail
  refine (bufSet_any hM (by omega) i t hd hp key val false hn hb).mono ?_
  rintro e w2 ⟨rfl, hd', hM2, k2⟩
  have Hr2 := hid (k2.block _ _ _ _ Hr.out (by decide))
  have x0 := cell_of_row w2 (w.heap.size + 1) 0 _ _ _ Hr2.out
  have x1 := cell_of_row w2 (w.heap.size + 1) 1 _ _ _ Hr2.out
  have y0 := frozen_of_row w2 (w.heap.size + 1) 0 _ _ Hr2.out
  have y1 := frozen_of_row w2 (w.heap.size + 1) 1 _ _ Hr2.out
  simp only [List.getElem?_toArray, List.getElem?_cons_succ, List.getElem?_cons_zero] at x0 x1
  go_wp2
  exact bodyPost_ret (v := resV _) (res_run rfl Hr2.out rfl _ _) rfl ⟨rfl, step_fin ⟨_, _, _, _, hM2, rfl, by rw [List.map_set]⟩ (k0.trans k2) Hr2.out (by omega) hB _ _⟩

set_option maxHeartbeats 4000000 in
set_option maxRecDepth 100000 in
theorem step_put3 {B : Nat} {w : World} {bs : Nat} {clock : Int} {kv tv : Value} {ck : List (KH × Value)} {ct : List (Txn × Value)} (h : StoM B w bs clock kv tv ck ct) (hB : B ≤ w.heap.size) (tx key val : Int) (i : Nat) (t : Txn) (hd : Value) (hf : actTx (ct.map (·.1)) tx = some i) (hp : ct[i]? = some (t, hd)) (hn : ct.length ≤ 1000000) (hb : t.buf.length ≤ 1000000) :
    Calls Yahh.prog 47 #[.pointer (some ⟨bs, 0, none⟩), .agg #[.int .i64 3, .int .i64 tx, .int .i64 key, .int .i64 val]] w fun e w' => e = .returned (resV (0, 0)) ∧ StepPost B w bs ⟨clock, ck.map (·.1), (ct.map (·.1)).set i ⟨t.id, t.active, t.snap, bufSet t.buf ⟨key, true, 0⟩⟩⟩ w' := by
  have hM := (h.alloc (Obj.cells #[.int .i64 3, .int .i64 tx, .int .i64 key, .int .i64 val] 35)).alloc (Obj.cells #[.int .i64 0, .int .i64 0] 37)
  have k0 : Keep B stoT w ((w.alloc (Obj.cells #[.int .i64 3, .int .i64 tx, .int .i64 key, .int .i64 val] 35)).alloc (Obj.cells #[.int .i64 0, .int .i64 0] 37)) := ((Keep.refl _ _ _).alloc hB _).alloc (by simp; omega) _
  have ho := alloc_keep (heap_alloc_new w (Obj.cells #[.int .i64 3, .int .i64 tx, .int .i64 key, .int .i64 val] 35)) (Obj.cells #[.int .i64 0, .int .i64 0] 37)
  have hr := heap_alloc_new (w.alloc (Obj.cells #[.int .i64 3, .int .i64 tx, .int .i64 key, .int .i64 val] 35)) (Obj.cells #[.int .i64 0, .int .i64 0] 37)
  rw [World.size_alloc] at hr
  have Ho := hid ho
  have Hr := hid hr
  clear ho hr
  have hfc := activeTx_any hM tx hn
  rw [hf] at hfc
  clear hf
  go_enter Yahh.func47, Yahh.ntmps47
  go_wp2_with fail
  refine hfc.mono ?_
  rintro e w1 ⟨rfl, rfl⟩
  simp only [idxI]
  generalize hW : (w.alloc (Obj.cells #[.int .i64 3, .int .i64 tx, .int .i64 key, .int .i64 val] 35)).alloc (Obj.cells #[.int .i64 0, .int .i64 0] 37) = W at *
  have hsW : w.heap.size + 2 = W.heap.size := by rw [← hW]; simp
  have hsW1 : w.heap.size + 2 ≤ W.heap.size := by omega
  clear hW hfc hsW
  have o0 := cell_of_row W w.heap.size 0 _ _ _ Ho.out
  have o2 := cell_of_row W w.heap.size 2 _ _ _ Ho.out
  have o3 := cell_of_row W w.heap.size 3 _ _ _ Ho.out
  have x0 := cell_of_row W (w.heap.size + 1) 0 _ _ _ Hr.out
  have x1 := cell_of_row W (w.heap.size + 1) 1 _ _ _ Hr.out
  have y0 := frozen_of_row W (w.heap.size + 1) 0 _ _ Hr.out
  have y1 := frozen_of_row W (w.heap.size + 1) 1 _ _ Hr.out
  simp only [List.getElem?_toArray, List.getElem?_cons_succ, List.getElem?_cons_zero] at o0 o2 o3 x0 x1
  go_wp2_with fail
  refine (bufSet_any hM (by omega) i t hd hp key 0 true hn hb).mono ?_
  rintro e w2 ⟨rfl, hd', hM2, k2⟩
  have Hr2 := hid (k2.block _ _ _ _ Hr.out (by decide))
  have x0 := cell_of_row w2 (w.heap.size + 1) 0 _ _ _ Hr2.out
  have x1 := cell_of_row w2 (w.heap.size + 1) 1 _ _ _ Hr2.out
  have y0 := frozen_of_row w2 (w.heap.size + 1) 0 _ _ Hr2.out
  have y1 := frozen_of_row w2 (w.heap.size + 1) 1 _ _ Hr2.out
  simp only [List.getElem?_toArray, List.getElem?_cons_succ, List.getElem?_cons_zero] at x0 x1
  go_wp2
  exact bodyPost_ret (v := resV _) (res_run rfl Hr2.out rfl _ _) rfl ⟨rfl, step_fin ⟨_, _, _, _, hM2, rfl, by rw [List.map_set]⟩ (k0.trans k2) Hr2.out (by omega) hB _ _⟩

set_option maxHeartbeats 4000000 in
set_option maxRecDepth 100000 in
theorem step_abort {B : Nat} {w : World} {bs : Nat} {clock : Int} {kv tv : Value} {ck : List (KH × Value)} {ct : List (Txn × Value)} (h : StoM B w bs clock kv tv ck ct) (hB : B ≤ w.heap.size) (tx key val : Int) (i : Nat) (t : Txn) (hd : Value) (hf : actTx (ct.map (·.1)) tx = some i) (hp : ct[i]? = some (t, hd)) (hn : ct.length ≤ 1000000) :
    Calls Yahh.prog 47 #[.pointer (some ⟨bs, 0, none⟩), .agg #[.int .i64 5, .int .i64 tx, .int .i64 key, .int .i64 val]] w fun e w' => e = .returned (resV (0, 0)) ∧ StepPost B w bs ⟨clock, ck.map (·.1), (ct.map (·.1)).set i ⟨t.id, false, t.snap, []⟩⟩ w' := by
  have hM := (h.alloc (Obj.cells #[.int .i64 5, .int .i64 tx, .int .i64 key, .int .i64 val] 35)).alloc (Obj.cells #[.int .i64 0, .int .i64 0] 37)
  have k0 : Keep B stoT w ((w.alloc (Obj.cells #[.int .i64 5, .int .i64 tx, .int .i64 key, .int .i64 val] 35)).alloc (Obj.cells #[.int .i64 0, .int .i64 0] 37)) := ((Keep.refl _ _ _).alloc hB _).alloc (by simp; omega) _
  have ho := alloc_keep (heap_alloc_new w (Obj.cells #[.int .i64 5, .int .i64 tx, .int .i64 key, .int .i64 val] 35)) (Obj.cells #[.int .i64 0, .int .i64 0] 37)
  have hr := heap_alloc_new (w.alloc (Obj.cells #[.int .i64 5, .int .i64 tx, .int .i64 key, .int .i64 val] 35)) (Obj.cells #[.int .i64 0, .int .i64 0] 37)
  rw [World.size_alloc] at hr
  have Ho := hid ho
  have Hr := hid hr
  clear ho hr
  have hfc := activeTx_any hM tx hn
  rw [hf] at hfc
  clear hf
  go_enter Yahh.func47, Yahh.ntmps47
  go_wp2_with fail
  refine hfc.mono ?_
  rintro e w1 ⟨rfl, rfl⟩
  simp only [idxI]
  generalize hW : (w.alloc (Obj.cells #[.int .i64 5, .int .i64 tx, .int .i64 key, .int .i64 val] 35)).alloc (Obj.cells #[.int .i64 0, .int .i64 0] 37) = W at *
  have hsW : w.heap.size + 2 = W.heap.size := by rw [← hW]; simp
  have hsW1 : w.heap.size + 2 ≤ W.heap.size := by omega
  clear hW hfc hsW
  have o0 := cell_of_row W w.heap.size 0 _ _ _ Ho.out
  have o2 := cell_of_row W w.heap.size 2 _ _ _ Ho.out
  have o3 := cell_of_row W w.heap.size 3 _ _ _ Ho.out
  have x0 := cell_of_row W (w.heap.size + 1) 0 _ _ _ Hr.out
  have x1 := cell_of_row W (w.heap.size + 1) 1 _ _ _ Hr.out
  have y0 := frozen_of_row W (w.heap.size + 1) 0 _ _ Hr.out
  have y1 := frozen_of_row W (w.heap.size + 1) 1 _ _ Hr.out
  simp only [List.getElem?_toArray, List.getElem?_cons_succ, List.getElem?_cons_zero] at o0 o2 o3 x0 x1
  have hi : i < ct.length := (List.getElem?_eq_some_iff.1 hp).1
  have hil : (i : Int) < (ct.length : Int) := by omega
  have hi0 : (0 : Int) ≤ (i : Int) := by omega
  have c2 := hM.c2
  obtain ⟨ad, cap, g, htv, had⟩ := own_shape hM.txs
  subst htv
  obtain rfl := had (by omega)
  have hc1 := row_cell txC_len hM.txs hp (j := 1) (by omega) rfl
  have hc3 := row_cell txC_len hM.txs hp (j := 3) (by omega) rfl
  have hf1 := hM.txs.frozenAt (i * 4 + 1)
  have hf3 := hM.txs.frozenAt (i * 4 + 3)
  have hne : g ≠ bs := own_bne hM.txs hM.blk (by decide)
  have hne' : bs ≠ g := hne.symm
  have hner : g ≠ w.heap.size + 1 := own_bne hM.txs Hr.out (by decide)
  have hner' : w.heap.size + 1 ≠ g := hner.symm
  have Hp := hid hp
  clear hp had
  go_wp2
  have m1 := hM.txSet Hp.out (p' := (⟨t.id, false, t.snap, t.buf⟩, hd)) (j := 1) (by omega) (u := .bool false) rfl (hM.bufs i (t, hd) Hp.out) (.inr rfl)
  have hl : (ct.set i (⟨t.id, false, t.snap, t.buf⟩, hd)).length = ct.length := List.length_set
  rw [← hl] at m1
  have m2 := m1.txSet (i := i) (p := (⟨t.id, false, t.snap, t.buf⟩, hd)) (by simp [hi]) (p' := (⟨t.id, false, t.snap, []⟩, .slice none 0 0)) (j := 3) (by omega) (u := .slice none 0 0) rfl (World.ownsRow_nil _ _ _ _) (.inl rfl)
  rw [List.set_set, hl] at m2
  have bg : B ≤ g := (own_lt hM.txs rfl).1
  have tg : RowTy W (some g) 109 := RowTy.of_own (v := .slice (some ⟨g, 0, none⟩) ct.length cap) hM.txs
  have tg2 : RowTy (W.setCell ⟨g, i * 4 + 1, none⟩ (.bool false)) (some g) 109 := fun k hk => by
    obtain ⟨c, f, hc⟩ := tg k hk
    simp at hk; subst hk
    obtain ⟨cur, hcur⟩ := own_blk hM.txs rfl
    exact ⟨_, _, heap_setCell_same W g (i * 4 + 1) _ _ _ hcur⟩
  have k1 := k0.grown (e := 109) (set_grown W g (i * 4 + 1) (.bool false)) (by omega) (fun k hk => by simp at hk; omega) tg (by decide)
  have k2 := k1.grown (e := 109) (set_grown _ g (i * 4 + 3) (.slice none 0 0)) (by have := k1.below.size; omega) (fun k hk => by simp at hk; omega) tg2 (by decide)
  have Hr2 : ((W.setCell ⟨g, i * 4 + 1, none⟩ (.bool false)).setCell ⟨g, i * 4 + 3, none⟩ (.slice none 0 0)).heap[w.heap.size + 1]? = some (.cells #[.int .i64 0, .int .i64 0] 37 (0, 0)) := by
    rw [Below.heap_setCell _ _ _ _ (by exact hner'), Below.heap_setCell _ _ _ _ (by exact hner')]; exact Hr.out
  exact bodyPost_ret (v := resV _) (res_run rfl Hr2 rfl _ _) rfl ⟨rfl, step_fin ⟨_, _, _, _, m2, rfl, by rw [List.map_set]⟩ k2 Hr2 (by omega) hB _ _⟩
end Go.Proofs.Yafahw
