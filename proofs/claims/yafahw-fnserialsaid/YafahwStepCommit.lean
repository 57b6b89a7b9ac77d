/- Walk: (*store).step (47): a Commit that goes through. -/
import Derived.Test.YafahwStepConflict
namespace Go.Proofs.Yafahw
open Go.RowKit
set_option linter.unusedVariables false
set_option linter.unusedSimpArgs false

theorem Yahh.info82 : (Yahh.prog.info? 82).map (fun i => (i.zero, i.size, i.bytes)) = some (some (.agg #[.int .i64 0, .bool false, .int .i64 0]), 3, 24) := by kernel_rfl
theorem Yahh.info80 : (Yahh.prog.info? 80).map (fun i => (i.zero, i.size, i.bytes)) = some (some (.agg #[.int .i64 0, .slice none 0 0]), 2, 32) := by kernel_rfl

theorem addVer_hit {ts : Int} {keys : List KH} {x : Wr} : ∀ {i : Nat} {h : KH}, findKey keys x.key = some i → keys[i]? = some h → addVer ts keys x = keys.set i ⟨h.key, h.vers ++ [verOf ts x]⟩ := by
  induction keys with
  | nil => intro i h hf hx; simp at hx
  | cons y ys ih =>
    intro i h hf hx
    unfold findKey at hf
    rw [List.findIdx?_cons] at hf
    simp only [addVer]
    by_cases hk : (y.key == x.key) = true
    · simp only [hk, if_true] at hf ⊢
      simp at hf; subst hf
      simp at hx; subst hx
      rfl
    · have hk' : (y.key == x.key) = false := by simpa using hk
      simp only [hk', Bool.false_eq_true, if_false] at hf ⊢
      obtain ⟨j, hj, rfl⟩ := Option.map_eq_some_iff.1 hf
      rw [List.set_cons_succ, ih (i := j) (h := h) hj (by simpa using hx)]
theorem addVer_miss {ts : Int} {keys : List KH} {x : Wr} : findKey keys x.key = none → addVer ts keys x = keys ++ [⟨x.key, [verOf ts x]⟩] := by
  induction keys with
  | nil => intro _; rfl
  | cons y ys ih =>
    intro hf
    unfold findKey at hf
    rw [List.findIdx?_cons] at hf
    simp only [addVer]
    by_cases hk : (y.key == x.key) = true
    · simp [hk] at hf
    · have hk' : (y.key == x.key) = false := by simpa using hk
      simp only [hk', Bool.false_eq_true, if_false] at hf ⊢
      rw [ih (Option.map_eq_none_iff.1 hf)]; rfl

def CommitR (B : Nat) (w : World) (bs : Nat) (clock : Int) (tv : Value) (ct : List (Txn × Value)) (buf : List Wr) (hd : Value) (keys0 : List KH) (j : Value) (wr : World) : Prop :=
  ∃ (m : Nat) (kv' : Value) (ck' : List (KH × Value)), j = .int .i64 (m : Int) ∧ m ≤ buf.length ∧ StoM B wr bs clock kv' tv ck' ct ∧ ck'.map (·.1) = (buf.take m).foldl (addVer clock) keys0 ∧ wr.ownsRow B 111 3 hd buf.length (wrCells buf) ∧ Keep B stoT w wr ∧
    wr.heap[w.heap.size + 1]? = some (.cells #[.int .i64 0, .int .i64 0] 37 (0, 0)) ∧ ck'.length ≤ 900000000 + m ∧ ∀ p ∈ ck', p.1.vers.length ≤ 900000000 + m

/-- the row of keys with its length spelt as the append left it -/
theorem keys_len {w : World} {B g cap : Nat} {l : List (KH × Value)} {q : KH × Value} (h : w.ownsRow B 80 2 (.slice (some ⟨g, 0, none⟩) (l.length + 1) cap) (l ++ [q]).length ((l ++ [q]).flatMap khC)) : w.ownsRow B 80 2 (.slice (some ⟨g, 0, none⟩) (l.length + 1) cap) (l.length + 1) ((l ++ [q]).flatMap khC) := by
  simpa using h
theorem StoM.keys' {B : Nat} {w : World} {bs : Nat} {clock : Int} {tv : Value} {l : List (KH × Value)} {q : KH × Value} {ct : List (Txn × Value)} {g cap : Nat} (h : StoM B w bs clock (.slice (some ⟨g, 0, none⟩) (l.length + 1) cap) tv (l ++ [q]) ct) : w.ownsRow B 80 2 (.slice (some ⟨g, 0, none⟩) (l.length + 1) cap) (l.length + 1) ((l ++ [q]).flatMap khC) := keys_len h.keys

set_option maxHeartbeats 8000000 in
set_option maxRecDepth 100000 in
theorem step_commit {B : Nat} {w : World} {bs : Nat} {clock : Int} {kv tv : Value} {ck : List (KH × Value)} {ct : List (Txn × Value)} (h : StoM B w bs clock kv tv ck ct) (hB : B ≤ w.heap.size) (tx key val : Int) (i : Nat) (t : Txn) (hd : Value) (hf : actTx (ct.map (·.1)) tx = some i) (hp : ct[i]? = some (t, hd)) (hn : ct.length ≤ 1000000) (hb : t.buf.length ≤ 1000000) (hnk : ck.length ≤ 900000000) (hv : ∀ p ∈ ck, p.1.vers.length ≤ 900000000) (hconf : conflictI (ck.map (·.1)) t.snap t.buf = false) (hc0 : 0 ≤ clock) (hc1 : clock ≤ 1000000) :
    Calls Yahh.prog 47 #[.pointer (some ⟨bs, 0, none⟩), .agg #[.int .i64 4, .int .i64 tx, .int .i64 key, .int .i64 val]] w fun e w' => e = .returned (resV (0, clock + 1)) ∧ StepPost B w bs ⟨clock + 1, t.buf.foldl (addVer (clock + 1)) (ck.map (·.1)), (ct.map (·.1)).set i ⟨t.id, false, t.snap, []⟩⟩ w' := by
  have hM := (h.alloc (Obj.cells #[.int .i64 4, .int .i64 tx, .int .i64 key, .int .i64 val] 35)).alloc (Obj.cells #[.int .i64 0, .int .i64 0] 37)
  have k0 : Keep B stoT w ((w.alloc (Obj.cells #[.int .i64 4, .int .i64 tx, .int .i64 key, .int .i64 val] 35)).alloc (Obj.cells #[.int .i64 0, .int .i64 0] 37)) := ((Keep.refl _ _ _).alloc hB _).alloc (by simp; omega) _
  have hr := heap_alloc_new (w.alloc (Obj.cells #[.int .i64 4, .int .i64 tx, .int .i64 key, .int .i64 val] 35)) (Obj.cells #[.int .i64 0, .int .i64 0] 37)
  rw [World.size_alloc] at hr
  have Hr := hid hr
  clear hr
  have hfc := activeTx_any hM tx hn
  rw [hf] at hfc
  clear hf
  go_enter Yahh.func47, Yahh.ntmps47
  go_wp2_with fail
  refine hfc.mono ?_
  rintro e w1 ⟨rfl, rfl⟩
  simp only [idxI]
  generalize hW : (w.alloc (Obj.cells #[.int .i64 4, .int .i64 tx, .int .i64 key, .int .i64 val] 35)).alloc (Obj.cells #[.int .i64 0, .int .i64 0] 37) = W at *
  have hsW : w.heap.size + 2 = W.heap.size := by rw [← hW]; simp
  have hsW1 : w.heap.size + 2 ≤ W.heap.size := by omega
  clear hW hfc hsW
  have hi : i < ct.length := (List.getElem?_eq_some_iff.1 hp).1
  have hil : (i : Int) < (ct.length : Int) := by omega
  have hi0 : (0 : Int) ≤ (i : Int) := by omega
  have c2 := hM.c2
  have hbuf := hM.bufs i _ hp
  obtain ⟨ad, cap, g, htv, had⟩ := own_shape hM.txs
  obtain ⟨bd, bcap, bg, hbv, hbd⟩ := own_shape hbuf
  simp only [] at hbv
  subst htv
  subst hbv
  obtain rfl := had (by omega)
  have hc1 := row_cell txC_len hM.txs hp (j := 1) (by omega) rfl
  have hc2 := row_cell txC_len hM.txs hp (j := 2) (by omega) rfl
  have hc3 := row_cell txC_len hM.txs hp (j := 3) (by omega) rfl
  have hf1 := hM.txs.frozenAt (i * 4 + 1)
  have hf3 := hM.txs.frozenAt (i * 4 + 3)
  have hne : g ≠ bs := own_bne hM.txs hM.blk (by decide)
  have hne' : bs ≠ g := hne.symm
  have hner : g ≠ w.heap.size + 1 := own_bne hM.txs Hr.out (by decide)
  have hner' : w.heap.size + 1 ≠ g := hner.symm
  -- the world behind the two stores into the transaction
  have m1 := hM.txSet hp (p' := (⟨t.id, false, t.snap, t.buf⟩, .slice bd t.buf.length bcap)) (j := 1) (by omega) (u := .bool false) rfl (hM.bufs i (t, .slice bd t.buf.length bcap) hp) (.inr rfl)
  have hl : (ct.set i (⟨t.id, false, t.snap, t.buf⟩, .slice bd t.buf.length bcap)).length = ct.length := List.length_set
  rw [← hl] at m1
  have m2 := m1.txSet (i := i) (p := (⟨t.id, false, t.snap, t.buf⟩, .slice bd t.buf.length bcap)) (by simp [hi]) (p' := (⟨t.id, false, t.snap, []⟩, .slice none 0 0)) (j := 3) (by omega) (u := .slice none 0 0) rfl (World.ownsRow_nil _ _ _ _) (.inl rfl)
  rw [List.set_set, hl] at m2
  have bgB : B ≤ g := (own_lt hM.txs rfl).1
  have tg : RowTy W (some g) 109 := RowTy.of_own (v := .slice (some ⟨g, 0, none⟩) ct.length cap) hM.txs
  have tg2 : RowTy (W.setCell ⟨g, i * 4 + 1, none⟩ (.bool false)) (some g) 109 := fun k hk => by
    obtain ⟨c, f, hc⟩ := tg k hk
    simp at hk; subst hk
    obtain ⟨cur, hcur⟩ := own_blk hM.txs rfl
    exact ⟨_, _, heap_setCell_same W g (i * 4 + 1) _ _ _ hcur⟩
  have k1 := k0.grown (e := 109) (set_grown W g (i * 4 + 1) (.bool false)) (by omega) (fun k hk => by simp at hk; omega) tg (by decide)
  have k2 := k1.grown (e := 109) (set_grown _ g (i * 4 + 3) (.slice none 0 0)) (by have := k1.below.size; omega) (fun k hk => by simp at hk; omega) tg2 (by decide)
  have hr2 : ((W.setCell ⟨g, i * 4 + 1, none⟩ (.bool false)).setCell ⟨g, i * 4 + 3, none⟩ (.slice none 0 0)).heap[w.heap.size + 1]? = some (.cells #[.int .i64 0, .int .i64 0] 37 (0, 0)) := by
    rw [Below.heap_setCell _ _ _ _ (by exact hner'), Below.heap_setCell _ _ _ _ (by exact hner')]; exact Hr.out
  have hb2 := own_ty (set_grown _ g (i * 4 + 3) (.slice none 0 0)) tg2 (own_ty (set_grown W g (i * 4 + 1) (.bool false)) tg hbuf (by decide)) (by decide)
  have hsz2 := k2.below.size
  clear m1 k1 tg tg2 hbuf hp hM k0 had Hr
  go_wp2_with fail
  generalize hV : (W.setCell ⟨g, i * 4 + 1, none⟩ (.bool false)).setCell ⟨g, i * 4 + 3, none⟩ (.slice none 0 0) = V at *
  clear hV c2 hc1 hc2 hc3 hf1 hf3 hsW1
  have Hr := hid hr2
  have Hb := hid hb2
  clear hr2 hb2
  have Hv := hid hv
  have Hconf := hid hconf
  clear hv hconf
  go_loopw [16] (fun j wr => SearchR V t.buf (fun y => lateI (ck.map (·.1)) t.snap y.key) j wr) (fun j _ => t.buf.length - (intOf j).toNat)
  case atStart => exact ⟨0, rfl, Nat.zero_le _, fun j a hj => by omega, rfl⟩
  case round =>
    obtain ⟨m, rfl, hm, hno, rfl⟩ := hrel
    by_cases hge : t.buf.length ≤ m
    · obtain rfl : m = t.buf.length := by omega
      rename World => V1
      have c0 := m2.c0
      have f0 := m2.fz 0
      have n2 := hid (m2.clockSet (clock + 1))
      have Hr1 := hid (show (V1.setCell ⟨bs, 0, none⟩ (.int .i64 (clock + 1))).heap[w.heap.size + 1]? = some (.cells #[.int .i64 0, .int .i64 0] 37 (0, 0)) by
        rw [Below.heap_setCell _ _ _ _ (by have := h.lt; show w.heap.size + 1 ≠ bs; omega)]; exact Hr.out)
      have tb : RowTy V1 (some bs) 72 := fun k hk => by simp at hk; subst hk; exact ⟨_, _, m2.blk⟩
      have k3 := hid (k2.grown (e := 72) (set_grown V1 bs 0 (.int .i64 (clock + 1))) (by omega) (fun k hk => by simp at hk; have := h.base; omega) tb (by decide))
      have Hb1 := hid (own_ty (set_grown V1 bs 0 (.int .i64 (clock + 1))) tb Hb.out (by decide))
      clear hno tb Hconf
      go_wp2_with fail
      go_loopw [19] (fun j wr => CommitR B w bs (clock + 1) (.slice (some ⟨g, 0, none⟩) ct.length cap) (ct.set i (⟨t.id, false, t.snap, []⟩, .slice none 0 0)) t.buf (.slice bd t.buf.length bcap) (ck.map (·.1)) j wr) (fun j _ => t.buf.length - (intOf j).toNat)
      case atStart => exact ⟨0, _, ck, rfl, Nat.zero_le _, n2.out, rfl, Hb1.out, k3.out, Hr1.out, by omega, fun p hp => by have := Hv.out p hp; omega⟩
      case round =>
        clear n2 Hr1 k3 Hb1 c0 f0 m2 Hr Hb Hv k2
        obtain ⟨m, kv', ck', rfl, hm', hS, hck, hb', k', hr', hl1, hl2⟩ := hrel
        have Hck := hid hck
        have Hb := hid hb'
        have Hr := hid hr'
        have Hl2 := hid hl2
        have hsz := k'.below.size
        clear hck hb' hr' hl2
        by_cases hlt4 : m < t.buf.length
        · obtain ⟨y, hy⟩ : ∃ y, t.buf[m]? = some y := ⟨_, List.getElem?_eq_getElem hlt4⟩
          obtain rfl := hbd (by omega)
          have hy0 := row_cell wrC_len Hb.out hy (j := 0) (by omega) rfl
          have hy1 := row_cell wrC_len Hb.out hy (j := 1) (by omega) rfl
          have hy2 := row_cell wrC_len Hb.out hy (j := 2) (by omega) rfl
          rw [Nat.add_zero] at hy0
          have Hy := hid hy
          have hml : (m : Int) < (t.buf.length : Int) := by omega
          have hm0 : (0 : Int) ≤ (m : Int) := by omega
          clear hy hbd
          have c0 := hS.c0
          have c1 := hS.c1
          have hkc := findKey_any hS y.key (by omega)
          cases hfk : findKey (ck'.map (·.1)) y.key with
          | some ki =>
            obtain ⟨p, hpk⟩ : ∃ p, ck'[ki]? = some p := by
              have := findKey_lt hfk
              exact ⟨_, List.getElem?_eq_getElem (by simpa using this)⟩
            have Hadd := hid (addVer_hit (ts := clock + 1) (x := y) hfk (show (ck'.map (·.1))[ki]? = some p.1 by rw [List.getElem?_map, hpk]; rfl))
            rw [hfk] at hkc
            clear hfk
            go_wp2_with fail
            refine hkc.mono ?_
            rintro e wr ⟨rfl, rfl⟩
            simp only [idxI]
            clear hkc
            obtain ⟨kd, kcap, kg, hkv, hkd⟩ := own_shape hS.keys
            obtain ⟨vd, vcap, vg, hvv, hvd⟩ := own_shape (hS.vers ki p hpk)
            have hkil : ((ki : Nat) : Int) < (ck'.length : Int) := by have := (List.getElem?_eq_some_iff.1 hpk).1; omega
            have hki0 : (0 : Int) ≤ ((ki : Nat) : Int) := by omega
            subst hkv
            obtain rfl := hkd (by omega)
            have hk1 := row_cell khC_len hS.keys hpk (j := 1) (by omega) rfl
            rw [hvv] at hk1
            have Hvs := hid (hS.vers ki p hpk)
            rw [hvv] at Hvs
            have Hvv := hid hvv
            have Hpk := hid hpk
            have hvl : p.1.vers.length ≤ 900000000 + m := Hl2.out p (List.mem_of_getElem? hpk)
            clear hvv hkd hvd
            go_wp2_with fail
            refine wp_region_cut (fun w' => w'.cell? ⟨bs, 1, none⟩ = some (.slice (some ⟨kg, 0, none⟩) ck'.length kcap) ∧ w'.cell? ⟨kg, ki * 2 + 1, none⟩ = some (.slice vd p.1.vers.length vcap) ∧ w'.cell? ⟨bs, 0, none⟩ = some (.int .i64 (clock + 1)) ∧ w'.cell? ⟨bg, m * 3 + 1, none⟩ = some (.bool y.del) ∧ w'.cell? ⟨bg, m * 3 + 2, none⟩ = some (.int .i64 y.val)) (by simp) (by kernel_rfl) (by kernel_rfl) (by exact ⟨c1, hk1, c0, hy1, hy2⟩) (fun hHeld => ?_)
            simp only [List.dropLast_cons_cons, List.dropLast_singleton, List.length_cons, List.length_nil, Nat.reduceAdd]
            refine wpAnyH_take (i := 0) (v := ?_) rfl (by kernel_rfl) (by kernel_rfl) (by kernel_rfl) (fun _ _ _ h => h) (Or.inl ⟨by rfl, ?_⟩) (by assumption) ?_
            rotate_left 1
            · (intro w hSw; (try dsimp only at hSw); go_simp; try with_reducible rfl)
            try simp only [Act.put, List.setIfInBounds_toArray, List.set_cons_zero, List.set_cons_succ]
            refine wpAnyH_take (i := 1) (v := ?_) rfl (by kernel_rfl) (by kernel_rfl) (by kernel_rfl) (fun _ _ _ h => h) (Or.inl ⟨by rfl, ?_⟩) (by assumption) ?_
            rotate_left 1
            · (intro w hSw; (try dsimp only at hSw); go_simp; try with_reducible rfl)
            try simp only [Act.put, List.setIfInBounds_toArray, List.set_cons_zero, List.set_cons_succ]
            refine wpAnyH_take (i := 2) (v := ?_) rfl (by kernel_rfl) (by kernel_rfl) (by kernel_rfl) (fun _ _ _ h => h) (Or.inl ⟨by rfl, ?_⟩) (by assumption) ?_
            rotate_left 1
            · (intro w hSw; (try dsimp only at hSw); go_simp; try with_reducible rfl)
            try simp only [Act.put, List.setIfInBounds_toArray, List.set_cons_zero, List.set_cons_succ]
            refine wpAnyH_take (i := 3) (v := ?_) rfl (by kernel_rfl) (by kernel_rfl) (by kernel_rfl) (fun _ _ _ h => h) (Or.inl ⟨by rfl, ?_⟩) (by assumption) ?_
            rotate_left 1
            · (intro w hSw; (try dsimp only at hSw); go_simp; try with_reducible rfl)
            try simp only [Act.put, List.setIfInBounds_toArray, List.set_cons_zero, List.set_cons_succ]
            refine wpAnyH_take (i := 4) (v := ?_) rfl (by kernel_rfl) (by kernel_rfl) (by kernel_rfl) (fun _ _ _ h => h) (Or.inl ⟨by rfl, ?_⟩) (by assumption) ?_
            rotate_left 1
            · (intro w hSw; (try dsimp only at hSw); go_simp; try with_reducible rfl)
            try simp only [Act.put, List.setIfInBounds_toArray, List.set_cons_zero, List.set_cons_succ]
            refine wpAnyH_take (i := 5) (v := ?_) rfl (by kernel_rfl) (by kernel_rfl) (by kernel_rfl) (fun _ _ _ h => h) (Or.inl ⟨by rfl, ?_⟩) (by assumption) ?_
            rotate_left 1
            · (intro w hSw; (try dsimp only at hSw); go_simp; try with_reducible rfl)
            try simp only [Act.put, List.setIfInBounds_toArray, List.set_cons_zero, List.set_cons_succ]
            refine wpAnyH_take (i := 6) (v := ?_) rfl (by kernel_rfl) (by kernel_rfl) (by kernel_rfl) (fun _ _ _ h => h) (Or.inl ⟨by rfl, ?_⟩) (by assumption) ?_
            rotate_left 1
            · (intro w hSw; (try dsimp only at hSw); go_simp; try with_reducible rfl)
            try simp only [Act.put, List.setIfInBounds_toArray, List.set_cons_zero, List.set_cons_succ]
            refine wpAnyH_take (i := 7) (v := ?_) rfl (by kernel_rfl) (by kernel_rfl) (by kernel_rfl) (fun _ _ _ h => h) (Or.inl ⟨by rfl, ?_⟩) (by assumption) ?_
            rotate_left 1
            · (intro w hSw; (try dsimp only at hSw); go_simp; try with_reducible rfl)
            try simp only [Act.put, List.setIfInBounds_toArray, List.set_cons_zero, List.set_cons_succ]
            refine wpAnyH_take (i := 8) (v := ?_) rfl (by kernel_rfl) (by kernel_rfl) (by kernel_rfl) (fun _ _ _ h => h) (Or.inl ⟨by rfl, ?_⟩) (by assumption) ?_
            rotate_left 1
            · (intro w hSw; (try dsimp only at hSw); go_simp; try with_reducible rfl)
            try simp only [Act.put, List.setIfInBounds_toArray, List.set_cons_zero, List.set_cons_succ]
            refine wpAnyH_take (i := 9) (v := ?_) rfl (by kernel_rfl) (by kernel_rfl) (by kernel_rfl) (fun _ _ _ h => h) (Or.inl ⟨by rfl, ?_⟩) (by assumption) ?_
            rotate_left 1
            · (intro w hSw; (try dsimp only at hSw); go_simp; try with_reducible rfl)
            try simp only [Act.put, List.setIfInBounds_toArray, List.set_cons_zero, List.set_cons_succ]
            refine wpAnyH_take (i := 10) (v := ?_) rfl (by kernel_rfl) (by kernel_rfl) (by kernel_rfl) (fun _ _ _ h => h) (Or.inl ⟨by rfl, ?_⟩) (by assumption) ?_
            rotate_left 1
            · (intro w hSw; (try dsimp only at hSw); go_simp; try with_reducible rfl)
            try simp only [Act.put, List.setIfInBounds_toArray, List.set_cons_zero, List.set_cons_succ]
            refine wpAnyH_take (i := 11) (v := ?_) rfl (by kernel_rfl) (by kernel_rfl) (by kernel_rfl) (fun _ _ _ h => h) (Or.inl ⟨by rfl, ?_⟩) (by assumption) ?_
            rotate_left 1
            · (intro w hSw; (try dsimp only at hSw); go_simp; try with_reducible rfl)
            try simp only [Act.put, List.setIfInBounds_toArray, List.set_cons_zero, List.set_cons_succ]
            refine wpAnyH_take (i := 12) (v := ?_) rfl (by kernel_rfl) (by kernel_rfl) (by kernel_rfl) (fun _ _ _ h => h) (Or.inl ⟨by rfl, ?_⟩) (by assumption) ?_
            rotate_left 1
            · (intro w hSw; (try dsimp only at hSw); go_simp; try with_reducible rfl)
            try simp only [Act.put, List.setIfInBounds_toArray, List.set_cons_zero, List.set_cons_succ]
            refine wpAnyH_take (i := 13) (v := ?_) rfl (by kernel_rfl) (by kernel_rfl) (by kernel_rfl) (fun _ _ _ h => h) (Or.inl ⟨by rfl, ?_⟩) (by assumption) ?_
            rotate_left 1
            · (intro w hSw; (try dsimp only at hSw); go_simp; try with_reducible rfl)
            try simp only [Act.put, List.setIfInBounds_toArray, List.set_cons_zero, List.set_cons_succ]
            refine wpAnyH_take (i := 14) (v := ?_) rfl (by kernel_rfl) (by kernel_rfl) (by kernel_rfl) (fun _ _ _ h => h) (Or.inl ⟨by rfl, ?_⟩) (by assumption) ?_
            rotate_left 1
            · (intro w hSw; (try dsimp only at hSw); go_simp; try with_reducible rfl)
            try simp only [Act.put, List.setIfInBounds_toArray, List.set_cons_zero, List.set_cons_succ]
            refine wpAnyH_take (i := 15) (v := ?_) rfl (by kernel_rfl) (by kernel_rfl) (by kernel_rfl) (fun _ _ _ h => h) (Or.inl ⟨by rfl, ?_⟩) (by assumption) ?_
            rotate_left 1
            · (intro w hSw; (try dsimp only at hSw); go_simp; try with_reducible rfl)
            try simp only [Act.put, List.setIfInBounds_toArray, List.set_cons_zero, List.set_cons_succ]
            refine wpAnyH_take (i := 16) (v := ?_) rfl (by kernel_rfl) (by kernel_rfl) (by kernel_rfl) (fun _ _ _ h => h) (Or.inl ⟨by rfl, ?_⟩) (by assumption) ?_
            rotate_left 1
            · (intro w hSw; (try dsimp only at hSw); go_simp; try with_reducible rfl)
            try simp only [Act.put, List.setIfInBounds_toArray, List.set_cons_zero, List.set_cons_succ]
            refine wpAnyH_take (i := 17) (v := ?_) rfl (by kernel_rfl) (by kernel_rfl) (by kernel_rfl) (fun _ _ _ h => h) (Or.inl ⟨by rfl, ?_⟩) (by assumption) ?_
            rotate_left 1
            · (intro w hSw; (try dsimp only at hSw); go_simp; try with_reducible rfl)
            try simp only [Act.put, List.setIfInBounds_toArray, List.set_cons_zero, List.set_cons_succ]
            refine wpAnyH_take (i := 18) (v := ?_) rfl (by kernel_rfl) (by kernel_rfl) (by kernel_rfl) (fun _ _ _ h => h) (Or.inl ⟨by rfl, ?_⟩) (by assumption) ?_
            rotate_left 1
            · (intro w hSw; (try dsimp only at hSw); go_simp; try with_reducible rfl)
            try simp only [Act.put, List.setIfInBounds_toArray, List.set_cons_zero, List.set_cons_succ]
            refine wpAnyH_take (i := 19) (v := ?_) rfl (by kernel_rfl) (by kernel_rfl) (by kernel_rfl) (fun _ _ _ h => h) (Or.inl ⟨by rfl, ?_⟩) (by assumption) ?_
            rotate_left 1
            · (intro w hSw; (try dsimp only at hSw); go_simp; try with_reducible rfl)
            try simp only [Act.put, List.setIfInBounds_toArray, List.set_cons_zero, List.set_cons_succ]
            refine wpAnyH_take (i := 20) (v := ?_) rfl (by kernel_rfl) (by kernel_rfl) (by kernel_rfl) (fun _ _ _ h => h) (Or.inl ⟨by rfl, ?_⟩) (by assumption) ?_
            rotate_left 1
            · (intro w hSw; (try dsimp only at hSw); go_simp; try with_reducible rfl)
            try simp only [Act.put, List.setIfInBounds_toArray, List.set_cons_zero, List.set_cons_succ]
            refine wpAnyH_take (i := 21) (v := ?_) rfl (by kernel_rfl) (by kernel_rfl) (by kernel_rfl) (fun _ _ _ h => h) (Or.inl ⟨by rfl, ?_⟩) (by assumption) ?_
            rotate_left 1
            · (intro w hSw; (try dsimp only at hSw); go_simp; try with_reducible rfl)
            try simp only [Act.put, List.setIfInBounds_toArray, List.set_cons_zero, List.set_cons_succ]
            refine wpAnyH_take (i := 22) (v := ?_) rfl (by kernel_rfl) (by kernel_rfl) (by kernel_rfl) (fun _ _ _ h => h) (Or.inl ⟨by rfl, ?_⟩) (by assumption) ?_
            rotate_left 1
            · (intro w hSw; (try dsimp only at hSw); go_simp; try with_reducible rfl)
            try simp only [Act.put, List.setIfInBounds_toArray, List.set_cons_zero, List.set_cons_succ]
            refine wpAnyH_take (i := 23) (v := ?_) rfl (by kernel_rfl) (by kernel_rfl) (by kernel_rfl) (fun _ _ _ h => h) (Or.inl ⟨by rfl, ?_⟩) (by assumption) ?_
            rotate_left 1
            · (intro w hSw; (try dsimp only at hSw); go_simp; try with_reducible rfl)
            try simp only [Act.put, List.setIfInBounds_toArray, List.set_cons_zero, List.set_cons_succ]
            refine wpAnyH_take (i := 24) (v := ?_) rfl (by kernel_rfl) (by kernel_rfl) (by kernel_rfl) (fun _ _ _ h => h) (Or.inl ⟨by rfl, ?_⟩) (by assumption) ?_
            rotate_left 1
            · (intro w hSw; (try dsimp only at hSw); go_simp; try with_reducible rfl)
            try simp only [Act.put, List.setIfInBounds_toArray, List.set_cons_zero, List.set_cons_succ]
            refine wpAnyH_take (i := 25) (v := ?_) rfl (by kernel_rfl) (by kernel_rfl) (by kernel_rfl) (fun _ _ _ h => h) (Or.inl ⟨by rfl, ?_⟩) (by assumption) ?_
            rotate_left 1
            · (intro w hSw; (try dsimp only at hSw); go_simp; try with_reducible rfl)
            try simp only [Act.put, List.setIfInBounds_toArray, List.set_cons_zero, List.set_cons_succ]
            refine wpAnyH_take (i := 26) (v := ?_) rfl (by kernel_rfl) (by kernel_rfl) (by kernel_rfl) (fun _ _ _ h => h) (Or.inl ⟨by rfl, ?_⟩) (by assumption) ?_
            rotate_left 1
            · (intro w hSw; (try dsimp only at hSw); go_simp; try with_reducible rfl)
            try simp only [Act.put, List.setIfInBounds_toArray, List.set_cons_zero, List.set_cons_succ]
            refine wpAnyH_take (i := 27) (v := ?_) rfl (by kernel_rfl) (by kernel_rfl) (by kernel_rfl) (fun _ _ _ h => h) (Or.inl ⟨by rfl, ?_⟩) (by assumption) ?_
            rotate_left 1
            · (intro w hSw; (try dsimp only at hSw); go_simp; try with_reducible rfl)
            try simp only [Act.put, List.setIfInBounds_toArray, List.set_cons_zero, List.set_cons_succ]
            refine wpAnyH_ready (rs := [28]) (by kernel_rfl) (by simp) ?_
            refine AllReadyH.cons rfl (fun K hK => ?_) AllReadyH.nil
            go_simp
            refine hK.out _ _ ?_ (fun hHeld => ?_)
            · go_keep
            clear hK K
            try simp only [Act.put, List.setIfInBounds_toArray, List.set_cons_zero, List.set_cons_succ]
            refine wpAnyH_ready (rs := [29]) (by kernel_rfl) (by simp) ?_
            refine AllReadyH.cons rfl (fun K hK => ?_) AllReadyH.nil
            (refine step_app1 (by rfl) (.tmp 304) (.tmp 320) 78 (by rfl) B 82 _ 3 24 Yahh.underlying78 Yahh.info82 rfl (by decide) _ p.1.vers.length _ (by rfl) (Hvs.out.drew.alloc _) wr.heap.size _ _ _ (by rfl) (heap_alloc_new wr.drew _) rfl (one3 _ _ _ rfl rfl rfl) (by omega) (by decide) (by simp; omega) (wr.heap.size + 1) (by simp) ?_; intro g2 cap2 w2 hown2 hgrow2 hat2 hlt2; have r := hid (((hS.alloc (Obj.cells #[.int .i64 (clock + 1), .bool y.del, .int .i64 y.val] 82)).drew).versRow Hpk.out (by rw [Hvv.out]; exact hgrow2)); have q0 := cell_of_row w2 bs 0 _ _ _ r.out.1; have q1 := cell_of_row w2 bs 1 _ _ _ r.out.1; simp only [List.getElem?_toArray, List.getElem?_cons_succ, List.getElem?_cons_zero] at q0 q1; have qk := row_cell khC_len r.out.2.1 Hpk.out (j := 1) (by omega) rfl; rw [Hvv.out] at qk; have qf := r.out.2.1.frozenAt (ki * 2 + 1); have hbuf2 := hid (own_ty hgrow2 (RowTy.of_own (Hvs.out.drew.alloc _)) ((Hb.out.alloc _).drew) (by decide)); have q3 := row_cell wrC_len hbuf2.out Hy.out (j := 1) (by omega) rfl; have q4 := row_cell wrC_len hbuf2.out Hy.out (j := 2) (by omega) rfl)
            refine hK.out _ _ ?_ (fun hHeld => ?_)
            · exact ⟨q1, qk, q0, q3, q4⟩
            clear hK K
            try simp only [Act.put, List.setIfInBounds_toArray, List.set_cons_zero, List.set_cons_succ]
            refine wpAnyH_take (i := 30) (v := ?_) rfl (by kernel_rfl) (by kernel_rfl) (by kernel_rfl) (fun _ _ _ h => h) (Or.inl ⟨by rfl, ?_⟩) (by assumption) ?_
            rotate_left 1
            · (intro w hSw; (try dsimp only at hSw); go_simp; try with_reducible rfl)
            try simp only [Act.put, List.setIfInBounds_toArray, List.set_cons_zero, List.set_cons_succ]
            refine wpAnyH_take (i := 31) (v := ?_) rfl (by kernel_rfl) (by kernel_rfl) (by kernel_rfl) (fun _ _ _ h => h) (Or.inl ⟨by rfl, ?_⟩) (by assumption) ?_
            rotate_left 1
            · (intro w hSw; (try dsimp only at hSw); go_simp; try with_reducible rfl)
            try simp only [Act.put, List.setIfInBounds_toArray, List.set_cons_zero, List.set_cons_succ]
            refine wpAnyH_done (by kernel_rfl) ?_ _
            refine lastQ_mk rfl rfl (fun K hK => ?_)
            go_wp2
            have n3 := ((hS.alloc (Obj.cells #[.int .i64 (clock + 1), .bool y.del, .int .i64 y.val] 82)).drew).versMove Hpk.out (by rw [Hvv.out]; exact hgrow2) (vs' := p.1.vers ++ [verOf (clock + 1) y]) (hd' := .slice (some ⟨g2, 0, none⟩) (p.1.vers.length + 1) cap2) (by rw [List.length_append]; simpa [verCells, verC, verOf] using hown2) (by rw [Hvv.out]; exact at_or hat2 (by simp)) rfl
            have kb1 : Keep B stoT w ((wr.alloc (Obj.cells #[.int .i64 (clock + 1), .bool y.del, .int .i64 y.val] 82)).drew) := (k'.alloc (by omega) _).drew
            have kb2 : Keep B stoT w w2 := kb1.grown (e := 82) hgrow2 (by simp; omega) (fun j hj => (own_lt Hvs.out hj).1) (RowTy.of_own ((Hvs.out.alloc _).drew)) (by decide)
            have tk : RowTy w2 (some kg) 80 := RowTy.of_own (v := .slice (some ⟨kg, 0, none⟩) ck'.length kcap) r.out.2.1
            have kb3 := kb2.grown (e := 80) (set_grown w2 kg (ki * 2 + 1) (.slice (some ⟨g2, 0, none⟩) (p.1.vers.length + 1) cap2)) (by have := kb2.below.size; omega) (fun j hj => by simp at hj; subst hj; exact (own_lt hS.keys rfl).1) tk (by decide)
            have rb := blk_ty (set_grown w2 kg (ki * 2 + 1) (.slice (some ⟨g2, 0, none⟩) (p.1.vers.length + 1) cap2)) tk (blk_ty hgrow2 (RowTy.of_own ((Hvs.out.alloc _).drew)) (alloc_keep (w := wr) Hr.out _) (by decide)) (by decide)
            have hbuf3 := own_ty (set_grown w2 kg (ki * 2 + 1) (.slice (some ⟨g2, 0, none⟩) (p.1.vers.length + 1) cap2)) tk hbuf2.out (by decide)
            refine ⟨⟨m + 1, _, ck'.set ki (⟨p.1.key, p.1.vers ++ [verOf (clock + 1) y]⟩, .slice (some ⟨g2, 0, none⟩) (p.1.vers.length + 1) cap2), by go_num, by omega, n3, ?_, hbuf3, kb3, rb, by rw [List.length_set]; omega, ?_⟩, by simp [intOf]; omega⟩
            · rw [List.map_set, List.take_add_one, Hy.out]
              simp only [Option.toList]
              rw [List.foldl_append, ← Hck.out]
              exact Hadd.out.symm
            · intro q hq
              obtain ⟨j, hj⟩ := List.getElem?_of_mem hq
              rcases set_get hj with ⟨_, rfl⟩ | ⟨_, hj'⟩
              · simp; omega
              · have := Hl2.out q (List.mem_of_getElem? hj'); omega
          | none =>
            have Hadd := hid (addVer_miss (ts := clock + 1) (x := y) hfk)
            rw [hfk] at hkc
            clear hfk
            go_wp2_with fail
            refine hkc.mono ?_
            rintro e wr ⟨rfl, rfl⟩
            simp only [idxI]
            clear hkc
            go_wp2_with fail
            refine wp_region_cut (fun w' => w'.cell? ⟨bs, 1, none⟩ = some kv' ∧ w'.cell? ⟨bg, m * 3, none⟩ = some (.int .i64 y.key)) (by simp) (by kernel_rfl) (by kernel_rfl) (by exact ⟨c1, hy0⟩) (fun hHeld => ?_)
            simp only [List.dropLast_cons_cons, List.dropLast_singleton, List.length_cons, List.length_nil, Nat.reduceAdd]
            refine wpAnyH_take (i := 0) (v := ?_) rfl (by kernel_rfl) (by kernel_rfl) (by kernel_rfl) (fun _ _ _ h => h) (Or.inl ⟨by rfl, ?_⟩) (by assumption) ?_
            rotate_left 1
            · (intro w hSw; (try dsimp only at hSw); go_simp; try with_reducible rfl)
            try simp only [Act.put, List.setIfInBounds_toArray, List.set_cons_zero, List.set_cons_succ]
            refine wpAnyH_take (i := 1) (v := ?_) rfl (by kernel_rfl) (by kernel_rfl) (by kernel_rfl) (fun _ _ _ h => h) (Or.inl ⟨by rfl, ?_⟩) (by assumption) ?_
            rotate_left 1
            · (intro w hSw; (try dsimp only at hSw); go_simp; try with_reducible rfl)
            try simp only [Act.put, List.setIfInBounds_toArray, List.set_cons_zero, List.set_cons_succ]
            refine wpAnyH_take (i := 2) (v := ?_) rfl (by kernel_rfl) (by kernel_rfl) (by kernel_rfl) (fun _ _ _ h => h) (Or.inl ⟨by rfl, ?_⟩) (by assumption) ?_
            rotate_left 1
            · (intro w hSw; (try dsimp only at hSw); go_simp; try with_reducible rfl)
            try simp only [Act.put, List.setIfInBounds_toArray, List.set_cons_zero, List.set_cons_succ]
            refine wpAnyH_take (i := 3) (v := ?_) rfl (by kernel_rfl) (by kernel_rfl) (by kernel_rfl) (fun _ _ _ h => h) (Or.inl ⟨by rfl, ?_⟩) (by assumption) ?_
            rotate_left 1
            · (intro w hSw; (try dsimp only at hSw); go_simp; try with_reducible rfl)
            try simp only [Act.put, List.setIfInBounds_toArray, List.set_cons_zero, List.set_cons_succ]
            refine wpAnyH_take (i := 4) (v := ?_) rfl (by kernel_rfl) (by kernel_rfl) (by kernel_rfl) (fun _ _ _ h => h) (Or.inl ⟨by rfl, ?_⟩) (by assumption) ?_
            rotate_left 1
            · (intro w hSw; (try dsimp only at hSw); go_simp; try with_reducible rfl)
            try simp only [Act.put, List.setIfInBounds_toArray, List.set_cons_zero, List.set_cons_succ]
            refine wpAnyH_take (i := 5) (v := ?_) rfl (by kernel_rfl) (by kernel_rfl) (by kernel_rfl) (fun _ _ _ h => h) (Or.inl ⟨by rfl, ?_⟩) (by assumption) ?_
            rotate_left 1
            · (intro w hSw; (try dsimp only at hSw); go_simp; try with_reducible rfl)
            try simp only [Act.put, List.setIfInBounds_toArray, List.set_cons_zero, List.set_cons_succ]
            refine wpAnyH_take (i := 6) (v := ?_) rfl (by kernel_rfl) (by kernel_rfl) (by kernel_rfl) (fun _ _ _ h => h) (Or.inl ⟨by rfl, ?_⟩) (by assumption) ?_
            rotate_left 1
            · (intro w hSw; (try dsimp only at hSw); go_simp; try with_reducible rfl)
            try simp only [Act.put, List.setIfInBounds_toArray, List.set_cons_zero, List.set_cons_succ]
            refine wpAnyH_take (i := 7) (v := ?_) rfl (by kernel_rfl) (by kernel_rfl) (by kernel_rfl) (fun _ _ _ h => h) (Or.inl ⟨by rfl, ?_⟩) (by assumption) ?_
            rotate_left 1
            · (intro w hSw; (try dsimp only at hSw); go_simp; try with_reducible rfl)
            try simp only [Act.put, List.setIfInBounds_toArray, List.set_cons_zero, List.set_cons_succ]
            refine wpAnyH_take (i := 8) (v := ?_) rfl (by kernel_rfl) (by kernel_rfl) (by kernel_rfl) (fun _ _ _ h => h) (Or.inl ⟨by rfl, ?_⟩) (by assumption) ?_
            rotate_left 1
            · (intro w hSw; (try dsimp only at hSw); go_simp; try with_reducible rfl)
            try simp only [Act.put, List.setIfInBounds_toArray, List.set_cons_zero, List.set_cons_succ]
            refine wpAnyH_take (i := 9) (v := ?_) rfl (by kernel_rfl) (by kernel_rfl) (by kernel_rfl) (fun _ _ _ h => h) (Or.inl ⟨by rfl, ?_⟩) (by assumption) ?_
            rotate_left 1
            · (intro w hSw; (try dsimp only at hSw); go_simp; try with_reducible rfl)
            try simp only [Act.put, List.setIfInBounds_toArray, List.set_cons_zero, List.set_cons_succ]
            refine wpAnyH_take (i := 10) (v := ?_) rfl (by kernel_rfl) (by kernel_rfl) (by kernel_rfl) (fun _ _ _ h => h) (Or.inl ⟨by rfl, ?_⟩) (by assumption) ?_
            rotate_left 1
            · (intro w hSw; (try dsimp only at hSw); go_simp; try with_reducible rfl)
            try simp only [Act.put, List.setIfInBounds_toArray, List.set_cons_zero, List.set_cons_succ]
            refine wpAnyH_ready (rs := [11]) (by kernel_rfl) (by simp) ?_
            refine AllReadyH.cons rfl (fun K hK => ?_) AllReadyH.nil
            go_simp
            refine hK.out _ _ ?_ (fun hHeld => ?_)
            · go_keep
            clear hK K
            try simp only [Act.put, List.setIfInBounds_toArray, List.set_cons_zero, List.set_cons_succ]
            refine wpAnyH_ready (rs := [12]) (by kernel_rfl) (by simp) ?_
            refine AllReadyH.cons rfl (fun K hK => ?_) AllReadyH.nil
            (refine step_app1 (by rfl) (.tmp 275) (.tmp 282) 69 (by rfl) B 80 _ 2 32 Yahh.underlying69 Yahh.info80 rfl (by decide) _ ck'.length _ (by rfl) (hS.keys.drew.alloc _) wr.heap.size _ _ _ (by rfl) (heap_alloc_new wr.drew _) rfl (one2 _ _ rfl rfl) (by omega) (by decide) (by simp; omega) (wr.heap.size + 1) (by simp) ?_; intro gk2 capk2 wk hownk hgrowk hatk hltk; have rk := hid (blk_ty hgrowk (RowTy.of_own (hS.keys.drew.alloc _)) (hS.drew.alloc _).blk (by decide)); have q1 := cell_of_row wk bs 1 _ _ _ rk.out; have qf := frozen_of_row wk bs 1 _ _ rk.out; simp only [List.getElem?_toArray, List.getElem?_cons_succ, List.getElem?_cons_zero] at q1; have hbufk := hid (own_ty hgrowk (RowTy.of_own (hS.keys.drew.alloc _)) ((Hb.out.alloc _).drew) (by decide)); have q3 := row_cell wrC_len hbufk.out Hy.out (j := 0) (by omega) rfl; rw [Nat.add_zero] at q3)
            refine hK.out _ _ ?_ (fun hHeld => ?_)
            · exact ⟨q1, q3⟩
            clear hK K
            try simp only [Act.put, List.setIfInBounds_toArray, List.set_cons_zero, List.set_cons_succ]
            refine wpAnyH_take (i := 13) (v := ?_) rfl (by kernel_rfl) (by kernel_rfl) (by kernel_rfl) (fun _ _ _ h => h) (Or.inl ⟨by rfl, ?_⟩) (by assumption) ?_
            rotate_left 1
            · (intro w hSw; (try dsimp only at hSw); go_simp; try with_reducible rfl)
            try simp only [Act.put, List.setIfInBounds_toArray, List.set_cons_zero, List.set_cons_succ]
            refine wpAnyH_take (i := 14) (v := ?_) rfl (by kernel_rfl) (by kernel_rfl) (by kernel_rfl) (fun _ _ _ h => h) (Or.inl ⟨by rfl, ?_⟩) (by assumption) ?_
            rotate_left 1
            · (intro w hSw; (try dsimp only at hSw); go_simp; try with_reducible rfl)
            try simp only [Act.put, List.setIfInBounds_toArray, List.set_cons_zero, List.set_cons_succ]
            refine wpAnyH_done (by kernel_rfl) ?_ _
            refine lastQ_mk rfl rfl (fun K hK => ?_)
            have nk := (hS.alloc (Obj.cells #[.int .i64 y.key, .slice none 0 0] 80)).drew.keyAdd hgrowk (⟨y.key, []⟩, .slice none 0 0) (kv' := .slice (some ⟨gk2, 0, none⟩) (ck'.length + 1) capk2) (by simpa [khC] using hownk) (World.ownsRow_nil _ _ _ _) rfl
            have kk1 : Keep B stoT w ((wr.alloc (Obj.cells #[.int .i64 y.key, .slice none 0 0] 80)).drew) := (k'.alloc (by omega) _).drew
            have kk2 : Keep B stoT w wk := kk1.grown (e := 80) hgrowk (by simp; omega) (fun j hj => (own_lt hS.keys hj).1) (RowTy.of_own ((hS.keys.alloc _).drew)) (by decide)
            have tbk : RowTy wk (some bs) 72 := fun k hk => by simp at hk; subst hk; exact ⟨_, _, rk.out⟩
            have kk3 := kk2.grown (e := 72) (set_grown wk bs 1 (.slice (some ⟨gk2, 0, none⟩) (ck'.length + 1) capk2)) (by have := kk2.below.size; omega) (fun j hj => by simp at hj; subst hj; exact hS.base) tbk (by decide)
            have rbk := blk_ty (set_grown wk bs 1 (.slice (some ⟨gk2, 0, none⟩) (ck'.length + 1) capk2)) tbk (blk_ty hgrowk (RowTy.of_own ((hS.keys.alloc _).drew)) (alloc_keep (w := wr) Hr.out _) (by decide)) (by decide)
            have hbufk3 := own_ty (set_grown wk bs 1 (.slice (some ⟨gk2, 0, none⟩) (ck'.length + 1) capk2)) tbk hbufk.out (by decide)
            have hszk := kk3.below.size
            have Hnk := hid nk
            have Hkk3 := hid kk3
            have Hrbk := hid rbk
            have Hbufk3 := hid hbufk3
            clear nk kk1 kk2 tbk kk3 rbk hbufk3 q3 rk hbufk hownk hgrowk hatk hltk hHeld
            go_wp2_with fail
            generalize hV3 : wk.setCell ⟨bs, 1, none⟩ (.slice (some ⟨gk2, 0, none⟩) (ck'.length + 1) capk2) = w3 at *
            clear hV3 q1 qf
            rename Hid (StoM _ w3 _ _ _ _ _ _) => Hnk
            have hS3 := Hnk.out
            have k' := Hkk3.out
            have hsz := k'.below.size
            have Hr := Hrbk
            have Hb3 := Hbufk3
            have c0 := hS3.c0
            have c1 := hS3.c1
            have hy1 := row_cell wrC_len Hb3.out Hy.out (j := 1) (by omega) rfl
            have hy2 := row_cell wrC_len Hb3.out Hy.out (j := 2) (by omega) rfl
            have Hl2 : Hid (∀ p ∈ ck' ++ [((⟨y.key, []⟩ : KH), (.slice none 0 0 : Value))], p.1.vers.length ≤ 900000000 + m) := fun p hp => by
              rcases List.mem_append.1 hp with hp | hp
              · exact Hl2.out p hp
              · simp at hp; subst hp; simp
            have hpk : (ck' ++ [((⟨y.key, []⟩ : KH), (.slice none 0 0 : Value))])[ck'.length]? = some (⟨y.key, []⟩, .slice none 0 0) := by simp
            have hk1 := row_cell khC_len hS3.keys' hpk (j := 1) (by omega) rfl
            have hKO := hid (own_lt hS3.keys' rfl).1
            have hKL := hid (fun (W' : World) (hh : W'.ownsRow B 80 2 (.slice (some ⟨gk2, 0, none⟩) (ck'.length + 1) capk2) (ck' ++ [((⟨y.key, []⟩ : KH), (.slice none 0 0 : Value))]).length ((ck' ++ [((⟨y.key, []⟩ : KH), (.slice none 0 0 : Value))]).flatMap khC)) => keys_len hh)
            generalize hN : ck'.length + 1 = N at *
            have HN := hid hN
            have hkil : ((ck'.length : Nat) : Int) < (N : Int) := by omega
            clear hN
            have hki0 : (0 : Int) ≤ (ck'.length : Int) := by omega
            have Hpk := hid hpk
            clear hpk
            refine wp_region_cut (fun w' => w'.cell? ⟨bs, 1, none⟩ = some (.slice (some ⟨gk2, 0, none⟩) N capk2) ∧ w'.cell? ⟨gk2, ck'.length * 2 + 1, none⟩ = some (.slice none 0 0) ∧ w'.cell? ⟨bs, 0, none⟩ = some (.int .i64 (clock + 1)) ∧ w'.cell? ⟨bg, m * 3 + 1, none⟩ = some (.bool y.del) ∧ w'.cell? ⟨bg, m * 3 + 2, none⟩ = some (.int .i64 y.val)) (by simp) (by kernel_rfl) (by kernel_rfl) (by exact ⟨c1, hk1, c0, hy1, hy2⟩) (fun hHeld => ?_)
            simp only [List.dropLast_cons_cons, List.dropLast_singleton, List.length_cons, List.length_nil, Nat.reduceAdd]
            refine wpAnyH_take (i := 0) (v := ?_) rfl (by kernel_rfl) (by kernel_rfl) (by kernel_rfl) (fun _ _ _ h => h) (Or.inl ⟨by rfl, ?_⟩) (by assumption) ?_
            rotate_left 1
            · (intro w hSw; (try dsimp only at hSw); go_simp; try with_reducible rfl)
            try simp only [Act.put, List.setIfInBounds_toArray, List.set_cons_zero, List.set_cons_succ]
            refine wpAnyH_take (i := 1) (v := ?_) rfl (by kernel_rfl) (by kernel_rfl) (by kernel_rfl) (fun _ _ _ h => h) (Or.inl ⟨by rfl, ?_⟩) (by assumption) ?_
            rotate_left 1
            · (intro w hSw; (try dsimp only at hSw); go_simp; try with_reducible rfl)
            try simp only [Act.put, List.setIfInBounds_toArray, List.set_cons_zero, List.set_cons_succ]
            refine wpAnyH_take (i := 2) (v := ?_) rfl (by kernel_rfl) (by kernel_rfl) (by kernel_rfl) (fun _ _ _ h => h) (Or.inl ⟨by rfl, ?_⟩) (by assumption) ?_
            rotate_left 1
            · (intro w hSw; (try dsimp only at hSw); go_simp; try with_reducible rfl)
            try simp only [Act.put, List.setIfInBounds_toArray, List.set_cons_zero, List.set_cons_succ]
            refine wpAnyH_take (i := 3) (v := ?_) rfl (by kernel_rfl) (by kernel_rfl) (by kernel_rfl) (fun _ _ _ h => h) (Or.inl ⟨by rfl, ?_⟩) (by assumption) ?_
            rotate_left 1
            · (intro w hSw; (try dsimp only at hSw); go_simp; try with_reducible rfl)
            try simp only [Act.put, List.setIfInBounds_toArray, List.set_cons_zero, List.set_cons_succ]
            refine wpAnyH_take (i := 4) (v := ?_) rfl (by kernel_rfl) (by kernel_rfl) (by kernel_rfl) (fun _ _ _ h => h) (Or.inl ⟨by rfl, ?_⟩) (by assumption) ?_
            rotate_left 1
            · (intro w hSw; (try dsimp only at hSw); go_simp; try with_reducible rfl)
            try simp only [Act.put, List.setIfInBounds_toArray, List.set_cons_zero, List.set_cons_succ]
            refine wpAnyH_take (i := 5) (v := ?_) rfl (by kernel_rfl) (by kernel_rfl) (by kernel_rfl) (fun _ _ _ h => h) (Or.inl ⟨by rfl, ?_⟩) (by assumption) ?_
            rotate_left 1
            · (intro w hSw; (try dsimp only at hSw); go_simp; try with_reducible rfl)
            try simp only [Act.put, List.setIfInBounds_toArray, List.set_cons_zero, List.set_cons_succ]
            refine wpAnyH_take (i := 6) (v := ?_) rfl (by kernel_rfl) (by kernel_rfl) (by kernel_rfl) (fun _ _ _ h => h) (Or.inl ⟨by rfl, ?_⟩) (by assumption) ?_
            rotate_left 1
            · (intro w hSw; (try dsimp only at hSw); go_simp; try with_reducible rfl)
            try simp only [Act.put, List.setIfInBounds_toArray, List.set_cons_zero, List.set_cons_succ]
            refine wpAnyH_take (i := 7) (v := ?_) rfl (by kernel_rfl) (by kernel_rfl) (by kernel_rfl) (fun _ _ _ h => h) (Or.inl ⟨by rfl, ?_⟩) (by assumption) ?_
            rotate_left 1
            · (intro w hSw; (try dsimp only at hSw); go_simp; try with_reducible rfl)
            try simp only [Act.put, List.setIfInBounds_toArray, List.set_cons_zero, List.set_cons_succ]
            refine wpAnyH_take (i := 8) (v := ?_) rfl (by kernel_rfl) (by kernel_rfl) (by kernel_rfl) (fun _ _ _ h => h) (Or.inl ⟨by rfl, ?_⟩) (by assumption) ?_
            rotate_left 1
            · (intro w hSw; (try dsimp only at hSw); go_simp; try with_reducible rfl)
            try simp only [Act.put, List.setIfInBounds_toArray, List.set_cons_zero, List.set_cons_succ]
            refine wpAnyH_take (i := 9) (v := ?_) rfl (by kernel_rfl) (by kernel_rfl) (by kernel_rfl) (fun _ _ _ h => h) (Or.inl ⟨by rfl, ?_⟩) (by assumption) ?_
            rotate_left 1
            · (intro w hSw; (try dsimp only at hSw); go_simp; try with_reducible rfl)
            try simp only [Act.put, List.setIfInBounds_toArray, List.set_cons_zero, List.set_cons_succ]
            refine wpAnyH_take (i := 10) (v := ?_) rfl (by kernel_rfl) (by kernel_rfl) (by kernel_rfl) (fun _ _ _ h => h) (Or.inl ⟨by rfl, ?_⟩) (by assumption) ?_
            rotate_left 1
            · (intro w hSw; (try dsimp only at hSw); go_simp; try with_reducible rfl)
            try simp only [Act.put, List.setIfInBounds_toArray, List.set_cons_zero, List.set_cons_succ]
            refine wpAnyH_take (i := 11) (v := ?_) rfl (by kernel_rfl) (by kernel_rfl) (by kernel_rfl) (fun _ _ _ h => h) (Or.inl ⟨by rfl, ?_⟩) (by assumption) ?_
            rotate_left 1
            · (intro w hSw; (try dsimp only at hSw); go_simp; try with_reducible rfl)
            try simp only [Act.put, List.setIfInBounds_toArray, List.set_cons_zero, List.set_cons_succ]
            refine wpAnyH_take (i := 12) (v := ?_) rfl (by kernel_rfl) (by kernel_rfl) (by kernel_rfl) (fun _ _ _ h => h) (Or.inl ⟨by rfl, ?_⟩) (by assumption) ?_
            rotate_left 1
            · (intro w hSw; (try dsimp only at hSw); go_simp; try with_reducible rfl)
            try simp only [Act.put, List.setIfInBounds_toArray, List.set_cons_zero, List.set_cons_succ]
            refine wpAnyH_take (i := 13) (v := ?_) rfl (by kernel_rfl) (by kernel_rfl) (by kernel_rfl) (fun _ _ _ h => h) (Or.inl ⟨by rfl, ?_⟩) (by assumption) ?_
            rotate_left 1
            · (intro w hSw; (try dsimp only at hSw); go_simp; try with_reducible rfl)
            try simp only [Act.put, List.setIfInBounds_toArray, List.set_cons_zero, List.set_cons_succ]
            refine wpAnyH_take (i := 14) (v := ?_) rfl (by kernel_rfl) (by kernel_rfl) (by kernel_rfl) (fun _ _ _ h => h) (Or.inl ⟨by rfl, ?_⟩) (by assumption) ?_
            rotate_left 1
            · (intro w hSw; (try dsimp only at hSw); go_simp; try with_reducible rfl)
            try simp only [Act.put, List.setIfInBounds_toArray, List.set_cons_zero, List.set_cons_succ]
            refine wpAnyH_take (i := 15) (v := ?_) rfl (by kernel_rfl) (by kernel_rfl) (by kernel_rfl) (fun _ _ _ h => h) (Or.inl ⟨by rfl, ?_⟩) (by assumption) ?_
            rotate_left 1
            · (intro w hSw; (try dsimp only at hSw); go_simp; try with_reducible rfl)
            try simp only [Act.put, List.setIfInBounds_toArray, List.set_cons_zero, List.set_cons_succ]
            refine wpAnyH_take (i := 16) (v := ?_) rfl (by kernel_rfl) (by kernel_rfl) (by kernel_rfl) (fun _ _ _ h => h) (Or.inl ⟨by rfl, ?_⟩) (by assumption) ?_
            rotate_left 1
            · (intro w hSw; (try dsimp only at hSw); go_simp; try with_reducible rfl)
            try simp only [Act.put, List.setIfInBounds_toArray, List.set_cons_zero, List.set_cons_succ]
            refine wpAnyH_take (i := 17) (v := ?_) rfl (by kernel_rfl) (by kernel_rfl) (by kernel_rfl) (fun _ _ _ h => h) (Or.inl ⟨by rfl, ?_⟩) (by assumption) ?_
            rotate_left 1
            · (intro w hSw; (try dsimp only at hSw); go_simp; try with_reducible rfl)
            try simp only [Act.put, List.setIfInBounds_toArray, List.set_cons_zero, List.set_cons_succ]
            refine wpAnyH_take (i := 18) (v := ?_) rfl (by kernel_rfl) (by kernel_rfl) (by kernel_rfl) (fun _ _ _ h => h) (Or.inl ⟨by rfl, ?_⟩) (by assumption) ?_
            rotate_left 1
            · (intro w hSw; (try dsimp only at hSw); go_simp; try with_reducible rfl)
            try simp only [Act.put, List.setIfInBounds_toArray, List.set_cons_zero, List.set_cons_succ]
            refine wpAnyH_take (i := 19) (v := ?_) rfl (by kernel_rfl) (by kernel_rfl) (by kernel_rfl) (fun _ _ _ h => h) (Or.inl ⟨by rfl, ?_⟩) (by assumption) ?_
            rotate_left 1
            · (intro w hSw; (try dsimp only at hSw); go_simp; try with_reducible rfl)
            try simp only [Act.put, List.setIfInBounds_toArray, List.set_cons_zero, List.set_cons_succ]
            refine wpAnyH_take (i := 20) (v := ?_) rfl (by kernel_rfl) (by kernel_rfl) (by kernel_rfl) (fun _ _ _ h => h) (Or.inl ⟨by rfl, ?_⟩) (by assumption) ?_
            rotate_left 1
            · (intro w hSw; (try dsimp only at hSw); go_simp; try with_reducible rfl)
            try simp only [Act.put, List.setIfInBounds_toArray, List.set_cons_zero, List.set_cons_succ]
            refine wpAnyH_take (i := 21) (v := ?_) rfl (by kernel_rfl) (by kernel_rfl) (by kernel_rfl) (fun _ _ _ h => h) (Or.inl ⟨by rfl, ?_⟩) (by assumption) ?_
            rotate_left 1
            · (intro w hSw; (try dsimp only at hSw); go_simp; try with_reducible rfl)
            try simp only [Act.put, List.setIfInBounds_toArray, List.set_cons_zero, List.set_cons_succ]
            refine wpAnyH_take (i := 22) (v := ?_) rfl (by kernel_rfl) (by kernel_rfl) (by kernel_rfl) (fun _ _ _ h => h) (Or.inl ⟨by rfl, ?_⟩) (by assumption) ?_
            rotate_left 1
            · (intro w hSw; (try dsimp only at hSw); go_simp; try with_reducible rfl)
            try simp only [Act.put, List.setIfInBounds_toArray, List.set_cons_zero, List.set_cons_succ]
            refine wpAnyH_take (i := 23) (v := ?_) rfl (by kernel_rfl) (by kernel_rfl) (by kernel_rfl) (fun _ _ _ h => h) (Or.inl ⟨by rfl, ?_⟩) (by assumption) ?_
            rotate_left 1
            · (intro w hSw; (try dsimp only at hSw); go_simp; try with_reducible rfl)
            try simp only [Act.put, List.setIfInBounds_toArray, List.set_cons_zero, List.set_cons_succ]
            refine wpAnyH_take (i := 24) (v := ?_) rfl (by kernel_rfl) (by kernel_rfl) (by kernel_rfl) (fun _ _ _ h => h) (Or.inl ⟨by rfl, ?_⟩) (by assumption) ?_
            rotate_left 1
            · (intro w hSw; (try dsimp only at hSw); go_simp; try with_reducible rfl)
            try simp only [Act.put, List.setIfInBounds_toArray, List.set_cons_zero, List.set_cons_succ]
            refine wpAnyH_take (i := 25) (v := ?_) rfl (by kernel_rfl) (by kernel_rfl) (by kernel_rfl) (fun _ _ _ h => h) (Or.inl ⟨by rfl, ?_⟩) (by assumption) ?_
            rotate_left 1
            · (intro w hSw; (try dsimp only at hSw); go_simp; try with_reducible rfl)
            try simp only [Act.put, List.setIfInBounds_toArray, List.set_cons_zero, List.set_cons_succ]
            refine wpAnyH_take (i := 26) (v := ?_) rfl (by kernel_rfl) (by kernel_rfl) (by kernel_rfl) (fun _ _ _ h => h) (Or.inl ⟨by rfl, ?_⟩) (by assumption) ?_
            rotate_left 1
            · (intro w hSw; (try dsimp only at hSw); go_simp; try with_reducible rfl)
            try simp only [Act.put, List.setIfInBounds_toArray, List.set_cons_zero, List.set_cons_succ]
            refine wpAnyH_take (i := 27) (v := ?_) rfl (by kernel_rfl) (by kernel_rfl) (by kernel_rfl) (fun _ _ _ h => h) (Or.inl ⟨by rfl, ?_⟩) (by assumption) ?_
            rotate_left 1
            · (intro w hSw; (try dsimp only at hSw); go_simp; try with_reducible rfl)
            try simp only [Act.put, List.setIfInBounds_toArray, List.set_cons_zero, List.set_cons_succ]
            refine wpAnyH_ready (rs := [28]) (by kernel_rfl) (by simp) ?_
            refine AllReadyH.cons rfl (fun K hK => ?_) AllReadyH.nil
            go_simp
            refine hK.out _ _ ?_ (fun hHeld => ?_)
            · go_keep
            clear hK K
            try simp only [Act.put, List.setIfInBounds_toArray, List.set_cons_zero, List.set_cons_succ]
            refine wpAnyH_ready (rs := [29]) (by kernel_rfl) (by simp) ?_
            refine AllReadyH.cons rfl (fun K hK => ?_) AllReadyH.nil
            (refine step_app1 (by rfl) (.tmp 304) (.tmp 320) 78 (by rfl) B 82 _ 3 24 Yahh.underlying78 Yahh.info82 rfl (by decide) (.slice none 0 0) 0 [] (by rfl) (World.ownsRow_nil _ _ _ _) w3.heap.size _ _ _ (by rfl) (heap_alloc_new w3.drew _) rfl (one3 _ _ _ rfl rfl rfl) (by omega) (by decide) (by simp; omega) (w3.heap.size + 1) (by simp) ?_; intro g2 cap2 w2 hown2 hgrow2 hat2 hlt2; have r := hid (((hS3.alloc (Obj.cells #[.int .i64 (clock + 1), .bool y.del, .int .i64 y.val] 82)).drew).versRow Hpk.out hgrow2); have q0 := cell_of_row w2 bs 0 _ _ _ r.out.1; have q1 := cell_of_row w2 bs 1 _ _ _ r.out.1; simp only [List.getElem?_toArray, List.getElem?_cons_succ, List.getElem?_cons_zero] at q0 q1; have r2 := hid (hKL.out _ r.out.2.1); have qk := row_cell khC_len r2.out Hpk.out (j := 1) (by omega) rfl; have qf := r2.out.frozenAt (ck'.length * 2 + 1); have hbuf2 := hid (own_ty hgrow2 (fun k hk => by cases hk) ((Hb3.out.alloc _).drew) (e := 82) (by decide)); have q3 := row_cell wrC_len hbuf2.out Hy.out (j := 1) (by omega) rfl; have q4 := row_cell wrC_len hbuf2.out Hy.out (j := 2) (by omega) rfl)
            refine hK.out _ _ ?_ (fun hHeld => ?_)
            · exact ⟨q1, qk, q0, q3, q4⟩
            clear hK K
            try simp only [Act.put, List.setIfInBounds_toArray, List.set_cons_zero, List.set_cons_succ]
            refine wpAnyH_take (i := 30) (v := ?_) rfl (by kernel_rfl) (by kernel_rfl) (by kernel_rfl) (fun _ _ _ h => h) (Or.inl ⟨by rfl, ?_⟩) (by assumption) ?_
            rotate_left 1
            · (intro w hSw; (try dsimp only at hSw); go_simp; try with_reducible rfl)
            try simp only [Act.put, List.setIfInBounds_toArray, List.set_cons_zero, List.set_cons_succ]
            refine wpAnyH_take (i := 31) (v := ?_) rfl (by kernel_rfl) (by kernel_rfl) (by kernel_rfl) (fun _ _ _ h => h) (Or.inl ⟨by rfl, ?_⟩) (by assumption) ?_
            rotate_left 1
            · (intro w hSw; (try dsimp only at hSw); go_simp; try with_reducible rfl)
            try simp only [Act.put, List.setIfInBounds_toArray, List.set_cons_zero, List.set_cons_succ]
            refine wpAnyH_done (by kernel_rfl) ?_ _
            refine lastQ_mk rfl rfl (fun K hK => ?_)
            go_wp2
            have n3 := ((hS3.alloc (Obj.cells #[.int .i64 (clock + 1), .bool y.del, .int .i64 y.val] 82)).drew).versMove Hpk.out hgrow2 (vs' := [verOf (clock + 1) y]) (hd' := .slice (some ⟨g2, 0, none⟩) 1 cap2) (by simpa [verCells, verC, verOf] using hown2) (at_or hat2 (by simp)) (gk := gk2) (kcap := capk2) (by rw [← HN.out]; simp)
            have kb1 : Keep B stoT w ((w3.alloc (Obj.cells #[.int .i64 (clock + 1), .bool y.del, .int .i64 y.val] 82)).drew) := (k'.alloc (by omega) _).drew
            have kb2 : Keep B stoT w w2 := kb1.grown (e := 82) hgrow2 (by simp; omega) (fun j hj => by cases hj) (fun k hk => by cases hk) (by decide)
            have tk : RowTy w2 (some gk2) 80 := RowTy.of_own (v := .slice (some ⟨gk2, 0, none⟩) N capk2) r2.out
            have kb3 := kb2.grown (e := 80) (set_grown w2 gk2 (ck'.length * 2 + 1) (.slice (some ⟨g2, 0, none⟩) 1 cap2)) (by have := kb2.below.size; omega) (fun j hj => by simp at hj; subst hj; exact hKO.out) tk (by decide)
            have rb := blk_ty (set_grown w2 gk2 (ck'.length * 2 + 1) (.slice (some ⟨g2, 0, none⟩) 1 cap2)) tk (blk_ty hgrow2 (e := 82) (fun k hk => by cases hk) (alloc_keep (w := w3) Hr.out _) (by decide)) (by decide)
            have hbuf3 := own_ty (set_grown w2 gk2 (ck'.length * 2 + 1) (.slice (some ⟨g2, 0, none⟩) 1 cap2)) tk hbuf2.out (by decide)
            refine ⟨⟨m + 1, _, (ck' ++ [((⟨y.key, []⟩ : KH), (.slice none 0 0 : Value))]).set ck'.length (⟨y.key, [verOf (clock + 1) y]⟩, .slice (some ⟨g2, 0, none⟩) 1 cap2), by go_num, by omega, n3, ?_, hbuf3, kb3, rb, by rw [List.length_set]; simp; omega, ?_⟩, by simp [intOf]; omega⟩
            · rw [List.map_set, List.take_add_one, Hy.out]
              simp only [Option.toList]
              rw [List.foldl_append, ← Hck.out]
              show _ = addVer (clock + 1) (ck'.map (·.1)) y
              rw [Hadd.out]
              simp [List.set_append]
            · intro q hq
              obtain ⟨j, hj⟩ := List.getElem?_of_mem hq
              rcases set_get hj with ⟨_, rfl⟩ | ⟨_, hj'⟩
              · simp; omega
              · have := Hl2.out q (List.mem_of_getElem? hj'); omega
        · obtain rfl : m = t.buf.length := by omega
          have hck2 := Hck.out
          rw [List.take_length] at hck2
          have c0 := hS.c0
          have x0 := cell_of_row wr (w.heap.size + 1) 0 _ _ _ Hr.out
          have x1 := cell_of_row wr (w.heap.size + 1) 1 _ _ _ Hr.out
          have y0 := frozen_of_row wr (w.heap.size + 1) 0 _ _ Hr.out
          have y1 := frozen_of_row wr (w.heap.size + 1) 1 _ _ Hr.out
          simp only [List.getElem?_toArray, List.getElem?_cons_succ, List.getElem?_cons_zero] at x0 x1
          have Hck2 := hid hck2
          clear hck2
          go_wp2
          exact bodyPost_ret (v := resV _) (res_run rfl Hr.out rfl _ _) rfl ⟨rfl, step_fin ⟨_, _, _, _, hS, Hck2.out, by rw [List.map_set]⟩ k' Hr.out (by omega) hB _ _⟩
    have hlt : m < t.buf.length := by omega
    obtain ⟨y, hy⟩ : ∃ y, t.buf[m]? = some y := ⟨_, List.getElem?_eq_getElem hlt⟩
    obtain rfl := hbd (by omega)
    have hy0 := row_cell wrC_len Hb.out hy (j := 0) (by omega) rfl
    rw [Nat.add_zero] at hy0
    have x0 := cell_of_row wr (w.heap.size + 1) 0 _ _ _ Hr.out
    have x1 := cell_of_row wr (w.heap.size + 1) 1 _ _ _ Hr.out
    have y0 := frozen_of_row wr (w.heap.size + 1) 0 _ _ Hr.out
    have y1 := frozen_of_row wr (w.heap.size + 1) 1 _ _ Hr.out
    simp only [List.getElem?_toArray, List.getElem?_cons_succ, List.getElem?_cons_zero] at x0 x1
    have Hy := hid hy
    have Hno := hid hno
    clear hy hno hbd
    have hkc := findKey_any m2 y.key (by omega)
    cases hfk : findKey (ck.map (·.1)) y.key with
    | none =>
      have hl := late_none (snap := t.snap) hfk
      have Hl := hid hl
      rw [hfk] at hkc
      clear hl hfk
      go_wp2_with fail
      refine hkc.mono ?_
      rintro e w1 ⟨rfl, rfl⟩
      simp only [idxI]
      go_wp2
      refine ⟨⟨m + 1, by go_num, by omega, ?_, rfl⟩, by simp [intOf]; omega⟩
      intro j a hj ha
      by_cases hjk : j = m
      · subst hjk; rw [Hy.out] at ha; simp at ha; subst ha; exact Hl.out
      · exact Hno.out j a (by omega) ha
    | some ki =>
      obtain ⟨p, hpk⟩ : ∃ p, ck[ki]? = some p := by
        have := findKey_lt hfk
        exact ⟨_, List.getElem?_eq_getElem (by simpa using this)⟩
      have Hfk := hid hfk
      have Hpk := hid (show (ck.map (·.1))[ki]? = some p.1 by rw [List.getElem?_map, hpk]; rfl)
      have hvl : p.1.vers.length ≤ 900000000 := Hv.out p (List.mem_of_getElem? hpk)
      have hki : ki < ck.length := (List.getElem?_eq_some_iff.1 hpk).1
      have hkil : (ki : Int) < (ck.length : Int) := by omega
      rw [hfk] at hkc
      have c1 := m2.c1
      have hks := m2.keys
      have hvs := m2.vers ki _ hpk
      obtain ⟨kd, kcap, kg, hkv, hkd⟩ := own_shape hks
      obtain ⟨vd, vcap, vg, hvv, hvd⟩ := own_shape hvs
      subst hkv
      obtain rfl := hkd (by omega)
      have hk1 := row_cell khC_len hks hpk (j := 1) (by omega) rfl
      rw [hvv] at hk1
      rw [hvv] at hvs
      have Hvs := hid hvs
      clear hfk hks hvs hpk hvv hkd
      by_cases hv0 : 0 < p.1.vers.length
      · obtain ⟨v, hvm⟩ : ∃ v, p.1.vers[p.1.vers.length - 1]? = some v := ⟨_, List.getElem?_eq_getElem (by omega)⟩
        obtain rfl := hvd hv0
        have hv0c := row_cell verC_len Hvs.out hvm (j := 0) (by omega) rfl
        rw [Nat.add_zero] at hv0c
        have hlast : p.1.vers.getLast? = some v := by rw [List.getLast?_eq_getElem?]; exact hvm
        have Hl := hid (late_hit (snap := t.snap) Hfk.out Hpk.out hlast)
        have hvi : (0 : Int) < (p.1.vers.length : Int) := by omega
        have hvn : ((p.1.vers.length : Int) - 1).toNat = p.1.vers.length - 1 := by omega
        clear hlast hvm hvd
        by_cases hts : t.snap < v.ts
        · exfalso
          have hc := Hconf.out
          unfold conflictI at hc
          rw [List.any_eq_false] at hc
          have hq := hc y (List.mem_of_getElem? Hy.out)
          rw [Hl.out] at hq
          simp at hq
          omega
        · have Hl2 : Hid (lateI (ck.map (·.1)) t.snap y.key = false) := by
            show lateI (ck.map (·.1)) t.snap y.key = false
            rw [Hl.out]; simp; omega
          go_wp2_with fail
          refine hkc.mono ?_
          rintro e w1 ⟨rfl, rfl⟩
          simp only [idxI]
          clear hkc
          go_wp2
          refine ⟨⟨m + 1, by go_num, by omega, ?_, rfl⟩, by simp [intOf]; omega⟩
          intro j a hj ha
          by_cases hjk : j = m
          · subst hjk; rw [Hy.out] at ha; simp at ha; subst ha; exact Hl2.out
          · exact Hno.out j a (by omega) ha
      · have hl0 : p.1.vers = [] := List.eq_nil_of_length_eq_zero (by omega)
        have Hl2 := hid (late_empty (snap := t.snap) Hfk.out Hpk.out hl0)
        have hv00 : p.1.vers.length = 0 := by omega
        rw [hv00] at hk1
        clear Hvs hvd hv0 hl0 hvl hv00
        go_wp2_with fail
        refine hkc.mono ?_
        rintro e w1 ⟨rfl, rfl⟩
        simp only [idxI]
        clear hkc
        go_wp2
        refine ⟨⟨m + 1, by go_num, by omega, ?_, rfl⟩, by simp [intOf]; omega⟩
        intro j a hj ha
        by_cases hjk : j = m
        · subst hjk; rw [Hy.out] at ha; simp at ha; subst ha; exact Hl2.out
        · exact Hno.out j a (by omega) ha
end Go.Proofs.Yafahw
