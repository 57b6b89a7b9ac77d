/- Walk: (*store).step (47): a Commit that conflicts. -/
import Derived.Test.YafahwStepMisc
namespace Go.Proofs.Yafahw
open Go.RowKit
set_option linter.unusedVariables false
set_option linter.unusedSimpArgs false

/-- the test of one buffered write against the keys -/
theorem late_none {keys : List KH} {snap k : Int} (h : findKey keys k = none) : lateI keys snap k = false := by
  unfold lateI; rw [versOf_none h]; rfl
theorem late_hit {keys : List KH} {snap k : Int} {i : Nat} {x : KH} {v : Ver} (h : findKey keys k = some i) (hx : keys[i]? = some x) (hl : x.vers.getLast? = some v) : lateI keys snap k = decide (snap < v.ts) := by
  unfold lateI; rw [versOf_some h hx, hl]
theorem late_empty {keys : List KH} {snap k : Int} {i : Nat} {x : KH} (h : findKey keys k = some i) (hx : keys[i]? = some x) (hl : x.vers = []) : lateI keys snap k = false := by
  unfold lateI; rw [versOf_some h hx, hl]; rfl

set_option maxHeartbeats 8000000 in
set_option maxRecDepth 100000 in
theorem step_conflict {B : Nat} {w : World} {bs : Nat} {clock : Int} {kv tv : Value} {ck : List (KH × Value)} {ct : List (Txn × Value)} (h : StoM B w bs clock kv tv ck ct) (hB : B ≤ w.heap.size) (tx key val : Int) (i : Nat) (t : Txn) (hd : Value) (hf : actTx (ct.map (·.1)) tx = some i) (hp : ct[i]? = some (t, hd)) (hn : ct.length ≤ 1000000) (hb : t.buf.length ≤ 1000000) (hnk : ck.length ≤ 900000000) (hv : ∀ p ∈ ck, p.1.vers.length ≤ 900000000) (hconf : conflictI (ck.map (·.1)) t.snap t.buf = true) :
    Calls Yahh.prog 47 #[.pointer (some ⟨bs, 0, none⟩), .agg #[.int .i64 4, .int .i64 tx, .int .i64 key, .int .i64 val]] w fun e w' => e = .returned (resV (3, 0)) ∧ StepPost B w bs ⟨clock, ck.map (·.1), (ct.map (·.1)).set i ⟨t.id, false, t.snap, []⟩⟩ w' := by
  have hM := (h.alloc (Obj.cells #[.int .i64 4, .int .i64 tx, .int .i64 key, .int .i64 val] 35)).alloc (Obj.cells #[.int .i64 0, .int .i64 0] 37)
  have k0 : Keep B stoT w ((w.alloc (Obj.cells #[.int .i64 4, .int .i64 tx, .int .i64 key, .int .i64 val] 35)).alloc (Obj.cells #[.int .i64 0, .int .i64 0] 37)) := ((Keep.refl _ _ _).alloc hB _).alloc (by simp; omega) _
  have hr := heap_alloc_new (w.alloc (Obj.cells #[.int .i64 4, .int .i64 tx, .int .i64 key, .int .i64 val] 35)) (Obj.cells #[.int .i64 0, .int .i64 0] 37)
  rw [World.size_alloc] at hr
  have Hr := hid hr
  clear hr
  have hfc := activeTx_any hM tx hn
  rw [hf] at hfc
  clear hf
  go_enter Yahh.func47, Yahh.ntmps47
  go_wp2_with fail
  refine hfc.mono ?_
  rintro e w1 ⟨rfl, rfl⟩
  simp only [idxI]
  generalize hW : (w.alloc (Obj.cells #[.int .i64 4, .int .i64 tx, .int .i64 key, .int .i64 val] 35)).alloc (Obj.cells #[.int .i64 0, .int .i64 0] 37) = W at *
  have hsW : w.heap.size + 2 = W.heap.size := by rw [← hW]; simp
  have hsW1 : w.heap.size + 2 ≤ W.heap.size := by omega
  clear hW hfc hsW
  have hi : i < ct.length := (List.getElem?_eq_some_iff.1 hp).1
  have hil : (i : Int) < (ct.length : Int) := by omega
  have hi0 : (0 : Int) ≤ (i : Int) := by omega
  have c2 := hM.c2
  have hbuf := hM.bufs i _ hp
  obtain ⟨ad, cap, g, htv, had⟩ := own_shape hM.txs
  obtain ⟨bd, bcap, bg, hbv, hbd⟩ := own_shape hbuf
  simp only [] at hbv
  subst htv
  subst hbv
  obtain rfl := had (by omega)
  have hc1 := row_cell txC_len hM.txs hp (j := 1) (by omega) rfl
  have hc2 := row_cell txC_len hM.txs hp (j := 2) (by omega) rfl
  have hc3 := row_cell txC_len hM.txs hp (j := 3) (by omega) rfl
  have hf1 := hM.txs.frozenAt (i * 4 + 1)
  have hf3 := hM.txs.frozenAt (i * 4 + 3)
  have hne : g ≠ bs := own_bne hM.txs hM.blk (by decide)
  have hne' : bs ≠ g := hne.symm
  have hner : g ≠ w.heap.size + 1 := own_bne hM.txs Hr.out (by decide)
  have hner' : w.heap.size + 1 ≠ g := hner.symm
  -- the world behind the two stores into the transaction
  have m1 := hM.txSet hp (p' := (⟨t.id, false, t.snap, t.buf⟩, .slice bd t.buf.length bcap)) (j := 1) (by omega) (u := .bool false) rfl (hM.bufs i (t, .slice bd t.buf.length bcap) hp) (.inr rfl)
  have hl : (ct.set i (⟨t.id, false, t.snap, t.buf⟩, .slice bd t.buf.length bcap)).length = ct.length := List.length_set
  rw [← hl] at m1
  have m2 := m1.txSet (i := i) (p := (⟨t.id, false, t.snap, t.buf⟩, .slice bd t.buf.length bcap)) (by simp [hi]) (p' := (⟨t.id, false, t.snap, []⟩, .slice none 0 0)) (j := 3) (by omega) (u := .slice none 0 0) rfl (World.ownsRow_nil _ _ _ _) (.inl rfl)
  rw [List.set_set, hl] at m2
  have bgB : B ≤ g := (own_lt hM.txs rfl).1
  have tg : RowTy W (some g) 109 := RowTy.of_own (v := .slice (some ⟨g, 0, none⟩) ct.length cap) hM.txs
  have tg2 : RowTy (W.setCell ⟨g, i * 4 + 1, none⟩ (.bool false)) (some g) 109 := fun k hk => by
    obtain ⟨c, f, hc⟩ := tg k hk
    simp at hk; subst hk
    obtain ⟨cur, hcur⟩ := own_blk hM.txs rfl
    exact ⟨_, _, heap_setCell_same W g (i * 4 + 1) _ _ _ hcur⟩
  have k1 := k0.grown (e := 109) (set_grown W g (i * 4 + 1) (.bool false)) (by omega) (fun k hk => by simp at hk; omega) tg (by decide)
  have k2 := k1.grown (e := 109) (set_grown _ g (i * 4 + 3) (.slice none 0 0)) (by have := k1.below.size; omega) (fun k hk => by simp at hk; omega) tg2 (by decide)
  have hr2 : ((W.setCell ⟨g, i * 4 + 1, none⟩ (.bool false)).setCell ⟨g, i * 4 + 3, none⟩ (.slice none 0 0)).heap[w.heap.size + 1]? = some (.cells #[.int .i64 0, .int .i64 0] 37 (0, 0)) := by
    rw [Below.heap_setCell _ _ _ _ (by exact hner'), Below.heap_setCell _ _ _ _ (by exact hner')]; exact Hr.out
  have hb2 := own_ty (set_grown _ g (i * 4 + 3) (.slice none 0 0)) tg2 (own_ty (set_grown W g (i * 4 + 1) (.bool false)) tg hbuf (by decide)) (by decide)
  have hsz2 := k2.below.size
  clear m1 k1 tg tg2 hbuf hp hM k0 had Hr
  go_wp2_with fail
  generalize hV : (W.setCell ⟨g, i * 4 + 1, none⟩ (.bool false)).setCell ⟨g, i * 4 + 3, none⟩ (.slice none 0 0) = V at *
  clear hV c2 hc1 hc2 hc3 hf1 hf3 hsW1
  have Hr := hid hr2
  have Hb := hid hb2
  clear hr2 hb2
  have Hv := hid hv
  have Hconf := hid hconf
  clear hv hconf
  go_loopw [16] (fun j wr => SearchR V t.buf (fun y => lateI (ck.map (·.1)) t.snap y.key) j wr) (fun j _ => t.buf.length - (intOf j).toNat)
  case atStart => exact ⟨0, rfl, Nat.zero_le _, fun j a hj => by omega, rfl⟩
  case round =>
    obtain ⟨m, rfl, hm, hno, rfl⟩ := hrel
    have hlt : m < t.buf.length := by
      rcases Nat.lt_or_ge m t.buf.length with h' | h'
      · exact h'
      · exfalso
        have hc := Hconf.out
        unfold conflictI at hc
        rw [List.any_eq_true] at hc
        obtain ⟨x, hx, hl⟩ := hc
        obtain ⟨j, hj, rfl⟩ := List.getElem_of_mem hx
        have hq := hno j _ (by omega) (List.getElem?_eq_getElem hj)
        simp only [] at hq
        rw [hq] at hl
        cases hl
    obtain ⟨y, hy⟩ : ∃ y, t.buf[m]? = some y := ⟨_, List.getElem?_eq_getElem hlt⟩
    obtain rfl := hbd (by omega)
    have hy0 := row_cell wrC_len Hb.out hy (j := 0) (by omega) rfl
    rw [Nat.add_zero] at hy0
    have x0 := cell_of_row wr (w.heap.size + 1) 0 _ _ _ Hr.out
    have x1 := cell_of_row wr (w.heap.size + 1) 1 _ _ _ Hr.out
    have y0 := frozen_of_row wr (w.heap.size + 1) 0 _ _ Hr.out
    have y1 := frozen_of_row wr (w.heap.size + 1) 1 _ _ Hr.out
    simp only [List.getElem?_toArray, List.getElem?_cons_succ, List.getElem?_cons_zero] at x0 x1
    have Hy := hid hy
    have Hno := hid hno
    clear hy hno hbd
    have hkc := findKey_any m2 y.key (by omega)
    cases hfk : findKey (ck.map (·.1)) y.key with
    | none =>
      have hl := late_none (snap := t.snap) hfk
      have Hl := hid hl
      rw [hfk] at hkc
      clear hl hfk
      go_wp2_with fail
      refine hkc.mono ?_
      rintro e w1 ⟨rfl, rfl⟩
      simp only [idxI]
      go_wp2
      refine ⟨⟨m + 1, by go_num, by omega, ?_, rfl⟩, by simp [intOf]; omega⟩
      intro j a hj ha
      by_cases hjk : j = m
      · subst hjk; rw [Hy.out] at ha; simp at ha; subst ha; exact Hl.out
      · exact Hno.out j a (by omega) ha
    | some ki =>
      obtain ⟨p, hpk⟩ : ∃ p, ck[ki]? = some p := by
        have := findKey_lt hfk
        exact ⟨_, List.getElem?_eq_getElem (by simpa using this)⟩
      have Hfk := hid hfk
      have Hpk := hid (show (ck.map (·.1))[ki]? = some p.1 by rw [List.getElem?_map, hpk]; rfl)
      have hvl : p.1.vers.length ≤ 900000000 := Hv.out p (List.mem_of_getElem? hpk)
      have hki : ki < ck.length := (List.getElem?_eq_some_iff.1 hpk).1
      have hkil : (ki : Int) < (ck.length : Int) := by omega
      rw [hfk] at hkc
      have c1 := m2.c1
      have hks := m2.keys
      have hvs := m2.vers ki _ hpk
      obtain ⟨kd, kcap, kg, hkv, hkd⟩ := own_shape hks
      obtain ⟨vd, vcap, vg, hvv, hvd⟩ := own_shape hvs
      subst hkv
      obtain rfl := hkd (by omega)
      have hk1 := row_cell khC_len hks hpk (j := 1) (by omega) rfl
      rw [hvv] at hk1
      rw [hvv] at hvs
      have Hvs := hid hvs
      clear hfk hks hvs hpk hvv hkd
      by_cases hv0 : 0 < p.1.vers.length
      · obtain ⟨v, hvm⟩ : ∃ v, p.1.vers[p.1.vers.length - 1]? = some v := ⟨_, List.getElem?_eq_getElem (by omega)⟩
        obtain rfl := hvd hv0
        have hv0c := row_cell verC_len Hvs.out hvm (j := 0) (by omega) rfl
        rw [Nat.add_zero] at hv0c
        have hlast : p.1.vers.getLast? = some v := by rw [List.getLast?_eq_getElem?]; exact hvm
        have Hl := hid (late_hit (snap := t.snap) Hfk.out Hpk.out hlast)
        have hvi : (0 : Int) < (p.1.vers.length : Int) := by omega
        have hvn : ((p.1.vers.length : Int) - 1).toNat = p.1.vers.length - 1 := by omega
        clear hlast hvm hvd
        by_cases hts : t.snap < v.ts
        · go_wp2_with fail
          refine hkc.mono ?_
          rintro e w1 ⟨rfl, rfl⟩
          simp only [idxI]
          clear hkc
          go_wp2
          exact bodyPost_ret (v := resV _) (res_run rfl Hr.out rfl _ _) rfl ⟨rfl, step_fin ⟨_, _, _, _, m2, rfl, by rw [List.map_set]⟩ k2 Hr.out (by omega) hB _ _⟩
        · have Hl2 : Hid (lateI (ck.map (·.1)) t.snap y.key = false) := by
            show lateI (ck.map (·.1)) t.snap y.key = false
            rw [Hl.out]; simp; omega
          go_wp2_with fail
          refine hkc.mono ?_
          rintro e w1 ⟨rfl, rfl⟩
          simp only [idxI]
          clear hkc
          go_wp2
          refine ⟨⟨m + 1, by go_num, by omega, ?_, rfl⟩, by simp [intOf]; omega⟩
          intro j a hj ha
          by_cases hjk : j = m
          · subst hjk; rw [Hy.out] at ha; simp at ha; subst ha; exact Hl2.out
          · exact Hno.out j a (by omega) ha
      · have hl0 : p.1.vers = [] := List.eq_nil_of_length_eq_zero (by omega)
        have Hl2 := hid (late_empty (snap := t.snap) Hfk.out Hpk.out hl0)
        have hv00 : p.1.vers.length = 0 := by omega
        rw [hv00] at hk1
        clear Hvs hvd hv0 hl0 hvl hv00
        go_wp2_with fail
        refine hkc.mono ?_
        rintro e w1 ⟨rfl, rfl⟩
        simp only [idxI]
        clear hkc
        go_wp2
        refine ⟨⟨m + 1, by go_num, by omega, ?_, rfl⟩, by simp [intOf]; omega⟩
        intro j a hj ha
        by_cases hjk : j = m
        · subst hjk; rw [Hy.out] at ha; simp at ha; subst ha; exact Hl2.out
        · exact Hno.out j a (by omega) ha
end Go.Proofs.Yafahw
