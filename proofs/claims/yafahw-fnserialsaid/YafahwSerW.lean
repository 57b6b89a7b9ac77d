/- Walk: spec.SerialModel (25). -/
import Derived.Test.YafahwSerM
import Derived.Test.YafahwDecOps
namespace Go.Proofs.Yafahw
open Go.RowKit
set_option linter.unusedVariables false
set_option linter.unusedSimpArgs false
attribute [local go_sem ↓] Go.wp_at_zero Go.wp_at_succ

theorem alloc3c (w : World) (o1 o2 o3 : Obj) : (((w.alloc o1).alloc o2).alloc o3).heap[w.heap.size + 2]? = some o3 := by
  have h := heap_alloc_new ((w.alloc o1).alloc o2) o3
  rw [show ((w.alloc o1).alloc o2).heap.size = w.heap.size + 2 from by simp] at h
  exact h
theorem runM_at (ops : List POp) (k : Nat) (h : k < ops.length) : (runM ops)[k]? = some (resM ops k) := by simp [runM, h]

theorem stepM_0 {s : SerS} {o : POp} (h : o.kind = 0) : stepM s o = (⟨s.store, s.store, s.clock⟩, (0, s.clock)) := by unfold stepM; simp [h]
theorem stepM_1 {s : SerS} {o : POp} (h : o.kind = 1) : stepM s o = (s, ansL (lk s.store o.key)) := by unfold stepM; simp [h]
theorem stepM_2 {s : SerS} {o : POp} (h : o.kind = 2) : stepM s o = (⟨setv s.store o.key o.val, s.saved, s.clock⟩, (0, 0)) := by unfold stepM; simp [h]
theorem stepM_3 {s : SerS} {o : POp} (h : o.kind = 3) : stepM s o = (⟨delv s.store o.key, s.saved, s.clock⟩, (0, 0)) := by unfold stepM; simp [h]
theorem stepM_4 {s : SerS} {o : POp} (h : o.kind = 4) : stepM s o = (⟨s.store, s.saved, s.clock + 1⟩, (0, s.clock + 1)) := by unfold stepM; simp [h]
theorem stepM_5 {s : SerS} {o : POp} (h : o.kind = 5) : stepM s o = (⟨s.saved, s.saved, s.clock⟩, (0, 0)) := by unfold stepM; simp [h]
theorem stepM_x {s : SerS} {o : POp} (h0 : ¬ o.kind = 0) (h1 : ¬ o.kind = 1) (h2 : ¬ o.kind = 2) (h3 : ¬ o.kind = 3) (h4 : ¬ o.kind = 4) (h5 : ¬ o.kind = 5) : stepM s o = (s, (2, 0)) := by unfold stepM; simp [h0, h1, h2, h3, h4, h5]

def SerMR (w : World) (ops : List POp) (sv vv cl ou i : Value) (wr : World) : Prop :=
  ∃ k : Nat, i = .int .i64 (k : Int) ∧ k ≤ ops.length ∧ cl = .int .i64 (stM ops k).clock ∧ SerM w.heap.size wr sv vv ou (stM ops k).store (stM ops k).saved ((runM ops).take k) ∧ Below w.heap.size w wr
theorem serMR_mk {w W : World} {ops : List POp} {k : Nat} {sv vv ou : Value} {S' : SerS} {r : Int × Int} {out : List (Int × Int)} (ho : (runM ops).take k = out) (hst : stM ops (k + 1) = S') (hres : resM ops k = r) (hk : k < ops.length) (hM : SerM w.heap.size W sv vv ou S'.store S'.saved (out ++ [r])) (hb : Below w.heap.size w W) :
    SerMR w ops sv vv (.int .i64 S'.clock) ou (.int .i64 ((k : Int) + 1)) W ∧ ops.length - (intOf (.int .i64 ((k : Int) + 1))).toNat < ops.length - (intOf (.int .i64 (k : Int))).toNat := by
  subst hst
  refine ⟨⟨k + 1, by go_num, by omega, rfl, ?_, hb⟩, by simp [intOf]; omega⟩
  rw [List.take_add_one, runM_at ops k hk, hres, ho]
  exact hM

set_option maxHeartbeats 16000000 in
set_option maxRecDepth 100000 in
theorem serialModel_any (ops : List POp) (v : Value) (w : World) (hrow : RowAt w 4 v ops.length (opCells ops)) (hn : ops.length ≤ 100000000) :
    Calls Yahh.prog 25 #[v] w fun e w' => ∃ v', e = .returned v' ∧ w'.ownsRow w.heap.size 37 2 v' ops.length (resCells (runM ops)) ∧ Below w.heap.size w w' := by
  obtain ⟨ad, cap, b, off, rfl, hcap, hlen, had, hcell⟩ := hrow
  go_enter Yahh.func25, Yahh.ntmps25
  go_wp2
  go_loopw [3, 4, 5, 6, 15] (fun sv vv cl ou i wr => SerMR w ops sv vv cl ou i wr) (fun _ _ _ _ i _ => ops.length - (intOf i).toNat)
  case atStart => exact ⟨0, rfl, Nat.zero_le _, rfl, ⟨⟨rfl, .inl ⟨rfl, rfl⟩⟩, ⟨rfl, .inl ⟨rfl, rfl⟩⟩, .inl rfl, World.ownsRow_lit w _ 0 (Nat.le_refl _) (by decide) rfl⟩, (Below.refl _ _).alloc (Nat.le_refl _) _⟩
  case round =>
    obtain ⟨k, rfl, hk, rfl, hM, hbel⟩ := hrel
    have hsz := hbel.size
    have hsm := smallM_st ops k
    by_cases hlt : k < ops.length
    · obtain ⟨o, ho⟩ : ∃ r, ops[k]? = some r := ⟨_, List.getElem?_eq_getElem hlt⟩
      obtain rfl := had (by omega)
      have hc := opCells_at ops k _ ho
      have hc0 : wr.cell? ⟨b, off + k * 4, none⟩ = some (.int .i64 o.kind) := cell_below hbel (hcell _ _ hc.1)
      have hc1 : wr.cell? ⟨b, off + k * 4 + 1, none⟩ = some (.int .i64 o.tx) := cell_below hbel (by rw [Nat.add_assoc]; exact hcell _ _ hc.2.1)
      have hc2 : wr.cell? ⟨b, off + k * 4 + 2, none⟩ = some (.int .i64 o.key) := cell_below hbel (by rw [Nat.add_assoc]; exact hcell _ _ hc.2.2.1)
      have hc3 : wr.cell? ⟨b, off + k * 4 + 3, none⟩ = some (.int .i64 o.val) := cell_below hbel (by rw [Nat.add_assoc]; exact hcell _ _ hc.2.2.2)
      have hk0 : (0 : Int) ≤ (k : Int) := by omega
      have hkl : (k : Int) < (ops.length : Int) := by omega
      have hol : ((runM ops).take k).length ≤ 100000000 := by rw [List.length_take, runM_len]; omega
      generalize hoo : (runM ops).take k = out at *
      have Hoo := hid hoo
      clear hoo
      by_cases hlid : k < 20000
      · have hst : stM ops (k + 1) = (stepM (stM ops k) o).1 := by simp [stM, ho, hlid]
        have hres : resM ops k = (stepM (stM ops k) o).2 := by simp [resM, ho, hlid]
        have Hst := hid hst
        have Hres := hid hres
        have hlid' : ¬ (20000 : Int) ≤ (k : Int) := by omega
        have hs1 := hsm.st
        have hs2 := hsm.sa
        have hs3 := hsm.c0
        have hs4 := hsm.c1
        clear hc hcell had ho hst hres hsm
        generalize hSS : stM ops k = S at *
        obtain ⟨store, saved, clk⟩ := S
        simp only [] at hM hs1 hs2 hs3 hs4 ⊢
        have hstl : store.length ≤ 400000000 := by omega
        have hsal : saved.length ≤ 400000000 := by omega
        have hcl1 : clk ≤ 20000 := by omega
        clear hs1 hs2 hs4 hSS
        generalize hkd : o.kind = kd at *
        have Hkd := hid hkd
        have hB1 := hbel.alloc hsz (Obj.cells #[.int .i64 kd, .int .i64 o.tx, .int .i64 o.key, .int .i64 o.val] 35)
        have hszB : w.heap.size ≤ (wr.alloc (Obj.cells #[.int .i64 kd, .int .i64 o.tx, .int .i64 o.key, .int .i64 o.val] 35)).heap.size := hB1.size
        clear hkd
        by_cases e0 : kd = 0
        · subst e0
          have hX := SerX.init hM hsz (Obj.cells #[.int .i64 0, .int .i64 o.tx, .int .i64 o.key, .int .i64 o.val] 35) 0 0
          have hob := alloc_keep (heap_alloc_new wr (Obj.cells #[.int .i64 0, .int .i64 o.tx, .int .i64 o.key, .int .i64 o.val] 35)) (Obj.cells #[.int .i64 0, .int .i64 0] 37)
          have q2 := cell_of_row _ wr.heap.size 2 _ _ _ hob
          have q3 := cell_of_row _ wr.heap.size 3 _ _ _ hob
          simp only [List.getElem?_toArray, List.getElem?_cons_succ, List.getElem?_cons_zero] at q2 q3
          have Hob := hid hob
          have hB2 := hB1.alloc hszB (Obj.cells #[.int .i64 0, .int .i64 0] 37)
          have hz2 := hB2.size
          clear hM hbel hB1 hob
          have hcall := copyCells_any store _ hX.m.st hstl
          go_wp2_with fail
          refine hcall.mono ?_
          rintro e w2 ⟨v2, rfl, how2, hb2⟩
          clear hcall
          have hX2 := hX.save hz2 hb2 how2
          have hb3 := hB2.trans (hb2.mono hz2)
          have hz3 := hb3.size
          obtain ⟨x0, x1, y0, y1⟩ := hX2.cells
          have hX3 := hX2.setV clk
          have hb4 := hb3.setCell (p := ⟨wr.heap.size + 1, 1, none⟩) hX2.brb (.int .i64 clk)
          obtain ⟨s0, s1, _, _⟩ := hX3.cells
          have HX3 := hid hX3
          have HB4 := hid hb4
          clear hX hX2 hX3 hB2 hb4 hc0 hc1 hc2 hc3 q2 q3 hb2 how2
          go_wp2_with (first
            | (at_builtin; refine wpList_app1 rfl (.tmp 89) (.tmp 91) 25 rfl w.heap.size 37 _ 2 16 Yahh.underlying25 Yahh.info37 rfl (by decide) _ _ _ rfl (HX3.out.m.out.alloc _) w2.heap.size _ _ _ rfl (alloc_new_set _ _ _ _) rfl (one2 _ _ rfl rfl) (by omega) (by decide) (by simp; omega) _ rfl ?_; intro g5 cap5 w5 hown5 hgrow5 hat5 hlt5; have hM5 := hid ((HX3.out.m.alloc _).add (r := (0, clk)) hgrow5 (by rw [resCells_snoc, List.length_append]; exact hown5)); have hb5 := hid ((HB4.out.alloc (by first | omega | (simp; omega)) _).grown hgrow5 (by simp; omega) (fun k hk => (own_lt HX3.out.m.out hk).1)); clear hgrow5 hat5 hown5))
          exact serMR_mk Hoo.out (by rw [Hst.out, stepM_0 Hkd.out]) (by rw [Hres.out, stepM_0 Hkd.out]) hlt hM5.out hb5.out
        by_cases e1 : kd = 1
        · subst e1
          have hX := SerX.init hM hsz (Obj.cells #[.int .i64 1, .int .i64 o.tx, .int .i64 o.key, .int .i64 o.val] 35) 0 0
          have hob := alloc_keep (heap_alloc_new wr (Obj.cells #[.int .i64 1, .int .i64 o.tx, .int .i64 o.key, .int .i64 o.val] 35)) (Obj.cells #[.int .i64 0, .int .i64 0] 37)
          have q2 := cell_of_row _ wr.heap.size 2 _ _ _ hob
          have q3 := cell_of_row _ wr.heap.size 3 _ _ _ hob
          simp only [List.getElem?_toArray, List.getElem?_cons_succ, List.getElem?_cons_zero] at q2 q3
          have Hob := hid hob
          have hB2 := hB1.alloc hszB (Obj.cells #[.int .i64 0, .int .i64 0] 37)
          have hz2 := hB2.size
          clear hM hbel hB1 hob
          have hcall := findCell_any store _ hX.m.st o.key hstl
          go_wp2_with fail
          refine hcall.mono ?_
          rintro e w2 ⟨rfl, rfl⟩
          clear hcall
          generalize hW : (wr.alloc (Obj.cells #[.int .i64 1, .int .i64 o.tx, .int .i64 o.key, .int .i64 o.val] 35)).alloc (Obj.cells #[.int .i64 0, .int .i64 0] 37) = W at *
          clear hW hc0 hc1 hc2 hc3 hszB
          obtain ⟨x0, x1, y0, y1⟩ := hX.cells
          generalize hrb : wr.heap.size + 1 = rb at *
          cases hf : findC store o.key with
          | none =>
            have hans : ansL (lk store o.key) = (1, 0) := by rw [lk_no hf]; rfl
            have HS := hid (show stepM ⟨store, saved, clk⟩ o = (⟨store, saved, clk⟩, (1, 0)) by rw [stepM_1 Hkd.out]; exact congrArg (Prod.mk _) hans)
            have hX3 := hX.setC 1
            have hb4 := hB2.setCell (p := ⟨rb, 0, none⟩) hX.brb (.int .i64 1)
            obtain ⟨s0, s1, _, _⟩ := hX3.cells
            have HX3 := hid hX3
            have HB4 := hid hb4
            clear hX hX3 hB2 hb4 hans hf
            simp only [idxI]
            go_wp2_with (first
              | (at_builtin; refine wpList_app1 rfl (.tmp 89) (.tmp 91) 25 rfl w.heap.size 37 _ 2 16 Yahh.underlying25 Yahh.info37 rfl (by decide) _ _ _ rfl (HX3.out.m.out.alloc _) W.heap.size _ _ _ rfl (alloc_new_set _ _ _ _) rfl (one2 _ _ rfl rfl) (by omega) (by decide) (by simp; omega) _ rfl ?_; intro g5 cap5 w5 hown5 hgrow5 hat5 hlt5; have hM5 := hid ((HX3.out.m.alloc _).add (r := (1, 0)) hgrow5 (by rw [resCells_snoc, List.length_append]; exact hown5)); have hb5 := hid ((HB4.out.alloc (by first | omega | (simp; omega)) _).grown hgrow5 (by simp; omega) (fun k hk => (own_lt HX3.out.m.out hk).1)); clear hgrow5 hat5 hown5))
            exact serMR_mk Hoo.out (by rw [Hst.out, HS.out]) (by rw [Hres.out, HS.out]) hlt hM5.out hb5.out
          | some i =>
            obtain ⟨c, hcc, hck⟩ := findC_at hf
            have hil : i < store.length := (List.getElem?_eq_some_iff.1 hcc).1
            obtain ⟨sd, scap, sg, hsv, hsd⟩ := own_shape hX.m.st
            subst hsv
            obtain rfl := hsd (by omega)
            have hii : (0 : Int) ≤ (i : Int) := by omega
            have hill : (i : Int) < (store.length : Int) := by omega
            have hneg : ¬ (i : Int) < 0 := by omega
            have t1 := row_cell pcC_len hX.m.st hcc (j := 1) (by omega) rfl
            have hans : ansL (lk store o.key) = (0, c.val) := by rw [lk_at hf hcc]; rfl
            have HS := hid (show stepM ⟨store, saved, clk⟩ o = (⟨store, saved, clk⟩, (0, c.val)) by rw [stepM_1 Hkd.out]; exact congrArg (Prod.mk _) hans)
            have hX3 := hX.setV c.val
            have hb4 := hB2.setCell (p := ⟨rb, 1, none⟩) hX.brb (.int .i64 c.val)
            obtain ⟨s0, s1, _, _⟩ := hX3.cells
            have HX3 := hid hX3
            have HB4 := hid hb4
            clear hX hX3 hB2 hb4 hans hf hcc
            simp only [idxI]
            go_wp2_with (first
              | (at_builtin; refine wpList_app1 rfl (.tmp 89) (.tmp 91) 25 rfl w.heap.size 37 _ 2 16 Yahh.underlying25 Yahh.info37 rfl (by decide) _ _ _ rfl (HX3.out.m.out.alloc _) W.heap.size _ _ _ rfl (alloc_new_set _ _ _ _) rfl (one2 _ _ rfl rfl) (by omega) (by decide) (by simp; omega) _ rfl ?_; intro g5 cap5 w5 hown5 hgrow5 hat5 hlt5; have hM5 := hid ((HX3.out.m.alloc _).add (r := (0, c.val)) hgrow5 (by rw [resCells_snoc, List.length_append]; exact hown5)); have hb5 := hid ((HB4.out.alloc (by first | omega | (simp; omega)) _).grown hgrow5 (by simp; omega) (fun k hk => (own_lt HX3.out.m.out hk).1)); clear hgrow5 hat5 hown5))
            exact serMR_mk Hoo.out (by rw [Hst.out, HS.out]) (by rw [Hres.out, HS.out]) hlt hM5.out hb5.out
        by_cases e2 : kd = 2
        · subst e2
          have hX := SerX.init hM hsz (Obj.cells #[.int .i64 2, .int .i64 o.tx, .int .i64 o.key, .int .i64 o.val] 35) 0 0
          have hob := alloc_keep (heap_alloc_new wr (Obj.cells #[.int .i64 2, .int .i64 o.tx, .int .i64 o.key, .int .i64 o.val] 35)) (Obj.cells #[.int .i64 0, .int .i64 0] 37)
          have q2 := cell_of_row _ wr.heap.size 2 _ _ _ hob
          have q3 := cell_of_row _ wr.heap.size 3 _ _ _ hob
          simp only [List.getElem?_toArray, List.getElem?_cons_succ, List.getElem?_cons_zero] at q2 q3
          have Hob := hid hob
          have hB2 := hB1.alloc hszB (Obj.cells #[.int .i64 0, .int .i64 0] 37)
          have hz2 := hB2.size
          clear hM hbel hB1 hob
          have hcall := findCell_any store _ hX.m.st o.key hstl
          go_wp2_with fail
          refine hcall.mono ?_
          rintro e w2 ⟨rfl, rfl⟩
          clear hcall
          generalize hW : (wr.alloc (Obj.cells #[.int .i64 2, .int .i64 o.tx, .int .i64 o.key, .int .i64 o.val] 35)).alloc (Obj.cells #[.int .i64 0, .int .i64 0] 37) = W at *
          clear hW hc0 hc1 hc2 hc3 hszB
          obtain ⟨x0, x1, y0, y1⟩ := hX.cells
          generalize hrb : wr.heap.size + 1 = rb at *
          cases hf : findC store o.key with
          | none =>
            have HS := hid (show stepM ⟨store, saved, clk⟩ o = (⟨store ++ [⟨o.key, o.val, true⟩], saved, clk⟩, (0, 0)) by rw [stepM_2 Hkd.out]; simp only []; rw [setv_none hf])
            have HX := hid hX
            have HBb := hid hB2
            have hstA := hid (fun o1 => hX.m.st.alloc o1)
            have hXA := hid (fun o1 => hX.below ((Below.refl _ _).alloc (Nat.le_refl _) o1))
            have hBA := hid (fun o1 => hB2.alloc hz2 o1)
            clear hX hB2 hf
            simp only [idxI]
            go_wp2_with (first
              | (at_builtin; refine wpList_app1 rfl (.tmp 59) (.tmp 65) 83 rfl w.heap.size 94 _ 3 24 Yahh.underlying83 Yahh.info94 rfl (by decide) _ _ _ rfl (hstA.out _) W.heap.size _ _ _ rfl (heap_alloc_new W _) rfl (one3 _ _ _ rfl rfl rfl) (by omega) (by decide) (by simp; omega) _ rfl ?_; intro g4 cap4 w4 hown4 hgrow4 hat4 hlt4; have hX4 := (hXA.out _).grow hgrow4 (store' := store ++ [⟨o.key, o.val, true⟩]) (sv' := .slice (some ⟨g4, 0, none⟩) (store.length + 1) cap4) (by rw [pcCells_snoc, List.length_append]; exact hown4) (at_or hat4 (by simp)); have hb4 := hid ((hBA.out _).grown hgrow4 (by simp; omega) (fun k hk => (own_lt HX.out.m.st hk).1)); have hz4 := hb4.out.size; obtain ⟨s0, s1, _, _⟩ := hX4.cells; have HX4 := hid hX4; clear hgrow4 hat4 hown4 hX4)
              | (at_builtin; refine wpList_app1 rfl (.tmp 89) (.tmp 91) 25 rfl w.heap.size 37 _ 2 16 Yahh.underlying25 Yahh.info37 rfl (by decide) _ _ _ rfl (HX4.out.m.out.alloc _) w4.heap.size _ _ _ rfl (heap_alloc_new w4 _) rfl (one2 _ _ rfl rfl) (by omega) (by decide) (by simp; omega) _ rfl ?_; intro g5 cap5 w5 hown5 hgrow5 hat5 hlt5; have hM5 := hid ((HX4.out.m.alloc _).add (r := (0, 0)) hgrow5 (by rw [resCells_snoc, List.length_append]; exact hown5)); have hb5 := hid ((hb4.out.alloc (by first | omega | (simp; omega)) _).grown hgrow5 (by simp; omega) (fun k hk => (own_lt HX4.out.m.out hk).1)); clear hgrow5 hat5 hown5))
            exact serMR_mk Hoo.out (by rw [Hst.out, HS.out]) (by rw [Hres.out, HS.out]) hlt hM5.out hb5.out
          | some i =>
            obtain ⟨c, hcc, hck⟩ := findC_at hf
            have hil : i < store.length := (List.getElem?_eq_some_iff.1 hcc).1
            obtain ⟨sd, scap, sg, hsv, hsd⟩ := own_shape hX.m.st
            subst hsv
            obtain rfl := hsd (by omega)
            have hii : (0 : Int) ≤ (i : Int) := by omega
            have hill : (i : Int) < (store.length : Int) := by omega
            have hneg : ¬ (i : Int) < 0 := by omega
            have t1 := row_cell pcC_len hX.m.st hcc (j := 1) (by omega) rfl
            have HS := hid (show stepM ⟨store, saved, clk⟩ o = (⟨store.set i ⟨c.key, o.val, c.present⟩, saved, clk⟩, (0, 0)) by rw [stepM_2 Hkd.out]; simp only []; rw [setv_some hf hcc])
            have f1 := hX.m.st.frozenAt (i * 3 + 1)
            have hX3 := hX.grow (set_grown W sg (i * 3 + 1) (.int .i64 o.val)) (store' := store.set i ⟨c.key, o.val, c.present⟩) (sv' := .slice (some ⟨sg, 0, none⟩) store.length scap) (by rw [List.length_set]; exact row_set pcC_len hX.m.st hcc (by omega) rfl) (.inl rfl)
            have hb4 := hB2.setCell (p := ⟨sg, i * 3 + 1, none⟩) (own_lt hX.m.st rfl).1 (.int .i64 o.val)
            obtain ⟨s0, s1, _, _⟩ := hX3.cells
            have HX3 := hid hX3
            have HB4 := hid hb4
            clear hX hX3 hB2 hb4 hf hcc
            simp only [idxI]
            go_wp2_with (first
              | (at_builtin; refine wpList_app1 rfl (.tmp 89) (.tmp 91) 25 rfl w.heap.size 37 _ 2 16 Yahh.underlying25 Yahh.info37 rfl (by decide) _ _ _ rfl (HX3.out.m.out.alloc _) W.heap.size _ _ _ rfl (alloc_new_set _ _ _ _) rfl (one2 _ _ rfl rfl) (by omega) (by decide) (by simp; omega) _ rfl ?_; intro g5 cap5 w5 hown5 hgrow5 hat5 hlt5; have hM5 := hid ((HX3.out.m.alloc _).add (r := (0, 0)) hgrow5 (by rw [resCells_snoc, List.length_append]; exact hown5)); have hb5 := hid ((HB4.out.alloc (by first | omega | (simp; omega)) _).grown hgrow5 (by simp; omega) (fun k hk => (own_lt HX3.out.m.out hk).1)); clear hgrow5 hat5 hown5))
            exact serMR_mk Hoo.out (by rw [Hst.out, HS.out]) (by rw [Hres.out, HS.out]) hlt hM5.out hb5.out
        by_cases e3 : kd = 3
        · subst e3
          have hX := SerX.init hM hsz (Obj.cells #[.int .i64 3, .int .i64 o.tx, .int .i64 o.key, .int .i64 o.val] 35) 0 0
          have hob := alloc_keep (heap_alloc_new wr (Obj.cells #[.int .i64 3, .int .i64 o.tx, .int .i64 o.key, .int .i64 o.val] 35)) (Obj.cells #[.int .i64 0, .int .i64 0] 37)
          have q2 := cell_of_row _ wr.heap.size 2 _ _ _ hob
          have q3 := cell_of_row _ wr.heap.size 3 _ _ _ hob
          simp only [List.getElem?_toArray, List.getElem?_cons_succ, List.getElem?_cons_zero] at q2 q3
          have Hob := hid hob
          have hB2 := hB1.alloc hszB (Obj.cells #[.int .i64 0, .int .i64 0] 37)
          have hz2 := hB2.size
          clear hM hbel hB1 hob
          have hcall := removeCell_any store _ hX.m.st o.key hstl
          go_wp2_with fail
          refine hcall.mono ?_
          rintro e w2 ⟨v2, rfl, how2, hb2⟩
          clear hcall
          have hX2 := hX.anew hz2 hb2 how2
          have hb3 := hid (hB2.trans (hb2.mono hz2))
          have hz3 := hb3.out.size
          obtain ⟨s0, s1, _, _⟩ := hX2.cells
          have HX2 := hid hX2
          clear hX hX2 hB2 hc0 hc1 hc2 hc3 q2 q3 hb2 how2
          go_wp2_with (first
            | (at_builtin; refine wpList_app1 rfl (.tmp 89) (.tmp 91) 25 rfl w.heap.size 37 _ 2 16 Yahh.underlying25 Yahh.info37 rfl (by decide) _ _ _ rfl (HX2.out.m.out.alloc _) w2.heap.size _ _ _ rfl (heap_alloc_new w2 _) rfl (one2 _ _ rfl rfl) (by omega) (by decide) (by simp; omega) _ rfl ?_; intro g5 cap5 w5 hown5 hgrow5 hat5 hlt5; have hM5 := hid ((HX2.out.m.alloc _).add (r := (0, 0)) hgrow5 (by rw [resCells_snoc, List.length_append]; exact hown5)); have hb5 := hid ((hb3.out.alloc (by first | omega | (simp; omega)) _).grown hgrow5 (by simp; omega) (fun k hk => (own_lt HX2.out.m.out hk).1)); clear hgrow5 hat5 hown5))
          exact serMR_mk Hoo.out (by rw [Hst.out, stepM_3 Hkd.out]) (by rw [Hres.out, stepM_3 Hkd.out]) hlt hM5.out hb5.out
        by_cases e4 : kd = 4
        · subst e4
          have hX := hid (SerX.init hM hsz (Obj.cells #[.int .i64 4, .int .i64 o.tx, .int .i64 o.key, .int .i64 o.val] 35) (0) (clk + 1))
          have hB2 := hid (hB1.alloc hszB (Obj.cells #[.int .i64 (0), .int .i64 (clk + 1)] 37))
          have hz2 := hB2.out.size
          simp only [World.size_alloc] at hz2
          clear hM hbel hB1
          go_wp2_with (first
            | (at_builtin; refine wpList_app1 rfl (.tmp 89) (.tmp 91) 25 rfl w.heap.size 37 _ 2 16 Yahh.underlying25 Yahh.info37 rfl (by decide) _ _ _ rfl (hX.out.m.out.alloc _) (wr.heap.size + 2) _ _ _ rfl (alloc3c _ _ _ _) rfl (one2 _ _ rfl rfl) (by omega) (by decide) (by simp; omega) _ rfl ?_; intro g5 cap5 w5 hown5 hgrow5 hat5 hlt5; have hM5 := hid ((hX.out.m.alloc _).add (r := (0, clk + 1)) hgrow5 (by rw [resCells_snoc, List.length_append]; exact hown5)); have hb5 := hid ((hB2.out.alloc (by first | omega | (simp; omega)) _).grown hgrow5 (by simp; omega) (fun k hk => (own_lt hX.out.m.out hk).1)); clear hgrow5 hat5 hown5))
          exact serMR_mk Hoo.out (by rw [Hst.out, stepM_4 Hkd.out]) (by rw [Hres.out, stepM_4 Hkd.out]) hlt hM5.out hb5.out
        by_cases e5 : kd = 5
        · subst e5
          have hX := SerX.init hM hsz (Obj.cells #[.int .i64 5, .int .i64 o.tx, .int .i64 o.key, .int .i64 o.val] 35) 0 0
          have hob := alloc_keep (heap_alloc_new wr (Obj.cells #[.int .i64 5, .int .i64 o.tx, .int .i64 o.key, .int .i64 o.val] 35)) (Obj.cells #[.int .i64 0, .int .i64 0] 37)
          have q2 := cell_of_row _ wr.heap.size 2 _ _ _ hob
          have q3 := cell_of_row _ wr.heap.size 3 _ _ _ hob
          simp only [List.getElem?_toArray, List.getElem?_cons_succ, List.getElem?_cons_zero] at q2 q3
          have Hob := hid hob
          have hB2 := hB1.alloc hszB (Obj.cells #[.int .i64 0, .int .i64 0] 37)
          have hz2 := hB2.size
          clear hM hbel hB1 hob
          have hcall := copyCells_any saved _ hX.m.sa hsal
          go_wp2_with fail
          refine hcall.mono ?_
          rintro e w2 ⟨v2, rfl, how2, hb2⟩
          clear hcall
          have hX2 := hX.anew hz2 hb2 how2
          have hb3 := hid (hB2.trans (hb2.mono hz2))
          have hz3 := hb3.out.size
          obtain ⟨s0, s1, _, _⟩ := hX2.cells
          have HX2 := hid hX2
          clear hX hX2 hB2 hc0 hc1 hc2 hc3 q2 q3 hb2 how2
          go_wp2_with (first
            | (at_builtin; refine wpList_app1 rfl (.tmp 89) (.tmp 91) 25 rfl w.heap.size 37 _ 2 16 Yahh.underlying25 Yahh.info37 rfl (by decide) _ _ _ rfl (HX2.out.m.out.alloc _) w2.heap.size _ _ _ rfl (heap_alloc_new w2 _) rfl (one2 _ _ rfl rfl) (by omega) (by decide) (by simp; omega) _ rfl ?_; intro g5 cap5 w5 hown5 hgrow5 hat5 hlt5; have hM5 := hid ((HX2.out.m.alloc _).add (r := (0, 0)) hgrow5 (by rw [resCells_snoc, List.length_append]; exact hown5)); have hb5 := hid ((hb3.out.alloc (by first | omega | (simp; omega)) _).grown hgrow5 (by simp; omega) (fun k hk => (own_lt HX2.out.m.out hk).1)); clear hgrow5 hat5 hown5))
          exact serMR_mk Hoo.out (by rw [Hst.out, stepM_5 Hkd.out]) (by rw [Hres.out, stepM_5 Hkd.out]) hlt hM5.out hb5.out
        have E0 := hid e0
        have E1 := hid e1
        have E2 := hid e2
        have E3 := hid e3
        have E4 := hid e4
        have E5 := hid e5
        have hX := hid (SerX.init hM hsz (Obj.cells #[.int .i64 kd, .int .i64 o.tx, .int .i64 o.key, .int .i64 o.val] 35) (2) (0))
        have hB2 := hid (hB1.alloc hszB (Obj.cells #[.int .i64 (2), .int .i64 (0)] 37))
        have hz2 := hB2.out.size
        simp only [World.size_alloc] at hz2
        clear hM hbel hB1
        go_wp2_with (first
          | (at_builtin; refine wpList_app1 rfl (.tmp 89) (.tmp 91) 25 rfl w.heap.size 37 _ 2 16 Yahh.underlying25 Yahh.info37 rfl (by decide) _ _ _ rfl (hX.out.m.out.alloc _) (wr.heap.size + 2) _ _ _ rfl (alloc3c _ _ _ _) rfl (one2 _ _ rfl rfl) (by omega) (by decide) (by simp; omega) _ rfl ?_; intro g5 cap5 w5 hown5 hgrow5 hat5 hlt5; have hM5 := hid ((hX.out.m.alloc _).add (r := (2, 0)) hgrow5 (by rw [resCells_snoc, List.length_append]; exact hown5)); have hb5 := hid ((hB2.out.alloc (by first | omega | (simp; omega)) _).grown hgrow5 (by simp; omega) (fun k hk => (own_lt hX.out.m.out hk).1)); clear hgrow5 hat5 hown5))
        exact serMR_mk Hoo.out (by rw [Hst.out, stepM_x (by rw [Hkd.out]; exact E0.out) (by rw [Hkd.out]; exact E1.out) (by rw [Hkd.out]; exact E2.out) (by rw [Hkd.out]; exact E3.out) (by rw [Hkd.out]; exact E4.out) (by rw [Hkd.out]; exact E5.out)]) (by rw [Hres.out, stepM_x (by rw [Hkd.out]; exact E0.out) (by rw [Hkd.out]; exact E1.out) (by rw [Hkd.out]; exact E2.out) (by rw [Hkd.out]; exact E3.out) (by rw [Hkd.out]; exact E4.out) (by rw [Hkd.out]; exact E5.out)]) hlt hM5.out hb5.out
      · have hst : stM ops (k + 1) = stM ops k := by simp [stM, ho, hlid]
        have hres : resM ops k = (2, 0) := by simp [resM, ho, hlid]
        have Hst := hid hst
        have Hres := hid hres
        have hlid' : (20000 : Int) ≤ (k : Int) := by omega
        have hMA := hid (fun o1 o2 => (hM.alloc o1).alloc o2)
        have hbA := hid (fun o1 o2 => (hbel.alloc hsz o1).alloc (by simp; omega) o2)
        have HM := hid hM
        clear hc hcell had ho hst hres hsm hM
        generalize hSS : stM ops k = S at *
        clear hSS
        go_wp2_with (first
          | (at_builtin; refine wpList_app1 rfl (.tmp 22) (.tmp 24) 25 rfl w.heap.size 37 _ 2 16 Yahh.underlying25 Yahh.info37 rfl (by decide) _ _ _ rfl ((hMA.out _ _).out) (wr.heap.size + 1) _ _ _ rfl (alloc2c wr _ _) rfl (one2 _ _ rfl rfl) (by omega) (by decide) (by simp; omega) _ rfl ?_; intro g5 cap5 w5 hown5 hgrow5 hat5 hlt5; have hM5 := hid ((hMA.out _ _).add (r := (2, 0)) hgrow5 (by rw [resCells_snoc, List.length_append]; exact hown5)); have hb5 := hid ((hbA.out _ _).grown hgrow5 (by simp; omega) (fun k hk => (own_lt HM.out.out hk).1)); clear hgrow5 hat5 hown5))
        exact serMR_mk Hoo.out Hst.out Hres.out hlt hM5.out hb5.out
    · obtain rfl : k = ops.length := by omega
      have hout := hM.out
      rw [← runM_len ops, List.take_length, runM_len] at hout
      clear hM
      go_wp2
      go_ret
      exact ⟨_, rfl, hout, hbel⟩
end Go.Proofs.Yafahw
