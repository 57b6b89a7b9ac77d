/- Walk: spec.Final (21). -/
import Derived.Test.YafahwSorted
import Derived.Test.YafahwRunS
import Derived.Test.YafahwFinI
namespace Go.Proofs.Yafahw
open Go.RowKit
set_option linter.unusedVariables false
set_option linter.unusedSimpArgs false
attribute [local go_sem ↓] Go.wp_at_zero Go.wp_at_succ

theorem replay_len (log : List CR) (h : ∀ c ∈ log, c.writes.length ≤ 20000) : (replay log).length ≤ log.length * 20000 := by
  revert h
  refine snoc_induct (p := fun log => (∀ c ∈ log, c.writes.length ≤ 20000) → (replay log).length ≤ log.length * 20000) ?_ ?_ log
  · intro _; simp [replay]
  · intro l c ih h
    have h1 := ih (fun d hd => h d (by simp [hd]))
    have h2 := h c (by simp)
    have h3 := foldl_repl_len c.writes (replay l)
    rw [replay_snoc, List.length_append, List.length_cons, List.length_nil]
    omega

def FinWR (w : World) (ops : List POp) (i : Value) (wr : World) : Prop :=
  ∃ k : Nat, i = .int .i64 (k : Int) ∧ k ≤ lidN ops ∧ WldAt w.heap.size wr w.heap.size (stS ops k) ∧ Below w.heap.size w wr
def FinLogR (W : World) (log : List CR) (ou i : Value) (wr : World) : Prop :=
  ∃ k : Nat, i = .int .i64 (k : Int) ∧ k ≤ log.length ∧ wr.ownsRow W.heap.size 94 3 ou (replay (log.take k)).length (pcCells (replay (log.take k))) ∧ Keep W.heap.size [94] W wr

set_option maxHeartbeats 8000000 in
set_option maxRecDepth 100000 in
theorem finalS_any (ops : List POp) (v : Value) (w : World) (hrow : RowAt w 4 v ops.length (opCells ops)) (hn : ops.length ≤ 100000000) :
    Calls Yahh.prog 21 #[v] w fun e w' => ∃ (v' : Value) (l : List (Int × Int)), e = .returned v' ∧ w'.ownsRow w.heap.size 43 2 v' l.length (resCells l) ∧ l.length ≤ 400000000 ∧ FinOf (lookS (stS ops (lidN ops)).log) l ∧ Below w.heap.size w w' := by
  obtain ⟨ad, cap, b, off, rfl, hcap, hlen, had, hcell⟩ := hrow
  have hs0 := hid (wld_init w)
  go_enter Yahh.func21, Yahh.ntmps21
  go_wp2
  go_loopw [11] (fun i wr => FinWR w ops i wr) (fun i _ => ops.length - (intOf i).toNat)
  case atStart => exact ⟨0, rfl, Nat.zero_le _, hs0.out, (Below.refl _ _).alloc (Nat.le_refl _) _⟩
  case round =>
    clear hs0
    obtain ⟨k, rfl, hk, hsto, hbel⟩ := hrel
    have hsz := hbel.size
    have hcells : k < ops.length → ∃ o, ops[k]? = some o ∧ ad = some ⟨b, off, none⟩ ∧ wr.cell? ⟨b, off + k * 4, none⟩ = some (.int .i64 o.kind) ∧ wr.cell? ⟨b, off + k * 4 + 1, none⟩ = some (.int .i64 o.tx) ∧ wr.cell? ⟨b, off + k * 4 + 2, none⟩ = some (.int .i64 o.key) ∧ wr.cell? ⟨b, off + k * 4 + 3, none⟩ = some (.int .i64 o.val) := by
      intro hlt1
      obtain ⟨o, ho⟩ : ∃ r, ops[k]? = some r := ⟨_, List.getElem?_eq_getElem hlt1⟩
      have hc := opCells_at ops k _ ho
      exact ⟨o, ho, had (by omega), cell_below hbel (hcell _ _ hc.1), cell_below hbel (by rw [Nat.add_assoc]; exact hcell _ _ hc.2.1), cell_below hbel (by rw [Nat.add_assoc]; exact hcell _ _ hc.2.2.1), cell_below hbel (by rw [Nat.add_assoc]; exact hcell _ _ hc.2.2.2)⟩
    clear hcell had
    have hk0 : (0 : Int) ≤ (k : Int) := by omega
    by_cases hlt : k < lidN ops
    · have hlt1 : k < ops.length := by unfold lidN at hlt; omega
      have hlt2 : k < 20000 := by unfold lidN at hlt; omega
      obtain ⟨o, ho, rfl, hc0, hc1, hc2, hc3⟩ := hcells hlt1
      have hkl : (k : Int) < (ops.length : Int) := by omega
      have hlid' : ¬ (20000 : Int) ≤ (k : Int) := by omega
      have hst : stS ops (k + 1) = (stepS (stS ops k) o).1 := by simp [stS, ho, hlt2]
      have hcall := stepS_any (hsto.alloc (Obj.cells #[.int .i64 o.kind, .int .i64 o.tx, .int .i64 o.key, .int .i64 o.val] 35)) (by simp; omega) ((smallW_st ops k).mono (by omega)) o
      have Hst := hid hst
      clear hst ho hcells
      unfold opV resV at hcall
      go_wp2_with fail
      refine hcall.mono ?_
      rintro e w2 ⟨rfl, hsto2, hkeep⟩
      clear hcall
      have hbel2 : Below w.heap.size w w2 := (hbel.alloc hsz _).trans hkeep.below
      clear hc0 hc1 hc2 hc3 hsto
      go_wp2
      exact ⟨⟨k + 1, by go_num, by omega, by rw [Hst.out]; exact hsto2, hbel2⟩, by simp [intOf]; omega⟩
    · obtain rfl : k = lidN ops := by omega
      have hsm := (smallW_st ops (lidN ops)).mono (m := 20000) (by omega)
      have hll : ops.length ≤ lidN ops ∨ (lidN ops < ops.length ∧ 20000 ≤ lidN ops) := by unfold lidN; omega
      generalize hN : lidN ops = N at *
      have HN := hid hN
      clear hN hk hlt
      have hlog20 : (stS ops N).log.length ≤ 20000 := hsm.log
      have Hwr := hid hsm.wr
      clear hsm
      generalize hSS : stS ops N = S at *
      have HSS := hid hSS
      clear hSS
      rcases hll with hA | ⟨hA, hA2⟩
      · have hcond : ¬ (N : Int) < (ops.length : Int) := by omega
        clear hcells
        generalize hWW : wr = W at *
        clear hWW
        obtain ⟨tv, lv, ct, cl, h, h1, h2⟩ := hsto
        have c1 := h.c1
        have hlog := h.log
        have hlws := hid h.lws
        obtain ⟨ld, lcap, lg, rfl, hld⟩ := own_shape hlog
        clear h h1
        go_wp2
        have H2 := hid h2
        rw [← h2] at hlog20
        have Hwr2 : Hid (∀ c ∈ cl.map (·.1), c.writes.length ≤ 20000) := by rw [h2]; exact Hwr
        clear h2 Hwr
        go_loopw [6, 24] (fun ou i wr => FinLogR W (cl.map (·.1)) ou i wr) (fun _ i _ => cl.length - (intOf i).toNat)
        case atStart => exact ⟨0, rfl, Nat.zero_le _, ⟨rfl, .inl ⟨rfl, rfl⟩⟩, Keep.refl _ _ _⟩
        case round =>
          rename World => W1
          obtain ⟨k, rfl, hk, how, hkeep⟩ := hrel
          rw [List.length_map] at hk
          have hszW := hkeep.below.size
          by_cases hlt : k < cl.length
          · obtain ⟨⟨x, xv⟩, hx⟩ : ∃ p, cl[k]? = some p := ⟨_, List.getElem?_eq_getElem hlt⟩
            obtain rfl := hld (by omega)
            have hlog1 := hkeep.own hlog (by decide)
            have q0 := row_cell crC_len hlog1 hx (j := 0) (by omega) rfl
            have q1 := row_cell crC_len hlog1 hx (j := 1) (by omega) rfl
            rw [Nat.add_zero] at q0
            have hws := hkeep.own (hlws.out k _ hx) (by decide)
            obtain ⟨xd, xcap, xg, hxv, hxd⟩ := own_shape hws
            simp only [] at hxv
            subst hxv
            clear hxd
            have hxm : (cl.map (·.1))[k]? = some x := by rw [List.getElem?_map, hx]; rfl
            have hxl : x.writes.length ≤ 20000 := Hwr2.out x (List.mem_of_getElem? hxm)
            have hrl : (replay ((cl.map (·.1)).take k)).length ≤ k * 20000 := by
              have h1 := replay_len ((cl.map (·.1)).take k) (fun c hc => Hwr2.out c (List.mem_of_mem_take hc))
              have h2 : ((cl.map (·.1)).take k).length ≤ k := by rw [List.length_take]; omega
              exact Nat.le_trans h1 (Nat.mul_le_mul_right _ h2)
            have hk20 : k < 20000 := by rw [List.length_map] at hlog20; omega
            have hsn : replay ((cl.map (·.1)).take (k + 1)) = x.writes.foldl repl (replay ((cl.map (·.1)).take k)) := by
              rw [List.take_add_one, hxm]; exact replay_snoc _ _
            have Hsn := hid hsn
            have hk0 : (0 : Int) ≤ (k : Int) := by omega
            have hkl : (k : Int) < (cl.length : Int) := by omega
            have hcall := replay_any (replay ((cl.map (·.1)).take k)) x.writes _ (.slice xd x.writes.length xcap) (B := W.heap.size) (w := W1.alloc (Obj.cells #[.int .i64 x.ts, .slice xd x.writes.length xcap] 86)) (by simp; omega) (how.alloc _) (hws.alloc _) (by omega)
            have hkeep1 := hid (hkeep.alloc hszW (Obj.cells #[.int .i64 x.ts, .slice xd x.writes.length xcap] 86))
            clear hx hxm hsn hlog1 hws how hkeep
            go_wp2_with fail
            refine hcall.mono ?_
            rintro e w2 ⟨v2, rfl, how2, hkeep2⟩
            clear hcall q0 q1
            have Hkeep2 := hid hkeep2
            clear hkeep2
            go_wp2
            exact ⟨⟨k + 1, by go_num, by rw [List.length_map]; omega, by rw [Hsn.out]; exact how2, hkeep1.out.trans Hkeep2.out⟩, by simp [intOf]; omega⟩
          · obtain rfl : k = cl.length := by omega
            rw [show (cl.map (·.1)).take cl.length = cl.map (·.1) from List.take_of_length_le (by simp)] at how
            have hrl : (replay (cl.map (·.1))).length ≤ 400000000 := by
              have := replay_len (cl.map (·.1)) Hwr2.out
              rw [List.length_map] at this hlog20
              have : cl.length * 20000 ≤ 20000 * 20000 := Nat.mul_le_mul_right _ hlog20
              omega
            have hcall := sortedCells_any (replay (cl.map (·.1))) _ how (nodup_replay _) hrl
            clear how
            go_wp2_with fail
            refine hcall.mono ?_
            rintro e w2 ⟨v2, l, rfl, how2, hl2, hfin, hbel3⟩
            clear hcall
            have Hfin := hid hfin
            clear hfin
            go_wp2
            go_ret
            exact ⟨_, l, rfl, own_mono how2 (by omega), hl2, by rw [HN.out, HSS.out, ← H2.out]; exact Hfin.out, hbel.trans (((hkeep.below).mono hsz).trans (hbel3.mono (by omega)))⟩
      · have hcond : (N : Int) < (ops.length : Int) := by omega
        have hcond2 : (20000 : Int) ≤ (N : Int) := by omega
        obtain ⟨o, ho, rfl, hc0, hc1, hc2, hc3⟩ := hcells hA
        have hsto2 := hsto.alloc (Obj.cells #[.int .i64 o.kind, .int .i64 o.tx, .int .i64 o.key, .int .i64 o.val] 35)
        have hbelA := hbel.alloc hsz (Obj.cells #[.int .i64 o.kind, .int .i64 o.tx, .int .i64 o.key, .int .i64 o.val] 35)
        have hszA : w.heap.size ≤ (wr.alloc (Obj.cells #[.int .i64 o.kind, .int .i64 o.tx, .int .i64 o.key, .int .i64 o.val] 35)).heap.size := hbelA.size
        obtain ⟨tv, lv, ct, cl, h, h1, h2⟩ := hsto2
        have c1 := h.c1
        have hlog := h.log
        have hlws := hid h.lws
        obtain ⟨ld, lcap, lg, rfl, hld⟩ := own_shape hlog
        clear h h1 hcells ho hsto hbel hsz
        have hbel := hbelA
        have hsz := hszA
        clear hbelA hszA
        go_wp2
        generalize hW : wr.alloc (Obj.cells #[.int .i64 o.kind, .int .i64 o.tx, .int .i64 o.key, .int .i64 o.val] 35) = W at *
        clear hW hc0 hc1 hc2 hc3
        have H2 := hid h2
        rw [← h2] at hlog20
        have Hwr2 : Hid (∀ c ∈ cl.map (·.1), c.writes.length ≤ 20000) := by rw [h2]; exact Hwr
        clear h2 Hwr
        go_loopw [6, 24] (fun ou i wr => FinLogR W (cl.map (·.1)) ou i wr) (fun _ i _ => cl.length - (intOf i).toNat)
        case atStart => exact ⟨0, rfl, Nat.zero_le _, ⟨rfl, .inl ⟨rfl, rfl⟩⟩, Keep.refl _ _ _⟩
        case round =>
          rename World => W1
          obtain ⟨k, rfl, hk, how, hkeep⟩ := hrel
          rw [List.length_map] at hk
          have hszW := hkeep.below.size
          by_cases hlt : k < cl.length
          · obtain ⟨⟨x, xv⟩, hx⟩ : ∃ p, cl[k]? = some p := ⟨_, List.getElem?_eq_getElem hlt⟩
            obtain rfl := hld (by omega)
            have hlog1 := hkeep.own hlog (by decide)
            have q0 := row_cell crC_len hlog1 hx (j := 0) (by omega) rfl
            have q1 := row_cell crC_len hlog1 hx (j := 1) (by omega) rfl
            rw [Nat.add_zero] at q0
            have hws := hkeep.own (hlws.out k _ hx) (by decide)
            obtain ⟨xd, xcap, xg, hxv, hxd⟩ := own_shape hws
            simp only [] at hxv
            subst hxv
            clear hxd
            have hxm : (cl.map (·.1))[k]? = some x := by rw [List.getElem?_map, hx]; rfl
            have hxl : x.writes.length ≤ 20000 := Hwr2.out x (List.mem_of_getElem? hxm)
            have hrl : (replay ((cl.map (·.1)).take k)).length ≤ k * 20000 := by
              have h1 := replay_len ((cl.map (·.1)).take k) (fun c hc => Hwr2.out c (List.mem_of_mem_take hc))
              have h2 : ((cl.map (·.1)).take k).length ≤ k := by rw [List.length_take]; omega
              exact Nat.le_trans h1 (Nat.mul_le_mul_right _ h2)
            have hk20 : k < 20000 := by rw [List.length_map] at hlog20; omega
            have hsn : replay ((cl.map (·.1)).take (k + 1)) = x.writes.foldl repl (replay ((cl.map (·.1)).take k)) := by
              rw [List.take_add_one, hxm]; exact replay_snoc _ _
            have Hsn := hid hsn
            have hk0 : (0 : Int) ≤ (k : Int) := by omega
            have hkl : (k : Int) < (cl.length : Int) := by omega
            have hcall := replay_any (replay ((cl.map (·.1)).take k)) x.writes _ (.slice xd x.writes.length xcap) (B := W.heap.size) (w := W1.alloc (Obj.cells #[.int .i64 x.ts, .slice xd x.writes.length xcap] 86)) (by simp; omega) (how.alloc _) (hws.alloc _) (by omega)
            have hkeep1 := hid (hkeep.alloc hszW (Obj.cells #[.int .i64 x.ts, .slice xd x.writes.length xcap] 86))
            clear hx hxm hsn hlog1 hws how hkeep
            go_wp2_with fail
            refine hcall.mono ?_
            rintro e w2 ⟨v2, rfl, how2, hkeep2⟩
            clear hcall q0 q1
            have Hkeep2 := hid hkeep2
            clear hkeep2
            go_wp2
            exact ⟨⟨k + 1, by go_num, by rw [List.length_map]; omega, by rw [Hsn.out]; exact how2, hkeep1.out.trans Hkeep2.out⟩, by simp [intOf]; omega⟩
          · obtain rfl : k = cl.length := by omega
            rw [show (cl.map (·.1)).take cl.length = cl.map (·.1) from List.take_of_length_le (by simp)] at how
            have hrl : (replay (cl.map (·.1))).length ≤ 400000000 := by
              have := replay_len (cl.map (·.1)) Hwr2.out
              rw [List.length_map] at this hlog20
              have : cl.length * 20000 ≤ 20000 * 20000 := Nat.mul_le_mul_right _ hlog20
              omega
            have hcall := sortedCells_any (replay (cl.map (·.1))) _ how (nodup_replay _) hrl
            clear how
            go_wp2_with fail
            refine hcall.mono ?_
            rintro e w2 ⟨v2, l, rfl, how2, hl2, hfin, hbel3⟩
            clear hcall
            have Hfin := hid hfin
            clear hfin
            go_wp2
            go_ret
            exact ⟨_, l, rfl, own_mono how2 (by omega), hl2, by rw [HN.out, HSS.out, ← H2.out]; exact Hfin.out, hbel.trans (((hkeep.below).mono hsz).trans (hbel3.mono (by omega)))⟩
end Go.Proofs.Yafahw
