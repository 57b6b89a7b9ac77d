/- Walks: laws.opsOf (33), copyOps (32), sameOps (35), scribbleOps (36). -/
import Derived.Test.YafahwOpenIn
import Derived.Test.YafahwLawRes
namespace Go.Proofs.Yafahw
open Go.RowKit
set_option linter.unusedVariables false
attribute [local go_sem ↓] Go.wp_at_zero Go.wp_at_succ

theorem Yahh.info103 : (Yahh.prog.info? 103).map (fun i => (i.zero, i.size, i.bytes)) = some (some (.agg #[.int .i64 0, .int .i64 0, .int .i64 0, .int .i64 0]), 4, 32) := by kernel_rfl
theorem Yahh.info35c : (Yahh.prog.info? 35).map (fun i => (i.zero, i.size, i.bytes)) = some (some (.agg #[.int .i64 0, .int .i64 0, .int .i64 0, .int .i64 0]), 4, 32) := by kernel_rfl

theorem AllI.ops (rs : List POp) : AllI (opCells rs) := by
  intro j u hu
  have := List.mem_of_getElem? hu
  simp only [opCells, List.mem_flatMap] at this
  obtain ⟨r, _, hr⟩ := this
  simp at hr
  rcases hr with rfl | rfl | rfl | rfl
  · exact ⟨_, rfl⟩
  · exact ⟨_, rfl⟩
  · exact ⟨_, rfl⟩
  · exact ⟨_, rfl⟩

def OpsOfR (e : TypeId) (w : World) (rs : List POp) (ou i : Value) (wr : World) : Prop :=
  ∃ k : Nat, i = .int .i64 (k : Int) ∧ k ≤ rs.length ∧ wr.ownsRow w.heap.size e 4 ou k (opCells (rs.take k)) ∧ Below w.heap.size w wr

set_option maxHeartbeats 2000000 in
set_option maxRecDepth 100000 in
theorem opsOf_any (rs : List POp) (v : Value) (w : World) (hrow : RowAt w 4 v rs.length (opCells rs)) (hn : rs.length ≤ 100000000) :
    Calls Yahh.prog 33 #[v] w fun e w' => ∃ v', e = .returned v' ∧ w'.ownsRow w.heap.size 103 4 v' rs.length (opCells rs) ∧ Below w.heap.size w w' := by
  obtain ⟨ad, cap, b, off, rfl, hcap, _, had, hcell⟩ := hrow
  go_enter Yahh.func33, Yahh.ntmps33
  go_wp2
  go_loopw [3, 4] (fun ou i wr => OpsOfR 103 w rs ou i wr) (fun _ i _ => rs.length - (intOf i).toNat)
  case atStart => exact ⟨0, rfl, Nat.zero_le _, World.ownsRow_lit w _ 0 (Nat.le_refl _) (by decide) rfl, (Below.refl _ _).alloc (Nat.le_refl _) _⟩
  case round =>
    obtain ⟨k, rfl, hk, hown, hbel⟩ := hrel
    by_cases hlt : k < rs.length
    · obtain ⟨r, hr⟩ : ∃ r, rs[k]? = some r := ⟨_, List.getElem?_eq_getElem hlt⟩
      obtain rfl := had (by omega)
      have hc := opCells_at rs k _ hr
      have hc0 : wr.cell? ⟨b, off + k * 4, none⟩ = some (.int .i64 r.kind) := cell_below hbel (hcell _ _ hc.1)
      have hc1 : wr.cell? ⟨b, off + k * 4 + 1, none⟩ = some (.int .i64 r.tx) := cell_below hbel (by rw [Nat.add_assoc]; exact hcell _ _ hc.2.1)
      have hc2 : wr.cell? ⟨b, off + k * 4 + 2, none⟩ = some (.int .i64 r.key) := cell_below hbel (by rw [Nat.add_assoc]; exact hcell _ _ hc.2.2.1)
      have hc3 : wr.cell? ⟨b, off + k * 4 + 3, none⟩ = some (.int .i64 r.val) := cell_below hbel (by rw [Nat.add_assoc]; exact hcell _ _ hc.2.2.2)
      have HC := hid (And.intro (hcell _ _ hc.1) (And.intro (hcell _ _ hc.2.1) (And.intro (hcell _ _ hc.2.2.1) (hcell _ _ hc.2.2.2))))
      rw [← Nat.add_assoc, ← Nat.add_assoc, ← Nat.add_assoc] at HC
      have Hr := (show Hid (_ = _) from hr)
      have hsz := hbel.size
      have hk0 : (0 : Int) ≤ (k : Int) := by omega
      have hkl : (k : Int) < (rs.length : Int) := by omega
      clear hr hc hcell had
      go_wp2
      go_region_held3 (fun w' => w'.cell? ⟨b, off + k * 4, none⟩ = some (.int .i64 r.kind) ∧ w'.cell? ⟨b, off + k * 4 + 1, none⟩ = some (.int .i64 r.tx) ∧ w'.cell? ⟨b, off + k * 4 + 2, none⟩ = some (.int .i64 r.key) ∧ w'.cell? ⟨b, off + k * 4 + 3, none⟩ = some (.int .i64 r.val)) (go_keep)
        ((refine step_app1 (by rfl) (.tmp 12) (.tmp 34) 48 (by rfl) w.heap.size 103 _ 4 32 Yahh.underlying48 Yahh.info103 rfl (by decide) _ k _ (by rfl) (hown.drew.alloc _) wr.heap.size _ _ _ (by rfl) (heap_alloc_new wr.drew _) rfl (one4 _ _ _ _ rfl rfl rfl rfl) (by omega) (by decide) (by simp; omega) (wr.heap.size + 1) (by simp) ?_; intro g2 cap2 w2 hown2 hgrow2 hat2 hlt2; have hB2 : Below w.heap.size w w2 := (hbel.drew.alloc (by simp; omega) _).grown hgrow2 (by simp; omega) (fun k hk => (own_lt hown hk).1); have q0 := cell_below hB2 HC.out.1; have q1 := cell_below hB2 HC.out.2.1; have q2 := cell_below hB2 HC.out.2.2.1; have q3 := cell_below hB2 HC.out.2.2.2; clear hgrow2))
      go_wp2
      refine ⟨⟨k + 1, by go_num, by omega, ?_, hB2⟩, by simp [intOf]; omega⟩
      rw [List.take_add_one, Hr.out]
      simp only [Option.toList]
      rw [opCells_snoc]
      exact hown2
    · obtain rfl : k = rs.length := by omega
      rw [List.take_length] at hown
      go_wp2
      go_ret
      exact ⟨_, rfl, hown, hbel⟩

set_option maxHeartbeats 2000000 in
set_option maxRecDepth 100000 in
theorem sameOps_any (rs : List POp) (va vb : Value) (w : World) (ha : RowAt w 4 va rs.length (opCells rs)) (hb : RowAt w 4 vb rs.length (opCells rs)) (hn : rs.length ≤ 100000000) :
    Calls Yahh.prog 35 #[va, vb] w fun e w' => e = .returned (.bool true) ∧ Below w.heap.size w w' := by
  obtain ⟨ad, cap, b, off, rfl, hcap, _, had, hcell⟩ := ha
  obtain ⟨ad', cap', b', off', rfl, hcap', _, had', hcell'⟩ := hb
  go_enter Yahh.func35, Yahh.ntmps35
  go_wp2
  go_loopw [5] (fun i wr => CountR w rs.length i wr) (fun i _ => rs.length - (intOf i).toNat)
  case atStart => exact ⟨0, rfl, Nat.zero_le _, Below.refl _ _⟩
  case round =>
    obtain ⟨k, rfl, hk, hbel⟩ := hrel
    by_cases hlt : k < rs.length
    · obtain ⟨r, hr⟩ : ∃ r, rs[k]? = some r := ⟨_, List.getElem?_eq_getElem hlt⟩
      obtain rfl := had (by omega)
      obtain rfl := had' (by omega)
      have hc := opCells_at rs k _ hr
      have hc0 : wr.cell? ⟨b, off + k * 4, none⟩ = some (.int .i64 r.kind) := cell_below hbel (hcell _ _ hc.1)
      have hc1 : wr.cell? ⟨b, off + k * 4 + 1, none⟩ = some (.int .i64 r.tx) := cell_below hbel (by rw [Nat.add_assoc]; exact hcell _ _ hc.2.1)
      have hc2 : wr.cell? ⟨b, off + k * 4 + 2, none⟩ = some (.int .i64 r.key) := cell_below hbel (by rw [Nat.add_assoc]; exact hcell _ _ hc.2.2.1)
      have hc3 : wr.cell? ⟨b, off + k * 4 + 3, none⟩ = some (.int .i64 r.val) := cell_below hbel (by rw [Nat.add_assoc]; exact hcell _ _ hc.2.2.2)
      have hc0' : wr.cell? ⟨b', off' + k * 4, none⟩ = some (.int .i64 r.kind) := cell_below hbel (hcell' _ _ hc.1)
      have hc1' : wr.cell? ⟨b', off' + k * 4 + 1, none⟩ = some (.int .i64 r.tx) := cell_below hbel (by rw [Nat.add_assoc]; exact hcell' _ _ hc.2.1)
      have hc2' : wr.cell? ⟨b', off' + k * 4 + 2, none⟩ = some (.int .i64 r.key) := cell_below hbel (by rw [Nat.add_assoc]; exact hcell' _ _ hc.2.2.1)
      have hc3' : wr.cell? ⟨b', off' + k * 4 + 3, none⟩ = some (.int .i64 r.val) := cell_below hbel (by rw [Nat.add_assoc]; exact hcell' _ _ hc.2.2.2)
      have hk0 : (0 : Int) ≤ (k : Int) := by omega
      have hkl : (k : Int) < (rs.length : Int) := by omega
      clear hr hc hcell had hcell' had'
      go_wp2_with fail
      go_quiet (fail)
      go_wp2
      refine ⟨⟨k + 1, by go_num, by omega, below_drewN hbel _⟩, by simp [intOf]; omega⟩
    · obtain rfl : k = rs.length := by omega
      go_wp2
      go_ret
      exact ⟨rfl, hbel⟩

set_option maxHeartbeats 2000000 in
set_option maxRecDepth 100000 in
theorem copyOps_any (rs : List POp) (v : Value) (w : World) (hrow : RowAt w 4 v rs.length (opCells rs)) (hn : rs.length ≤ 100000000) :
    Calls Yahh.prog 32 #[v] w fun e w' => e = .returned (.slice (some ⟨w.heap.size, 0, none⟩) rs.length rs.length) ∧ w'.ownsRow w.heap.size 35 4 (.slice (some ⟨w.heap.size, 0, none⟩) rs.length rs.length) rs.length (opCells rs) ∧ Below w.heap.size w w' := by
  obtain ⟨i0, hi, hz0, hz1, hz2⟩ := info_eq Yahh.info35c
  obtain ⟨ad, cap, b, off, rfl, hcap, hlen, had, hcell⟩ := hrow
  go_enter Yahh.func32, Yahh.ntmps32
  go_wp2_with (at_make; refine wpList_make_full _ rfl (.tmp 6) (.tmp 6) 23 rfl w.heap.size 35 i0 _ 4 Yahh.underlying23 hi hz0 hz1 .i64 .i64 _ _ rs.length rfl rfl rfl rfl (by rw [hz2]; omega) (by unfold maxLen; omega) (Nat.le_refl _) ?_; intro w1 hown1 hgrow1)
  go_loopw [4] (fun i wr => FillR 35 4 w rs.length (opCells rs) i wr) (fun i _ => rs.length - (intOf i).toNat)
  case atStart => exact ⟨0, _, rfl, Nat.zero_le _, fun j hj => by omega, hown1, (Below.refl _ _).grown hgrow1 (Nat.le_refl _) (fun k hk => by cases hk)⟩
  case round =>
    obtain ⟨k, xs, rfl, hk, hag, hown, hbel⟩ := hrel
    by_cases hlt : k < rs.length
    · obtain ⟨r, hr⟩ : ∃ r, rs[k]? = some r := ⟨_, List.getElem?_eq_getElem hlt⟩
      obtain rfl := had (by omega)
      have hc := opCells_at rs k _ hr
      have hxl : xs.length = rs.length * 4 := hown.1
      have hc0 : wr.cell? ⟨b, off + k * 4, none⟩ = some (.int .i64 r.kind) := cell_below hbel (hcell _ _ hc.1)
      have ht0 := hown.cellAt (k * 4) (by omega)
      have hf0 := hown.frozenAt (k * 4)
      rw [List.getElem?_eq_getElem (by (try simp only [List.length_set]); omega)] at ht0
      have hs0 := hown.stored (k * 4) (.int .i64 r.kind)
      have ho0 := hs0.1
      have hbel0 : Below w.heap.size w (wr.setCell ⟨w.heap.size, k * 4, none⟩ (.int .i64 r.kind)) := hbel.setCell (Nat.le_refl _) _
      have hag0 := agree_set hag hc.1 (by (try simp only [List.length_set]); omega)
      have hc1 : (wr.setCell ⟨w.heap.size, k * 4, none⟩ (.int .i64 r.kind)).cell? ⟨b, off + k * 4 + 1, none⟩ = some (.int .i64 r.tx) := cell_below hbel0 (by rw [Nat.add_assoc]; exact hcell _ _ hc.2.1)
      have ht1 := ho0.cellAt (k * 4 + 1) (by omega)
      have hf1 := ho0.frozenAt (k * 4 + 1)
      rw [List.getElem?_eq_getElem (by (try simp only [List.length_set]); omega)] at ht1
      have hs1 := ho0.stored (k * 4 + 1) (.int .i64 r.tx)
      have ho1 := hs1.1
      have hbel1 : Below w.heap.size w ((wr.setCell ⟨w.heap.size, k * 4, none⟩ (.int .i64 r.kind)).setCell ⟨w.heap.size, k * 4 + 1, none⟩ (.int .i64 r.tx)) := hbel0.setCell (Nat.le_refl _) _
      have hag1 := agree_set hag0 hc.2.1 (by (try simp only [List.length_set]); omega)
      have hc2 : ((wr.setCell ⟨w.heap.size, k * 4, none⟩ (.int .i64 r.kind)).setCell ⟨w.heap.size, k * 4 + 1, none⟩ (.int .i64 r.tx)).cell? ⟨b, off + k * 4 + 2, none⟩ = some (.int .i64 r.key) := cell_below hbel1 (by rw [Nat.add_assoc]; exact hcell _ _ hc.2.2.1)
      have ht2 := ho1.cellAt (k * 4 + 2) (by omega)
      have hf2 := ho1.frozenAt (k * 4 + 2)
      rw [List.getElem?_eq_getElem (by (try simp only [List.length_set]); omega)] at ht2
      have hs2 := ho1.stored (k * 4 + 2) (.int .i64 r.key)
      have ho2 := hs2.1
      have hbel2 : Below w.heap.size w (((wr.setCell ⟨w.heap.size, k * 4, none⟩ (.int .i64 r.kind)).setCell ⟨w.heap.size, k * 4 + 1, none⟩ (.int .i64 r.tx)).setCell ⟨w.heap.size, k * 4 + 2, none⟩ (.int .i64 r.key)) := hbel1.setCell (Nat.le_refl _) _
      have hag2 := agree_set hag1 hc.2.2.1 (by (try simp only [List.length_set]); omega)
      have hc3 : (((wr.setCell ⟨w.heap.size, k * 4, none⟩ (.int .i64 r.kind)).setCell ⟨w.heap.size, k * 4 + 1, none⟩ (.int .i64 r.tx)).setCell ⟨w.heap.size, k * 4 + 2, none⟩ (.int .i64 r.key)).cell? ⟨b, off + k * 4 + 3, none⟩ = some (.int .i64 r.val) := cell_below hbel2 (by rw [Nat.add_assoc]; exact hcell _ _ hc.2.2.2)
      have ht3 := ho2.cellAt (k * 4 + 3) (by omega)
      have hf3 := ho2.frozenAt (k * 4 + 3)
      rw [List.getElem?_eq_getElem (by (try simp only [List.length_set]); omega)] at ht3
      have hs3 := ho2.stored (k * 4 + 3) (.int .i64 r.val)
      have ho3 := hs3.1
      have hbel3 : Below w.heap.size w ((((wr.setCell ⟨w.heap.size, k * 4, none⟩ (.int .i64 r.kind)).setCell ⟨w.heap.size, k * 4 + 1, none⟩ (.int .i64 r.tx)).setCell ⟨w.heap.size, k * 4 + 2, none⟩ (.int .i64 r.key)).setCell ⟨w.heap.size, k * 4 + 3, none⟩ (.int .i64 r.val)) := hbel2.setCell (Nat.le_refl _) _
      have hag3 := agree_set hag2 hc.2.2.2 (by (try simp only [List.length_set]); omega)
      have Hag := hid hag3
      have Hown := hid ho3
      have Hbel := hid hbel3
      clear hr hc hcell had hs0 hs1 hs2 hs3 hag hag0 hag1 hag2 hag3 ho0 ho1 ho2 ho3 hbel0 hbel1 hbel2 hbel3
      go_wp2
      refine ⟨⟨k + 1, _, by go_num, by omega, fun j hj => Hag.out j (by omega), Hown.out, Hbel.out⟩, by simp [intOf]; omega⟩
    · obtain rfl : k = rs.length := by omega
      have hx := agree_all (xs := xs) (C := opCells rs) (by rw [opCells_len]; exact hag) (by rw [opCells_len]; exact hown.1)
      subst hx
      go_wp2
      go_ret
      exact ⟨rfl, hown, hbel⟩

set_option maxHeartbeats 2000000 in
set_option maxRecDepth 100000 in
theorem scribbleOps_any (B g n cap : Nat) (xs : List Value) (w : World) (hown : w.ownsRow B 35 4 (.slice (some ⟨g, 0, none⟩) n cap) n xs) (hx : AllI xs) (hn : n ≤ 100000000) :
    Calls Yahh.prog 36 #[.slice (some ⟨g, 0, none⟩) n cap] w fun e w' => e = .returned (.tuple #[]) ∧ w.grownBy w' (some g) := by
  go_enter Yahh.func36, Yahh.ntmps36
  go_wp2
  go_loopw [2] (fun i wr => ScribR B 35 4 g n cap w i wr) (fun i _ => n - (intOf i).toNat)
  case atStart => exact ⟨0, xs, rfl, Nat.zero_le _, hx, hown, World.grownBy.refl _ _⟩
  case round =>
    clear hown hx
    obtain ⟨k, xs, rfl, hk, hx, hown, hgr⟩ := hrel
    by_cases hlt : k < n
    · have hkn : k * 4 + 3 < n * 4 := by omega
      have hxl : xs.length = n * 4 := hown.1
      obtain ⟨c0, hc0⟩ := hx.at (k * 4) (by omega)
      have hq0 := hown.cellAt (k * 4) (by omega)
      rw [hc0] at hq0
      have hf0 := hown.frozenAt (k * 4)
      obtain ⟨c1, hc1⟩ := hx.at (k * 4 + 1) (by omega)
      have hq1 := hown.cellAt (k * 4 + 1) (by omega)
      rw [hc1] at hq1
      have hf1 := hown.frozenAt (k * 4 + 1)
      obtain ⟨c2, hc2⟩ := hx.at (k * 4 + 2) (by omega)
      have hq2 := hown.cellAt (k * 4 + 2) (by omega)
      rw [hc2] at hq2
      have hf2 := hown.frozenAt (k * 4 + 2)
      obtain ⟨c3, hc3⟩ := hx.at (k * 4 + 3) (by omega)
      have hq3 := hown.cellAt (k * 4 + 3) (by omega)
      rw [hc3] at hq3
      have hf3 := hown.frozenAt (k * 4 + 3)
      have hs0 := hown.stored (k * 4) (.int .i64 (bits BinOp.xor IntKind.i64 (-1) c0))
      have ho0 := hs0.1
      have hx0 := hx.set (k * 4) (bits BinOp.xor IntKind.i64 (-1) c0)
      have hs1 := ho0.stored (k * 4 + 1) (.int .i64 (bits BinOp.xor IntKind.i64 (-1) c1))
      have ho1 := hs1.1
      have hx1 := hx0.set (k * 4 + 1) (bits BinOp.xor IntKind.i64 (-1) c1)
      have hs2 := ho1.stored (k * 4 + 2) (.int .i64 (bits BinOp.xor IntKind.i64 (-1) c2))
      have ho2 := hs2.1
      have hx2 := hx1.set (k * 4 + 2) (bits BinOp.xor IntKind.i64 (-1) c2)
      have hs3 := ho2.stored (k * 4 + 3) (.int .i64 (bits BinOp.xor IntKind.i64 (-1) c3))
      have ho3 := hs3.1
      have hx3 := hx2.set (k * 4 + 3) (bits BinOp.xor IntKind.i64 (-1) c3)
      have HX := hid hx3
      have HO := hid ho3
      have HG := hid (grown_trans (grown_trans (grown_trans (grown_trans hgr hs0.2) hs1.2) hs2.2) hs3.2)
      clear hc0 hc1 hc2 hc3 hs0 hs1 hs2 hs3 hx hx0 hx1 hx2 hx3 ho0 ho1 ho2 ho3
      go_wp2
      refine ⟨⟨k + 1, _, by go_num, by omega, HX.out, HO.out, HG.out⟩, by simp [intOf]; omega⟩
    · obtain rfl : k = n := by omega
      go_wp2
      go_end0
      exact ⟨rfl, hgr⟩
end Go.Proofs.Yafahw
