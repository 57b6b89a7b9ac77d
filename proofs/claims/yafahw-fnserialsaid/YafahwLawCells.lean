/- Walks: laws.cellsOf (38), sameCells (39), scribbleCells (40), spec.EqualCells (19). -/
import Derived.Test.YafahwLawRes
namespace Go.Proofs.Yafahw
open Go.RowKit
set_option linter.unusedVariables false
attribute [local go_sem ↓] Go.wp_at_zero Go.wp_at_succ

theorem Yahh.info104 : (Yahh.prog.info? 104).map (fun i => (i.zero, i.size, i.bytes)) = some (some (.agg #[.int .i64 0, .int .i64 0]), 2, 16) := by kernel_rfl
theorem Yahh.info43 : (Yahh.prog.info? 43).map (fun i => (i.zero, i.size, i.bytes)) = some (some (.agg #[.int .i64 0, .int .i64 0]), 2, 16) := by kernel_rfl

set_option maxHeartbeats 1000000 in
set_option maxRecDepth 100000 in
theorem cellsOf_any (rs : List (Int × Int)) (v : Value) (w : World) (hrow : RowAt w 2 v rs.length (resCells rs)) (hn : rs.length ≤ 400000000) :
    Calls Yahh.prog 38 #[v] w fun e w' => ∃ v', e = .returned v' ∧ w'.ownsRow w.heap.size 104 2 v' rs.length (resCells rs) ∧ Below w.heap.size w w' := by
  obtain ⟨ad, cap, b, off, rfl, hcap, _, had, hcell⟩ := hrow
  go_enter Yahh.func38, Yahh.ntmps38
  go_wp2
  go_loopw [3, 4] (fun ou i wr => ResOfR 104 w rs ou i wr) (fun _ i _ => rs.length - (intOf i).toNat)
  case atStart => exact ⟨0, rfl, Nat.zero_le _, World.ownsRow_lit w _ 0 (Nat.le_refl _) (by decide) rfl, (Below.refl _ _).alloc (Nat.le_refl _) _⟩
  case round =>
    obtain ⟨k, rfl, hk, hown, hbel⟩ := hrel
    by_cases hlt : k < rs.length
    · obtain ⟨⟨c, x⟩, hr⟩ : ∃ r, rs[k]? = some r := ⟨_, List.getElem?_eq_getElem hlt⟩
      obtain rfl := had (by omega)
      have hc := resCells_at rs k _ hr
      have hc0 : wr.cell? ⟨b, off + k * 2, none⟩ = some (.int .i64 c) := cell_below hbel (hcell _ _ hc.1)
      have hc1 : wr.cell? ⟨b, off + k * 2 + 1, none⟩ = some (.int .i64 x) := cell_below hbel (by rw [Nat.add_assoc]; exact hcell _ _ hc.2)
      have HC := hid (And.intro (hcell _ _ hc.1) (hcell _ _ hc.2))
      rw [← Nat.add_assoc] at HC
      have Hr := (show Hid (_ = _) from hr)
      have hsz := hbel.size
      have hk0 : (0 : Int) ≤ (k : Int) := by omega
      have hkl : (k : Int) < (rs.length : Int) := by omega
      clear hr hc hcell had
      go_wp2
      go_region_held3 (fun w' => w'.cell? ⟨b, off + k * 2, none⟩ = some (.int .i64 c) ∧ w'.cell? ⟨b, off + k * 2 + 1, none⟩ = some (.int .i64 x)) (go_keep)
        ((refine step_app1 (by rfl) (.tmp 12) (.tmp 24) 55 (by rfl) w.heap.size 104 _ 2 16 Yahh.underlying55 Yahh.info104 rfl (by decide) _ k _ (by rfl) (hown.drew.alloc _) wr.heap.size _ _ _ (by rfl) (heap_alloc_new wr.drew _) rfl (one2 _ _ rfl rfl) (by omega) (by decide) (by simp; omega) (wr.heap.size + 1) (by simp) ?_; intro g2 cap2 w2 hown2 hgrow2 hat2 hlt2; have hB2 : Below w.heap.size w w2 := (hbel.drew.alloc (by simp; omega) _).grown hgrow2 (by simp; omega) (fun k hk => (own_lt hown hk).1); have q0 := cell_below hB2 HC.out.1; have q1 := cell_below hB2 HC.out.2; clear hgrow2))
      go_wp2
      refine ⟨⟨k + 1, by go_num, by omega, ?_, hB2⟩, by simp [intOf]; omega⟩
      rw [List.take_add_one, Hr.out]
      simp only [Option.toList]
      rw [resCells_snoc]
      exact hown2
    · obtain rfl : k = rs.length := by omega
      rw [List.take_length] at hown
      go_wp2
      go_ret
      exact ⟨_, rfl, hown, hbel⟩


set_option maxHeartbeats 1000000 in
set_option maxRecDepth 100000 in
theorem sameCells_any (rs : List (Int × Int)) (va vb : Value) (w : World) (ha : RowAt w 2 va rs.length (resCells rs)) (hb : RowAt w 2 vb rs.length (resCells rs)) (hn : rs.length ≤ 400000000) :
    Calls Yahh.prog 39 #[va, vb] w fun e w' => e = .returned (.bool true) ∧ Below w.heap.size w w' := by
  obtain ⟨ad, cap, b, off, rfl, hcap, _, had, hcell⟩ := ha
  obtain ⟨ad', cap', b', off', rfl, hcap', _, had', hcell'⟩ := hb
  go_enter Yahh.func39, Yahh.ntmps39
  go_wp2
  go_loopw [5] (fun i wr => CountR w rs.length i wr) (fun i _ => rs.length - (intOf i).toNat)
  case atStart => exact ⟨0, rfl, Nat.zero_le _, Below.refl _ _⟩
  case round =>
    obtain ⟨k, rfl, hk, hbel⟩ := hrel
    by_cases hlt : k < rs.length
    · obtain ⟨⟨c, x⟩, hr⟩ : ∃ r, rs[k]? = some r := ⟨_, List.getElem?_eq_getElem hlt⟩
      obtain rfl := had (by omega)
      obtain rfl := had' (by omega)
      have hc := resCells_at rs k _ hr
      have hc0 : wr.cell? ⟨b, off + k * 2, none⟩ = some (.int .i64 c) := cell_below hbel (hcell _ _ hc.1)
      have hc1 : wr.cell? ⟨b, off + k * 2 + 1, none⟩ = some (.int .i64 x) := cell_below hbel (by rw [Nat.add_assoc]; exact hcell _ _ hc.2)
      have hc0' : wr.cell? ⟨b', off' + k * 2, none⟩ = some (.int .i64 c) := cell_below hbel (hcell' _ _ hc.1)
      have hc1' : wr.cell? ⟨b', off' + k * 2 + 1, none⟩ = some (.int .i64 x) := cell_below hbel (by rw [Nat.add_assoc]; exact hcell' _ _ hc.2)
      have hk0 : (0 : Int) ≤ (k : Int) := by omega
      have hkl : (k : Int) < (rs.length : Int) := by omega
      clear hr hc hcell had hcell' had'
      go_wp2_with fail
      go_quiet (fail)
      go_wp2
      refine ⟨⟨k + 1, by go_num, by omega, below_drewN hbel _⟩, by simp [intOf]; omega⟩
    · obtain rfl : k = rs.length := by omega
      go_wp2
      go_ret
      exact ⟨rfl, hbel⟩


set_option maxHeartbeats 1000000 in
set_option maxRecDepth 100000 in
theorem scribbleCells_any (B g n cap : Nat) (xs : List Value) (w : World) (hown : w.ownsRow B 43 2 (.slice (some ⟨g, 0, none⟩) n cap) n xs) (hx : AllI xs) (hn : n ≤ 400000000) :
    Calls Yahh.prog 40 #[.slice (some ⟨g, 0, none⟩) n cap] w fun e w' => e = .returned (.tuple #[]) ∧ w.grownBy w' (some g) := by
  go_enter Yahh.func40, Yahh.ntmps40
  go_wp2
  go_loopw [2] (fun i wr => ScribR B 43 2 g n cap w i wr) (fun i _ => n - (intOf i).toNat)
  case atStart => exact ⟨0, xs, rfl, Nat.zero_le _, hx, hown, World.grownBy.refl _ _⟩
  case round =>
    clear hown hx
    obtain ⟨k, xs, rfl, hk, hx, hown, hgr⟩ := hrel
    by_cases hlt : k < n
    · have hxl : xs.length = n * 2 := hown.1
      obtain ⟨c, hc⟩ := hx.at (k * 2) (by omega)
      have hc0 := hown.cellAt (k * 2) (by omega)
      rw [hc] at hc0
      have hf0 := hown.frozenAt (k * 2)
      have hs := hown.stored (k * 2) (.int .i64 (bits BinOp.xor IntKind.i64 (-1) c))
      have hx1 := hx.set (k * 2) (bits BinOp.xor IntKind.i64 (-1) c)
      obtain ⟨x, hx'⟩ := hx.at (k * 2 + 1) (by omega)
      have hc1 := hown.cellAt (k * 2 + 1) (by omega)
      rw [hx'] at hc1
      have hf1 := hown.frozenAt (k * 2 + 1)
      have hs2 := hid (hs.1.stored (k * 2 + 1) (.int .i64 (bits BinOp.xor IntKind.i64 (-1) x)))
      have hx2 := hid (hx1.set (k * 2 + 1) (bits BinOp.xor IntKind.i64 (-1) x))
      have hs1 := hid hs.2
      clear hc hx' hs hx hx1
      go_wp2
      refine ⟨⟨k + 1, _, by go_num, by omega, hx2.out, hs2.out.1, grown_trans (grown_trans hgr hs1.out) hs2.out.2⟩, by simp [intOf]; omega⟩
    · obtain rfl : k = n := by omega
      go_wp2
      go_end0
      exact ⟨rfl, hgr⟩

set_option maxHeartbeats 1000000 in
set_option maxRecDepth 100000 in
theorem equalCells_any (rs : List (Int × Int)) (va vb : Value) (w : World) (ha : RowAt w 2 va rs.length (resCells rs)) (hb : RowAt w 2 vb rs.length (resCells rs)) (hn : rs.length ≤ 400000000) :
    Calls Yahh.prog 19 #[va, vb] w fun e w' => e = .returned (.bool true) ∧ Below w.heap.size w w' := by
  obtain ⟨ad, cap, b, off, rfl, hcap, _, had, hcell⟩ := ha
  obtain ⟨ad', cap', b', off', rfl, hcap', _, had', hcell'⟩ := hb
  go_enter Yahh.func19, Yahh.ntmps19
  go_wp2
  go_loopw [13] (fun i wr => CountR w rs.length i wr) (fun i _ => rs.length - (intOf i).toNat)
  case atStart => exact ⟨0, rfl, Nat.zero_le _, Below.refl _ _⟩
  case round =>
    obtain ⟨k, rfl, hk, hbel⟩ := hrel
    by_cases hlt : k < rs.length
    · obtain ⟨⟨c, x⟩, hr⟩ : ∃ r, rs[k]? = some r := ⟨_, List.getElem?_eq_getElem hlt⟩
      obtain rfl := had (by omega)
      obtain rfl := had' (by omega)
      have hc := resCells_at rs k _ hr
      have hc0 : wr.cell? ⟨b, off + k * 2, none⟩ = some (.int .i64 c) := cell_below hbel (hcell _ _ hc.1)
      have hc1 : wr.cell? ⟨b, off + k * 2 + 1, none⟩ = some (.int .i64 x) := cell_below hbel (by rw [Nat.add_assoc]; exact hcell _ _ hc.2)
      have hc0' : wr.cell? ⟨b', off' + k * 2, none⟩ = some (.int .i64 c) := cell_below hbel (hcell' _ _ hc.1)
      have hc1' : wr.cell? ⟨b', off' + k * 2 + 1, none⟩ = some (.int .i64 x) := cell_below hbel (by rw [Nat.add_assoc]; exact hcell' _ _ hc.2)
      have hk0 : (0 : Int) ≤ (k : Int) := by omega
      have hkl : (k : Int) < (rs.length : Int) := by omega
      clear hr hc hcell had hcell' had'
      go_wp2_with fail
      go_quiet (fail)
      go_wp2
      refine ⟨⟨k + 1, by go_num, by omega, below_drewN hbel _⟩, by simp [intOf]; omega⟩
    · obtain rfl : k = rs.length := by omega
      go_wp2
      go_ret
      exact ⟨rfl, hbel⟩
end Go.Proofs.Yafahw
