/- Walks: laws.copyRes (41), resOf (31), sameRes (34), scribbleRes (37). -/
import Derived.Test.YafahwBytes
import Derived.Deep.RegionHeld3
import Derived.Deep.DrawnRows
import Derived.BigQuiet
import Derived.Deep.QuietTactic
namespace Go.Proofs.Yafahw
open Go.RowKit
attribute [local go_sem ↓] Go.wp_at_zero Go.wp_at_succ

theorem Yahh.info102 : (Yahh.prog.info? 102).map (fun i => (i.zero, i.size, i.bytes)) = some (some (.agg #[.int .i64 0, .int .i64 0]), 2, 16) := by kernel_rfl

def ResOfR (e : TypeId) (w : World) (rs : List (Int × Int)) (ou i : Value) (wr : World) : Prop :=
  ∃ k : Nat, i = .int .i64 (k : Int) ∧ k ≤ rs.length ∧ wr.ownsRow w.heap.size e 2 ou k (resCells (rs.take k)) ∧ Below w.heap.size w wr

set_option maxHeartbeats 1000000 in
set_option maxRecDepth 100000 in
theorem resOf_any (rs : List (Int × Int)) (v : Value) (w : World) (hrow : RowAt w 2 v rs.length (resCells rs)) (hn : rs.length ≤ 100000000) :
    Calls Yahh.prog 31 #[v] w fun e w' => ∃ v', e = .returned v' ∧ w'.ownsRow w.heap.size 102 2 v' rs.length (resCells rs) ∧ Below w.heap.size w w' := by
  obtain ⟨ad, cap, b, off, rfl, hcap, _, had, hcell⟩ := hrow
  go_enter Yahh.func31, Yahh.ntmps31
  go_wp2
  go_loopw [3, 4] (fun ou i wr => ResOfR 102 w rs ou i wr) (fun _ i _ => rs.length - (intOf i).toNat)
  case atStart => exact ⟨0, rfl, Nat.zero_le _, World.ownsRow_lit w _ 0 (Nat.le_refl _) (by decide) rfl, (Below.refl _ _).alloc (Nat.le_refl _) _⟩
  case round =>
    obtain ⟨k, rfl, hk, hown, hbel⟩ := hrel
    by_cases hlt : k < rs.length
    · obtain ⟨⟨c, x⟩, hr⟩ : ∃ r, rs[k]? = some r := ⟨_, List.getElem?_eq_getElem hlt⟩
      obtain rfl := had (by omega)
      have hc := resCells_at rs k _ hr
      have hc0 : wr.cell? ⟨b, off + k * 2, none⟩ = some (.int .i64 c) := cell_below hbel (hcell _ _ hc.1)
      have hc1 : wr.cell? ⟨b, off + k * 2 + 1, none⟩ = some (.int .i64 x) := cell_below hbel (by rw [Nat.add_assoc]; exact hcell _ _ hc.2)
      have HC := hid (And.intro (hcell _ _ hc.1) (hcell _ _ hc.2))
      rw [← Nat.add_assoc] at HC
      have Hr := (show Hid (_ = _) from hr)
      have hsz := hbel.size
      have hk0 : (0 : Int) ≤ (k : Int) := by omega
      have hkl : (k : Int) < (rs.length : Int) := by omega
      clear hr hc hcell had
      go_wp2
      go_region_held3 (fun w' => w'.cell? ⟨b, off + k * 2, none⟩ = some (.int .i64 c) ∧ w'.cell? ⟨b, off + k * 2 + 1, none⟩ = some (.int .i64 x)) (go_keep)
        ((refine step_app1 (by rfl) (.tmp 12) (.tmp 24) 45 (by rfl) w.heap.size 102 _ 2 16 Yahh.underlying45 Yahh.info102 rfl (by decide) _ k _ (by rfl) (hown.drew.alloc _) wr.heap.size _ _ _ (by rfl) (heap_alloc_new wr.drew _) rfl (one2 _ _ rfl rfl) (by omega) (by decide) (by simp; omega) (wr.heap.size + 1) (by simp) ?_; intro g2 cap2 w2 hown2 hgrow2 hat2 hlt2; have hB2 : Below w.heap.size w w2 := (hbel.drew.alloc (by simp; omega) _).grown hgrow2 (by simp; omega) (fun k hk => (own_lt hown hk).1); have q0 := cell_below hB2 HC.out.1; have q1 := cell_below hB2 HC.out.2; clear hgrow2))
      go_wp2
      refine ⟨⟨k + 1, by go_num, by omega, ?_, hB2⟩, by simp [intOf]; omega⟩
      rw [List.take_add_one, Hr.out]
      simp only [Option.toList]
      rw [resCells_snoc]
      exact hown2
    · obtain rfl : k = rs.length := by omega
      rw [List.take_length] at hown
      go_wp2
      go_ret
      exact ⟨_, rfl, hown, hbel⟩

def CountR (w : World) (n : Nat) (i : Value) (wr : World) : Prop :=
  ∃ k : Nat, i = .int .i64 (k : Int) ∧ k ≤ n ∧ Below w.heap.size w wr


set_option maxHeartbeats 1000000 in
set_option maxRecDepth 100000 in
theorem sameRes_any (rs : List (Int × Int)) (va vb : Value) (w : World) (ha : RowAt w 2 va rs.length (resCells rs)) (hb : RowAt w 2 vb rs.length (resCells rs)) (hn : rs.length ≤ 100000000) :
    Calls Yahh.prog 34 #[va, vb] w fun e w' => e = .returned (.bool true) ∧ Below w.heap.size w w' := by
  obtain ⟨ad, cap, b, off, rfl, hcap, _, had, hcell⟩ := ha
  obtain ⟨ad', cap', b', off', rfl, hcap', _, had', hcell'⟩ := hb
  go_enter Yahh.func34, Yahh.ntmps34
  go_wp2
  go_loopw [5] (fun i wr => CountR w rs.length i wr) (fun i _ => rs.length - (intOf i).toNat)
  case atStart => exact ⟨0, rfl, Nat.zero_le _, Below.refl _ _⟩
  case round =>
    obtain ⟨k, rfl, hk, hbel⟩ := hrel
    by_cases hlt : k < rs.length
    · obtain ⟨⟨c, x⟩, hr⟩ : ∃ r, rs[k]? = some r := ⟨_, List.getElem?_eq_getElem hlt⟩
      obtain rfl := had (by omega)
      obtain rfl := had' (by omega)
      have hc := resCells_at rs k _ hr
      have hc0 : wr.cell? ⟨b, off + k * 2, none⟩ = some (.int .i64 c) := cell_below hbel (hcell _ _ hc.1)
      have hc1 : wr.cell? ⟨b, off + k * 2 + 1, none⟩ = some (.int .i64 x) := cell_below hbel (by rw [Nat.add_assoc]; exact hcell _ _ hc.2)
      have hc0' : wr.cell? ⟨b', off' + k * 2, none⟩ = some (.int .i64 c) := cell_below hbel (hcell' _ _ hc.1)
      have hc1' : wr.cell? ⟨b', off' + k * 2 + 1, none⟩ = some (.int .i64 x) := cell_below hbel (by rw [Nat.add_assoc]; exact hcell' _ _ hc.2)
      have hk0 : (0 : Int) ≤ (k : Int) := by omega
      have hkl : (k : Int) < (rs.length : Int) := by omega
      clear hr hc hcell had hcell' had'
      go_wp2_with fail
      go_quiet (fail)
      go_wp2
      refine ⟨⟨k + 1, by go_num, by omega, below_drewN hbel _⟩, by simp [intOf]; omega⟩
    · obtain rfl : k = rs.length := by omega
      go_wp2
      go_ret
      exact ⟨rfl, hbel⟩

theorem Yahh.info37 : (Yahh.prog.info? 37).map (fun i => (i.zero, i.size, i.bytes)) = some (some (.agg #[.int .i64 0, .int .i64 0]), 2, 16) := by kernel_rfl

theorem agree_set {xs C : List Value} {p : Nat} {u : Value} (h : ∀ j, j < p → xs[j]? = C[j]?) (hu : C[p]? = some u) (hl : p < xs.length) : ∀ j, j < p + 1 → (xs.set p u)[j]? = C[j]? := by
  intro j hj
  by_cases h' : j = p
  · subst h'; rw [List.getElem?_set_self hl, hu]
  · rw [List.getElem?_set_ne (by omega)]; exact h j (by omega)

theorem agree_all {xs C : List Value} (h : ∀ j, j < C.length → xs[j]? = C[j]?) (hl : xs.length = C.length) : xs = C := by
  apply List.ext_getElem?
  intro j
  by_cases hj : j < C.length
  · exact h j hj
  · rw [List.getElem?_eq_none (by omega), List.getElem?_eq_none (by omega)]

/-- a slice that the call made is filled from the left: the cells below p are the wanted ones -/
def FillR (e : TypeId) (sz : Nat) (w : World) (n : Nat) (C : List Value) (i : Value) (wr : World) : Prop :=
  ∃ (k : Nat) (xs : List Value), i = .int .i64 (k : Int) ∧ k ≤ n ∧ (∀ j, j < k * sz → xs[j]? = C[j]?) ∧ wr.ownsRow w.heap.size e sz (.slice (some ⟨w.heap.size, 0, none⟩) n n) n xs ∧ Below w.heap.size w wr

set_option maxHeartbeats 1000000 in
set_option maxRecDepth 100000 in
theorem copyRes_any (rs : List (Int × Int)) (v : Value) (w : World) (hrow : RowAt w 2 v rs.length (resCells rs)) (hn : rs.length ≤ 100000000) :
    Calls Yahh.prog 41 #[v] w fun e w' => e = .returned (.slice (some ⟨w.heap.size, 0, none⟩) rs.length rs.length) ∧ w'.ownsRow w.heap.size 37 2 (.slice (some ⟨w.heap.size, 0, none⟩) rs.length rs.length) rs.length (resCells rs) ∧ Below w.heap.size w w' := by
  obtain ⟨i0, hi, hz0, hz1, hz2⟩ := info_eq Yahh.info37
  obtain ⟨ad, cap, b, off, rfl, hcap, hlen, had, hcell⟩ := hrow
  go_enter Yahh.func41, Yahh.ntmps41
  go_wp2_with (at_make; refine wpList_make_full _ rfl (.tmp 6) (.tmp 6) 25 rfl w.heap.size 37 i0 _ 2 Yahh.underlying25 hi hz0 hz1 .i64 .i64 _ _ rs.length rfl rfl rfl rfl (by rw [hz2]; omega) (by unfold maxLen; omega) (Nat.le_refl _) ?_; intro w1 hown1 hgrow1)
  go_loopw [4] (fun i wr => FillR 37 2 w rs.length (resCells rs) i wr) (fun i _ => rs.length - (intOf i).toNat)
  case atStart => exact ⟨0, _, rfl, Nat.zero_le _, fun j hj => by omega, hown1, (Below.refl _ _).grown hgrow1 (Nat.le_refl _) (fun k hk => by cases hk)⟩
  case round =>
    obtain ⟨k, xs, rfl, hk, hag, hown, hbel⟩ := hrel
    by_cases hlt : k < rs.length
    · obtain ⟨⟨c, x⟩, hr⟩ : ∃ r, rs[k]? = some r := ⟨_, List.getElem?_eq_getElem hlt⟩
      obtain rfl := had (by omega)
      have hc := resCells_at rs k _ hr
      have hc0 : wr.cell? ⟨b, off + k * 2, none⟩ = some (.int .i64 c) := cell_below hbel (hcell _ _ hc.1)
      have hxl : xs.length = rs.length * 2 := hown.1
      have ht0 := hown.cellAt (k * 2) (by omega)
      have hf0 := hown.frozenAt (k * 2)
      rw [List.getElem?_eq_getElem (by omega)] at ht0
      have hs := hown.stored (k * 2) (.int .i64 c)
      have hown2 := hid hs.1
      have hbel2 : Below w.heap.size w (wr.setCell ⟨w.heap.size, k * 2, none⟩ (.int .i64 c)) := hbel.setCell (Nat.le_refl _) _
      have hc1 : (wr.setCell ⟨w.heap.size, k * 2, none⟩ (.int .i64 c)).cell? ⟨b, off + k * 2 + 1, none⟩ = some (.int .i64 x) := cell_below hbel2 (by rw [Nat.add_assoc]; exact hcell _ _ hc.2)
      have ht1 := hs.1.cellAt (k * 2 + 1) (by omega)
      have hf1 := hs.1.frozenAt (k * 2 + 1)
      rw [List.getElem?_eq_getElem (by simp; omega)] at ht1
      have hs2 := hid (hs.1.stored (k * 2 + 1) (.int .i64 x))
      have hag1 := agree_set hag hc.1 (by omega)
      have hag2 := hid (agree_set hag1 hc.2 (by simp; omega))
      clear hr hc hcell had hs hag hag1
      go_wp2
      refine ⟨⟨k + 1, _, by go_num, by omega, fun j hj => hag2.out j (by omega), hs2.out.1, hbel2.setCell (Nat.le_refl _) _⟩, by simp [intOf]; omega⟩
    · obtain rfl : k = rs.length := by omega
      have hx := agree_all (xs := xs) (C := resCells rs) (by rw [resCells_len]; exact hag) (by rw [resCells_len]; exact hown.1)
      subst hx
      go_wp2
      go_ret
      exact ⟨rfl, hown, hbel⟩

def AllI (xs : List Value) : Prop := ∀ (j : Nat) (u : Value), xs[j]? = some u → ∃ n, u = .int .i64 n
theorem AllI.set {xs : List Value} (h : AllI xs) (p : Nat) (n : Int) : AllI (xs.set p (.int .i64 n)) := by
  intro j u hu
  rw [List.getElem?_set] at hu
  split at hu
  · split at hu
    · simp at hu; exact ⟨n, hu.symm⟩
    · cases hu
  · exact h j u hu
theorem AllI.at {xs : List Value} (h : AllI xs) (p : Nat) (hp : p < xs.length) : ∃ n, xs[p]? = some (.int .i64 n) := by
  obtain ⟨n, hn⟩ := h p _ (List.getElem?_eq_getElem hp)
  exact ⟨n, by rw [List.getElem?_eq_getElem hp, hn]⟩
theorem AllI.res (rs : List (Int × Int)) : AllI (resCells rs) := by
  intro j u hu
  have := List.mem_of_getElem? hu
  simp only [resCells, List.mem_flatMap] at this
  obtain ⟨r, _, hr⟩ := this
  simp at hr
  rcases hr with rfl | rfl
  · exact ⟨_, rfl⟩
  · exact ⟨_, rfl⟩

/-- only block g may have turned; nothing new but at the heap's end -/
def ScribR (B e sz g n cap : Nat) (w : World) (i : Value) (wr : World) : Prop :=
  ∃ (k : Nat) (xs : List Value), i = .int .i64 (k : Int) ∧ k ≤ n ∧ AllI xs ∧ wr.ownsRow B e sz (.slice (some ⟨g, 0, none⟩) n cap) n xs ∧ w.grownBy wr (some g)

set_option maxHeartbeats 1000000 in
set_option maxRecDepth 100000 in
theorem scribbleRes_any (B g n cap : Nat) (xs : List Value) (w : World) (hown : w.ownsRow B 37 2 (.slice (some ⟨g, 0, none⟩) n cap) n xs) (hx : AllI xs) (hn : n ≤ 100000000) :
    Calls Yahh.prog 37 #[.slice (some ⟨g, 0, none⟩) n cap] w fun e w' => e = .returned (.tuple #[]) ∧ w.grownBy w' (some g) := by
  go_enter Yahh.func37, Yahh.ntmps37
  go_wp2
  go_loopw [2] (fun i wr => ScribR B 37 2 g n cap w i wr) (fun i _ => n - (intOf i).toNat)
  case atStart => exact ⟨0, xs, rfl, Nat.zero_le _, hx, hown, World.grownBy.refl _ _⟩
  case round =>
    clear hown hx
    obtain ⟨k, xs, rfl, hk, hx, hown, hgr⟩ := hrel
    by_cases hlt : k < n
    · have hxl : xs.length = n * 2 := hown.1
      obtain ⟨c, hc⟩ := hx.at (k * 2) (by omega)
      have hc0 := hown.cellAt (k * 2) (by omega)
      rw [hc] at hc0
      have hf0 := hown.frozenAt (k * 2)
      have hs := hown.stored (k * 2) (.int .i64 (bits BinOp.xor IntKind.i64 (-1) c))
      have hx1 := hx.set (k * 2) (bits BinOp.xor IntKind.i64 (-1) c)
      obtain ⟨x, hx'⟩ := hx.at (k * 2 + 1) (by omega)
      have hc1 := hown.cellAt (k * 2 + 1) (by omega)
      rw [hx'] at hc1
      have hf1 := hown.frozenAt (k * 2 + 1)
      have hs2 := hid (hs.1.stored (k * 2 + 1) (.int .i64 (bits BinOp.xor IntKind.i64 (-1) x)))
      have hx2 := hid (hx1.set (k * 2 + 1) (bits BinOp.xor IntKind.i64 (-1) x))
      have hs1 := hid hs.2
      clear hc hx' hs hx hx1
      go_wp2
      refine ⟨⟨k + 1, _, by go_num, by omega, hx2.out, hs2.out.1, grown_trans (grown_trans hgr hs1.out) hs2.out.2⟩, by simp [intOf]; omega⟩
    · obtain rfl : k = n := by omega
      go_wp2
      go_end0
      exact ⟨rfl, hgr⟩
end Go.Proofs.Yafahw
