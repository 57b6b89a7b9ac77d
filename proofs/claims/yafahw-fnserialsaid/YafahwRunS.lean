/- Walks: spec.Run (17), spec.EqualRes (18). -/
import Derived.Test.YafahwWldStep
import Derived.Test.YafahwLawRes
namespace Go.Proofs.Yafahw
open Go.RowKit
set_option linter.unusedVariables false
set_option linter.unusedSimpArgs false
attribute [local go_sem ↓] Go.wp_at_zero Go.wp_at_succ

theorem runS_at (ops : List POp) (k : Nat) (h : k < ops.length) : (runS ops)[k]? = some (resS ops k) := by
  simp [runS, h]

def RunSR (w : World) (ops : List POp) (ou i : Value) (wr : World) : Prop :=
  ∃ k : Nat, i = .int .i64 (k : Int) ∧ k ≤ ops.length ∧ wr.ownsRow (w.heap.size + 1) 37 2 ou k (resCells ((runS ops).take k)) ∧ WldAt w.heap.size wr w.heap.size (stS ops k) ∧ Below w.heap.size w wr

theorem wld_init (w : World) : WldAt w.heap.size (w.alloc (.cells #[.slice none 0 0, .slice none 0 0] 77)) w.heap.size wld0 :=
  ⟨_, _, [], [], ⟨Nat.le_refl _, heap_alloc_new w _, ⟨rfl, .inl ⟨rfl, rfl⟩⟩, ⟨rfl, .inl ⟨rfl, rfl⟩⟩, fun i p h => by simp at h, fun i p h => by simp at h, fun i j p q _ h => by simp at h, fun i j p q h => by simp at h⟩, rfl, rfl⟩
theorem WldAt.ty {B : Nat} {w w' : World} {bw : Nat} {s : Wld} (h : WldAt B w bw s) {row : Option Nat} {e : TypeId} (hg : w.grownBy w' row) (ht : RowTy w row e) (he : ∀ t ∈ wldT, t ≠ e) : WldAt B w' bw s := by
  obtain ⟨tv, lv, ct, cl, h, h1, h2⟩ := h
  exact ⟨tv, lv, ct, cl, h.ty hg ht he, h1, h2⟩
theorem WldAt.alloc {B : Nat} {w : World} {bw : Nat} {s : Wld} (h : WldAt B w bw s) (o : Obj) : WldAt B (w.alloc o) bw s := by
  obtain ⟨tv, lv, ct, cl, h, h1, h2⟩ := h
  exact ⟨tv, lv, ct, cl, h.alloc o, h1, h2⟩
theorem alloc2 (w : World) (o1 o2 : Obj) : ((w.alloc o1).alloc o2).heap[w.heap.size + 1]? = some o2 := by
  have := heap_alloc_new (w.alloc o1) o2
  simpa using this
theorem wldT_ne37 : ∀ t ∈ wldT, t ≠ 37 := by decide

theorem runS_fin {w w3 : World} {ops : List POp} {k : Nat} {ou : Value} {s' : Wld} {r : Int × Int} (hk : k < ops.length) (hr : resS ops k = r) (hst : stS ops (k + 1) = s') (hown : w3.ownsRow (w.heap.size + 1) 37 2 ou (k + 1) (resCells ((runS ops).take k) ++ [.int .i64 r.1, .int .i64 r.2]))
    (hw : WldAt w.heap.size w3 w.heap.size s') (hb : Below w.heap.size w w3) :
    RunSR w ops ou (.int .i64 ((k : Int) + 1)) w3 ∧ ops.length - (intOf (.int .i64 ((k : Int) + 1))).toNat < ops.length - (intOf (.int .i64 (k : Int))).toNat := by
  refine ⟨⟨k + 1, by go_num, by omega, ?_, by rw [hst]; exact hw, hb⟩, by simp [intOf]; omega⟩
  rw [List.take_add_one, runS_at ops k hk, hr]
  simp only [Option.toList]
  rw [resCells_snoc]
  exact hown

set_option maxHeartbeats 4000000 in
set_option maxRecDepth 100000 in
theorem runS_any (ops : List POp) (v : Value) (w : World) (hrow : RowAt w 4 v ops.length (opCells ops)) (hn : ops.length ≤ 100000000) :
    Calls Yahh.prog 17 #[v] w fun e w' => ∃ v', e = .returned v' ∧ w'.ownsRow w.heap.size 37 2 v' ops.length (resCells (runS ops)) ∧ Below w.heap.size w w' := by
  obtain ⟨ad, cap, b, off, rfl, hcap, hlen, had, hcell⟩ := hrow
  have hs0 := hid (wld_init w)
  go_enter Yahh.func17, Yahh.ntmps17
  go_wp2
  go_loopw [4, 10] (fun ou i wr => RunSR w ops ou i wr) (fun _ i _ => ops.length - (intOf i).toNat)
  case atStart =>
    refine ⟨0, rfl, Nat.zero_le _, ?_, hs0.out.alloc _, ((Below.refl _ _).alloc (Nat.le_refl _) _).alloc (by simp) _⟩
    have := World.ownsRow_lit (base := w.heap.size + 1) (e := 37) (size := 2) (w.alloc (Obj.cells #[.slice none 0 0, .slice none 0 0] 77)) #[] 0 (by simp) (by decide) rfl
    simpa [resCells] using this
  case round =>
    clear hs0
    obtain ⟨k, rfl, hk, hown, hsto, hbel⟩ := hrel
    by_cases hlt : k < ops.length
    · obtain ⟨o, ho⟩ : ∃ r, ops[k]? = some r := ⟨_, List.getElem?_eq_getElem hlt⟩
      obtain rfl := had (by omega)
      have hc := opCells_at ops k _ ho
      have hc0 : wr.cell? ⟨b, off + k * 4, none⟩ = some (.int .i64 o.kind) := cell_below hbel (hcell _ _ hc.1)
      have hc1 : wr.cell? ⟨b, off + k * 4 + 1, none⟩ = some (.int .i64 o.tx) := cell_below hbel (by rw [Nat.add_assoc]; exact hcell _ _ hc.2.1)
      have hc2 : wr.cell? ⟨b, off + k * 4 + 2, none⟩ = some (.int .i64 o.key) := cell_below hbel (by rw [Nat.add_assoc]; exact hcell _ _ hc.2.2.1)
      have hc3 : wr.cell? ⟨b, off + k * 4 + 3, none⟩ = some (.int .i64 o.val) := cell_below hbel (by rw [Nat.add_assoc]; exact hcell _ _ hc.2.2.2)
      have hsz := hbel.size
      have hk0 : (0 : Int) ≤ (k : Int) := by omega
      have hkl : (k : Int) < (ops.length : Int) := by omega
      have hbw : w.heap.size + 1 ≤ wr.heap.size := by
        obtain ⟨tv, lv, ct, cl, h, _⟩ := hsto
        exact h.lt
      by_cases hlid : k < 20000
      · have hres : resS ops k = (stepS (stS ops k) o).2 := by simp [resS, ho, hlid]
        have hst : stS ops (k + 1) = (stepS (stS ops k) o).1 := by simp [stS, ho, hlid]
        have hcall := stepS_any (hsto.alloc (Obj.cells #[.int .i64 o.kind, .int .i64 o.tx, .int .i64 o.key, .int .i64 o.val] 35)) (by simp; omega) ((smallW_st ops k).mono (by omega)) o
        have Hres := hid hres
        have Hst := hid hst
        clear hres hst ho hc hcell had
        have hlid' : ¬ (20000 : Int) ≤ (k : Int) := by omega
        unfold opV resV at hcall
        go_wp2_with fail
        refine hcall.mono ?_
        rintro e w2 ⟨rfl, hsto2, hkeep⟩
        clear hcall
        simp only []
        generalize hR : (stepS (stS ops k) o).2 = R at *
        obtain ⟨c, x⟩ := R
        simp only []
        have hown2 := hkeep.own (hown.alloc _) (by decide)
        have hbel2 : Below w.heap.size w w2 := (hbel.alloc hsz _).trans hkeep.below
        have hsz2 : w.heap.size + 1 ≤ w2.heap.size := by have := hkeep.below.size; simp at this; omega
        clear hc0 hc1 hc2 hc3 hown hsto
        go_wp2_with (first
          | (at_builtin; refine wpList_app1 rfl (.tmp 21) (.tmp 24) 25 rfl (w.heap.size + 1) 37 _ 2 16 Yahh.underlying25 Yahh.info37 rfl (by decide) _ _ _ rfl (hown2.alloc _) w2.heap.size _ _ _ rfl (heap_alloc_new w2 _) rfl (one2 _ _ rfl rfl) (by omega) (by decide) (by simp; omega) _ rfl ?_; intro g5 cap5 w5 hown5 hgrow5 hat5 hlt5; have hst5 := (hsto2.alloc _).ty hgrow5 (RowTy.of_own (hown2.alloc _)) wldT_ne37; have hbel5 := (hbel2.alloc (by omega) _).grown hgrow5 (by simp; omega) (fun k hk => by have := (own_lt hown2 hk).1; omega); clear hgrow5 hat5))
        exact runS_fin hlt Hres.out Hst.out hown5 hst5 hbel5
      · have hres : resS ops k = (2, 0) := by simp [resS, ho, hlid]
        have hst : stS ops (k + 1) = stS ops k := by simp [stS, ho, hlid]
        have Hres := hid hres
        have Hst := hid hst
        clear hres hst ho hc hcell had
        have hlid' : (20000 : Int) ≤ (k : Int) := by omega
        have hownA := hid (fun o1 o2 => (hown.alloc o1).alloc o2)
        have hstoA := hid (fun o1 o2 => (hsto.alloc o1).alloc o2)
        have hbelA := hid (fun o1 o2 => (hbel.alloc hsz o1).alloc (by simp; omega) o2)
        go_wp2_with (first
          | (at_builtin; refine wpList_app1 rfl (.tmp 17) (.tmp 19) 25 rfl (w.heap.size + 1) 37 _ 2 16 Yahh.underlying25 Yahh.info37 rfl (by decide) _ _ _ rfl (hownA.out _ _) (wr.heap.size + 1) _ _ _ rfl (alloc2 wr _ _) rfl (one2 _ _ rfl rfl) (by omega) (by decide) (by simp; omega) _ rfl ?_; intro g5 cap5 w5 hown5 hgrow5 hat5 hlt5; have hst5 := (hstoA.out _ _).ty hgrow5 (RowTy.of_own (hownA.out _ _)) wldT_ne37; have hbel5 := (hbelA.out _ _).grown hgrow5 (by simp; omega) (fun k hk => by have := (own_lt hown hk).1; omega); clear hgrow5 hat5))
        exact runS_fin hlt Hres.out Hst.out hown5 hst5 hbel5
    · obtain rfl : k = ops.length := by omega
      rw [← runS_len ops, List.take_length, runS_len] at hown
      go_wp2
      go_ret
      exact ⟨_, rfl, own_mono hown (by omega), hbel⟩

set_option maxHeartbeats 1000000 in
set_option maxRecDepth 100000 in
theorem equalRes_any (rs : List (Int × Int)) (va vb : Value) (w : World) (ha : RowAt w 2 va rs.length (resCells rs)) (hb : RowAt w 2 vb rs.length (resCells rs)) (hn : rs.length ≤ 100000000) :
    Calls Yahh.prog 18 #[va, vb] w fun e w' => e = .returned (.bool true) ∧ Below w.heap.size w w' := by
  obtain ⟨ad, cap, b, off, rfl, hcap, _, had, hcell⟩ := ha
  obtain ⟨ad', cap', b', off', rfl, hcap', _, had', hcell'⟩ := hb
  go_enter Yahh.func18, Yahh.ntmps18
  go_wp2
  go_loopw [13] (fun i wr => CountR w rs.length i wr) (fun i _ => rs.length - (intOf i).toNat)
  case atStart => exact ⟨0, rfl, Nat.zero_le _, Below.refl _ _⟩
  case round =>
    obtain ⟨k, rfl, hk, hbel⟩ := hrel
    by_cases hlt : k < rs.length
    · obtain ⟨⟨c, x⟩, hr⟩ : ∃ r, rs[k]? = some r := ⟨_, List.getElem?_eq_getElem hlt⟩
      obtain rfl := had (by omega)
      obtain rfl := had' (by omega)
      have hc := resCells_at rs k _ hr
      have hc0 : wr.cell? ⟨b, off + k * 2, none⟩ = some (.int .i64 c) := cell_below hbel (hcell _ _ hc.1)
      have hc1 : wr.cell? ⟨b, off + k * 2 + 1, none⟩ = some (.int .i64 x) := cell_below hbel (by rw [Nat.add_assoc]; exact hcell _ _ hc.2)
      have hc0' : wr.cell? ⟨b', off' + k * 2, none⟩ = some (.int .i64 c) := cell_below hbel (hcell' _ _ hc.1)
      have hc1' : wr.cell? ⟨b', off' + k * 2 + 1, none⟩ = some (.int .i64 x) := cell_below hbel (by rw [Nat.add_assoc]; exact hcell' _ _ hc.2)
      have hk0 : (0 : Int) ≤ (k : Int) := by omega
      have hkl : (k : Int) < (rs.length : Int) := by omega
      clear hr hc hcell had hcell' had'
      go_wp2_with fail
      go_quiet (fail)
      go_wp2
      refine ⟨⟨k + 1, by go_num, by omega, below_drewN hbel _⟩, by simp [intOf]; omega⟩
    · obtain rfl : k = rs.length := by omega
      go_wp2
      go_ret
      exact ⟨rfl, hbel⟩
end Go.Proofs.Yafahw
