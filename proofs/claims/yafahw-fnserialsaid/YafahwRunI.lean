/- Walk: impl.Run (16). -/
import Derived.Test.YafahwStep
import Derived.Test.YafahwLawRes
namespace Go.Proofs.Yafahw
open Go.RowKit
set_option linter.unusedVariables false
set_option linter.unusedSimpArgs false
attribute [local go_sem ↓] Go.wp_at_zero Go.wp_at_succ

theorem Yahh.info37z : (Yahh.prog.info? 37).map (fun i => (i.zero, i.size, i.bytes)) = some (some (.agg #[.int .i64 0, .int .i64 0]), 2, 16) := by kernel_rfl

theorem runI_at (ops : List POp) (k : Nat) (h : k < ops.length) : (runI ops)[k]? = some (resI ops k) := by
  simp [runI, h]

/-- the loop of Run: the store stands after k operations, the answers below k are laid -/
def RunR (w : World) (ops : List POp) (C : List Value) (i : Value) (wr : World) : Prop :=
  ∃ (k : Nat) (xs : List Value), i = .int .i64 (k : Int) ∧ k ≤ ops.length ∧ (∀ j, j < k * 2 → xs[j]? = C[j]?) ∧
    wr.ownsRow w.heap.size 37 2 (.slice (some ⟨w.heap.size + 1, 0, none⟩) ops.length ops.length) ops.length xs ∧ StoAt w.heap.size wr w.heap.size (stI ops k) ∧ Below w.heap.size w wr

theorem sto_init (w : World) : StoAt w.heap.size (w.alloc (.cells #[.int .i64 0, .slice none 0 0, .slice none 0 0] 72)) w.heap.size sto0 :=
  ⟨_, _, [], [], ⟨Nat.le_refl _, heap_alloc_new w _, ⟨rfl, .inl ⟨rfl, rfl⟩⟩, ⟨rfl, .inl ⟨rfl, rfl⟩⟩, fun i p h => by simp at h, fun i p h => by simp at h, fun i j p q _ h => by simp at h, fun i j p q _ h => by simp at h⟩, rfl, rfl⟩

theorem StoAt.ty {B : Nat} {w w' : World} {bs : Nat} {s : Sto} (h : StoAt B w bs s) {row : Option Nat} {e : TypeId} (hg : w.grownBy w' row) (ht : RowTy w row e) (he : ∀ t ∈ stoT, t ≠ e) : StoAt B w' bs s := by
  obtain ⟨kv, tv, ck, ct, h, h1, h2⟩ := h
  exact ⟨kv, tv, ck, ct, ⟨h.base, blk_ty hg ht h.blk (he _ (by decide)), own_ty hg ht h.keys (he _ (by decide)), own_ty hg ht h.txs (he _ (by decide)), fun i p hp => own_ty hg ht (h.vers i p hp) (he _ (by decide)), fun i p hp => own_ty hg ht (h.bufs i p hp) (he _ (by decide)), h.dk, h.dt⟩, h1, h2⟩

theorem stoT_ne37 : ∀ t ∈ stoT, t ≠ 37 := by decide

set_option maxHeartbeats 4000000 in
set_option maxRecDepth 100000 in
theorem runI_any (ops : List POp) (v : Value) (w : World) (hrow : RowAt w 4 v ops.length (opCells ops)) (hn : ops.length ≤ 100000000) :
    Calls Yahh.prog 16 #[v] w fun e w' => ∃ v', e = .returned v' ∧ w'.ownsRow w.heap.size 37 2 v' ops.length (resCells (runI ops)) ∧ (v'.ownBlock = some (w.heap.size + 1) ∧ ∃ g c, v' = .slice (some ⟨g, 0, none⟩) ops.length c) ∧ Below w.heap.size w w' := by
  obtain ⟨i0, hi, hz0, hz1, hz2⟩ := info_eq Yahh.info37z
  obtain ⟨ad, cap, b, off, rfl, hcap, hlen, had, hcell⟩ := hrow
  have hs0 := hid (sto_init w)
  go_enter Yahh.func16, Yahh.ntmps16
  go_wp2_with (at_make; refine wpList_make_full _ rfl (.tmp 9) (.tmp 9) 25 rfl w.heap.size 37 i0 _ 2 Yahh.underlying25 hi hz0 hz1 .i64 .i64 _ _ ops.length rfl rfl rfl rfl (by rw [hz2]; omega) (by unfold maxLen; omega) (by simp) ?_; intro w1 hown1 hgrow1)
  go_loopw [5] (fun i wr => RunR w ops (resCells (runI ops)) i wr) (fun i _ => ops.length - (intOf i).toNat)
  case atStart =>
    rw [World.size_alloc] at hown1
    exact ⟨0, _, rfl, Nat.zero_le _, fun j hj => by omega, hown1, hs0.out.ty hgrow1 (fun g hg => by cases hg) stoT_ne37, ((Below.refl _ _).alloc (Nat.le_refl _) _).grown hgrow1 (by simp) (fun k hk => by cases hk)⟩
  case round =>
    clear hown1 hgrow1 hs0
    obtain ⟨k, xs, rfl, hk, hag, hown, hsto, hbel⟩ := hrel
    by_cases hlt : k < ops.length
    · obtain ⟨o, ho⟩ : ∃ r, ops[k]? = some r := ⟨_, List.getElem?_eq_getElem hlt⟩
      obtain rfl := had (by omega)
      have hc := opCells_at ops k _ ho
      have hc0 : wr.cell? ⟨b, off + k * 4, none⟩ = some (.int .i64 o.kind) := cell_below hbel (hcell _ _ hc.1)
      have hc1 : wr.cell? ⟨b, off + k * 4 + 1, none⟩ = some (.int .i64 o.tx) := cell_below hbel (by rw [Nat.add_assoc]; exact hcell _ _ hc.2.1)
      have hc2 : wr.cell? ⟨b, off + k * 4 + 2, none⟩ = some (.int .i64 o.key) := cell_below hbel (by rw [Nat.add_assoc]; exact hcell _ _ hc.2.2.1)
      have hc3 : wr.cell? ⟨b, off + k * 4 + 3, none⟩ = some (.int .i64 o.val) := cell_below hbel (by rw [Nat.add_assoc]; exact hcell _ _ hc.2.2.2)
      have hr := resCells_at (runI ops) k _ (runI_at ops k hlt)
      have hsz := hbel.size
      have hk0 : (0 : Int) ≤ (k : Int) := by omega
      have hkl : (k : Int) < (ops.length : Int) := by omega
      have hxl : xs.length = ops.length * 2 := hown.1
      by_cases hlid : k < 20000
      · have hres : resI ops k = (stepI (stI ops k) o).2 := by simp [resI, ho, hlid]
        have hst : stI ops (k + 1) = (stepI (stI ops k) o).1 := by simp [stI, ho, hlid]
        have hcall := step_any hsto hsz ((small_st ops k).mono (by omega)) o
        have Hres := hid hres
        have Hst := hid hst
        have Hr := hid hr
        have Hag := hid hag
        clear hres hst hr hag ho hc hcell had
        have hlid' : (k : Int) < 20000 := by omega
        unfold opV resV at hcall
        go_wp2_with fail
        refine hcall.mono ?_
        rintro e w2 ⟨rfl, hsto2, hkeep⟩
        clear hcall
        simp only []
        generalize hR : (stepI (stI ops k) o).2 = R at *
        obtain ⟨c, x⟩ := R
        simp only []
        have hown2 := hkeep.own hown (by decide)
        have hbel2 := hbel.trans hkeep.below
        have ht0 := hown2.cellAt (k * 2) (by omega)
        have hf0 := hown2.frozenAt (k * 2)
        rw [List.getElem?_eq_getElem (by omega)] at ht0
        have hs := hown2.stored (k * 2) (.int .i64 c)
        have ht1 := hs.1.cellAt (k * 2 + 1) (by omega)
        have hf1 := hs.1.frozenAt (k * 2 + 1)
        rw [List.getElem?_eq_getElem (by simp; omega)] at ht1
        have hs2 := hs.1.stored (k * 2 + 1) (.int .i64 x)
        have hb1 := hbel2.setCell (p := ⟨w.heap.size + 1, k * 2, none⟩) (Nat.le_succ _) (.int .i64 c)
        have hb2 := hid (hb1.setCell (p := ⟨w.heap.size + 1, k * 2 + 1, none⟩) (Nat.le_succ _) (.int .i64 x))
        have hr := Hr.out
        rw [Hres.out] at hr
        have hag1 := agree_set Hag.out hr.1 (by omega)
        have hag2 := hid (agree_set hag1 hr.2 (by simp; omega))
        have hst1 := hid ((hsto2.ty hs.2 (RowTy.of_own hown2) stoT_ne37).ty hs2.2 (RowTy.of_own hs.1) stoT_ne37)
        have hs2 := hid hs2
        clear hs hb1 hr hag1 hown hsto
        go_wp2
        refine ⟨⟨k + 1, _, by go_num, by omega, fun j hj => hag2.out j (by omega), hs2.out.1, by rw [Hst.out]; exact hst1.out, hb2.out⟩, by simp [intOf]; omega⟩
      · have hres : resI ops k = (2, 0) := by simp [resI, ho, hlid]
        have hst : stI ops (k + 1) = stI ops k := by simp [stI, ho, hlid]
        have ht0 := hown.cellAt (k * 2) (by omega)
        have hf0 := hown.frozenAt (k * 2)
        rw [List.getElem?_eq_getElem (by omega)] at ht0
        have hs := hown.stored (k * 2) (.int .i64 2)
        have ht1 := hs.1.cellAt (k * 2 + 1) (by omega)
        have hf1 := hs.1.frozenAt (k * 2 + 1)
        rw [List.getElem?_eq_getElem (by simp; omega)] at ht1
        have hs2 := hs.1.stored (k * 2 + 1) (.int .i64 0)
        have hb1 := hbel.setCell (p := ⟨w.heap.size + 1, k * 2, none⟩) (Nat.le_succ _) (.int .i64 2)
        have hb2 := hid (hb1.setCell (p := ⟨w.heap.size + 1, k * 2 + 1, none⟩) (Nat.le_succ _) (.int .i64 0))
        rw [hres] at hr
        have hag1 := agree_set hag hr.1 (by omega)
        have hag2 := hid (agree_set hag1 hr.2 (by simp; omega))
        have hst1 := hid ((hsto.ty hs.2 (RowTy.of_own hown) stoT_ne37).ty hs2.2 (RowTy.of_own hs.1) stoT_ne37)
        have hs2 := hid hs2
        have Hst := hid hst
        have hlid' : ¬ (k : Int) < 20000 := by omega
        clear hs hb1 hr hag1 hown hsto hres hst ho hc hcell had hag
        go_wp2
        refine ⟨⟨k + 1, _, by go_num, by omega, fun j hj => hag2.out j (by omega), hs2.out.1, by rw [Hst.out]; exact hst1.out, hb2.out⟩, by simp [intOf]; omega⟩
    · obtain rfl : k = ops.length := by omega
      have hx := agree_all (xs := xs) (C := resCells (runI ops)) (by rw [resCells_len, runI_len]; exact hag) (by rw [resCells_len, runI_len]; exact hown.1)
      subst hx
      go_wp2
      go_ret
      exact ⟨_, rfl, hown, ⟨rfl, _, _, rfl⟩, hbel⟩
end Go.Proofs.Yafahw
