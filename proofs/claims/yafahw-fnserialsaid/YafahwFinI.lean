/- Walk: impl.Final (20). -/
import Derived.Test.YafahwStep
import Derived.Test.YafahwSwap
import Derived.Test.YafahwLawCells
namespace Go.Proofs.Yafahw
open Go.RowKit
set_option linter.unusedVariables false
set_option linter.unusedSimpArgs false
attribute [local go_sem ↓] Go.wp_at_zero Go.wp_at_succ

/-- the number of operations that are worked off -/
def lidN (ops : List POp) : Nat := min ops.length 20000

def FinStR (w : World) (ops : List POp) (i : Value) (wr : World) : Prop :=
  ∃ k : Nat, i = .int .i64 (k : Int) ∧ k ≤ lidN ops ∧ StoAt w.heap.size wr w.heap.size (stI ops k) ∧ Below w.heap.size w wr
def FinKeyR (W : World) (keys : List KH) (ou i : Value) (wr : World) : Prop :=
  ∃ (m : Nat) (l : List (Int × Int)), i = .int .i64 (m : Int) ∧ m ≤ keys.length ∧ l.length ≤ m ∧ wr.ownsRow W.heap.size 43 2 ou l.length (resCells l) ∧ KeysDone keys m l ∧ Below W.heap.size W wr
def SinkR (W : World) (l : List (Int × Int)) (c : Int × Int) (g n cap : Nat) (i : Value) (wr : World) : Prop :=
  ∃ j : Nat, i = .int .i64 (j : Int) ∧ j ≤ l.length ∧ (∀ x ∈ l.drop j, c.1 < x.1) ∧ wr.ownsRow W.heap.size 43 2 (.slice (some ⟨g, 0, none⟩) n cap) n (resCells (sunk l c j)) ∧ Below W.heap.size W wr

theorem alloc2f (w : World) (o1 o2 : Obj) : ((w.alloc o1).alloc o2).drew.heap[w.heap.size + 1]? = some o2 := by
  have h := heap_alloc_new (w.alloc o1) o2
  rw [show (w.alloc o1).heap.size = w.heap.size + 1 from by simp] at h
  exact h
theorem sunk_top {w : World} {B e g n cap : Nat} {l : List (Int × Int)} {k v : Int} (h : w.ownsRow B e 2 (.slice (some ⟨g, 0, none⟩) n cap) n (resCells l ++ [.int .i64 k, .int .i64 v])) : w.ownsRow B e 2 (.slice (some ⟨g, 0, none⟩) n cap) n (resCells (sunk l (k, v) l.length)) := by
  unfold sunk; rw [List.take_length, List.drop_length, resCells_snoc]; exact h
theorem sink_more {l : List (Int × Int)} {i : Nat} {y c : Int × Int} (hy : l[i]? = some y) (h : ∀ z ∈ l.drop (i + 1), c.1 < z.1) (hgt : c.1 < y.1) : ∀ z ∈ l.drop i, c.1 < z.1 := by
  obtain ⟨hi, rfl⟩ := List.getElem?_eq_some_iff.1 hy
  intro z hz
  rw [List.drop_eq_getElem_cons hi] at hz
  rcases List.mem_cons.1 hz with rfl | hz
  · exact hgt
  · exact h z hz
theorem i64_small (n : Int) (h : 0 ≤ n) (h2 : n ≤ 400000000) : IntKind.i64.wrap n = n := by
  rw [IntWalk.i64_left]; exact IntWalk.wrap64_in n ⟨by omega, by omega⟩

theorem sto_init' (w : World) : StoAt w.heap.size (w.alloc (.cells #[.int .i64 0, .slice none 0 0, .slice none 0 0] 72)) w.heap.size sto0 :=
  ⟨_, _, [], [], ⟨Nat.le_refl _, heap_alloc_new w _, ⟨rfl, .inl ⟨rfl, rfl⟩⟩, ⟨rfl, .inl ⟨rfl, rfl⟩⟩, fun i p h => by simp at h, fun i p h => by simp at h, fun i j p q _ h => by simp at h, fun i j p q _ h => by simp at h⟩, rfl, rfl⟩

set_option maxHeartbeats 8000000 in
set_option maxRecDepth 100000 in
theorem finalI_any (ops : List POp) (v : Value) (w : World) (hrow : RowAt w 4 v ops.length (opCells ops)) (hn : ops.length ≤ 100000000) :
    Calls Yahh.prog 20 #[v] w fun e w' => ∃ (v' : Value) (l : List (Int × Int)), e = .returned v' ∧ w'.ownsRow w.heap.size 43 2 v' l.length (resCells l) ∧ l.length ≤ 400000000 ∧ FinOf (fun k => cur (versOf (stI ops (lidN ops)).keys k)) l ∧ Below w.heap.size w w' := by
  obtain ⟨ad, cap, b, off, rfl, hcap, hlen, had, hcell⟩ := hrow
  have hs0 := hid (sto_init' w)
  go_enter Yahh.func20, Yahh.ntmps20
  go_wp2
  go_loopw [4] (fun i wr => FinStR w ops i wr) (fun i _ => ops.length - (intOf i).toNat)
  case atStart => exact ⟨0, rfl, Nat.zero_le _, hs0.out, (Below.refl _ _).alloc (Nat.le_refl _) _⟩
  case round =>
    clear hs0
    obtain ⟨k, rfl, hk, hsto, hbel⟩ := hrel
    have hsz := hbel.size
    by_cases hlt : k < lidN ops
    · have hlt1 : k < ops.length := by unfold lidN at hlt; omega
      have hlt2 : k < 20000 := by unfold lidN at hlt; omega
      obtain ⟨o, ho⟩ : ∃ r, ops[k]? = some r := ⟨_, List.getElem?_eq_getElem hlt1⟩
      obtain rfl := had (by omega)
      have hc := opCells_at ops k _ ho
      have hc0 : wr.cell? ⟨b, off + k * 4, none⟩ = some (.int .i64 o.kind) := cell_below hbel (hcell _ _ hc.1)
      have hc1 : wr.cell? ⟨b, off + k * 4 + 1, none⟩ = some (.int .i64 o.tx) := cell_below hbel (by rw [Nat.add_assoc]; exact hcell _ _ hc.2.1)
      have hc2 : wr.cell? ⟨b, off + k * 4 + 2, none⟩ = some (.int .i64 o.key) := cell_below hbel (by rw [Nat.add_assoc]; exact hcell _ _ hc.2.2.1)
      have hc3 : wr.cell? ⟨b, off + k * 4 + 3, none⟩ = some (.int .i64 o.val) := cell_below hbel (by rw [Nat.add_assoc]; exact hcell _ _ hc.2.2.2)
      have hk0 : (0 : Int) ≤ (k : Int) := by omega
      have hkl : (k : Int) < (ops.length : Int) := by omega
      have hkl2 : (k : Int) < 20000 := by omega
      have hst : stI ops (k + 1) = (stepI (stI ops k) o).1 := by simp [stI, ho, hlt2]
      have hcall := step_any hsto hsz ((small_st ops k).mono (by omega)) o
      have Hst := hid hst
      clear hst ho hc hcell had
      unfold opV resV at hcall
      go_wp2_with fail
      refine hcall.mono ?_
      rintro e w2 ⟨rfl, hsto2, hkeep⟩
      clear hcall
      go_wp2
      exact ⟨⟨k + 1, by go_num, by omega, by rw [Hst.out]; exact hsto2, hbel.trans hkeep.below⟩, by simp [intOf]; omega⟩
    · obtain rfl : k = lidN ops := by omega
      have hcond : ¬ ((lidN ops : Int) < (ops.length : Int) ∧ (lidN ops : Int) < 20000) := by unfold lidN; omega
      have hsm := (small_st ops (lidN ops)).mono (m := 20000) (by omega)
      have hnd := (sim_all ops (lidN ops)).nodup
      generalize hS : stI ops (lidN ops) = S at *
      have HS := hid hS
      clear hS
      obtain ⟨clock, keys, txs⟩ := S
      obtain ⟨kv, tv, ck, ct, h, hk1, hk2⟩ := hsto
      simp only [] at hk1 hk2 hnd hsm h ⊢
      subst hk1
      generalize hN : lidN ops = N at *
      have hck : ck.length ≤ 400000000 := by have := hsm.keys; simp at this; omega
      have hvl : ∀ p ∈ ck, p.1.vers.length ≤ 400000000 := fun p hp => by have := hsm.vers p.1 (List.mem_map.2 ⟨p, hp, rfl⟩); omega
      have hck' : (ck.map (·.1)).length = ck.length := by simp
      have Hnd := hid hnd
      have c1 := h.c1
      have hks := h.keys
      have hvers := hid h.vers
      obtain ⟨kd, kcap, kg, hkv, hkd⟩ := own_shape hks
      subst hkv
      have HN := hid hN
      clear hnd hk hlt hN hk2 hsm had hcell h
      have hcase : (¬ (N : Int) < (ops.length : Int)) ∨ ((N : Int) < (ops.length : Int) ∧ ¬ (N : Int) < 20000) := by omega
      clear hcond
      rcases hcase with hA | ⟨hA, hA2⟩
      all_goals
        go_wp2
        rename World => W
        go_loopw [5, 6] (fun ou i wr => FinKeyR W (ck.map (·.1)) ou i wr) (fun _ i _ => ck.length - (intOf i).toNat)
        case atStart => exact ⟨0, [], rfl, Nat.zero_le _, Nat.le_refl _, ⟨rfl, .inl ⟨rfl, rfl⟩⟩, ⟨List.Pairwise.nil, fun c => by simp⟩, Below.refl _ _⟩
        case round =>
          obtain ⟨m, l, rfl, hm, hlm, hown, hdone, hbel2⟩ := hrel
          rw [hck'] at hm
          have c1' := cell_below hbel2 c1
          by_cases hlt : m < ck.length
          · obtain ⟨⟨x, xh⟩, hx⟩ : ∃ p, ck[m]? = some p := ⟨_, List.getElem?_eq_getElem hlt⟩
            obtain rfl := hkd (by omega)
            have hxm : (ck.map (·.1))[m]? = some x := by rw [List.getElem?_map, hx]; rfl
            have hvo := hvers.out m _ hx
            have hxl := hvl _ (List.mem_of_getElem? hx)
            obtain ⟨vd, vcap, vg, hvv, hvd⟩ := own_shape hvo
            simp only [] at hvv hxl hvo hvd
            subst hvv
            have kc0 := cell_below hbel2 (row_cell khC_len hks hx (j := 0) (by omega) rfl)
            have kc1 := cell_below hbel2 (row_cell khC_len hks hx (j := 1) (by omega) rfl)
            rw [Nat.add_zero] at kc0
            have hm0 : (0 : Int) ≤ (m : Int) := by omega
            have hml : (m : Int) < (ck.length : Int) := by omega
            have hsz2 := hbel2.size
            have Hxm := hid hxm
            have Hdone := hid hdone
            clear hx hxm hdone
            by_cases hv0 : x.vers.length = 0
            · have hcur : cur x.vers = none := by rw [List.eq_nil_of_length_eq_zero hv0]; rfl
              have HK := hid (keysDone_skip Hdone.out Hxm.out hcur)
              rw [hv0] at kc1
              clear hcur hvo hvd
              go_wp2
              exact ⟨⟨m + 1, l, by go_num, by (rw [List.length_map]; omega), by omega, hown, HK.out, hbel2⟩, by simp [intOf]; omega⟩
            · obtain ⟨q, hq⟩ : ∃ q, x.vers.length = q + 1 := ⟨x.vers.length - 1, by omega⟩
              obtain ⟨v, hvm⟩ : ∃ v, x.vers[q]? = some v := ⟨_, List.getElem?_eq_getElem (by omega)⟩
              obtain rfl := hvd (by omega)
              have v1 := cell_below hbel2 (row_cell verC_len hvo hvm (j := 1) (by omega) rfl)
              have v2 := cell_below hbel2 (row_cell verC_len hvo hvm (j := 2) (by omega) rfl)
              have hlast : x.vers.getLast? = some v := by rw [List.getLast?_eq_getElem?, hq]; exact hvm
              have hvi : (0 : Int) < (x.vers.length : Int) := by omega
              have hwrap : IntKind.i64.wrap (q : Int) = (q : Int) := i64_small _ (by omega) (by omega)
              have hqq : (x.vers.length : Int) - 1 = (q : Int) := by omega
              have hq0 : (0 : Int) ≤ (q : Int) := by omega
              have hql : (q : Int) < (x.vers.length : Int) := by omega
              have Hwrap := hid hwrap
              have Hqq := hid hqq
              have hvn : ((x.vers.length : Int) - 1).toNat = q := by omega
              clear hwrap hqq hq
              have hvz : ((x.vers.length : Int) == 0) = false := by rw [beq_eq_false_iff_ne]; omega
              cases hdel : v.del with
              | true =>
                have hcur : cur x.vers = none := by simp [cur, hlast, hdel]
                have HK := hid (keysDone_skip Hdone.out Hxm.out hcur)
                rw [hdel] at v1
                clear hcur hvo hvm hlast hdel
                go_wp2
                exact ⟨⟨m + 1, l, by go_num, by (rw [List.length_map]; omega), by omega, hown, HK.out, hbel2⟩, by simp [intOf]; omega⟩
              | false =>
                have hcur : cur x.vers = some v.val := by simp [cur, hlast, hdel]
                have Hcur := hid hcur
                have howA := hid (fun o1 o2 => ((hown.alloc o1).alloc o2).drew)
                have hbelA := hid (fun o1 o2 => ((hbel2.alloc hsz2 o1).alloc (by simp; omega) o2).drew)
                rw [hdel] at v1
                clear hcur hvo hvm hlast hdel
                go_wp2
                refine wp_region_cut (fun w' => w'.cell? ⟨w.heap.size, 1, none⟩ = some (.slice (some ⟨kg, 0, none⟩) ck.length kcap) ∧ w'.cell? ⟨kg, m * 2, none⟩ = some (.int .i64 x.key) ∧ w'.cell? ⟨vg, q * 3 + 2, none⟩ = some (.int .i64 v.val)) (by simp) (by kernel_rfl) (by kernel_rfl) (by exact ⟨c1', kc0, v2⟩) (fun hHeld => ?_)
                simp only [List.dropLast_cons_cons, List.dropLast_singleton, List.length_cons, List.length_nil, Nat.reduceAdd]
                refine wpAnyH_take (i := 0) (v := ?_) rfl (by kernel_rfl) (by kernel_rfl) (by kernel_rfl) (fun _ _ _ h => h) (Or.inl ⟨by rfl, ?_⟩) (by assumption) ?_
                rotate_left 1
                · (intro w hSw; (try dsimp only at hSw); go_simp; try with_reducible rfl)
                try simp only [Act.put, List.setIfInBounds_toArray, List.set_cons_zero, List.set_cons_succ]
                refine wpAnyH_take (i := 1) (v := ?_) rfl (by kernel_rfl) (by kernel_rfl) (by kernel_rfl) (fun _ _ _ h => h) (Or.inl ⟨by rfl, ?_⟩) (by assumption) ?_
                rotate_left 1
                · (intro w hSw; (try dsimp only at hSw); go_simp; try with_reducible rfl)
                try simp only [Act.put, List.setIfInBounds_toArray, List.set_cons_zero, List.set_cons_succ]
                refine wpAnyH_take (i := 2) (v := ?_) rfl (by kernel_rfl) (by kernel_rfl) (by kernel_rfl) (fun _ _ _ h => h) (Or.inl ⟨by rfl, ?_⟩) (by assumption) ?_
                rotate_left 1
                · (intro w hSw; (try dsimp only at hSw); go_simp; try with_reducible rfl)
                try simp only [Act.put, List.setIfInBounds_toArray, List.set_cons_zero, List.set_cons_succ]
                refine wpAnyH_take (i := 3) (v := ?_) rfl (by kernel_rfl) (by kernel_rfl) (by kernel_rfl) (fun _ _ _ h => h) (Or.inl ⟨by rfl, ?_⟩) (by assumption) ?_
                rotate_left 1
                · (intro w hSw; (try dsimp only at hSw); go_simp; try with_reducible rfl)
                try simp only [Act.put, List.setIfInBounds_toArray, List.set_cons_zero, List.set_cons_succ]
                refine wpAnyH_take (i := 4) (v := ?_) rfl (by kernel_rfl) (by kernel_rfl) (by kernel_rfl) (fun _ _ _ h => h) (Or.inl ⟨by rfl, ?_⟩) (by assumption) ?_
                rotate_left 1
                · (intro w hSw; (try dsimp only at hSw); go_simp; try with_reducible rfl)
                try simp only [Act.put, List.setIfInBounds_toArray, List.set_cons_zero, List.set_cons_succ]
                refine wpAnyH_take (i := 5) (v := ?_) rfl (by kernel_rfl) (by kernel_rfl) (by kernel_rfl) (fun _ _ _ h => h) (Or.inl ⟨by rfl, ?_⟩) (by assumption) ?_
                rotate_left 1
                · (intro w hSw; (try dsimp only at hSw); go_simp; try with_reducible rfl)
                try simp only [Act.put, List.setIfInBounds_toArray, List.set_cons_zero, List.set_cons_succ]
                refine wpAnyH_take (i := 6) (v := ?_) rfl (by kernel_rfl) (by kernel_rfl) (by kernel_rfl) (fun _ _ _ h => h) (Or.inl ⟨by rfl, ?_⟩) (by assumption) ?_
                rotate_left 1
                · (intro w hSw; (try dsimp only at hSw); go_simp; try with_reducible rfl)
                try simp only [Act.put, List.setIfInBounds_toArray, List.set_cons_zero, List.set_cons_succ]
                refine wpAnyH_take (i := 7) (v := ?_) rfl (by kernel_rfl) (by kernel_rfl) (by kernel_rfl) (fun _ _ _ h => h) (Or.inl ⟨by rfl, ?_⟩) (by assumption) ?_
                rotate_left 1
                · (intro w hSw; (try dsimp only at hSw); go_simp; try with_reducible rfl)
                try simp only [Act.put, List.setIfInBounds_toArray, List.set_cons_zero, List.set_cons_succ]
                refine wpAnyH_take (i := 8) (v := ?_) rfl (by kernel_rfl) (by kernel_rfl) (by kernel_rfl) (fun _ _ _ h => h) (Or.inl ⟨by rfl, ?_⟩) (by assumption) ?_
                rotate_left 1
                · (intro w hSw; (try dsimp only at hSw); go_simp; try with_reducible rfl)
                try simp only [Act.put, List.setIfInBounds_toArray, List.set_cons_zero, List.set_cons_succ]
                refine wpAnyH_take (i := 9) (v := ?_) rfl (by kernel_rfl) (by kernel_rfl) (by kernel_rfl) (fun _ _ _ h => h) (Or.inl ⟨by rfl, ?_⟩) (by assumption) ?_
                rotate_left 1
                · (intro w hSw; (try dsimp only at hSw); go_simp; try with_reducible rfl)
                try simp only [Act.put, List.setIfInBounds_toArray, List.set_cons_zero, List.set_cons_succ]
                refine wpAnyH_take (i := 10) (v := ?_) rfl (by kernel_rfl) (by kernel_rfl) (by kernel_rfl) (fun _ _ _ h => h) (Or.inl ⟨by rfl, ?_⟩) (by assumption) ?_
                rotate_left 1
                · (intro w hSw; (try dsimp only at hSw); go_simp; try with_reducible rfl)
                try simp only [Act.put, List.setIfInBounds_toArray, List.set_cons_zero, List.set_cons_succ]
                refine wpAnyH_take (i := 11) (v := ?_) rfl (by kernel_rfl) (by kernel_rfl) (by kernel_rfl) (fun _ _ _ h => h) (Or.inl ⟨by rfl, ?_⟩) (by assumption) ?_
                rotate_left 1
                · (intro w hSw; (try dsimp only at hSw); go_simp; try with_reducible rfl)
                try simp only [Act.put, List.setIfInBounds_toArray, List.set_cons_zero, List.set_cons_succ]
                refine wpAnyH_take (i := 12) (v := ?_) rfl (by kernel_rfl) (by kernel_rfl) (by kernel_rfl) (fun _ _ _ h => h) (Or.inl ⟨by rfl, ?_⟩) (by assumption) ?_
                rotate_left 1
                · (intro w hSw; (try dsimp only at hSw); go_simp; simp only [Hqq.out, Hwrap.out, hq0, hql, and_self, if_true, Int.toNat_natCast]; try with_reducible rfl)
                try simp only [Act.put, List.setIfInBounds_toArray, List.set_cons_zero, List.set_cons_succ]
                refine wpAnyH_take (i := 13) (v := ?_) rfl (by kernel_rfl) (by kernel_rfl) (by kernel_rfl) (fun _ _ _ h => h) (Or.inl ⟨by rfl, ?_⟩) (by assumption) ?_
                rotate_left 1
                · (intro w hSw; (try dsimp only at hSw); go_simp; try with_reducible rfl)
                try simp only [Act.put, List.setIfInBounds_toArray, List.set_cons_zero, List.set_cons_succ]
                refine wpAnyH_take (i := 14) (v := ?_) rfl (by kernel_rfl) (by kernel_rfl) (by kernel_rfl) (fun _ _ _ h => h) (Or.inl ⟨by rfl, ?_⟩) (by assumption) ?_
                rotate_left 1
                · (intro w hSw; (try dsimp only at hSw); go_simp; try with_reducible rfl)
                try simp only [Act.put, List.setIfInBounds_toArray, List.set_cons_zero, List.set_cons_succ]
                refine wpAnyH_take (i := 15) (v := ?_) rfl (by kernel_rfl) (by kernel_rfl) (by kernel_rfl) (fun _ _ _ h => h) (Or.inl ⟨by rfl, ?_⟩) (by assumption) ?_
                rotate_left 1
                · (intro w hSw; (try dsimp only at hSw); go_simp; try with_reducible rfl)
                try simp only [Act.put, List.setIfInBounds_toArray, List.set_cons_zero, List.set_cons_succ]
                refine wpAnyH_ready (rs := [16]) (by kernel_rfl) (by simp) ?_
                refine AllReadyH.cons rfl (fun K hK => ?_) AllReadyH.nil
                go_simp
                refine hK.out _ _ ?_ (fun hHeld => ?_)
                · go_keep
                clear hK K
                try simp only [Act.put, List.setIfInBounds_toArray, List.set_cons_zero, List.set_cons_succ]
                refine wpAnyH_done (by kernel_rfl) ?_ _
                refine lastQ_mk rfl rfl (fun K hK => ?_)
                go_wp2_with (first
                  | (at_builtin; refine wpList_app1 rfl (.tmp 74) (.tmp 76) 29 rfl W.heap.size 43 _ 2 16 Yahh.underlying29 Yahh.info43 rfl (by decide) _ _ _ rfl (howA.out _ _) (wr.heap.size + 1) _ _ _ rfl (alloc2f wr _ _) rfl (one2 _ _ rfl rfl) (by omega) (by decide) (by simp; omega) _ rfl ?_; intro g5 cap5 w5 hown5 hgrow5 hat5 hlt5; have hbel5 := (hbelA.out _ _).grown hgrow5 (by simp; omega) (fun k hk => (own_lt hown hk).1); have Hown6 := hid (sunk_top hown5); clear hgrow5 hat5 hown5 hlt5)
                  | fail)
                clear hHeld c1' kc0 kc1 v1 v2 howA hbelA hown hbel2 hvi hq0 hql Hwrap Hqq hvn hvz hv0 hkd hvd
                go_loopw [9] (fun i wr => SinkR W l (x.key, v.val) g5 (l.length + 1) cap5 i wr) (fun i _ => (intOf i).toNat)
                case atStart => exact ⟨l.length, rfl, Nat.le_refl _, by simp, Hown6.out, hbel5⟩
                case round =>
                  rename World => W2
                  obtain ⟨j, rfl, hj, hhi, hownj, hbelj⟩ := hrel
                  clear Hown6 hbel5
                  by_cases hj0 : j = 0
                  · subst hj0
                    have HD := hid (keysDone_ins Hnd.out Hdone.out Hxm.out Hcur.out hhi (.inl rfl) (Nat.zero_le _))
                    clear hhi
                    go_wp2_with fail
                    go_quiet (fail)
                    go_wp2
                    exact ⟨⟨m + 1, sunk l (x.key, v.val) 0, by go_num, by (rw [List.length_map]; omega), by (rw [sunk_len]; omega), by (rw [sunk_len]; exact hownj), HD.out, below_drewN hbelj _⟩, by simp [intOf]; omega⟩
                  · obtain ⟨i, rfl⟩ : ∃ i, j = i + 1 := ⟨j - 1, by omega⟩
                    obtain ⟨y, hy⟩ : ∃ y, l[i]? = some y := ⟨_, List.getElem?_eq_getElem (by omega)⟩
                    have hL := sunk_left (c := (x.key, v.val)) hj hy
                    have hC := sunk_at (c := (x.key, v.val)) hj
                    have k0 := row_cell resC_len hownj hL (j := 0) (by omega) rfl
                    have k1 := row_cell resC_len hownj hC (j := 0) (by omega) rfl
                    rw [Nat.add_zero] at k0 k1
                    simp only [] at k1
                    have hi0 : (0 : Int) ≤ (i : Int) := by omega
                    have hin : (i : Int) < (l.length : Int) + 1 := by omega
                    have hi1 : (i : Int) + 1 < (l.length : Int) + 1 := by omega
                    have hi2 : (0 : Int) < (i : Int) + 1 := by omega
                    have hi3 : (0 : Int) ≤ (i : Int) + 1 := by omega
                    by_cases hgt : x.key < y.1
                    · have hhi2 : ∀ z ∈ l.drop i, (x.key, v.val).1 < z.1 := sink_more hy hhi hgt
                      have Hhi2 := hid hhi2
                      have Hst := hid (sunk_step (c := (x.key, v.val)) hj hy)
                      have HL := hid hL
                      have HC := hid hC
                      clear hhi hhi2 hy hL hC
                      go_wp2_with fail
                      go_quiet (fail)
                      have hown3 : (W2.drewN nq).ownsRow W.heap.size 43 2 (.slice (some ⟨g5, 0, none⟩) (l.length + 1) cap5) (l.length + 1) (resCells (sunk l (x.key, v.val) (i + 1))) := hownj
                      have hbel3 : Below W.heap.size W (W2.drewN nq) := below_drewN hbelj _
                      generalize W2.drewN nq = W3 at *
                      clear hownj hbelj k0 k1
                      obtain ⟨⟨a0, a1, a2, a3, b0, b1, e0, e1, e2, e3, d0, d1⟩, hO, hG⟩ := swap_row hown3 HL.out HC.out
                      have k0 := row_cell resC_len hown3 HL.out (j := 0) (by omega) rfl
                      have k1 := row_cell resC_len hown3 HL.out (j := 1) (by omega) rfl
                      rw [Nat.add_zero] at k0
                      have hO2 := hO
                      rw [Hst.out] at hO2
                      have HO := hid hO2
                      have hsz3 := hbel3.size
                      have HB := hid ((hbel3.alloc hsz3 (Obj.cells #[.int .i64 y.1, .int .i64 y.2] 43)).grown hG (by simp [swA]; omega) (fun k hk => (own_lt hown3 hk).1))
                      simp only [sw4, sw3, sw2, sw1, swA] at a0 a1 a2 a3 b0 b1 e0 e1 e2 e3 d0 d1 HO HB
                      clear hO hO2 hG Hst HL HC hown3 hbel3
                      go_wp2
                      exact ⟨⟨i, by go_num, by omega, Hhi2.out, HO.out, HB.out⟩, by simp [intOf]⟩
                    · have hd : decide (x.key < y.1) = false := by simp [hgt]
                      have HD := hid (keysDone_ins Hnd.out Hdone.out Hxm.out Hcur.out hhi (.inr ⟨y, by rw [Nat.add_sub_cancel]; exact hy, by omega⟩) hj)
                      clear hhi hgt hy hL hC
                      go_wp2_with fail
                      go_quiet (fail)
                      go_wp2
                      exact ⟨⟨m + 1, sunk l (x.key, v.val) (i + 1), by go_num, by (rw [List.length_map]; omega), by (rw [sunk_len]; omega), by (rw [sunk_len]; exact hownj), HD.out, below_drewN hbelj _⟩, by simp [intOf]; omega⟩
          · obtain rfl : m = ck.length := by omega
            go_wp2
            go_ret
            exact ⟨_, l, rfl, own_mono hown hbel.size, by omega, by rw [HN.out, HS.out]; exact keysDone_fin Hnd.out (by rw [hck']; exact hdone), hbel.trans (hbel2.mono hbel.size)⟩
end Go.Proofs.Yafahw
