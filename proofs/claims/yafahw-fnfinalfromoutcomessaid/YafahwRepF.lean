/- Walk: spec.ReplayFinal (27). -/
import Derived.Test.YafahwPend
import Derived.Test.YafahwFinS
namespace Go.Proofs.Yafahw
open Go.RowKit
set_option linter.unusedVariables false
set_option linter.unusedSimpArgs false
attribute [local go_sem ↓] Go.wp_at_zero Go.wp_at_succ

theorem Yahh.info98 : (Yahh.prog.info? 98).map (fun i => (i.zero, i.size, i.bytes)) = some (some (.agg #[.int .i64 0, .bool false, .slice none 0 0]), 3, 40) := by kernel_rfl

def RepR (w : World) (ops : List POp) (pv cv i : Value) (wr : World) : Prop :=
  ∃ (k : Nat) (cp : List (Pend × Value)), i = .int .i64 (k : Int) ∧ k ≤ ops.length ∧ cp.map (·.1) = pend (stS ops k).txs ∧ PendM w.heap.size wr pv cv cp (replay (stS ops k).log) ∧ Below w.heap.size w wr
theorem repR_mk {w : World} {ops : List POp} {pv cv : Value} {wr : World} {k : Nat} {cp : List (Pend × Value)} (S : Wld) (hS : stS ops (k + 1) = S) (hk : k < ops.length) (h1 : cp.map (·.1) = pend S.txs) (h2 : PendM w.heap.size wr pv cv cp (replay S.log)) (h3 : Below w.heap.size w wr) :
    RepR w ops pv cv (.int .i64 ((k : Int) + 1)) wr ∧ ops.length - (intOf (.int .i64 ((k : Int) + 1))).toNat < ops.length - (intOf (.int .i64 (k : Int))).toNat := by
  subst hS
  exact ⟨⟨k + 1, cp, by go_num, by omega, h1, h2, h3⟩, by simp [intOf]; omega⟩

set_option maxHeartbeats 16000000 in
set_option maxRecDepth 100000 in
theorem replayFinal_any (ops : List POp) (v vr : Value) (w : World) (hrow : RowAt w 4 v ops.length (opCells ops)) (hrr : RowAt w 2 vr ops.length (resCells (runS ops))) (hn : ops.length ≤ 100000000) :
    Calls Yahh.prog 27 #[v, vr] w fun e w' => ∃ (v' : Value) (l : List (Int × Int)), e = .returned v' ∧ w'.ownsRow w.heap.size 43 2 v' l.length (resCells l) ∧ l.length ≤ 400000000 ∧ FinOf (lookS (stS ops ops.length).log) l ∧ Below w.heap.size w w' := by
  obtain ⟨ad, cap, b, off, rfl, hcap, hlen, had, hcell⟩ := hrow
  obtain ⟨rd, rcap, rb, roff, rfl, hrcap, hrlen, hrd, hrcell⟩ := hrr
  go_enter Yahh.func27, Yahh.ntmps27
  go_wp2
  go_loopw [5, 6, 8] (fun pv cv i wr => RepR w ops pv cv i wr) (fun _ _ i _ => ops.length - (intOf i).toNat)
  case atStart => exact ⟨0, [], rfl, Nat.zero_le _, rfl, ⟨⟨rfl, .inl ⟨rfl, rfl⟩⟩, fun i p h => by simp at h, fun i j p q _ h => by simp at h, ⟨rfl, .inl ⟨rfl, rfl⟩⟩⟩, Below.refl _ _⟩
  case round =>
    obtain ⟨k, cp, rfl, hk, hcp, hM, hbel⟩ := hrel
    have hsz := hbel.size
    have hsm := smallW_st ops k
    by_cases hlt : k < ops.length
    · obtain ⟨o, ho⟩ : ∃ r, ops[k]? = some r := ⟨_, List.getElem?_eq_getElem hlt⟩
      obtain rfl := had (by omega)
      obtain rfl := hrd (by omega)
      have hc := opCells_at ops k _ ho
      have hc0 : wr.cell? ⟨b, off + k * 4, none⟩ = some (.int .i64 o.kind) := cell_below hbel (hcell _ _ hc.1)
      have hc1 : wr.cell? ⟨b, off + k * 4 + 1, none⟩ = some (.int .i64 o.tx) := cell_below hbel (by rw [Nat.add_assoc]; exact hcell _ _ hc.2.1)
      have hc2 : wr.cell? ⟨b, off + k * 4 + 2, none⟩ = some (.int .i64 o.key) := cell_below hbel (by rw [Nat.add_assoc]; exact hcell _ _ hc.2.2.1)
      have hc3 : wr.cell? ⟨b, off + k * 4 + 3, none⟩ = some (.int .i64 o.val) := cell_below hbel (by rw [Nat.add_assoc]; exact hcell _ _ hc.2.2.2)
      have hr0 : wr.cell? ⟨rb, roff + k * 2, none⟩ = some (.int .i64 (resS ops k).1) := cell_below hbel (hrcell _ _ (resCells_at (runS ops) k _ (runS_at ops k hlt)).1)
      have hbA := hbel.alloc hsz (Obj.cells #[.int .i64 o.kind, .int .i64 o.tx, .int .i64 o.key, .int .i64 o.val] 35)
      have hrA : (wr.alloc (Obj.cells #[.int .i64 o.kind, .int .i64 o.tx, .int .i64 o.key, .int .i64 o.val] 35)).cell? ⟨rb, roff + k * 2, none⟩ = some (.int .i64 (resS ops k).1) := cell_below hbA (hrcell _ _ (resCells_at (runS ops) k _ (runS_at ops k hlt)).1)
      have hMA := hM.alloc (Obj.cells #[.int .i64 o.kind, .int .i64 o.tx, .int .i64 o.key, .int .i64 o.val] 35)
      have hoA := heap_alloc_new wr (Obj.cells #[.int .i64 o.kind, .int .i64 o.tx, .int .i64 o.key, .int .i64 o.val] 35)
      have hsA : (wr.alloc (Obj.cells #[.int .i64 o.kind, .int .i64 o.tx, .int .i64 o.key, .int .i64 o.val] 35)).heap.size = wr.heap.size + 1 := by simp
      have q0 := cell_of_row _ wr.heap.size 0 _ _ _ hoA
      have q1 := cell_of_row _ wr.heap.size 1 _ _ _ hoA
      have q2 := cell_of_row _ wr.heap.size 2 _ _ _ hoA
      have q3 := cell_of_row _ wr.heap.size 3 _ _ _ hoA
      simp only [List.getElem?_toArray, List.getElem?_cons_succ, List.getElem?_cons_zero] at q0 q1 q2 q3
      have hk0 : (0 : Int) ≤ (k : Int) := by omega
      have hkl : (k : Int) < (ops.length : Int) := by omega
      have Ho := hid hoA
      have Ho1 := hid ho
      clear hc hcell hrcell had hrd hoA ho
      have hst : (k < 20000 ∧ stS ops (k + 1) = (stepS (stS ops k) o).1 ∧ resS ops k = (stepS (stS ops k) o).2) ∨ (stS ops (k + 1) = stS ops k ∧ resS ops k = (2, 0)) := by
        by_cases hl : k < 20000
        · exact .inl ⟨hl, by simp [stS, Ho1.out, hl], by simp [resS, Ho1.out, hl]⟩
        · exact .inr ⟨by simp [stS, Ho1.out, hl], by simp [resS, Ho1.out, hl]⟩
      by_cases hskip : ¬ (resS ops k).1 = 0 ∧ ¬ (o.kind = 4 ∧ (resS ops k).1 = 3)
      · -- not answered Ok (nor a Commit in conflict): passed over
        have hun : pend (stS ops (k + 1)).txs = pend (stS ops k).txs ∧ (stS ops (k + 1)).log = (stS ops k).log := by
          rcases hst with ⟨_, h1, h2⟩ | ⟨h1, _⟩
          · rw [h1]; rw [h2] at hskip; exact rep_skip hskip.1 hskip.2
          · rw [h1]; exact ⟨rfl, rfl⟩
        have HF := hid (repR_mk (w := w) (ops := ops) (cp := cp) _ rfl hlt (by rw [hun.1]; exact hcp) (by rw [hun.2]; exact hMA) hbA)
        clear hun hst hM hMA hbA hbel hsm hcp
        obtain ⟨hs0, hs1⟩ := hskip
        generalize hkd : o.kind = kd at *
        have Hkd := hid hkd
        clear hkd
        generalize hcd : (resS ops k).1 = cd at *
        have Hcd := hid hcd
        clear hcd
        by_cases hk4 : kd = 4
        · have hs3 : ¬ cd = 3 := fun e => hs1 ⟨hk4, e⟩
          subst hk4
          have hb0 : (cd != 0) = true := by simp [hs0]
          have hb3 : (cd == 3) = false := by simp [hs3]
          clear hs1 hs0 hs3
          go_wp2
          exact HF.out
        · have hb0 : (cd != 0) = true := by simp [hs0]
          have hb4 : (kd == 4) = false := by simp [hk4]
          clear hs1 hs0 hk4
          go_wp2
          exact HF.out
      · have hpass : (resS ops k).1 = 0 ∨ (o.kind = 4 ∧ (resS ops k).1 = 3) := by
          by_cases h0 : (resS ops k).1 = 0
          · exact .inl h0
          · by_cases h1 : o.kind = 4 ∧ (resS ops k).1 = 3
            · exact .inr h1
            · exact absurd ⟨h0, h1⟩ hskip
        clear hskip
        have hst2 : k < 20000 ∧ stS ops (k + 1) = (stepS (stS ops k) o).1 ∧ resS ops k = (stepS (stS ops k) o).2 := by
          rcases hst with h | ⟨_, h⟩
          · exact h
          · rw [h] at hpass; omega
        obtain ⟨hk20, hst1, hres⟩ := hst2
        clear hst
        rw [hres] at hpass hr0 hrA
        have hbuf : ∀ t ∈ (stS ops k).txs, t.buf.length ≤ 20000 := fun t ht => Nat.le_trans (hsm.buf t ht) (by omega)
        have hrl : (replay (stS ops k).log).length ≤ k * 20000 := by
          have h1 := replay_len (stS ops k).log (fun c hc => Nat.le_trans (hsm.wr c hc) (by omega))
          have h2 : (stS ops k).log.length ≤ k := Nat.le_trans hsm.log (by omega)
          exact Nat.le_trans h1 (Nat.mul_le_mul_right _ h2)
        have htl : cp.length ≤ 20000 := by
          have h1 : (cp.map (·.1)).length = (stS ops k).txs.length := by rw [hcp]; simp [pend]
          have h2 := hsm.tx
          simp at h1; omega
        have hnd := nodup_st ops k
        have Hst1 := hid hst1
        have Hnd := hid hnd
        have Hbuf := hid hbuf
        clear hsm hres hst1 hnd hbuf
        by_cases hk0' : o.kind = 0
        · -- Begin
          have hcode : (stepS (stS ops k) o).2.1 = 0 := by rcases hpass with h | h; exact h; omega
          have HR := hid (rep_begin hcode hk0')
          rw [hcode] at hr0 hrA
          rw [hk0'] at q0 hc0 Ho
          clear hpass hcode
          generalize hc9 : stepS (stS ops k) o = STEP at *
          have hpsA := hid (fun o1 => (hMA.ps.alloc o1))
          have hbA2 := hid (fun o1 => hbA.alloc (by simp; omega) o1)
          have HMA := hid hMA
          generalize hkd : o.kind = kd at *
          have Hkd := hid hkd
          clear hkd
          subst hk0'
          clear hM hMA hbA hbel
          go_wp2_with (first
            | (at_builtin; refine wpList_app1 rfl (.tmp 50) (.tmp 54) 96 rfl w.heap.size 98 _ 3 40 Yahh.underlying96 Yahh.info98 rfl (by decide) _ _ _ rfl (hpsA.out _) (wr.heap.size + 1) _ _ _ rfl (alloc2c wr _ _) rfl (one3 _ _ _ rfl rfl rfl) (by omega) (by decide) (by simp; omega) _ rfl ?_; intro g5 cap5 w5 hown5 hgrow5 hat5 hlt5; have hM5 := hid ((HMA.out.alloc _).add hgrow5 (⟨o.tx, true, []⟩, .slice none 0 0) (pv' := .slice (some ⟨g5, 0, none⟩) (cp.length + 1) cap5) (by simpa [pdC] using hown5) (World.ownsRow_nil _ _ _ _) rfl); have hb5 := hid ((hbA2.out _).grown hgrow5 (by simp; omega) (fun k hk => (own_lt HMA.out.ps hk).1)); clear hgrow5 hat5 hown5)
            | fail)
          exact repR_mk (cp := cp ++ [(⟨o.tx, true, []⟩, .slice none 0 0)]) _ Hst1.out hlt (by rw [HR.out.1, List.map_append, hcp]; rfl) (by rw [HR.out.2]; exact hM5.out) hb5.out
        · have hex := hid (rep_there hpass hk0')
          have HRK := hid (fun (m : Nat) (t : Txn) (hf : findTx (stS ops k).txs o.tx = some m) (ht : (stS ops k).txs[m]? = some t) (ha : t.active = true) => rep_kind hf ht ha hpass hk0')
          have Hpass := hid hpass
          rcases hpass with hcode | ⟨hk4, hcode⟩
          · generalize hkd : o.kind = kd at *
            have Hkd := hid hkd
            clear hkd
            have hb0 : (kd == 0) = false := by simp [hk0']
            generalize hcd : (stepS (stS ops k) o).2.1 = cd at *
            have Hcd := hid hcd
            clear hcd
            subst hcode
            obtain ⟨pd, pcap, pg, hpv, hpd⟩ := own_shape hMA.ps
            subst hpv
            have hob : wr.heap.size < (wr.alloc (Obj.cells #[.int .i64 kd, .int .i64 o.tx, .int .i64 o.key, .int .i64 o.val] 35)).heap.size := by rw [hsA]; omega
            have hszA : w.heap.size ≤ (wr.alloc (Obj.cells #[.int .i64 kd, .int .i64 o.tx, .int .i64 o.key, .int .i64 o.val] 35)).heap.size := by rw [hsA]; omega
            clear hM hbel
            go_wp2
            generalize hW : wr.alloc (Obj.cells #[.int .i64 kd, .int .i64 o.tx, .int .i64 o.key, .int .i64 o.val] 35) = W at *
            clear hW hc0 hc1 hc2 hc3 hr0 hrA
            generalize hobb : wr.heap.size = ob at *
            clear hobb
            go_loopw [12] (fun i w2 => SearchBack W cp (hitP o.tx) i w2) (fun i _ => ((intOf i) + 1).toNat)
            case atStart =>
              refine ⟨cp.length, 0, rfl, Nat.le_refl _, ?_, rfl⟩
              intro j a hj ha
              rw [List.getElem?_eq_none (by omega)] at ha; cases ha
            case round =>
              obtain ⟨m, nq0, rfl, hm, hno, rfl⟩ := hrel
              by_cases hm0 : 0 < m
              · obtain ⟨m, rfl⟩ : ∃ m', m = m' + 1 := ⟨m - 1, by omega⟩
                obtain ⟨⟨y, yv⟩, hy⟩ : ∃ p, cp[m]? = some p := ⟨_, List.getElem?_eq_getElem (by omega)⟩
                obtain rfl := hpd (by omega)
                have y0 := row_cell pdC_len hMA.ps hy (j := 0) (by omega) rfl
                have y1 := row_cell pdC_len hMA.ps hy (j := 1) (by omega) rfl
                rw [Nat.add_zero] at y0
                simp only [] at y0 y1
                have hm1 : (0 : Int) ≤ (m : Int) := by omega
                have hm2 : (m : Int) < (cp.length : Int) := by omega
                have Hy := hid hy
                have Hno := hid hno
                clear hy hno hpd
                by_cases hidt : y.id = o.tx
                · cases hlv : y.live with
                  | false =>
                    have hmiss : hitP o.tx (y, yv) = false := by simp [hitP, hlv]
                    have hbe : (y.id == o.tx) = true := by simp [hidt]
                    rw [hlv] at y1
                    go_wp2_with fail
                    go_quiet (fail)
                    go_wp2
                    refine ⟨⟨m, _, by go_num, by omega, ?_, rfl⟩, by first | (simp [intOf]; done) | (simp [intOf]; omega)⟩
                    intro j a hj ha
                    by_cases hjk : j = m
                    · subst hjk; rw [Hy.out] at ha; simp at ha; subst ha; exact hmiss
                    · exact Hno.out j a (by omega) ha
                  | true =>
                    have hbe : (y.id == o.tx) = true := by simp [hidt]
                    obtain ⟨t, hf, ht, hti, hta, htb⟩ := hit_tx hcp Hnd.out Hy.out hlv
                    simp only [] at hf hti htb
                    rw [hidt] at hf
                    have HK := hid (HRK.out m t hf ht hta)
                    have hwl : y.writes.length ≤ 20000 := by rw [← htb]; exact Hbuf.out t (List.mem_of_getElem? ht)
                    rw [hlv] at y1
                    have Hhit := hid (And.intro hti htb)
                    have Hlv := hid hlv
                    have Hidt := hid hidt
                    rw [hidt] at y0
                    clear hf ht hta hlv hti htb hidt
                    go_wp2_with fail
                    go_quiet (fail)
                    have hM3 : PendM w.heap.size ((W.drewN nq0).drewN nq) (.slice (some ⟨pg, 0, none⟩) cp.length pcap) u6 cp (replay (stS ops k).log) := (hMA.drewN _).drewN _
                    have hb3 : Below w.heap.size w ((W.drewN nq0).drewN nq) := below_drewN (below_drewN hbA _) _
                    have Ho3 : Hid (((W.drewN nq0).drewN nq).heap[ob]? = _) := Ho
                    have hz3 : w.heap.size ≤ ((W.drewN nq0).drewN nq).heap.size := hszA
                    generalize (W.drewN nq0).drewN nq = W3 at *
                    clear hMA hbA Ho q0 q1 q2 q3 y0 y1 hszA hob hsA
                    have q0 := cell_of_row _ ob 0 _ _ _ Ho3.out
                    have q1 := cell_of_row _ ob 1 _ _ _ Ho3.out
                    have q2 := cell_of_row _ ob 2 _ _ _ Ho3.out
                    have q3 := cell_of_row _ ob 3 _ _ _ Ho3.out
                    simp only [List.getElem?_toArray, List.getElem?_cons_succ, List.getElem?_cons_zero] at q0 q1 q2 q3
                    have y1 := row_cell pdC_len hM3.ps Hy.out (j := 1) (by omega) rfl
                    have y2 := row_cell pdC_len hM3.ps Hy.out (j := 2) (by omega) rfl
                    have f1 := hM3.ps.frozenAt (m * 3 + 1)
                    have f2 := hM3.ps.frozenAt (m * 3 + 2)
                    simp only [] at y1 y2
                    have hws := hM3.wrs m _ Hy.out
                    obtain ⟨yd, ycap, yg, hyv, hyd⟩ := own_shape hws
                    simp only [] at hyv hws
                    subst hyv
                    have Hno := hid True.intro
                    have hpg : w.heap.size ≤ pg := (own_lt hM3.ps (g := pg) rfl).1
                    obtain hkk := HK.out.2.2.2.2.2
                    rcases hkk with rfl | rfl | rfl | rfl | rfl
                    · go_wp2
                      exact repR_mk _ Hst1.out hlt (by rw [(HK.out.1 rfl).1]; exact hcp) (by rw [(HK.out.1 rfl).2]; exact hM3) hb3
                    · have H2 := hid (HK.out.2.1 rfl)
                      clear HK HRK Hpass
                      go_wp2
                      refine wp_region_cut (fun w' => w'.cell? ⟨pg, m * 3 + 2, none⟩ = some (.slice yd y.writes.length ycap) ∧ w'.cell? ⟨ob, 2, none⟩ = some (.int .i64 o.key) ∧ w'.cell? ⟨ob, 3, none⟩ = some (.int .i64 o.val)) (by simp) (by kernel_rfl) (by kernel_rfl) (by exact ⟨y2, q2, q3⟩) (fun hHeld => ?_)
                      simp only [List.dropLast_cons_cons, List.dropLast_singleton, List.length_cons, List.length_nil, Nat.reduceAdd]
                      refine wpAnyH_take (i := 0) (v := ?_) rfl (by kernel_rfl) (by kernel_rfl) (by kernel_rfl) (fun _ _ _ h => h) (Or.inl ⟨by rfl, ?_⟩) (by assumption) ?_
                      rotate_left 1
                      · (intro w hSw; (try dsimp only at hSw); go_simp; try with_reducible rfl)
                      try simp only [Act.put, List.setIfInBounds_toArray, List.set_cons_zero, List.set_cons_succ]
                      refine wpAnyH_take (i := 1) (v := ?_) rfl (by kernel_rfl) (by kernel_rfl) (by kernel_rfl) (fun _ _ _ h => h) (Or.inl ⟨by rfl, ?_⟩) (by assumption) ?_
                      rotate_left 1
                      · (intro w hSw; (try dsimp only at hSw); go_simp; try with_reducible rfl)
                      try simp only [Act.put, List.setIfInBounds_toArray, List.set_cons_zero, List.set_cons_succ]
                      refine wpAnyH_take (i := 2) (v := ?_) rfl (by kernel_rfl) (by kernel_rfl) (by kernel_rfl) (fun _ _ _ h => h) (Or.inl ⟨by rfl, ?_⟩) (by assumption) ?_
                      rotate_left 1
                      · (intro w hSw; (try dsimp only at hSw); go_simp; try with_reducible rfl)
                      try simp only [Act.put, List.setIfInBounds_toArray, List.set_cons_zero, List.set_cons_succ]
                      refine wpAnyH_take (i := 3) (v := ?_) rfl (by kernel_rfl) (by kernel_rfl) (by kernel_rfl) (fun _ _ _ h => h) (Or.inl ⟨by rfl, ?_⟩) (by assumption) ?_
                      rotate_left 1
                      · (intro w hSw; (try dsimp only at hSw); go_simp; try with_reducible rfl)
                      try simp only [Act.put, List.setIfInBounds_toArray, List.set_cons_zero, List.set_cons_succ]
                      refine wpAnyH_take (i := 4) (v := ?_) rfl (by kernel_rfl) (by kernel_rfl) (by kernel_rfl) (fun _ _ _ h => h) (Or.inl ⟨by rfl, ?_⟩) (by assumption) ?_
                      rotate_left 1
                      · (intro w hSw; (try dsimp only at hSw); go_simp; try with_reducible rfl)
                      try simp only [Act.put, List.setIfInBounds_toArray, List.set_cons_zero, List.set_cons_succ]
                      refine wpAnyH_take (i := 5) (v := ?_) rfl (by kernel_rfl) (by kernel_rfl) (by kernel_rfl) (fun _ _ _ h => h) (Or.inl ⟨by rfl, ?_⟩) (by assumption) ?_
                      rotate_left 1
                      · (intro w hSw; (try dsimp only at hSw); go_simp; try with_reducible rfl)
                      try simp only [Act.put, List.setIfInBounds_toArray, List.set_cons_zero, List.set_cons_succ]
                      refine wpAnyH_take (i := 6) (v := ?_) rfl (by kernel_rfl) (by kernel_rfl) (by kernel_rfl) (fun _ _ _ h => h) (Or.inl ⟨by rfl, ?_⟩) (by assumption) ?_
                      rotate_left 1
                      · (intro w hSw; (try dsimp only at hSw); go_simp; try with_reducible rfl)
                      try simp only [Act.put, List.setIfInBounds_toArray, List.set_cons_zero, List.set_cons_succ]
                      refine wpAnyH_take (i := 7) (v := ?_) rfl (by kernel_rfl) (by kernel_rfl) (by kernel_rfl) (fun _ _ _ h => h) (Or.inl ⟨by rfl, ?_⟩) (by assumption) ?_
                      rotate_left 1
                      · (intro w hSw; (try dsimp only at hSw); go_simp; try with_reducible rfl)
                      try simp only [Act.put, List.setIfInBounds_toArray, List.set_cons_zero, List.set_cons_succ]
                      refine wpAnyH_take (i := 8) (v := ?_) rfl (by kernel_rfl) (by kernel_rfl) (by kernel_rfl) (fun _ _ _ h => h) (Or.inl ⟨by rfl, ?_⟩) (by assumption) ?_
                      rotate_left 1
                      · (intro w hSw; (try dsimp only at hSw); go_simp; try with_reducible rfl)
                      try simp only [Act.put, List.setIfInBounds_toArray, List.set_cons_zero, List.set_cons_succ]
                      refine wpAnyH_take (i := 9) (v := ?_) rfl (by kernel_rfl) (by kernel_rfl) (by kernel_rfl) (fun _ _ _ h => h) (Or.inl ⟨by rfl, ?_⟩) (by assumption) ?_
                      rotate_left 1
                      · (intro w hSw; (try dsimp only at hSw); go_simp; try with_reducible rfl)
                      try simp only [Act.put, List.setIfInBounds_toArray, List.set_cons_zero, List.set_cons_succ]
                      refine wpAnyH_take (i := 10) (v := ?_) rfl (by kernel_rfl) (by kernel_rfl) (by kernel_rfl) (fun _ _ _ h => h) (Or.inl ⟨by rfl, ?_⟩) (by assumption) ?_
                      rotate_left 1
                      · (intro w hSw; (try dsimp only at hSw); go_simp; try with_reducible rfl)
                      try simp only [Act.put, List.setIfInBounds_toArray, List.set_cons_zero, List.set_cons_succ]
                      refine wpAnyH_take (i := 11) (v := ?_) rfl (by kernel_rfl) (by kernel_rfl) (by kernel_rfl) (fun _ _ _ h => h) (Or.inl ⟨by rfl, ?_⟩) (by assumption) ?_
                      rotate_left 1
                      · (intro w hSw; (try dsimp only at hSw); go_simp; try with_reducible rfl)
                      try simp only [Act.put, List.setIfInBounds_toArray, List.set_cons_zero, List.set_cons_succ]
                      refine wpAnyH_ready (rs := [12]) (by kernel_rfl) (by simp) ?_
                      refine AllReadyH.cons rfl (fun K hK => ?_) AllReadyH.nil
                      go_simp
                      refine hK.out _ _ ?_ (fun hHeld => ?_)
                      · go_keep
                      clear hK K
                      try simp only [Act.put, List.setIfInBounds_toArray, List.set_cons_zero, List.set_cons_succ]
                      refine wpAnyH_ready (rs := [13]) (by kernel_rfl) (by simp) ?_
                      refine AllReadyH.cons rfl (fun K hK => ?_) AllReadyH.nil
                      (refine step_app1 (by rfl) (.tmp 91) (.tmp 97) 84 (by rfl) w.heap.size 100 _ 3 24 Yahh.underlying84 Yahh.info100 rfl (by decide) _ y.writes.length _ (by rfl) (hws.drew.alloc _) W3.heap.size _ _ _ (by rfl) (heap_alloc_new W3.drew _) rfl (one3 _ _ _ rfl rfl rfl) (by omega) (by decide) (by simp; omega) (W3.heap.size + 1) (by simp) ?_; intro g2 cap2 w2 hown2 hgrow2 hat2 hlt2; have tb := hid (RowTy.of_own (hws.drew.alloc (Obj.cells #[.int .i64 o.key, .bool false, .int .i64 o.val] 100))); have ro := blk_ty hgrow2 tb.out (alloc_keep (w := W3.drew) Ho3.out _) (by decide); have r2 := cell_of_row w2 ob 2 _ _ _ ro; have r3 := cell_of_row w2 ob 3 _ _ _ ro; have hb2 := own_ty hgrow2 tb.out (hM3.ps.drew.alloc _) (by decide); have r5 := row_cell pdC_len hb2 Hy.out (j := 2) (by omega) rfl; have r6 := hb2.frozenAt (m * 3 + 2); simp only [List.getElem?_toArray, List.getElem?_cons_succ, List.getElem?_cons_zero] at r2 r3 r5; clear ro)
                      refine hK.out _ _ ?_ (fun hHeld => ?_)
                      · exact ⟨r5, r2, r3⟩
                      clear hK K
                      try simp only [Act.put, List.setIfInBounds_toArray, List.set_cons_zero, List.set_cons_succ]
                      refine wpAnyH_take (i := 14) (v := ?_) rfl (by kernel_rfl) (by kernel_rfl) (by kernel_rfl) (fun _ _ _ h => h) (Or.inl ⟨by rfl, ?_⟩) (by assumption) ?_
                      rotate_left 1
                      · (intro w hSw; (try dsimp only at hSw); go_simp; try with_reducible rfl)
                      try simp only [Act.put, List.setIfInBounds_toArray, List.set_cons_zero, List.set_cons_succ]
                      refine wpAnyH_take (i := 15) (v := ?_) rfl (by kernel_rfl) (by kernel_rfl) (by kernel_rfl) (fun _ _ _ h => h) (Or.inl ⟨by rfl, ?_⟩) (by assumption) ?_
                      rotate_left 1
                      · (intro w hSw; (try dsimp only at hSw); go_simp; try with_reducible rfl)
                      try simp only [Act.put, List.setIfInBounds_toArray, List.set_cons_zero, List.set_cons_succ]
                      refine wpAnyH_done (by kernel_rfl) ?_ _
                      refine lastQ_mk rfl rfl (fun K hK => ?_)
                      go_wp2
                      have hM4 := (hM3.alloc (Obj.cells #[.int .i64 o.key, .bool false, .int .i64 o.val] 100)).drew.grow Hy.out hgrow2 (ws' := y.writes ++ [⟨o.key, false, o.val⟩]) (hd' := .slice (some ⟨g2, 0, none⟩) (y.writes.length + 1) cap2) (by simpa [wrCells, wrC] using hown2) (at_or hat2 (by simp)) rfl
                      have hb4 := ((hb3.alloc hz3 _).drew).grown hgrow2 (by simp; omega) (fun j hj => (own_lt hws hj).1)
                      exact repR_mk (cp := cp.set m (⟨y.id, y.live, y.writes ++ [⟨o.key, false, o.val⟩]⟩, .slice (some ⟨g2, 0, none⟩) (y.writes.length + 1) cap2)) _ Hst1.out hlt (by rw [H2.out.1, Hhit.out.1, Hhit.out.2, pend_set hcp, Hlv.out]) (by rw [H2.out.2]; exact hM4) (hb4.setCell (p := ⟨pg, m * 3 + 2, none⟩) hpg _)
                    · have H2 := hid (HK.out.2.2.1 rfl)
                      clear HK HRK Hpass
                      go_wp2
                      refine wp_region_cut (fun w' => w'.cell? ⟨pg, m * 3 + 2, none⟩ = some (.slice yd y.writes.length ycap) ∧ w'.cell? ⟨ob, 2, none⟩ = some (.int .i64 o.key) ∧ w'.cell? ⟨ob, 3, none⟩ = some (.int .i64 o.val)) (by simp) (by kernel_rfl) (by kernel_rfl) (by exact ⟨y2, q2, q3⟩) (fun hHeld => ?_)
                      simp only [List.dropLast_cons_cons, List.dropLast_singleton, List.length_cons, List.length_nil, Nat.reduceAdd]
                      refine wpAnyH_take (i := 0) (v := ?_) rfl (by kernel_rfl) (by kernel_rfl) (by kernel_rfl) (fun _ _ _ h => h) (Or.inl ⟨by rfl, ?_⟩) (by assumption) ?_
                      rotate_left 1
                      · (intro w hSw; (try dsimp only at hSw); go_simp; try with_reducible rfl)
                      try simp only [Act.put, List.setIfInBounds_toArray, List.set_cons_zero, List.set_cons_succ]
                      refine wpAnyH_take (i := 1) (v := ?_) rfl (by kernel_rfl) (by kernel_rfl) (by kernel_rfl) (fun _ _ _ h => h) (Or.inl ⟨by rfl, ?_⟩) (by assumption) ?_
                      rotate_left 1
                      · (intro w hSw; (try dsimp only at hSw); go_simp; try with_reducible rfl)
                      try simp only [Act.put, List.setIfInBounds_toArray, List.set_cons_zero, List.set_cons_succ]
                      refine wpAnyH_take (i := 2) (v := ?_) rfl (by kernel_rfl) (by kernel_rfl) (by kernel_rfl) (fun _ _ _ h => h) (Or.inl ⟨by rfl, ?_⟩) (by assumption) ?_
                      rotate_left 1
                      · (intro w hSw; (try dsimp only at hSw); go_simp; try with_reducible rfl)
                      try simp only [Act.put, List.setIfInBounds_toArray, List.set_cons_zero, List.set_cons_succ]
                      refine wpAnyH_take (i := 3) (v := ?_) rfl (by kernel_rfl) (by kernel_rfl) (by kernel_rfl) (fun _ _ _ h => h) (Or.inl ⟨by rfl, ?_⟩) (by assumption) ?_
                      rotate_left 1
                      · (intro w hSw; (try dsimp only at hSw); go_simp; try with_reducible rfl)
                      try simp only [Act.put, List.setIfInBounds_toArray, List.set_cons_zero, List.set_cons_succ]
                      refine wpAnyH_take (i := 4) (v := ?_) rfl (by kernel_rfl) (by kernel_rfl) (by kernel_rfl) (fun _ _ _ h => h) (Or.inl ⟨by rfl, ?_⟩) (by assumption) ?_
                      rotate_left 1
                      · (intro w hSw; (try dsimp only at hSw); go_simp; try with_reducible rfl)
                      try simp only [Act.put, List.setIfInBounds_toArray, List.set_cons_zero, List.set_cons_succ]
                      refine wpAnyH_take (i := 5) (v := ?_) rfl (by kernel_rfl) (by kernel_rfl) (by kernel_rfl) (fun _ _ _ h => h) (Or.inl ⟨by rfl, ?_⟩) (by assumption) ?_
                      rotate_left 1
                      · (intro w hSw; (try dsimp only at hSw); go_simp; try with_reducible rfl)
                      try simp only [Act.put, List.setIfInBounds_toArray, List.set_cons_zero, List.set_cons_succ]
                      refine wpAnyH_take (i := 6) (v := ?_) rfl (by kernel_rfl) (by kernel_rfl) (by kernel_rfl) (fun _ _ _ h => h) (Or.inl ⟨by rfl, ?_⟩) (by assumption) ?_
                      rotate_left 1
                      · (intro w hSw; (try dsimp only at hSw); go_simp; try with_reducible rfl)
                      try simp only [Act.put, List.setIfInBounds_toArray, List.set_cons_zero, List.set_cons_succ]
                      refine wpAnyH_take (i := 7) (v := ?_) rfl (by kernel_rfl) (by kernel_rfl) (by kernel_rfl) (fun _ _ _ h => h) (Or.inl ⟨by rfl, ?_⟩) (by assumption) ?_
                      rotate_left 1
                      · (intro w hSw; (try dsimp only at hSw); go_simp; try with_reducible rfl)
                      try simp only [Act.put, List.setIfInBounds_toArray, List.set_cons_zero, List.set_cons_succ]
                      refine wpAnyH_take (i := 8) (v := ?_) rfl (by kernel_rfl) (by kernel_rfl) (by kernel_rfl) (fun _ _ _ h => h) (Or.inl ⟨by rfl, ?_⟩) (by assumption) ?_
                      rotate_left 1
                      · (intro w hSw; (try dsimp only at hSw); go_simp; try with_reducible rfl)
                      try simp only [Act.put, List.setIfInBounds_toArray, List.set_cons_zero, List.set_cons_succ]
                      refine wpAnyH_take (i := 9) (v := ?_) rfl (by kernel_rfl) (by kernel_rfl) (by kernel_rfl) (fun _ _ _ h => h) (Or.inl ⟨by rfl, ?_⟩) (by assumption) ?_
                      rotate_left 1
                      · (intro w hSw; (try dsimp only at hSw); go_simp; try with_reducible rfl)
                      try simp only [Act.put, List.setIfInBounds_toArray, List.set_cons_zero, List.set_cons_succ]
                      refine wpAnyH_ready (rs := [10]) (by kernel_rfl) (by simp) ?_
                      refine AllReadyH.cons rfl (fun K hK => ?_) AllReadyH.nil
                      go_simp
                      refine hK.out _ _ ?_ (fun hHeld => ?_)
                      · go_keep
                      clear hK K
                      try simp only [Act.put, List.setIfInBounds_toArray, List.set_cons_zero, List.set_cons_succ]
                      refine wpAnyH_ready (rs := [11]) (by kernel_rfl) (by simp) ?_
                      refine AllReadyH.cons rfl (fun K hK => ?_) AllReadyH.nil
                      (refine step_app1 (by rfl) (.tmp 109) (.tmp 113) 84 (by rfl) w.heap.size 100 _ 3 24 Yahh.underlying84 Yahh.info100 rfl (by decide) _ y.writes.length _ (by rfl) (hws.drew.alloc _) W3.heap.size _ _ _ (by rfl) (heap_alloc_new W3.drew _) rfl (one3 _ _ _ rfl rfl rfl) (by omega) (by decide) (by simp; omega) (W3.heap.size + 1) (by simp) ?_; intro g2 cap2 w2 hown2 hgrow2 hat2 hlt2; have tb := hid (RowTy.of_own (hws.drew.alloc (Obj.cells #[.int .i64 o.key, .bool true, .int .i64 0] 100))); have ro := blk_ty hgrow2 tb.out (alloc_keep (w := W3.drew) Ho3.out _) (by decide); have r2 := cell_of_row w2 ob 2 _ _ _ ro; have r3 := cell_of_row w2 ob 3 _ _ _ ro; have hb2 := own_ty hgrow2 tb.out (hM3.ps.drew.alloc _) (by decide); have r5 := row_cell pdC_len hb2 Hy.out (j := 2) (by omega) rfl; have r6 := hb2.frozenAt (m * 3 + 2); simp only [List.getElem?_toArray, List.getElem?_cons_succ, List.getElem?_cons_zero] at r2 r3 r5; clear ro)
                      refine hK.out _ _ ?_ (fun hHeld => ?_)
                      · exact ⟨r5, r2, r3⟩
                      clear hK K
                      try simp only [Act.put, List.setIfInBounds_toArray, List.set_cons_zero, List.set_cons_succ]
                      refine wpAnyH_take (i := 12) (v := ?_) rfl (by kernel_rfl) (by kernel_rfl) (by kernel_rfl) (fun _ _ _ h => h) (Or.inl ⟨by rfl, ?_⟩) (by assumption) ?_
                      rotate_left 1
                      · (intro w hSw; (try dsimp only at hSw); go_simp; try with_reducible rfl)
                      try simp only [Act.put, List.setIfInBounds_toArray, List.set_cons_zero, List.set_cons_succ]
                      refine wpAnyH_take (i := 13) (v := ?_) rfl (by kernel_rfl) (by kernel_rfl) (by kernel_rfl) (fun _ _ _ h => h) (Or.inl ⟨by rfl, ?_⟩) (by assumption) ?_
                      rotate_left 1
                      · (intro w hSw; (try dsimp only at hSw); go_simp; try with_reducible rfl)
                      try simp only [Act.put, List.setIfInBounds_toArray, List.set_cons_zero, List.set_cons_succ]
                      refine wpAnyH_done (by kernel_rfl) ?_ _
                      refine lastQ_mk rfl rfl (fun K hK => ?_)
                      go_wp2
                      have hM4 := (hM3.alloc (Obj.cells #[.int .i64 o.key, .bool true, .int .i64 0] 100)).drew.grow Hy.out hgrow2 (ws' := y.writes ++ [⟨o.key, true, 0⟩]) (hd' := .slice (some ⟨g2, 0, none⟩) (y.writes.length + 1) cap2) (by simpa [wrCells, wrC] using hown2) (at_or hat2 (by simp)) rfl
                      have hb4 := ((hb3.alloc hz3 _).drew).grown hgrow2 (by simp; omega) (fun j hj => (own_lt hws hj).1)
                      exact repR_mk (cp := cp.set m (⟨y.id, y.live, y.writes ++ [⟨o.key, true, 0⟩]⟩, .slice (some ⟨g2, 0, none⟩) (y.writes.length + 1) cap2)) _ Hst1.out hlt (by rw [H2.out.1, Hhit.out.1, Hhit.out.2, pend_set hcp, Hlv.out]) (by rw [H2.out.2]; exact hM4) (hb4.setCell (p := ⟨pg, m * 3 + 2, none⟩) hpg _)
                    · have H2 := hid (HK.out.2.2.2.2.1 rfl)
                      have H3 := hid (H2.out.2.1 (by first | exact Hcd.out | trivial))
                      clear HK HRK Hpass
                      have hcall := replay_any (replay (stS ops k).log) y.writes u6 (.slice yd y.writes.length ycap) hz3 hM3.cells hws (by omega)
                      go_wp2_with fail
                      refine hcall.mono ?_
                      rintro e w4 ⟨v4, rfl, how4, hkeep4⟩
                      clear hcall
                      have hM4 := hM3.re hkeep4 how4
                      have hb4 := hb3.trans hkeep4.below
                      have z1 := row_cell pdC_len hM4.ps Hy.out (j := 1) (by omega) rfl
                      have g1 := hM4.ps.frozenAt (m * 3 + 1)
                      simp only [] at z1
                      clear y1 y2 q0 q1 q2 q3 f1 f2
                      have HM4 := hid hM4
                      have HB4 := hid hb4
                      clear hM4 hb4 hkeep4 how4
                      go_wp2
                      exact repR_mk (cp := cp.set m (⟨y.id, false, y.writes⟩, .slice yd y.writes.length ycap)) _ Hst1.out hlt (by rw [H2.out.1, Hhit.out.1, Hhit.out.2]; exact pend_set hcp m _ _) (by rw [H3.out, Hhit.out.2]; exact HM4.out.off Hy.out rfl) (HB4.out.setCell (p := ⟨pg, m * 3 + 1, none⟩) hpg _)
                    · go_wp2
                      exact repR_mk (cp := cp.set m (⟨y.id, false, y.writes⟩, .slice yd y.writes.length ycap)) _ Hst1.out hlt (by rw [(HK.out.2.2.2.1 (by first | rfl | trivial)).1, Hhit.out.1, Hhit.out.2]; exact pend_set hcp m _ _) (by rw [(HK.out.2.2.2.1 (by first | rfl | trivial)).2]; exact hM3.off Hy.out rfl) (hb3.setCell (p := ⟨pg, m * 3 + 1, none⟩) hpg _)
                · have hmiss : hitP o.tx (y, yv) = false := by simp [hitP, hidt]
                  have hbe : (y.id == o.tx) = false := by simp [hidt]
                  go_wp2_with fail
                  go_quiet (fail)
                  go_wp2
                  refine ⟨⟨m, _, by go_num, by omega, ?_, rfl⟩, by first | (simp [intOf]; done) | (simp [intOf]; omega)⟩
                  intro j a hj ha
                  by_cases hjk : j = m
                  · subst hjk; rw [Hy.out] at ha; simp at ha; subst ha; exact hmiss
                  · exact Hno.out j a (by omega) ha
              · obtain rfl : m = 0 := by omega
                exact (no_hit hcp hno hex.out).elim
          · generalize hkd : o.kind = kd at *
            have Hkd := hid hkd
            clear hkd
            subst hk4
            generalize hcd : (stepS (stS ops k) o).2.1 = cd at *
            have Hcd := hid hcd
            clear hcd
            subst hcode
            have hcne : ¬ (3 : Int) = 0 := by omega
            obtain ⟨pd, pcap, pg, hpv, hpd⟩ := own_shape hMA.ps
            subst hpv
            have hob : wr.heap.size < (wr.alloc (Obj.cells #[.int .i64 4, .int .i64 o.tx, .int .i64 o.key, .int .i64 o.val] 35)).heap.size := by rw [hsA]; omega
            have hszA : w.heap.size ≤ (wr.alloc (Obj.cells #[.int .i64 4, .int .i64 o.tx, .int .i64 o.key, .int .i64 o.val] 35)).heap.size := by rw [hsA]; omega
            clear hM hbel
            go_wp2
            generalize hW : wr.alloc (Obj.cells #[.int .i64 4, .int .i64 o.tx, .int .i64 o.key, .int .i64 o.val] 35) = W at *
            clear hW hc0 hc1 hc2 hc3 hr0 hrA
            generalize hobb : wr.heap.size = ob at *
            clear hobb
            go_loopw [12] (fun i w2 => SearchBack W cp (hitP o.tx) i w2) (fun i _ => ((intOf i) + 1).toNat)
            case atStart =>
              refine ⟨cp.length, 0, rfl, Nat.le_refl _, ?_, rfl⟩
              intro j a hj ha
              rw [List.getElem?_eq_none (by omega)] at ha; cases ha
            case round =>
              obtain ⟨m, nq0, rfl, hm, hno, rfl⟩ := hrel
              by_cases hm0 : 0 < m
              · obtain ⟨m, rfl⟩ : ∃ m', m = m' + 1 := ⟨m - 1, by omega⟩
                obtain ⟨⟨y, yv⟩, hy⟩ : ∃ p, cp[m]? = some p := ⟨_, List.getElem?_eq_getElem (by omega)⟩
                obtain rfl := hpd (by omega)
                have y0 := row_cell pdC_len hMA.ps hy (j := 0) (by omega) rfl
                have y1 := row_cell pdC_len hMA.ps hy (j := 1) (by omega) rfl
                rw [Nat.add_zero] at y0
                simp only [] at y0 y1
                have hm1 : (0 : Int) ≤ (m : Int) := by omega
                have hm2 : (m : Int) < (cp.length : Int) := by omega
                have Hy := hid hy
                have Hno := hid hno
                clear hy hno hpd
                by_cases hidt : y.id = o.tx
                · cases hlv : y.live with
                  | false =>
                    have hmiss : hitP o.tx (y, yv) = false := by simp [hitP, hlv]
                    have hbe : (y.id == o.tx) = true := by simp [hidt]
                    rw [hlv] at y1
                    go_wp2_with fail
                    go_quiet (fail)
                    go_wp2
                    refine ⟨⟨m, _, by go_num, by omega, ?_, rfl⟩, by first | (simp [intOf]; done) | (simp [intOf]; omega)⟩
                    intro j a hj ha
                    by_cases hjk : j = m
                    · subst hjk; rw [Hy.out] at ha; simp at ha; subst ha; exact hmiss
                    · exact Hno.out j a (by omega) ha
                  | true =>
                    have hbe : (y.id == o.tx) = true := by simp [hidt]
                    obtain ⟨t, hf, ht, hti, hta, htb⟩ := hit_tx hcp Hnd.out Hy.out hlv
                    simp only [] at hf hti htb
                    rw [hidt] at hf
                    have HK := hid (HRK.out m t hf ht hta)
                    have hwl : y.writes.length ≤ 20000 := by rw [← htb]; exact Hbuf.out t (List.mem_of_getElem? ht)
                    rw [hlv] at y1
                    have Hhit := hid (And.intro hti htb)
                    have Hlv := hid hlv
                    have Hidt := hid hidt
                    rw [hidt] at y0
                    clear hf ht hta hlv hti htb hidt
                    go_wp2_with fail
                    go_quiet (fail)
                    have hM3 : PendM w.heap.size ((W.drewN nq0).drewN nq) (.slice (some ⟨pg, 0, none⟩) cp.length pcap) u6 cp (replay (stS ops k).log) := (hMA.drewN _).drewN _
                    have hb3 : Below w.heap.size w ((W.drewN nq0).drewN nq) := below_drewN (below_drewN hbA _) _
                    have Ho3 : Hid (((W.drewN nq0).drewN nq).heap[ob]? = _) := Ho
                    have hz3 : w.heap.size ≤ ((W.drewN nq0).drewN nq).heap.size := hszA
                    generalize (W.drewN nq0).drewN nq = W3 at *
                    clear hMA hbA Ho q0 q1 q2 q3 y0 y1 hszA hob hsA
                    have q0 := cell_of_row _ ob 0 _ _ _ Ho3.out
                    have q1 := cell_of_row _ ob 1 _ _ _ Ho3.out
                    have q2 := cell_of_row _ ob 2 _ _ _ Ho3.out
                    have q3 := cell_of_row _ ob 3 _ _ _ Ho3.out
                    simp only [List.getElem?_toArray, List.getElem?_cons_succ, List.getElem?_cons_zero] at q0 q1 q2 q3
                    have y1 := row_cell pdC_len hM3.ps Hy.out (j := 1) (by omega) rfl
                    have y2 := row_cell pdC_len hM3.ps Hy.out (j := 2) (by omega) rfl
                    have f1 := hM3.ps.frozenAt (m * 3 + 1)
                    have f2 := hM3.ps.frozenAt (m * 3 + 2)
                    simp only [] at y1 y2
                    have hws := hM3.wrs m _ Hy.out
                    obtain ⟨yd, ycap, yg, hyv, hyd⟩ := own_shape hws
                    simp only [] at hyv hws
                    subst hyv
                    have Hno := hid True.intro
                    have hpg : w.heap.size ≤ pg := (own_lt hM3.ps (g := pg) rfl).1
                    go_wp2
                    exact repR_mk (cp := cp.set m (⟨y.id, false, y.writes⟩, .slice yd y.writes.length ycap)) _ Hst1.out hlt (by rw [(HK.out.2.2.2.2.1 (by first | rfl | trivial)).1, Hhit.out.1, Hhit.out.2]; exact pend_set hcp m _ _) (by rw [(HK.out.2.2.2.2.1 (by first | rfl | trivial)).2.2 (by omega)]; exact hM3.off Hy.out rfl) (hb3.setCell (p := ⟨pg, m * 3 + 1, none⟩) hpg _)
                · have hmiss : hitP o.tx (y, yv) = false := by simp [hitP, hidt]
                  have hbe : (y.id == o.tx) = false := by simp [hidt]
                  go_wp2_with fail
                  go_quiet (fail)
                  go_wp2
                  refine ⟨⟨m, _, by go_num, by omega, ?_, rfl⟩, by first | (simp [intOf]; done) | (simp [intOf]; omega)⟩
                  intro j a hj ha
                  by_cases hjk : j = m
                  · subst hjk; rw [Hy.out] at ha; simp at ha; subst ha; exact hmiss
                  · exact Hno.out j a (by omega) ha
              · obtain rfl : m = 0 := by omega
                exact (no_hit hcp hno hex.out).elim
    · obtain rfl : k = ops.length := by omega
      have hrl : (replay (stS ops ops.length).log).length ≤ 400000000 := by
        have h1 := replay_len (stS ops ops.length).log (fun c hc => Nat.le_trans (hsm.wr c hc) (by omega))
        have h2 : (stS ops ops.length).log.length ≤ 20000 := Nat.le_trans hsm.log (by omega)
        have : (stS ops ops.length).log.length * 20000 ≤ 20000 * 20000 := Nat.mul_le_mul_right _ h2
        omega
      have hcall := sortedCells_any (replay (stS ops ops.length).log) _ hM.cells (nodup_replay _) hrl
      clear hM hcp hsm had hcell hrd hrcell
      go_wp2_with fail
      refine hcall.mono ?_
      rintro e w2 ⟨v2, l, rfl, how2, hl2, hfin, hbel3⟩
      clear hcall
      have Hfin := hid hfin
      clear hfin
      go_wp2
      go_ret
      exact ⟨_, l, rfl, own_mono how2 (by omega), hl2, Hfin.out, hbel.trans (hbel3.mono hsz)⟩
end Go.Proofs.Yafahw
