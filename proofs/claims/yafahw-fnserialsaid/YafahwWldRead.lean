/- Walks: (*world).read (63), (*world).conflicts (64). -/
import Derived.Test.YafahwWld
namespace Go.Proofs.Yafahw
open Go.RowKit
set_option linter.unusedVariables false
set_option linter.unusedSimpArgs false
attribute [local go_sem ↓] Go.wp_at_zero Go.wp_at_succ

/-- the replay of the log has come to commit k -/
def LogR (w1 : World) (log : List CR) (snap key : Int) (pv vv iv : Value) (wr : World) : Prop :=
  ∃ (k : Nat), iv = .int .i64 (k : Int) ∧ k ≤ log.length ∧ pv = .bool ((log.take k).foldl (seeC snap key) (false, 0)).1 ∧ vv = .int .i64 ((log.take k).foldl (seeC snap key) (false, 0)).2 ∧ Below w1.heap.size w1 wr
/-- .. and inside it to write m -/
def WrsR (w1 : World) (ws : List Wr) (key : Int) (acc : Bool × Int) (pv vv iv : Value) (wr : World) : Prop :=
  ∃ (m : Nat), iv = .int .i64 (m : Int) ∧ m ≤ ws.length ∧ pv = .bool ((ws.take m).foldl (seeW key) acc).1 ∧ vv = .int .i64 ((ws.take m).foldl (seeW key) acc).2 ∧ Below w1.heap.size w1 wr

theorem foldl_take_succ {α β : Type} (f : β → α → β) (l : List α) (k : Nat) (a : α) (b : β) (h : l[k]? = some a) : (l.take (k + 1)).foldl f b = f ((l.take k).foldl f b) a := by
  rw [List.take_add_one, h]; simp

theorem lastW_hit {ws : List Wr} {k : Int} {m : Nat} {x : Wr} (h : ∀ j a, m + 1 ≤ j → ws[j]? = some a → (a.key == k) = false) (hx : ws[m]? = some x) (hk : (x.key == k) = true) : lastW ws k = some x :=
  findBack_at (p := fun y : Wr => y.key == k) h hx hk
theorem lastW_miss {ws : List Wr} {k : Int} (h : ∀ (j : Nat) (a : Wr), 0 ≤ j → ws[j]? = some a → (a.key == k) = false) : lastW ws k = none :=
  findBack_no (p := fun y : Wr => y.key == k) h

set_option maxHeartbeats 4000000 in
set_option maxRecDepth 100000 in
theorem readS_any {B : Nat} {w : World} {bw : Nat} {tv lv : Value} {ct : List (Txn × Value)} {cl : List (CR × Value)} (h : WldM B w bw tv lv ct cl) (i : Nat) (t : Txn) (hd : Value) (hp : ct[i]? = some (t, hd)) (hbuf : w.ownsRow B 100 3 hd t.buf.length (wrCells t.buf)) (key : Int)
    (hn : ct.length ≤ 1000000) (hb : t.buf.length ≤ 1000000) (hln : cl.length ≤ 1000000) (hlw : ∀ p ∈ cl, p.1.writes.length ≤ 1000000) :
    Calls Yahh.prog 63 #[.pointer (some ⟨bw, 0, none⟩), .int .i64 (i : Int), .int .i64 key] w fun e w' => e = .returned (.tuple #[.bool (readS (cl.map (·.1)) t key).1, .int .i64 (readS (cl.map (·.1)) t key).2]) ∧ Below w.heap.size w w' := by
  have c0 := h.c0
  have c1 := h.c1
  have htx := h.txs
  have hlog := h.log
  have hlws := hid h.lws
  have hbw := h.lt
  obtain ⟨ad, cap, g, rfl, had⟩ := own_shape htx
  obtain ⟨bd, bcap, bg, rfl, hbd⟩ := own_shape hbuf
  obtain ⟨ld, lcap, lg, rfl, hld⟩ := own_shape hlog
  have hi : i < ct.length := by
    rcases Nat.lt_or_ge i ct.length with h' | h'
    · exact h'
    · rw [List.getElem?_eq_none h'] at hp; cases hp
  have hil : (i : Int) < (ct.length : Int) := by omega
  have hi0 : (0 : Int) ≤ (i : Int) := by omega
  obtain rfl := had (by omega)
  have t0 := row_cell txC_len htx hp (j := 0) (by omega) rfl
  have t1 := row_cell txC_len htx hp (j := 1) (by omega) rfl
  have t2 := row_cell txC_len htx hp (j := 2) (by omega) rfl
  have t3 := row_cell txC_len htx hp (j := 3) (by omega) rfl
  rw [Nat.add_zero] at t0
  have b0 : Below w.heap.size w (w.alloc (Obj.cells #[.int .i64 t.id, .bool t.active, .int .i64 t.snap, .slice bd t.buf.length bcap] 115)) := (Below.refl _ _).alloc (Nat.le_refl _) _
  have ht := heap_alloc_new w (Obj.cells #[.int .i64 t.id, .bool t.active, .int .i64 t.snap, .slice bd t.buf.length bcap] 115)
  have hbuf1 := hbuf.alloc (Obj.cells #[.int .i64 t.id, .bool t.active, .int .i64 t.snap, .slice bd t.buf.length bcap] 115)
  have hlog1 := hlog.alloc (Obj.cells #[.int .i64 t.id, .bool t.active, .int .i64 t.snap, .slice bd t.buf.length bcap] 115)
  have hc1 := cell_below b0 c1
  have Ht := hid ht
  have Hp := hid hp
  clear h htx hlog hbuf had hp ht
  go_enter Yahh.func63, Yahh.ntmps63
  go_wp2
  generalize hW : w.alloc (Obj.cells #[.int .i64 t.id, .bool t.active, .int .i64 t.snap, .slice bd t.buf.length bcap] 115) = W at *
  have hsW : W.heap.size = w.heap.size + 1 := by rw [← hW]; simp
  clear hW t0 t1 t2 t3 c0 c1
  go_loopw [9] (fun i wr => SearchBack W t.buf (fun y => y.key == key) i wr) (fun i _ => ((intOf i) + 1).toNat)
  case atStart =>
    refine ⟨t.buf.length, 0, rfl, Nat.le_refl _, ?_, rfl⟩
    intro j a hj ha
    rw [List.getElem?_eq_none (by omega)] at ha; cases ha
  case round =>
    obtain ⟨m, nq, rfl, hm, hno, rfl⟩ := hrel
    have s2 := cell_of_row W w.heap.size 2 _ _ _ Ht.out
    have s3 := cell_of_row W w.heap.size 3 _ _ _ Ht.out
    simp only [List.getElem?_toArray, List.getElem?_cons_succ, List.getElem?_cons_zero] at s2 s3
    by_cases hm0 : 0 < m
    · obtain ⟨m, rfl⟩ : ∃ m', m = m' + 1 := ⟨m - 1, by omega⟩
      obtain ⟨y, hy⟩ : ∃ v, t.buf[m]? = some v := ⟨_, List.getElem?_eq_getElem (by omega)⟩
      obtain rfl := hbd (by omega)
      have y0 := row_cell wrC_len hbuf1 hy (j := 0) (by omega) rfl
      have y1 := row_cell wrC_len hbuf1 hy (j := 1) (by omega) rfl
      have y2 := row_cell wrC_len hbuf1 hy (j := 2) (by omega) rfl
      rw [Nat.add_zero] at y0
      have Hy := hid hy
      have Hno := hid hno
      clear hy hno hbd
      by_cases hq : (y.key == key) = true
      · have hR : readS (cl.map (·.1)) t key = (!y.del, y.val) := by
          unfold readS; rw [lastW_hit Hno.out Hy.out hq]
        have HR := hid hR
        clear hR
        go_wp2_with fail
        go_quiet (fail)
        go_wp2
        exact bodyPost_ret (v := .tuple #[.bool (!y.del), .int .i64 y.val]) (by simp [results, Yahh.results63, go_sem]) rfl ⟨by rw [HR.out], below_drewN (below_drewN b0 _) _⟩
      · have hq' : (y.key == key) = false := by simpa using hq
        go_wp2
        refine ⟨⟨m, _, by go_num, by omega, ?_, rfl⟩, by first | (simp [intOf]; done) | (simp [intOf]; omega)⟩
        intro j a hj ha
        by_cases hjk : j = m
        · subst hjk; rw [Hy.out] at ha; simp at ha; subst ha; exact hq'
        · exact Hno.out j a (by omega) ha
    · obtain rfl : m = 0 := by omega
      have hR : readS (cl.map (·.1)) t key = (cl.map (·.1)).foldl (seeC t.snap key) (false, 0) := by
        unfold readS; rw [lastW_miss hno]
      have HR := hid hR
      have hcll : (cl.map (·.1)).length = cl.length := by simp
      clear hR hno
      go_wp2
      go_loopw [10, 11, 57] (fun pv vv iv wr => LogR W (cl.map (·.1)) t.snap key pv vv iv wr) (fun _ _ iv _ => cl.length - (intOf iv).toNat)
      case atStart => exact ⟨0, rfl, Nat.zero_le _, rfl, rfl, below_drewN (Below.refl _ _) _⟩
      case round =>
        obtain ⟨k, rfl, hk, rfl, rfl, hbel⟩ := hrel
        by_cases hlt : k < cl.length
        · obtain ⟨⟨c, chd⟩, hc⟩ : ∃ c, cl[k]? = some c := ⟨_, List.getElem?_eq_getElem hlt⟩
          have hcm : (cl.map (·.1))[k]? = some c := by rw [List.getElem?_map, hc]; rfl
          have hcw := own_below (hlws.out k _ hc) b0 (Nat.le_refl _)
          have hcl : c.writes.length ≤ 1000000 := hlw _ (List.mem_of_getElem? hc)
          obtain ⟨wd, wcap, wg, hwv, hwd⟩ := own_shape hcw
          simp only [] at hwv hwd
          subst hwv
          obtain rfl := hld (by omega)
          have l0 := cell_below hbel (row_cell crC_len hlog1 hc (j := 0) (by omega) rfl)
          have l1 := cell_below hbel (row_cell crC_len hlog1 hc (j := 1) (by omega) rfl)
          rw [Nat.add_zero] at l0
          have e2 := cell_below hbel s2
          have hsz := hbel.size
          have hk0 : (0 : Int) ≤ (k : Int) := by omega
          have hkl : (k : Int) < (cl.length : Int) := by omega
          have Hc := hid hc
          have Hcm := hid hcm
          have HS := hid (foldl_take_succ (seeC t.snap key) _ k c (false, 0) hcm)
          generalize hA : ((cl.map (·.1)).take k).foldl (seeC t.snap key) (false, 0) = A at *
          obtain ⟨A1, A2⟩ := A
          have HA := hid hA
          clear hc hcm hA
          have hne : w.heap.size ≠ wr.heap.size := by omega
          have e2' := cell_below (hbel.alloc hsz (Obj.cells #[.int .i64 c.ts, .slice wd c.writes.length wcap] 86)) s2
          have hbA := hbel.alloc hsz (Obj.cells #[.int .i64 c.ts, .slice wd c.writes.length wcap] 86)
          by_cases hts : t.snap < c.ts
          · have hS' : seeC t.snap key (A1, A2) c = (A1, A2) := by simp [seeC, hts]
            rw [hS'] at HS
            go_wp2
            exact ⟨⟨k + 1, by go_num, by omega, by rw [HS.out], by rw [HS.out], hbA⟩, by simp [intOf]; omega⟩
          · have hS' : seeC t.snap key (A1, A2) c = c.writes.foldl (seeW key) (A1, A2) := by simp [seeC, hts]
            rw [hS'] at HS
            have hnts : c.ts ≤ t.snap := by omega
            clear hS'
            go_wp2
            generalize hX : wr.alloc (Obj.cells #[.int .i64 c.ts, .slice wd c.writes.length wcap] 86) = X at *
            clear hX
            go_loopw [10, 11, 69] (fun pv vv iv wr => WrsR W c.writes key (A1, A2) pv vv iv wr) (fun _ _ iv _ => c.writes.length - (intOf iv).toNat)
            case atStart => exact ⟨0, rfl, Nat.zero_le _, rfl, rfl, hbA⟩
            case round =>
              obtain ⟨m, rfl, hm', rfl, rfl, hbel2⟩ := hrel
              by_cases hml : m < c.writes.length
              · obtain ⟨x, hx⟩ : ∃ x, c.writes[m]? = some x := ⟨_, List.getElem?_eq_getElem hml⟩
                obtain rfl := hwd (by omega)
                have x0 := cell_below hbel2 (row_cell wrC_len hcw hx (j := 0) (by omega) rfl)
                have x1 := cell_below hbel2 (row_cell wrC_len hcw hx (j := 1) (by omega) rfl)
                have x2 := cell_below hbel2 (row_cell wrC_len hcw hx (j := 2) (by omega) rfl)
                rw [Nat.add_zero] at x0
                have HW := hid (foldl_take_succ (seeW key) _ m x (A1, A2) hx)
                generalize hF : (c.writes.take m).foldl (seeW key) (A1, A2) = F at *
                obtain ⟨F1, F2⟩ := F
                have hm0' : (0 : Int) ≤ (m : Int) := by omega
                have hml' : (m : Int) < (c.writes.length : Int) := by omega
                have hsz2 := hbel2.size
                have hbB := hid (fun o => hbel2.alloc hsz2 o)
                clear hx hF
                by_cases hq : (x.key == key) = true
                · have hW' : seeW key (F1, F2) x = (!x.del, x.val) := by simp [seeW, hq]
                  rw [hW'] at HW
                  clear hW'
                  go_wp2
                  exact ⟨⟨m + 1, by go_num, by omega, by rw [HW.out], by rw [HW.out], hbB.out _⟩, by simp [intOf]; omega⟩
                · have hq' : (x.key == key) = false := by simpa using hq
                  have hW' : seeW key (F1, F2) x = (F1, F2) := by simp [seeW, hq']
                  rw [hW'] at HW
                  clear hW'
                  go_wp2
                  exact ⟨⟨m + 1, by go_num, by omega, by rw [HW.out], by rw [HW.out], hbB.out _⟩, by simp [intOf]; omega⟩
              · obtain rfl : m = c.writes.length := by omega
                rw [List.take_length]
                go_wp2
                exact ⟨⟨k + 1, by go_num, by omega, by rw [HS.out], by rw [HS.out], hbel2⟩, by simp [intOf]; omega⟩
        · obtain rfl : k = cl.length := by rw [hcll] at hk; omega
          have HT : (cl.map (·.1)).take cl.length = cl.map (·.1) := by rw [← hcll, List.take_length]
          rw [HT]
          go_wp2
          exact bodyPost_ret (v := .tuple #[.bool ((cl.map (·.1)).foldl (seeC t.snap key) (false, 0)).1, .int .i64 ((cl.map (·.1)).foldl (seeC t.snap key) (false, 0)).2]) (by simp [results, Yahh.results63, go_sem]) rfl ⟨by rw [HR.out], b0.trans (hbel.mono b0.size)⟩
end Go.Proofs.Yafahw
