/- Walk: (*world).conflicts (64). -/
import Derived.Test.YafahwWldRead
namespace Go.Proofs.Yafahw
open Go.RowKit
set_option linter.unusedVariables false
set_option linter.unusedSimpArgs false
attribute [local go_sem ↓] Go.wp_at_zero Go.wp_at_succ

def AnyR {α : Type} (W : World) (l : List α) (p : α → Bool) (iv : Value) (wr : World) : Prop :=
  ∃ k : Nat, iv = .int .i64 (k : Int) ∧ k ≤ l.length ∧ (∀ j a, j < k → l[j]? = some a → p a = false) ∧ Below W.heap.size W wr
theorem any_miss {α : Type} {l : List α} {p : α → Bool} (h : ∀ j a, j < l.length → l[j]? = some a → p a = false) : l.any p = false := by
  rw [List.any_eq_false]
  intro x hx
  obtain ⟨j, hj, rfl⟩ := List.getElem_of_mem hx
  simp [h j _ hj (List.getElem?_eq_getElem hj)]
theorem any_hit {α : Type} {l : List α} {p : α → Bool} {k : Nat} {a : α} (h : l[k]? = some a) (hp : p a = true) : l.any p = true := by
  rw [List.any_eq_true]
  exact ⟨a, List.mem_of_getElem? h, hp⟩
theorem any_next {α : Type} {l : List α} {p : α → Bool} {k : Nat} {a : α} (h : ∀ j a, j < k → l[j]? = some a → p a = false) (hk : l[k]? = some a) (hp : p a = false) : ∀ j a, j < k + 1 → l[j]? = some a → p a = false := by
  intro j b hj hb
  by_cases e : j = k
  · subst e; rw [hk] at hb; simp at hb; subst hb; exact hp
  · exact h j b (by omega) hb

def keyIn (t : Txn) (x : Wr) : Bool := t.buf.any fun y => x.key == y.key
theorem clash_no {t : Txn} {c : CR} (h : c.ts ≤ t.snap) : clashC t c = false := by simp [clashC]; intro h'; omega
theorem clash_eq {t : Txn} {c : CR} (h : t.snap < c.ts) : clashC t c = c.writes.any (keyIn t) := by simp only [clashC, h, decide_true, Bool.true_and]; rfl

set_option maxHeartbeats 4000000 in
set_option maxRecDepth 100000 in
theorem conflictS_any {B : Nat} {w : World} {bw : Nat} {tv lv : Value} {ct : List (Txn × Value)} {cl : List (CR × Value)} (h : WldM B w bw tv lv ct cl) (i : Nat) (t : Txn) (hd : Value) (hp : ct[i]? = some (t, hd)) (hbuf : w.ownsRow B 100 3 hd t.buf.length (wrCells t.buf))
    (hn : ct.length ≤ 1000000) (hb : t.buf.length ≤ 1000000) (hln : cl.length ≤ 1000000) (hlw : ∀ p ∈ cl, p.1.writes.length ≤ 1000000) :
    Calls Yahh.prog 64 #[.pointer (some ⟨bw, 0, none⟩), .int .i64 (i : Int)] w fun e w' => e = .returned (.bool (conflictS (cl.map (·.1)) t)) ∧ Below w.heap.size w w' := by
  have c0 := h.c0
  have c1 := h.c1
  have htx := h.txs
  have hlog := h.log
  have hlws := hid h.lws
  have hbw := h.lt
  obtain ⟨ad, cap, g, rfl, had⟩ := own_shape htx
  obtain ⟨bd, bcap, bg, rfl, hbd⟩ := own_shape hbuf
  obtain ⟨ld, lcap, lg, rfl, hld⟩ := own_shape hlog
  have hi : i < ct.length := by
    rcases Nat.lt_or_ge i ct.length with h' | h'
    · exact h'
    · rw [List.getElem?_eq_none h'] at hp; cases hp
  have hil : (i : Int) < (ct.length : Int) := by omega
  have hi0 : (0 : Int) ≤ (i : Int) := by omega
  obtain rfl := had (by omega)
  have t0 := row_cell txC_len htx hp (j := 0) (by omega) rfl
  have t1 := row_cell txC_len htx hp (j := 1) (by omega) rfl
  have t2 := row_cell txC_len htx hp (j := 2) (by omega) rfl
  have t3 := row_cell txC_len htx hp (j := 3) (by omega) rfl
  rw [Nat.add_zero] at t0
  have b0 : Below w.heap.size w (w.alloc (Obj.cells #[.int .i64 t.id, .bool t.active, .int .i64 t.snap, .slice bd t.buf.length bcap] 115)) := (Below.refl _ _).alloc (Nat.le_refl _) _
  have ht := heap_alloc_new w (Obj.cells #[.int .i64 t.id, .bool t.active, .int .i64 t.snap, .slice bd t.buf.length bcap] 115)
  have hbuf1 := hbuf.alloc (Obj.cells #[.int .i64 t.id, .bool t.active, .int .i64 t.snap, .slice bd t.buf.length bcap] 115)
  have hlog1 := hlog.alloc (Obj.cells #[.int .i64 t.id, .bool t.active, .int .i64 t.snap, .slice bd t.buf.length bcap] 115)
  have hc1 := cell_below b0 c1
  have Ht := hid ht
  have hR : conflictS (cl.map (·.1)) t = cl.any (fun q => clashC t q.1) := by unfold conflictS; rw [List.any_map]; rfl
  have HR := hid hR
  clear h htx hlog hbuf had hp ht hR
  go_enter Yahh.func64, Yahh.ntmps64
  go_wp2
  generalize hW : w.alloc (Obj.cells #[.int .i64 t.id, .bool t.active, .int .i64 t.snap, .slice bd t.buf.length bcap] 115) = W at *
  have hsW : W.heap.size = w.heap.size + 1 := by rw [← hW]; simp
  clear hW t0 t1 t2 t3 c0 c1
  have s2 := cell_of_row W w.heap.size 2 _ _ _ Ht.out
  have s3 := cell_of_row W w.heap.size 3 _ _ _ Ht.out
  simp only [List.getElem?_toArray, List.getElem?_cons_succ, List.getElem?_cons_zero] at s2 s3
  go_loopw [24] (fun iv wr => AnyR W cl (fun q => clashC t q.1) iv wr) (fun iv _ => cl.length - (intOf iv).toNat)
  case atStart => exact ⟨0, rfl, Nat.zero_le _, fun j a hj => by omega, Below.refl _ _⟩
  case round =>
    obtain ⟨k, rfl, hk, hno, hbel⟩ := hrel
    by_cases hlt : k < cl.length
    · obtain ⟨⟨c, chd⟩, hc⟩ : ∃ c, cl[k]? = some c := ⟨_, List.getElem?_eq_getElem hlt⟩
      have hcw := own_below (hlws.out k _ hc) b0 (Nat.le_refl _)
      have hcl : c.writes.length ≤ 1000000 := hlw _ (List.mem_of_getElem? hc)
      obtain ⟨wd, wcap, wg, hwv, hwd⟩ := own_shape hcw
      simp only [] at hwv hwd
      subst hwv
      obtain rfl := hld (by omega)
      have l0 := cell_below hbel (row_cell crC_len hlog1 hc (j := 0) (by omega) rfl)
      have l1 := cell_below hbel (row_cell crC_len hlog1 hc (j := 1) (by omega) rfl)
      rw [Nat.add_zero] at l0
      have hsz := hbel.size
      have hk0 : (0 : Int) ≤ (k : Int) := by omega
      have hkl : (k : Int) < (cl.length : Int) := by omega
      have Hc := hid hc
      have Hno := hid hno
      clear hc hno
      have hne : w.heap.size ≠ wr.heap.size := by omega
      have e2' := cell_below (hbel.alloc hsz (Obj.cells #[.int .i64 c.ts, .slice wd c.writes.length wcap] 86)) s2
      have hbA := hbel.alloc hsz (Obj.cells #[.int .i64 c.ts, .slice wd c.writes.length wcap] 86)
      by_cases hts : c.ts ≤ t.snap
      · have hN := hid (any_next (p := fun q : CR × Value => clashC t q.1) Hno.out Hc.out (clash_no hts))
        go_wp2
        exact ⟨⟨k + 1, by go_num, by omega, hN.out, hbA⟩, by simp [intOf]; omega⟩
      · have HE := hid (clash_eq (t := t) (c := c) (by omega))
        have hts' : ¬ c.ts ≤ t.snap := hts
        go_wp2
        generalize hX : wr.alloc (Obj.cells #[.int .i64 c.ts, .slice wd c.writes.length wcap] 86) = X at *
        clear hX e2'
        go_loopw [36] (fun iv wr => AnyR W c.writes (keyIn t) iv wr) (fun iv _ => c.writes.length - (intOf iv).toNat)
        case atStart => exact ⟨0, rfl, Nat.zero_le _, fun j a hj => by omega, hbA⟩
        case round =>
          obtain ⟨m, rfl, hm', hno2, hbel2⟩ := hrel
          by_cases hml : m < c.writes.length
          · obtain ⟨x, hx⟩ : ∃ x, c.writes[m]? = some x := ⟨_, List.getElem?_eq_getElem hml⟩
            obtain rfl := hwd (by omega)
            have x0 := cell_below hbel2 (row_cell wrC_len hcw hx (j := 0) (by omega) rfl)
            have x1 := cell_below hbel2 (row_cell wrC_len hcw hx (j := 1) (by omega) rfl)
            have x2 := cell_below hbel2 (row_cell wrC_len hcw hx (j := 2) (by omega) rfl)
            rw [Nat.add_zero] at x0
            have hm0' : (0 : Int) ≤ (m : Int) := by omega
            have hml' : (m : Int) < (c.writes.length : Int) := by omega
            have hsz2 := hbel2.size
            have hbB := hbel2.alloc hsz2 (Obj.cells #[.int .i64 x.key, .bool x.del, .int .i64 x.val] 100)
            have s3' := cell_below hbB s3
            have hxb := heap_alloc_new wr (Obj.cells #[.int .i64 x.key, .bool x.del, .int .i64 x.val] 100)
            have Hx := hid hx
            have Hno2 := hid hno2
            have Hxb := hid hxb
            have hszX : (wr.alloc (Obj.cells #[.int .i64 x.key, .bool x.del, .int .i64 x.val] 100)).heap.size = wr.heap.size + 1 := by simp
            clear hx hno2 hxb
            go_wp2
            generalize hr2 : wr.heap.size = R2 at *
            generalize hX : wr.alloc (Obj.cells #[.int .i64 x.key, .bool x.del, .int .i64 x.val] 100) = X3 at *
            clear hX s3' x0 x1 x2 hr2
            have xx0 := cell_of_row X3 R2 0 _ _ _ Hxb.out
            simp only [List.getElem?_toArray, List.getElem?_cons_succ, List.getElem?_cons_zero] at xx0
            go_loopw [43] (fun iv wr => AnyR X3 t.buf (fun y => x.key == y.key) iv wr) (fun iv _ => t.buf.length - (intOf iv).toNat)
            case atStart => exact ⟨0, rfl, Nat.zero_le _, fun j a hj => by omega, Below.refl _ _⟩
            case round =>
              obtain ⟨n, rfl, hn', hno3, hbel3⟩ := hrel
              have hbelW := hbB.trans (hbel3.mono (by omega))
              by_cases hnl : n < t.buf.length
              · obtain ⟨y, hy⟩ : ∃ y, t.buf[n]? = some y := ⟨_, List.getElem?_eq_getElem hnl⟩
                obtain rfl := hbd (by omega)
                have y0 := cell_below hbelW (row_cell wrC_len hbuf1 hy (j := 0) (by omega) rfl)
                have y1 := cell_below hbelW (row_cell wrC_len hbuf1 hy (j := 1) (by omega) rfl)
                have y2 := cell_below hbelW (row_cell wrC_len hbuf1 hy (j := 2) (by omega) rfl)
                rw [Nat.add_zero] at y0
                have hn0' : (0 : Int) ≤ (n : Int) := by omega
                have hnl' : (n : Int) < (t.buf.length : Int) := by omega
                have hsz3 := hbel3.size
                have hbC := hbel3.alloc hsz3 (Obj.cells #[.int .i64 y.key, .bool y.del, .int .i64 y.val] 100)
                have z0 := cell_below hbC xx0
                have Hy := hid hy
                have Hno3 := hid hno3
                clear hy hno3
                by_cases hq : (x.key == y.key) = true
                · have hT : cl.any (fun q => clashC t q.1) = true := by
                    refine any_hit Hc.out ?_
                    show clashC t c = true
                    rw [HE.out]
                    refine any_hit Hx.out ?_
                    exact any_hit Hy.out hq
                  have HT := hid hT
                  clear hT
                  go_wp2
                  go_ret
                  exact ⟨by first | (rw [HR.out, HT.out]; done) | (rw [HR.out, HT.out]; rfl), b0.trans ((hbB.trans (hbC.mono (by omega))).mono b0.size)⟩
                · have hq' : (x.key == y.key) = false := by simpa using hq
                  have hN := hid (any_next (p := fun y : Wr => x.key == y.key) Hno3.out Hy.out hq')
                  go_wp2
                  exact ⟨⟨n + 1, by go_num, by omega, hN.out, hbC⟩, by simp [intOf]; omega⟩
              · obtain rfl : n = t.buf.length := by omega
                have hN := hid (any_next (p := keyIn t) Hno2.out Hx.out (any_miss hno3))
                clear hno3
                go_wp2
                exact ⟨⟨m + 1, by go_num, by omega, hN.out, hbelW⟩, by simp [intOf]; omega⟩
          · obtain rfl : m = c.writes.length := by omega
            have hN := hid (any_next (p := fun q : CR × Value => clashC t q.1) Hno.out Hc.out (by show clashC t c = false; rw [HE.out]; exact any_miss hno2))
            clear hno2
            go_wp2
            exact ⟨⟨k + 1, by go_num, by omega, hN.out, hbel2⟩, by simp [intOf]; omega⟩
    · obtain rfl : k = cl.length := by omega
      have HF := hid (any_miss hno)
      clear hno
      go_wp2
      go_ret
      exact ⟨by first | (rw [HR.out, HF.out]; done) | (rw [HR.out, HF.out]; rfl), b0.trans (hbel.mono b0.size)⟩
end Go.Proofs.Yafahw
