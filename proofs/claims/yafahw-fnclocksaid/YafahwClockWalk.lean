/- Walks: laws.contains (26), laws.FnClock (6). -/
import Derived.Test.YafahwRunI
import Derived.Test.YafahwDecOps
import Derived.Test.YafahwClockPlain
import Derived.Test.YafahwIsRow
namespace Go.Proofs.Yafahw
open Go.RowKit
set_option linter.unusedVariables false
attribute [local go_sem ↓] Go.wp_at_zero Go.wp_at_succ

theorem Yahh.info3 : (Yahh.prog.info? 3).map (fun i => (i.zero, i.size, i.bytes)) = some (some (.int .i64 0), 1, 8) := by kernel_rfl

def intsV (ws : List Int) : List Value := ws.map (Value.int .i64)
theorem intsV_at (ws : List Int) (k : Nat) (z : Int) (h : ws[k]? = some z) : (intsV ws)[k]? = some (.int .i64 z) := by simp [intsV, h]

def ContR (w : World) (ws : List Int) (x : Int) (i : Value) (wr : World) : Prop :=
  ∃ k : Nat, i = .int .i64 (k : Int) ∧ k ≤ ws.length ∧ x ∈ ws.drop k ∧ wr = w

set_option maxHeartbeats 1000000 in
theorem contains_any {B : Nat} (ws : List Int) (v : Value) (w : World) (h : w.ownsRow B 3 1 v ws.length (intsV ws)) (x : Int) (hx : x ∈ ws) (hn : ws.length ≤ 100000000) :
    Calls Yahh.prog 26 #[v, .int .i64 x] w fun e w' => e = .returned (.bool true) ∧ w' = w := by
  obtain ⟨ad, cap, g, rfl, had⟩ := own_shape h
  go_enter Yahh.func26, Yahh.ntmps26
  go_wp2
  go_loopw [9] (fun i wr => ContR w ws x i wr) (fun i _ => ws.length - (intOf i).toNat)
  case atStart => exact ⟨0, rfl, Nat.zero_le _, by simpa using hx, rfl⟩
  case round =>
    obtain ⟨k, rfl, hk, hin, rfl⟩ := hrel
    have hlt : k < ws.length := by
      rcases Nat.lt_or_ge k ws.length with h | h
      · exact h
      · rw [List.drop_eq_nil_of_le h] at hin; cases hin
    obtain ⟨z, hz⟩ : ∃ z, ws[k]? = some z := ⟨_, List.getElem?_eq_getElem hlt⟩
    obtain rfl := had (by omega)
    have hc := own_cell h k _ (intsV_at ws k z hz)
    have Hz := hid hz
    have Hin := hid hin
    clear hz hin hx
    by_cases hq : (z == x) = true
    · go_wp2
      go_ret
      exact ⟨rfl, rfl⟩
    · have hq' : (z == x) = false := by simpa using hq
      go_wp2
      refine ⟨⟨k + 1, by go_num, by omega, ?_, rfl⟩, by simp [intOf]; omega⟩
      have := Hin.out
      rw [List.drop_eq_getElem_cons hlt] at this
      rcases List.mem_cons.1 this with e | e
      · have hz := Hz.out
        rw [List.getElem?_eq_getElem hlt] at hz
        simp at hz hq'
        exact absurd (hz.symm.trans e.symm) hq'
      · exact e

theorem alloc3 (w : World) (o1 o2 o3 : Obj) : (((w.alloc o1).alloc o2).alloc o3).heap[w.heap.size + 2]? = some o3 := by
  have := heap_alloc_new ((w.alloc o1).alloc o2) o3
  simpa using this

def ClockR (w1 : World) (ops : List POp) (cv wv iv : Value) (wr : World) : Prop :=
  ∃ (k : Nat) (ws : List Int), iv = .int .i64 (k : Int) ∧ k ≤ ops.length ∧ cv = .int .i64 (stI ops k).clock ∧ ws.length ≤ k ∧ wr.ownsRow w1.heap.size 3 1 wv ws.length (intsV ws) ∧ WInv (stI ops k) ws ∧ Below w1.heap.size w1 wr

theorem clock_fin {w1 : World} {ops : List POp} {k : Nat} {ws : List Int} {s' : Sto} {wv : Value} {wr : World} {c : Int} (hk : k < ops.length) (hst : stI ops (k + 1) = s') (hc : s'.clock = c) (hl : ws.length ≤ k + 1) (hown : wr.ownsRow w1.heap.size 3 1 wv ws.length (intsV ws)) (hw : WInv s' ws) (hb : Below w1.heap.size w1 wr) :
    ClockR w1 ops (.int .i64 c) wv (.int .i64 ((k : Int) + 1)) wr ∧ ops.length - (intOf (.int .i64 ((k : Int) + 1))).toNat < ops.length - (intOf (.int .i64 (k : Int))).toNat :=
  ⟨⟨k + 1, ws, by go_num, by omega, by rw [hst, hc], hl, hown, by rw [hst]; exact hw, hb⟩, by simp [intOf]; omega⟩

set_option maxHeartbeats 4000000 in
set_option maxRecDepth 100000 in
theorem clock_any (w : World) (a : Option Addr) (len cap b off : Nat) (hd : DataAt w a len b off) (hl : len ≤ 1048576) :
    Calls Yahh.prog 6 #[.slice a len cap] w fun e w' => e = .returned (.bool true) ∧ Below w.heap.size w w' := by
  go_enter Yahh.func6, Yahh.ntmps6
  go_wp2_with fail
  refine (decScript_any w a len cap b off hd hl).mono ?_
  rintro e w1 ⟨v, ops, rfl, hops, hown, hb1⟩
  go_wp2_with fail
  refine (runI_any ops _ _ (RowAt.of_own hown) (by omega)).mono ?_
  rintro e w2 ⟨v2, rfl, hown2, ⟨_, g2, c2, rfl⟩, hb2⟩
  have hownO := own_below hown hb2 (Nat.le_refl _)
  have hB2 : Below w.heap.size w w2 := hb1.trans (hb2.mono hb1.size)
  obtain ⟨ad, cp, g, rfl, had⟩ := own_shape hownO
  clear hown hb1 hb2 hd
  have hn : ops.length ≤ 1048576 := by omega
  have hBs := hB2.size
  go_wp2
  go_loopw [5, 6, 24] (fun cv wv iv wr => ClockR w2 ops cv wv iv wr) (fun _ _ iv _ => ops.length - (intOf iv).toNat)
  case atStart => exact ⟨0, [], rfl, Nat.zero_le _, by simp [stI, sto0], Nat.le_refl _, ⟨rfl, .inl ⟨rfl, rfl⟩⟩, winv0 ops, Below.refl _ _⟩
  case round =>
    obtain ⟨k, ws, rfl, hk, rfl, hwl, hownW, hw, hbel⟩ := hrel
    have hfin : Below w.heap.size w wr := hB2.trans (hbel.mono hBs)
    by_cases hlt : k < ops.length
    · obtain ⟨o, ho⟩ : ∃ r, ops[k]? = some r := ⟨_, List.getElem?_eq_getElem hlt⟩
      obtain rfl := had (by omega)
      have ho4 := opCells_at ops k _ ho
      have hr2 := resCells_at (runI ops) k _ (runI_at ops k hlt)
      have p0 := cell_below hbel (own_cell hownO _ _ ho4.1)
      have p1 := cell_below hbel (own_cell hownO _ _ ho4.2.1)
      have p2 := cell_below hbel (own_cell hownO _ _ ho4.2.2.1)
      have p3 := cell_below hbel (own_cell hownO _ _ ho4.2.2.2)
      have hsz := hbel.size
      have e0 := cell_below (hbel.alloc hsz (Obj.cells #[.int .i64 o.kind, .int .i64 o.tx, .int .i64 o.key, .int .i64 o.val] 35)) (own_cell hown2 _ _ hr2.1)
      have e1 := cell_below (hbel.alloc hsz (Obj.cells #[.int .i64 o.kind, .int .i64 o.tx, .int .i64 o.key, .int .i64 o.val] 35)) (own_cell hown2 _ _ hr2.2)
      have hk0 : (0 : Int) ≤ (k : Int) := by omega
      have hkl : (k : Int) < (ops.length : Int) := by omega
      clear ho4 hr2
      have hg2 : g2 ≠ wr.heap.size := by have := (own_lt hown2 (g := g2) rfl).2; omega
      have hg2' : wr.heap.size ≠ g2 := fun e => hg2 e.symm
      by_cases hlid : k < 20000
      · have hres : resI ops k = (stepI (stI ops k) o).2 := by simp [resI, ho, hlid]
        have hst : stI ops (k + 1) = (stepI (stI ops k) o).1 := by simp [stI, ho, hlid]
        have hans := ans_step hw o
        have hsm := small_st ops k
        have hc0 := hsm.c0
        have hc1 := hsm.c1
        rw [← hres, ← hst] at hans
        have hlid' : ¬ (20000 : Int) ≤ (k : Int) := by omega
        have hc1' : (stI ops k).clock ≤ 20000 := by omega
        generalize hR : resI ops k = R at *
        generalize hS : stI ops (k + 1) = S at *
        generalize hC : (stI ops k).clock = C at *
        have HS := hid hS
        have HC := hid hC
        have Hw := hid hw
        have B2 := hid (fun o1 o2 => (hbel.alloc hsz o1).alloc (by simp; omega) o2)
        have W2 := hid (fun o1 o2 => (hownW.alloc o1).alloc o2)
        clear hS hC hR hres hst hw hsm ho hc1
        cases hans with
        | inv =>
          go_wp2
          exact clock_fin hlt HS.out HC.out (by omega) (W2.out _ _) Hw.out (B2.out _ _)
        | beg tx key val s' hc hw =>
          have hc := hid hc
          have hw := hid hw
          simp only [] at p0 p1 p2 p3 e0 e1
          rw [HC.out] at e1 hc
          go_wp2
          exact clock_fin hlt HS.out hc.out (by omega) (W2.out _ _) hw.out (B2.out _ _)
        | got tx key val v =>
          simp only [] at p0 p1 p2 p3 e0 e1
          go_wp2
          exact clock_fin hlt HS.out HC.out (by omega) (W2.out _ _) Hw.out (B2.out _ _)
        | miss tx key val =>
          simp only [] at p0 p1 p2 p3 e0 e1
          go_wp2
          exact clock_fin hlt HS.out HC.out (by omega) (W2.out _ _) Hw.out (B2.out _ _)
        | put2 tx key val s' hc hw =>
          have hc := hid hc
          have hw := hid hw
          simp only [] at p0 p1 p2 p3 e0 e1
          rw [HC.out] at hc
          go_wp2_with (first
            | (at_builtin; refine wpList_app1 rfl (.tmp 104) (.tmp 107) 33 rfl w2.heap.size 3 _ 1 8 Yahh.underlying33 Yahh.info3 rfl (by decide) _ _ _ rfl ((W2.out _ _).alloc _) (wr.heap.size + 2) _ _ _ rfl (alloc3 wr _ _ _) rfl (one1 _ rfl) (by omega) (by decide) (by simp; omega) _ rfl ?_; intro g5 cap5 w5 hown5 hgrow5 hat5 hlt5; have hB5 := ((B2.out _ _).alloc (by simp; omega) _).grown hgrow5 (by simp; omega) (fun q hq => (own_lt hownW hq).1); clear hgrow5 hat5))
          exact clock_fin (ws := ws ++ [tx]) hlt HS.out hc.out (by simp; omega) (by rw [List.length_append]; simpa [intsV] using hown5) hw.out hB5
        | put3 tx key val s' hc hw =>
          have hc := hid hc
          have hw := hid hw
          simp only [] at p0 p1 p2 p3 e0 e1
          rw [HC.out] at hc
          go_wp2_with (first
            | (at_builtin; refine wpList_app1 rfl (.tmp 104) (.tmp 107) 33 rfl w2.heap.size 3 _ 1 8 Yahh.underlying33 Yahh.info3 rfl (by decide) _ _ _ rfl ((W2.out _ _).alloc _) (wr.heap.size + 2) _ _ _ rfl (alloc3 wr _ _ _) rfl (one1 _ rfl) (by omega) (by decide) (by simp; omega) _ rfl ?_; intro g5 cap5 w5 hown5 hgrow5 hat5 hlt5; have hB5 := ((B2.out _ _).alloc (by simp; omega) _).grown hgrow5 (by simp; omega) (fun q hq => (own_lt hownW hq).1); clear hgrow5 hat5))
          exact clock_fin (ws := ws ++ [tx]) hlt HS.out hc.out (by simp; omega) (by rw [List.length_append]; simpa [intsV] using hown5) hw.out hB5
        | conf tx key val s' hc hw hin =>
          have hc := hid hc
          have hw := hid hw
          simp only [] at p0 p1 p2 p3 e0 e1
          rw [HC.out] at hc
          go_wp2_with (first
            | (go_at_call 26; refine (contains_any ws _ _ (W2.out _ _) tx hin (by omega)).mono ?_; rintro e w5 ⟨rfl, rfl⟩))
          exact clock_fin hlt HS.out hc.out (by omega) (W2.out _ _) hw.out (B2.out _ _)
        | com tx key val s' hc hw =>
          have hc := hid hc
          have hw := hid hw
          simp only [] at p0 p1 p2 p3 e0 e1
          rw [HC.out] at hc e1
          go_wp2
          exact clock_fin hlt HS.out hc.out (by omega) (W2.out _ _) hw.out (B2.out _ _)
        | abo tx key val s' hc hw =>
          have hc := hid hc
          have hw := hid hw
          simp only [] at p0 p1 p2 p3 e0 e1
          rw [HC.out] at hc
          go_wp2
          exact clock_fin hlt HS.out hc.out (by omega) (W2.out _ _) hw.out (B2.out _ _)
      · have hres : resI ops k = (2, 0) := by simp [resI, ho, hlid]
        have hst : stI ops (k + 1) = stI ops k := by simp [stI, ho, hlid]
        rw [hres] at e0 e1
        have Hst := hid hst
        have Hw := hid hw
        have B2 := hid (fun o1 o2 => (hbel.alloc hsz o1).alloc (by simp; omega) o2)
        have W2 := hid (fun o1 o2 => (hownW.alloc o1).alloc o2)
        have hlid' : (20000 : Int) ≤ (k : Int) := by omega
        clear ho hres hst hw
        go_wp2
        exact clock_fin hlt Hst.out rfl (by omega) (W2.out _ _) Hw.out (B2.out _ _)
    · obtain rfl : k = ops.length := by omega
      go_wp2
      go_ret
      exact ⟨rfl, hfin⟩

theorem clock_all (a : Option Addr) (len cap : Nat) (zs : List Int) (w : World) (h : IsRow .u8 w a len cap zs) :
    Calls Yahh.prog 6 #[.slice a len cap] w fun e w' => e = .returned (.bool true) ∧ Below w.heap.size w w' := by
  obtain ⟨b, off, hd, hm⟩ := h.data
  by_cases hl : len ≤ 1048576
  · exact clock_any w a len cap b off hd hl
  · unfold maxLen at hm
    have h' : (1048576 : Int) < (len : Int) := by omega
    go_enter Yahh.func6, Yahh.ntmps6
    go_wp2_with fail
    go_ret
    exact ⟨rfl, Below.refl _ _⟩
end Go.Proofs.Yafahw
