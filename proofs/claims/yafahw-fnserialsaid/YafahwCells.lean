/- Walks: spec.findCell (55), copyCells (54), removeCell (56). -/
import Derived.Test.YafahwWldRead
import Derived.Test.YafahwPlainSer
namespace Go.Proofs.Yafahw
open Go.RowKit
set_option linter.unusedVariables false
set_option linter.unusedSimpArgs false
attribute [local go_sem ↓] Go.wp_at_zero Go.wp_at_succ

def pcC (c : PC) : List Value := [.int .i64 c.key, .int .i64 c.val, .bool c.present]
theorem pcC_len (c : PC) : (pcC c).length = 3 := rfl
def pcCells (l : List PC) : List Value := l.flatMap pcC
theorem pcCells_snoc (l : List PC) (c : PC) : pcCells (l ++ [c]) = pcCells l ++ pcC c := by simp [pcCells]
theorem alloc2c (w : World) (o1 o2 : Obj) : ((w.alloc o1).alloc o2).heap[w.heap.size + 1]? = some o2 := by
  have := heap_alloc_new (w.alloc o1) o2
  simpa using this
theorem Yahh.info94 : (Yahh.prog.info? 94).map (fun i => (i.zero, i.size, i.bytes)) = some (some (.agg #[.int .i64 0, .int .i64 0, .bool false]), 3, 24) := by kernel_rfl
theorem Yahh.underlying83 : Yahh.prog.underlying 83 = some (.slice 94) := by kernel_rfl

set_option maxHeartbeats 1000000 in
set_option maxRecDepth 100000 in
theorem findCell_any {B : Nat} {w : World} (cs : List PC) (v : Value) (hown : w.ownsRow B 94 3 v cs.length (pcCells cs)) (key : Int) (hn : cs.length ≤ 400000000) :
    Calls Yahh.prog 55 #[v, .int .i64 key] w fun e w' => e = .returned (.int .i64 (idxI (findC cs key))) ∧ w' = w := by
  obtain ⟨ad, cap, g, rfl, had⟩ := own_shape hown
  go_enter Yahh.func55, Yahh.ntmps55
  go_wp2
  go_loopw [8] (fun i wr => SearchR w cs (fun p => p.key == key) i wr) (fun i _ => cs.length - (intOf i).toNat)
  case atStart => exact ⟨0, rfl, Nat.zero_le _, fun j a hj => by omega, rfl⟩
  case round =>
    obtain ⟨k, rfl, hk, hno, rfl⟩ := hrel
    by_cases hlt : k < cs.length
    · obtain ⟨p, hp⟩ : ∃ p, cs[k]? = some p := ⟨_, List.getElem?_eq_getElem hlt⟩
      obtain rfl := had (by omega)
      have hc0 := row_cell pcC_len hown hp (j := 0) (by omega) rfl
      rw [Nat.add_zero] at hc0
      have Hp := hid hp
      have Hno := hid hno
      clear hp hno
      by_cases hq : (p.key == key) = true
      · go_wp2
        go_ret
        refine ⟨?_, rfl⟩
        unfold findC
        rw [find_hit Hno.out Hp.out hq]
        rfl
      · have hq' : (p.key == key) = false := by simpa using hq
        go_wp2
        refine ⟨⟨k + 1, by go_num, by omega, ?_, rfl⟩, by simp [intOf]; omega⟩
        intro j a hj ha
        by_cases hjk : j = k
        · subst hjk; rw [Hp.out] at ha; simp at ha; subst ha; exact hq'
        · exact Hno.out j a (by omega) ha
    · obtain rfl : k = cs.length := by omega
      have Hno := hid hno
      clear hno
      go_wp2
      go_ret
      refine ⟨?_, rfl⟩
      unfold findC
      rw [find_miss Hno.out]
      rfl

def CopyR (w : World) (cs : List PC) (f : List PC → List PC) (ou i : Value) (wr : World) : Prop :=
  ∃ k : Nat, i = .int .i64 (k : Int) ∧ k ≤ cs.length ∧ wr.ownsRow w.heap.size 94 3 ou (f (cs.take k)).length (pcCells (f (cs.take k))) ∧ Below w.heap.size w wr

set_option maxHeartbeats 1000000 in
set_option maxRecDepth 100000 in
theorem copyCells_any {B : Nat} {w : World} (cs : List PC) (v : Value) (hown : w.ownsRow B 94 3 v cs.length (pcCells cs)) (hn : cs.length ≤ 400000000) :
    Calls Yahh.prog 54 #[v] w fun e w' => ∃ v', e = .returned v' ∧ w'.ownsRow w.heap.size 94 3 v' cs.length (pcCells cs) ∧ Below w.heap.size w w' := by
  obtain ⟨ad, cap, g, rfl, had⟩ := own_shape hown
  go_enter Yahh.func54, Yahh.ntmps54
  go_wp2
  go_loopw [3, 8] (fun ou i wr => CopyR w cs (fun l => l) ou i wr) (fun _ i _ => cs.length - (intOf i).toNat)
  case atStart => exact ⟨0, rfl, Nat.zero_le _, ⟨rfl, .inl ⟨rfl, rfl⟩⟩, Below.refl _ _⟩
  case round =>
    obtain ⟨k, rfl, hk, how, hbel⟩ := hrel
    by_cases hlt : k < cs.length
    · obtain ⟨p, hp⟩ : ∃ p, cs[k]? = some p := ⟨_, List.getElem?_eq_getElem hlt⟩
      obtain rfl := had (by omega)
      have hc0 := cell_below hbel (row_cell pcC_len hown hp (j := 0) (by omega) rfl)
      have hc1 := cell_below hbel (row_cell pcC_len hown hp (j := 1) (by omega) rfl)
      have hc2 := cell_below hbel (row_cell pcC_len hown hp (j := 2) (by omega) rfl)
      rw [Nat.add_zero] at hc0
      have hsz := hbel.size
      have hk0 : (0 : Int) ≤ (k : Int) := by omega
      have hkl : (k : Int) < (cs.length : Int) := by omega
      have Hp := hid hp
      have hlk : (cs.take k).length = k := by simp; omega
      have hlk' : (cs.take (k + 1)).length = k + 1 := by simp; omega
      rw [hlk] at how
      have howA := hid (fun o1 o2 => (how.alloc o1).alloc o2)
      have hbelA := hid (fun o1 o2 => (hbel.alloc hsz o1).alloc (by simp; omega) o2)
      clear hp
      go_wp2_with (first
        | (at_builtin; refine wpList_app1 rfl (.tmp 12) (.tmp 14) 83 rfl w.heap.size 94 _ 3 24 Yahh.underlying83 Yahh.info94 rfl (by decide) _ _ _ rfl (howA.out _ _) (wr.heap.size + 1) _ _ _ rfl (alloc2c wr _ _) rfl (one3 _ _ _ rfl rfl rfl) (by omega) (by decide) (by simp; omega) _ rfl ?_; intro g5 cap5 w5 hown5 hgrow5 hat5 hlt5; have hbel5 := (hbelA.out _ _).grown hgrow5 (by simp; omega) (fun k hk => (own_lt how hk).1); clear hgrow5 hat5))
      refine ⟨⟨k + 1, by go_num, by omega, ?_, hbel5⟩, by simp [intOf]; omega⟩
      rw [hlk', List.take_add_one, Hp.out]
      simp only [Option.toList]
      rw [pcCells_snoc]
      exact hown5
    · obtain rfl : k = cs.length := by omega
      rw [List.take_length] at how
      go_wp2
      go_ret
      exact ⟨_, rfl, how, hbel⟩

theorem delv_snoc (l : List PC) (c : PC) (k : Int) : delv (l ++ [c]) k = if c.key = k then delv l k else delv l k ++ [c] := by
  unfold delv
  rw [List.filter_append]
  by_cases h : c.key = k
  · simp [h]
  · simp [h]
theorem delv_len (l : List PC) (k : Int) : (delv l k).length ≤ l.length := List.length_filter_le _ _

set_option maxHeartbeats 1000000 in
set_option maxRecDepth 100000 in
theorem removeCell_any {B : Nat} {w : World} (cs : List PC) (v : Value) (hown : w.ownsRow B 94 3 v cs.length (pcCells cs)) (key : Int) (hn : cs.length ≤ 400000000) :
    Calls Yahh.prog 56 #[v, .int .i64 key] w fun e w' => ∃ v', e = .returned v' ∧ w'.ownsRow w.heap.size 94 3 v' (delv cs key).length (pcCells (delv cs key)) ∧ Below w.heap.size w w' := by
  obtain ⟨ad, cap, g, rfl, had⟩ := own_shape hown
  go_enter Yahh.func56, Yahh.ntmps56
  go_wp2
  go_loopw [5, 10] (fun ou i wr => CopyR w cs (fun l => delv l key) ou i wr) (fun _ i _ => cs.length - (intOf i).toNat)
  case atStart => exact ⟨0, rfl, Nat.zero_le _, ⟨rfl, .inl ⟨rfl, rfl⟩⟩, Below.refl _ _⟩
  case round =>
    obtain ⟨k, rfl, hk, how, hbel⟩ := hrel
    dsimp only at how
    by_cases hlt : k < cs.length
    · obtain ⟨p, hp⟩ : ∃ p, cs[k]? = some p := ⟨_, List.getElem?_eq_getElem hlt⟩
      obtain rfl := had (by omega)
      have hc0 := cell_below hbel (row_cell pcC_len hown hp (j := 0) (by omega) rfl)
      have hc1 := cell_below hbel (row_cell pcC_len hown hp (j := 1) (by omega) rfl)
      have hc2 := cell_below hbel (row_cell pcC_len hown hp (j := 2) (by omega) rfl)
      rw [Nat.add_zero] at hc0
      have hsz := hbel.size
      have hk0 : (0 : Int) ≤ (k : Int) := by omega
      have hkl : (k : Int) < (cs.length : Int) := by omega
      have hlk : (delv (cs.take k) key).length ≤ k := by have := delv_len (cs.take k) key; simp at this; omega
      have hsn : delv (cs.take (k + 1)) key = if p.key = key then delv (cs.take k) key else delv (cs.take k) key ++ [p] := by
        rw [List.take_add_one, hp]; exact delv_snoc _ _ _
      have Hsn := hid hsn
      have howA := hid (fun o1 o2 => (how.alloc o1).alloc o2)
      have how1 := hid (fun o1 => (how.alloc o1))
      have hbel1 := hid (fun o1 => (hbel.alloc hsz o1))
      have hbelA := hid (fun o1 o2 => (hbel.alloc hsz o1).alloc (by simp; omega) o2)
      clear hp hsn
      by_cases hq : p.key = key
      · go_wp2
        refine ⟨⟨k + 1, by go_num, by omega, ?_, hbel1.out _⟩, by simp [intOf]; omega⟩
        simp only []
        rw [Hsn.out, if_pos hq]
        exact how1.out _
      · go_wp2_with (first
          | (at_builtin; refine wpList_app1 rfl (.tmp 18) (.tmp 20) 83 rfl w.heap.size 94 _ 3 24 Yahh.underlying83 Yahh.info94 rfl (by decide) _ _ _ rfl (howA.out _ _) (wr.heap.size + 1) _ _ _ rfl (alloc2c wr _ _) rfl (one3 _ _ _ rfl rfl rfl) (by omega) (by decide) (by simp; omega) _ rfl ?_; intro g5 cap5 w5 hown5 hgrow5 hat5 hlt5; have hbel5 := (hbelA.out _ _).grown hgrow5 (by simp; omega) (fun k hk => (own_lt how hk).1); clear hgrow5 hat5))
        refine ⟨⟨k + 1, by go_num, by omega, ?_, hbel5⟩, by simp [intOf]; omega⟩
        simp only []
        rw [Hsn.out, if_neg hq, pcCells_snoc, List.length_append]
        exact hown5
    · obtain rfl : k = cs.length := by omega
      rw [List.take_length] at how
      go_wp2
      go_ret
      exact ⟨_, rfl, how, hbel⟩

/-! ### replay -/
def ReplR (B : Nat) (w : World) (cs : List PC) (ws : List Wr) (ou i : Value) (wr : World) : Prop :=
  ∃ k : Nat, i = .int .i64 (k : Int) ∧ k ≤ ws.length ∧ wr.ownsRow B 94 3 ou ((ws.take k).foldl repl cs).length (pcCells ((ws.take k).foldl repl cs)) ∧ Keep B [94] w wr
theorem repl_len (cs : List PC) (x : Wr) : (repl cs x).length ≤ cs.length + 1 := by
  unfold repl; split <;> simp
theorem foldl_repl_len (ws : List Wr) : ∀ cs : List PC, (ws.foldl repl cs).length ≤ cs.length + ws.length := by
  induction ws with
  | nil => intro cs; simp
  | cons x ws ih =>
    intro cs
    simp only [List.foldl_cons, List.length_cons]
    have h1 := ih (repl cs x)
    have h2 := repl_len cs x
    omega
theorem repl_hit {cs : List PC} {x : Wr} {i : Nat} (h : findC cs x.key = some i) : repl cs x = cs.set i ⟨x.key, x.val, !x.del⟩ := by
  unfold repl; unfold findC at h; rw [h]
theorem repl_miss {cs : List PC} {x : Wr} (h : findC cs x.key = none) : repl cs x = cs ++ [⟨x.key, x.val, !x.del⟩] := by
  unfold repl; unfold findC at h; rw [h]
theorem findC_at {cs : List PC} {k : Int} {i : Nat} (h : findC cs k = some i) : ∃ c, cs[i]? = some c ∧ c.key = k := by
  unfold findC at h
  obtain ⟨hi, hp, _⟩ := List.findIdx?_eq_some_iff_getElem.1 h
  exact ⟨_, List.getElem?_eq_getElem hi, by simpa using hp⟩

/-- two fields of element i written -/
theorem pc_put {w : World} {B g n cap : Nat} {l : List PC} (h : w.ownsRow B 94 3 (.slice (some ⟨g, 0, none⟩) n cap) n (pcCells l)) {m : Nat} {y : PC} (hy : l[m]? = some y) (v : Int) (b : Bool) :
    (w.setCell ⟨g, m * 3 + 2, none⟩ (.bool b)).ownsRow B 94 3 (.slice (some ⟨g, 0, none⟩) n cap) n (pcCells (l.set m ⟨y.key, y.val, b⟩)) ∧
    ((w.setCell ⟨g, m * 3 + 2, none⟩ (.bool b)).setCell ⟨g, m * 3 + 1, none⟩ (.int .i64 v)).ownsRow B 94 3 (.slice (some ⟨g, 0, none⟩) n cap) n (pcCells (l.set m ⟨y.key, v, b⟩)) ∧
    w.grownBy ((w.setCell ⟨g, m * 3 + 2, none⟩ (.bool b)).setCell ⟨g, m * 3 + 1, none⟩ (.int .i64 v)) (some g) := by
  have hm : m < l.length := (List.getElem?_eq_some_iff.1 hy).1
  have h1 := row_set pcC_len h hy (a' := ⟨y.key, y.val, b⟩) (j := 2) (by omega) (u := .bool b) rfl
  have g1 : (l.set m ⟨y.key, y.val, b⟩)[m]? = some ⟨y.key, y.val, b⟩ := by simp [hm]
  have h2 := row_set pcC_len h1 g1 (a' := ⟨y.key, v, b⟩) (j := 1) (by omega) (u := .int .i64 v) rfl
  rw [List.set_set] at h2
  exact ⟨h1, h2, grown_trans (set_grown _ _ _ _) (set_grown _ _ _ _)⟩

/-- .. and the facts that the walk needs on the way -/
theorem pc_facts {w : World} {B g n cap xb : Nat} {l : List PC} {a0 a1 : Value} {v : Int} (h : w.ownsRow B 94 3 (.slice (some ⟨g, 0, none⟩) n cap) n (pcCells l)) {m : Nat} {y : PC} (hy : l[m]? = some y) (b : Bool) (hx : w.heap[xb]? = some (.cells #[a0, a1, .int .i64 v] 100 (0, 0))) :
    w.cell? ⟨g, m * 3 + 2, none⟩ = some (.bool y.present) ∧ w.frozen? ⟨g, m * 3 + 2, none⟩ = false ∧ (w.setCell ⟨g, m * 3 + 2, none⟩ (.bool b)).cell? ⟨g, m * 3 + 1, none⟩ = some (.int .i64 y.val) ∧ (w.setCell ⟨g, m * 3 + 2, none⟩ (.bool b)).frozen? ⟨g, m * 3 + 1, none⟩ = false ∧
    (w.setCell ⟨g, m * 3 + 2, none⟩ (.bool b)).cell? ⟨xb, 2, none⟩ = some (.int .i64 v) := by
  have hm : m < l.length := (List.getElem?_eq_some_iff.1 hy).1
  have hput := pc_put h hy v b
  have hx2 := blk_ty (set_grown w g (m * 3 + 2) (.bool b)) (RowTy.of_own h) hx (by decide)
  have r2 := cell_of_row _ xb 2 _ _ _ hx2
  simp only [List.getElem?_toArray, List.getElem?_cons_succ, List.getElem?_cons_zero] at r2
  exact ⟨row_cell pcC_len h hy (j := 2) (by omega) rfl, h.frozenAt _, row_cell pcC_len hput.1 (i := m) (a := ⟨y.key, y.val, b⟩) (by simp [hm]) (j := 1) (by omega) rfl, hput.1.frozenAt _, r2⟩

set_option maxHeartbeats 2000000 in
set_option maxRecDepth 100000 in
theorem replay_any {B B' : Nat} {w : World} (cs : List PC) (ws : List Wr) (vc vw : Value) (hB : B ≤ w.heap.size) (hown : w.ownsRow B 94 3 vc cs.length (pcCells cs)) (hw : w.ownsRow B' 100 3 vw ws.length (wrCells ws)) (hn : cs.length + ws.length ≤ 400000000) :
    Calls Yahh.prog 49 #[vc, vw] w fun e w' => ∃ v', e = .returned v' ∧ w'.ownsRow B 94 3 v' (ws.foldl repl cs).length (pcCells (ws.foldl repl cs)) ∧ Keep B [94] w w' := by
  obtain ⟨ad, cap, g, rfl, had⟩ := own_shape hw
  go_enter Yahh.func49, Yahh.ntmps49
  go_wp2
  go_loopw [0, 10] (fun ou i wr => ReplR B w cs ws ou i wr) (fun _ i _ => ws.length - (intOf i).toNat)
  case atStart => exact ⟨0, rfl, Nat.zero_le _, hown, Keep.refl _ _ _⟩
  case round =>
    obtain ⟨k, rfl, hk, how, hkeep⟩ := hrel
    by_cases hlt : k < ws.length
    · obtain ⟨x, hx⟩ : ∃ p, ws[k]? = some p := ⟨_, List.getElem?_eq_getElem hlt⟩
      obtain rfl := had (by omega)
      have hw2 := hkeep.own hw (by decide)
      have hc0 := row_cell wrC_len hw2 hx (j := 0) (by omega) rfl
      have hc1 := row_cell wrC_len hw2 hx (j := 1) (by omega) rfl
      have hc2 := row_cell wrC_len hw2 hx (j := 2) (by omega) rfl
      rw [Nat.add_zero] at hc0
      have hsz : B ≤ wr.heap.size := Nat.le_trans hB hkeep.below.size
      have hk0 : (0 : Int) ≤ (k : Int) := by omega
      have hkl : (k : Int) < (ws.length : Int) := by omega
      have hsn : (ws.take (k + 1)).foldl repl cs = repl ((ws.take k).foldl repl cs) x := foldl_take_succ repl ws k x cs hx
      have hlen := foldl_repl_len (ws.take k) cs
      rw [List.length_take] at hlen
      generalize hC : (ws.take k).foldl repl cs = C at *
      have Hsn := hid hsn
      have hcl : C.length ≤ 400000000 := by omega
      have hcall := findCell_any C _ (how.alloc (Obj.cells #[.int .i64 x.key, .bool x.del, .int .i64 x.val] 100)) x.key hcl
      have hkeep1 := hid (hkeep.alloc hsz (Obj.cells #[.int .i64 x.key, .bool x.del, .int .i64 x.val] 100))
      have how1 := how.alloc (Obj.cells #[.int .i64 x.key, .bool x.del, .int .i64 x.val] 100)
      have hx1 := heap_alloc_new wr (Obj.cells #[.int .i64 x.key, .bool x.del, .int .i64 x.val] 100)
      have q0 := cell_of_row _ wr.heap.size 0 _ _ _ hx1
      have q1 := cell_of_row _ wr.heap.size 1 _ _ _ hx1
      have q2 := cell_of_row _ wr.heap.size 2 _ _ _ hx1
      simp only [List.getElem?_toArray, List.getElem?_cons_succ, List.getElem?_cons_zero] at q0 q1 q2
      have Hx1 := hid hx1
      have hsw : (wr.alloc (Obj.cells #[.int .i64 x.key, .bool x.del, .int .i64 x.val] 100)).heap.size = wr.heap.size + 1 := by simp
      clear hx hsn hC how hkeep hx1
      go_wp2_with fail
      refine hcall.mono ?_
      rintro e w2 ⟨rfl, rfl⟩
      clear hcall hc0 hc1 hc2 hw2
      generalize hW : wr.alloc (Obj.cells #[.int .i64 x.key, .bool x.del, .int .i64 x.val] 100) = W at *
      generalize hxb : wr.heap.size = xb at *
      clear hW
      cases hf : findC C x.key with
      | some i =>
        obtain ⟨c, hc, hck⟩ := findC_at hf
        have hil : i < C.length := (List.getElem?_eq_some_iff.1 hc).1
        obtain ⟨cd, ccap, cg, hcv, hcd⟩ := own_shape how1
        subst hcv
        obtain rfl := hcd (by omega)
        have hrep := repl_hit hf
        rw [← hck] at hrep
        have Hrep := hid hrep
        have hii : (0 : Int) ≤ (i : Int) := by omega
        have hill : (i : Int) < (C.length : Int) := by omega
        have hneg : ¬ (i : Int) < 0 := by omega
        have t2 := row_cell pcC_len how1 hc (j := 2) (by omega) rfl
        have f2 := how1.frozenAt (i * 3 + 2)
        have hput := pc_put how1 hc x.val (!x.del)
        have t1 := row_cell pcC_len hput.1 (i := i) (a := ⟨c.key, c.val, !x.del⟩) (by simp [hil]) (j := 1) (by omega) rfl
        have f1 := hput.1.frozenAt (i * 3 + 1)
        have Hx2 := blk_ty (set_grown W cg (i * 3 + 2) (.bool (!x.del))) (RowTy.of_own how1) Hx1.out (by decide)
        have r2 := cell_of_row _ xb 2 _ _ _ Hx2
        simp only [List.getElem?_toArray, List.getElem?_cons_succ, List.getElem?_cons_zero] at r2
        have Hput := hid hput.2
        have hkeep2 := hid (hkeep1.out.grown hput.2.2 (by omega) (fun k hk => (own_lt how1 hk).1) (RowTy.of_own how1) (by decide))
        have hlr : (repl C x).length = C.length := by rw [hrep]; simp
        have Hlr := hid hlr
        have hlk : 0 < C.length := by omega
        clear hput Hx2 hrep hc hlr hf
        simp only [idxI]
        go_wp2
        refine ⟨⟨k + 1, by go_num, by omega, ?_, hkeep2.out⟩, by simp [intOf]; omega⟩
        rw [Hsn.out, Hlr.out, Hrep.out]
        exact Hput.out.1
      | none =>
        have hrep := repl_miss hf
        have Hrep := hid hrep
        have how1A := hid (fun o1 => how1.alloc o1)
        have hkeepA := hid (fun o1 => hkeep1.out.alloc (by omega : B ≤ W.heap.size) o1)
        have hBW : B ≤ W.heap.size := by omega
        clear hrep hf hsw
        simp only [idxI]
        go_wp2_with (first
          | (at_builtin; refine wpList_app1 rfl (.tmp 20) (.tmp 24) 83 rfl B 94 _ 3 24 Yahh.underlying83 Yahh.info94 rfl (by decide) _ _ _ rfl (how1A.out _) W.heap.size _ _ _ rfl (heap_alloc_new W _) rfl (one3 _ _ _ rfl rfl rfl) (by omega) (by decide) (by simp; omega) _ rfl ?_; intro g5 cap5 w5 hown5 hgrow5 hat5 hlt5; have hkeep5 := hid ((hkeepA.out _).grown hgrow5 (by simp; omega) (fun k hk => (own_lt how1 hk).1) (RowTy.of_own (how1A.out _)) (by decide)); have Hx5 := hid (blk_ty hgrow5 (RowTy.of_own (how1A.out _)) (alloc_keep (w := W) Hx1.out _) (by decide)); have s1 := cell_of_row _ xb 1 _ _ _ Hx5.out; simp only [List.getElem?_toArray, List.getElem?_cons_succ, List.getElem?_cons_zero] at s1; have hown6 : w5.ownsRow B 94 3 (.slice (some ⟨g5, 0, none⟩) (C.length + 1) cap5) (C.length + 1) (pcCells (C ++ [⟨x.key, 0, false⟩])) := (by rw [pcCells_snoc]; exact hown5); have hcc : (C ++ [(⟨x.key, 0, false⟩ : PC)])[C.length]? = some ⟨x.key, 0, false⟩ := (by simp); have hF := pc_facts hown6 hcc (!x.del) Hx5.out; obtain ⟨t2, f2, t1, f1, r2⟩ := hF; have Hput := hid (pc_put hown6 hcc x.val (!x.del)); have Hown6 := hid hown6; clear hgrow5 hat5 hown5 hown6 hcc)
          | fail)
        refine ⟨⟨k + 1, by go_num, by omega, ?_, hkeep5.out.grown Hput.out.2.2 (by have := hkeep5.out.below.size; omega) (fun k hk => (own_lt Hown6.out hk).1) (RowTy.of_own Hown6.out) (by decide)⟩, by simp [intOf]; omega⟩
        have hse : (C ++ [(⟨x.key, 0, false⟩ : PC)]).set C.length ⟨x.key, x.val, !x.del⟩ = C ++ [⟨x.key, x.val, !x.del⟩] := by
          rw [List.set_append_right _ _ (Nat.le_refl _), Nat.sub_self]; rfl
        have hl2 := Hput.out.2.1
        rw [hse] at hl2
        rw [Hsn.out, Hrep.out, List.length_append]
        exact hl2
    · obtain rfl : k = ws.length := by omega
      rw [List.take_length] at how
      go_wp2
      go_ret
      exact ⟨_, rfl, how, hkeep⟩
end Go.Proofs.Yafahw
