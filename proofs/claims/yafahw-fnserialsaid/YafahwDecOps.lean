/- spec.DecodeScript (15): SOME list of operations, no longer than the input. -/
import Derived.Test.YafahwDecRes
import Derived.Test.YafahwOpenIn
namespace Go.Proofs.Yafahw
open Go.RowKit
set_option linter.unusedVariables false

theorem Yahh.info35 : (Yahh.prog.info? 35).map (fun i => (i.zero, i.size, i.bytes)) = some (some (.agg #[.int .i64 0, .int .i64 0, .int .i64 0, .int .i64 0]), 4, 32) := by kernel_rfl

/-- inside a round of an ops decoder: the reader (at or behind p0), the row of operations so far, the operation's variable in block ob -/
structure DS (w : World) (a : Option Addr) (len cap p0 : Nat) (rs : List POp) (ou : Value) (ob : Nat) (W : World) : Prop where
  rd : ∃ p, p0 ≤ p ∧ Rdr W w.heap.size a len cap p
  own : W.ownsRow (w.heap.size + 1) 35 4 ou rs.length (opCells rs)
  bel : Below w.heap.size w W
  op : ∃ k t y v : Int, W.heap[ob]? = some (.cells #[.int .i64 k, .int .i64 t, .int .i64 y, .int .i64 v] 35 (0, 0))
  lt : w.heap.size < ob
  nob : ou.ownBlock ≠ some ob

section
variable {w : World} {a : Option Addr} {len cap p0 : Nat} {rs : List POp} {ou : Value} {ob : Nat} {W : World}
theorem DS.drewN (h : DS w a len cap p0 rs ou ob W) (n : Nat) : DS w a len cap p0 rs ou ob (W.drewN n) :=
  ⟨h.rd, h.own, below_drewN h.bel n, h.op, h.lt, h.nob⟩
theorem DS.drew (h : DS w a len cap p0 rs ou ob W) : DS w a len cap p0 rs ou ob W.drew :=
  ⟨h.rd, h.own, h.bel.drew, h.op, h.lt, h.nob⟩
theorem DS.init {p : Nat} (hp : p0 ≤ p) (hr : Rdr W w.heap.size a len cap p) (ho : W.ownsRow (w.heap.size + 1) 35 4 ou rs.length (opCells rs)) (hb : Below w.heap.size w W) (k t y v : Int) :
    DS w a len cap p0 rs ou W.heap.size (W.alloc (.cells #[.int .i64 k, .int .i64 t, .int .i64 y, .int .i64 v] 35 (0, 0))) :=
  ⟨⟨p, hp, hr.alloc _⟩, ho.alloc _, hb.alloc (Nat.le_of_lt hr.lt) _, ⟨k, t, y, v, heap_alloc_new W _⟩, hr.lt, fun e => by have := (own_lt ho e).2; omega⟩
theorem DS.set (h : DS w a len cap p0 rs ou ob W) (j : Nat) (hj : j < 4) (u : Int) : DS w a len cap p0 rs ou ob (W.setCell ⟨ob, j, none⟩ (.int .i64 u)) := by
  obtain ⟨⟨p, hp, hr⟩, ho, hb, ⟨k, t, y, v, hop⟩, hlt, hn⟩ := h
  refine ⟨⟨p, hp, ?_, hr.2⟩, own_keep ho fun g hg => Below.heap_setCell _ _ _ _ (fun e => hn (by rw [hg]; exact congrArg some e)), hb.setCell (by show _ ≤ ob; omega) _, ?_, hlt, hn⟩
  · rw [Below.heap_setCell _ _ _ _ (by show w.heap.size ≠ ob; omega)]; exact hr.1
  · have := heap_setCell_same W ob j _ _ (.int .i64 u) hop
    have hj' : j = 0 ∨ j = 1 ∨ j = 2 ∨ j = 3 := by omega
    rcases hj' with rfl | rfl | rfl | rfl
    · exact ⟨u, t, y, v, by simpa using this⟩
    · exact ⟨k, u, y, v, by simpa using this⟩
    · exact ⟨k, t, u, v, by simpa using this⟩
    · exact ⟨k, t, y, u, by simpa using this⟩
theorem DS.step {p p' : Nat} {W' : World} (h : DS w a len cap p0 rs ou ob W) (hp : p0 ≤ p') (hr : Rdr W' w.heap.size a len cap p') (hg : W.grownBy W' (some w.heap.size)) : DS w a len cap p0 rs ou ob W' := by
  obtain ⟨_, ho, hb, ⟨k, t, y, v, hop⟩, hlt, hn⟩ := h
  exact ⟨⟨p', hp, hr⟩, own_rdr ho hg (by omega), rdr_below hb hg (Nat.le_refl _), ⟨k, t, y, v, by rw [hg.block ob (blk_lt hop) (by simp; omega)]; exact hop⟩, hlt, hn⟩

theorem alloc_new_set (w : World) (p : Addr) (u : Value) (o : Obj) : ((w.setCell p u).alloc o).heap[w.heap.size]? = some o := by
  have := heap_alloc_new (w.setCell p u) o
  rwa [show (w.setCell p u).heap.size = w.heap.size from by simp [World.setCell]] at this
theorem d43 {b off : Nat} (hd : DataAt w a len b off) (h : DS w a len cap p0 rs ou ob W) :
    Calls Yahh.prog 43 #[.pointer (some ⟨w.heap.size, 0, none⟩)] W fun e W' => ∃ z : Int, e = .returned (.int .u8 z) ∧ 0 ≤ z ∧ z ≤ 255 ∧ DS w a len cap p0 rs ou ob W' := by
  obtain ⟨p, hp, hr⟩ := h.rd
  refine (next_any w a len cap b off hd _ p _ (Nat.le_refl _) h.bel hr).mono ?_
  rintro e w2 ⟨z, p2, rfl, z0, z1, hp2, _, hr2, hg2⟩
  exact ⟨z, rfl, z0, z1, h.step (p := p) (by omega) hr2 hg2⟩
theorem d44 {b off : Nat} (hd : DataAt w a len b off) (h : DS w a len cap p0 rs ou ob W) :
    Calls Yahh.prog 44 #[.pointer (some ⟨w.heap.size, 0, none⟩)] W fun e W' => ∃ z : Int, e = .returned (.int .i64 z) ∧ DS w a len cap p0 rs ou ob W' := by
  obtain ⟨p, hp, hr⟩ := h.rd
  refine (anyID_any w a len cap b off hd _ p _ (Nat.le_refl _) h.bel hr).mono ?_
  rintro e w2 ⟨z, p2, rfl, hp2, hr2, hg2⟩
  exact ⟨z, rfl, h.step (p := p) (by omega) hr2 hg2⟩
theorem d45 {b off : Nat} (hd : DataAt w a len b off) (h : DS w a len cap p0 rs ou ob W) :
    Calls Yahh.prog 45 #[.pointer (some ⟨w.heap.size, 0, none⟩)] W fun e W' => ∃ z : Int, e = .returned (.int .i64 z) ∧ DS w a len cap p0 rs ou ob W' := by
  obtain ⟨p, hp, hr⟩ := h.rd
  refine (key_any w a len cap b off hd _ p _ (Nat.le_refl _) h.bel hr).mono ?_
  rintro e w2 ⟨z, p2, rfl, hp2, hr2, hg2⟩
  exact ⟨z, rfl, h.step (p := p) (by omega) hr2 hg2⟩
theorem d46 {b off : Nat} (hd : DataAt w a len b off) (h : DS w a len cap p0 rs ou ob W) :
    Calls Yahh.prog 46 #[.pointer (some ⟨w.heap.size, 0, none⟩)] W fun e W' => ∃ z : Int, e = .returned (.int .i64 z) ∧ DS w a len cap p0 rs ou ob W' := by
  obtain ⟨p, hp, hr⟩ := h.rd
  refine (value_any w a len cap b off hd _ p _ (Nat.le_refl _) h.bel hr).mono ?_
  rintro e w2 ⟨z, p2, rfl, hp2, hr2, hg2⟩
  exact ⟨z, rfl, h.step (p := p) (by omega) hr2 hg2⟩
/-- the operation's cells, for the stores -/
theorem DS.cells (h : DS w a len cap p0 rs ou ob W) : ∃ k t y v : Int, W.cell? ⟨ob, 0, none⟩ = some (.int .i64 k) ∧ W.cell? ⟨ob, 1, none⟩ = some (.int .i64 t) ∧ W.cell? ⟨ob, 2, none⟩ = some (.int .i64 y) ∧ W.cell? ⟨ob, 3, none⟩ = some (.int .i64 v) ∧
    W.frozen? ⟨ob, 1, none⟩ = false ∧ W.frozen? ⟨ob, 2, none⟩ = false ∧ W.frozen? ⟨ob, 3, none⟩ = false := by
  obtain ⟨k, t, y, v, hop⟩ := h.op
  have c0 := cell_of_row W ob 0 _ _ _ hop
  have c1 := cell_of_row W ob 1 _ _ _ hop
  have c2 := cell_of_row W ob 2 _ _ _ hop
  have c3 := cell_of_row W ob 3 _ _ _ hop
  simp at c0 c1 c2 c3
  exact ⟨k, t, y, v, c0, c1, c2, c3, frozen_of_row W _ _ _ _ hop, frozen_of_row W _ _ _ _ hop, frozen_of_row W _ _ _ _ hop⟩
theorem DS.lens (h : DS w a len cap p0 rs ou ob W) : p0 ≤ len ∧ len ≤ 1048576 := by
  obtain ⟨p, hp, hr⟩ := h.rd
  have := hr.2
  exact ⟨by omega, this.2⟩
theorem DS.sz (h : DS w a len cap p0 rs ou ob W) : w.heap.size + 1 ≤ W.heap.size := by
  obtain ⟨p, hp, hr⟩ := h.rd
  exact hr.lt

/-- the end of a round -/
structure DecEnd (w : World) (a : Option Addr) (len cap p0 : Nat) (rs : List POp) (v : Value) (W' : World) : Prop where
  rd : ∃ p, p0 ≤ p ∧ Rdr W' w.heap.size a len cap p
  own : W'.ownsRow (w.heap.size + 1) 35 4 v rs.length (opCells rs)
  bel : Below w.heap.size w W'
theorem DS.app (h : DS w a len cap p0 rs ou ob W) {o : Obj} {W' : World} (hg : (W.alloc o).grownBy W' ou.ownBlock) {k t y v : Int} {v' : Value}
    (hown : W'.ownsRow (w.heap.size + 1) 35 4 v' (rs.length + 1) (opCells rs ++ (#[.int .i64 k, .int .i64 t, .int .i64 y, .int .i64 v] : Array Value).toList)) : DecEnd w a len cap p0 (rs ++ [⟨k, t, y, v⟩]) v' W' := by
  obtain ⟨p, hp, hr⟩ := h.rd
  refine ⟨⟨p, hp, (hr.alloc o).own (h.own.alloc o) hg (by decide)⟩, ?_, (h.bel.alloc (Nat.le_of_lt hr.lt) o).grown hg (by have := hr.lt; simp; omega) (fun k hk => by have := (own_lt h.own hk).1; omega)⟩
  rw [opCells_snoc, List.length_append]
  exact hown
end

def DecOpsR (w : World) (a : Option Addr) (len cap : Nat) (ou ne : Value) (wr : World) : Prop :=
  ∃ (p : Nat) (rs : List POp) (n : Int), ne = .int .i64 n ∧ rs.length ≤ p ∧ Rdr wr w.heap.size a len cap p ∧ wr.ownsRow (w.heap.size + 1) 35 4 ou rs.length (opCells rs) ∧ Below w.heap.size w wr

theorem dec_fin {w : World} {a : Option Addr} {len cap p : Nat} {rs : List POp} {o : POp} {v : Value} {n : Int} {W' : World} (h : DecEnd w a len cap (p + 1) (rs ++ [o]) v W') (hrs : rs.length ≤ p) (hp : p < len) {P : Nat} (hP : P = p) :
    DecOpsR w a len cap v (.int .i64 n) W' ∧ len - posOf W' w.heap.size < len - P := by
  obtain ⟨⟨p', hp', hr⟩, ho, hb⟩ := h
  refine ⟨⟨p', rs ++ [o], n, rfl, by simp; omega, hr, ho, hb⟩, ?_⟩
  rw [hr.pos]
  omega

set_option maxHeartbeats 8000000 in
set_option maxRecDepth 100000 in
theorem decScript_any (w : World) (a : Option Addr) (len cap b off : Nat) (hd : DataAt w a len b off) (hl : len ≤ 1048576) :
    Calls Yahh.prog 15 #[.slice a len cap] w fun e w' => ∃ (v : Value) (rs : List POp), e = .returned v ∧ rs.length ≤ len ∧ w'.ownsRow w.heap.size 35 4 v rs.length (opCells rs) ∧ Below w.heap.size w w' := by
  go_enter Yahh.func15, Yahh.ntmps15
  go_wp2_with fail
  go_loopw [4, 5] (fun ou ne wr => DecOpsR w a len cap ou ne wr) (fun _ _ wr => len - posOf wr w.heap.size)
  case atStart =>
    refine ⟨0, [], 0, rfl, Nat.le_refl _, ⟨alloc_keep (heap_alloc_new w _) _, by omega, hl⟩, ?_, ((Below.refl _ _).alloc (Nat.le_refl _) _).alloc (by simp) _⟩
    have := World.ownsRow_lit (base := w.heap.size + 1) (e := 35) (size := 4) (w.alloc (Obj.cells #[Value.slice a len cap, Value.int IntKind.i64 0] 63)) #[] 0 (by simp) (by decide) rfl
    simpa [opCells] using this
  case round =>
    obtain ⟨p, rs, n, rfl, hrs, hr, hown, hbel⟩ := hrel
    have hsz := hr.lt
    have Hpos := hid hr.pos
    go_wp2_with fail
    refine (more_any _ _ a len cap p hr).mono ?_
    rintro e w1 ⟨rfl, nq, rfl⟩
    by_cases hlt : p < len
    · have hlt' : decide (p < len) = true := by simp [hlt]
      go_wp2_with fail
      refine (next_any w a len cap b off hd _ p _ (Nat.le_refl _) (below_drewN hbel _) (hr.drewN nq)).mono ?_
      rintro e w2 ⟨z, p2, rfl, z0, z1, hp2, hp2', hr2, hg2⟩
      obtain rfl := hp2' hlt
      have hbel2 := rdr_below (below_drewN hbel nq) hg2 (Nat.le_refl _)
      have hown2 := own_rdr (w := wr.drewN nq) hown hg2 (by omega)
      have H0 := hid (fun k t y v => DS.init (p0 := p + 1) (Nat.le_refl _) hr2 hown2 hbel2 k t y v)
      have hs2 := hr2.lt
      have hll : rs.length ≤ 1048576 := by omega
      clear hp2' hp2 hg2 hown hbel hr hlt' hr2 hown2 hbel2
      go_wp2_with (first
        | (go_at_call 43; refine (d43 hd (H0.out _ _ _ _)).mono ?_; rintro e w3 ⟨z3, rfl, z30, z31, hst⟩; obtain ⟨q0, q1, q2, q3, c0, c1, c2, c3, f1, f2, f3⟩ := hst.cells; have hsz3 := hst.sz; have hst := hid hst; clear H0)
        | (go_at_call 44; refine (d44 hd (H0.out _ _ _ _)).mono ?_; rintro e w3 ⟨z3, rfl, hst⟩; obtain ⟨q0, q1, q2, q3, c0, c1, c2, c3, f1, f2, f3⟩ := hst.cells; have hsz3 := hst.sz; have hst := hid hst; clear H0)
        | (go_at_call 45; refine (d45 hd (H0.out _ _ _ _)).mono ?_; rintro e w3 ⟨z3, rfl, hst⟩; obtain ⟨q0, q1, q2, q3, c0, c1, c2, c3, f1, f2, f3⟩ := hst.cells; have hsz3 := hst.sz; have hst := hid hst; clear H0)
        | (go_at_call 45; refine (d45 hd (hst.out.set _ (by omega) _)).mono ?_; clear hst c0 c1 c2 c3 f1 f2 f3; rintro e w3 ⟨z3, rfl, hst⟩; obtain ⟨q0, q1, q2, q3, c0, c1, c2, c3, f1, f2, f3⟩ := hst.cells; have hsz3 := hst.sz; have hst := hid hst)
        | (go_at_call 46; refine (d46 hd (hst.out.set _ (by omega) _)).mono ?_; clear hst c0 c1 c2 c3 f1 f2 f3; rintro e w3 ⟨z3, rfl, hst⟩; obtain ⟨q0, q1, q2, q3, c0, c1, c2, c3, f1, f2, f3⟩ := hst.cells; have hsz3 := hst.sz; have hst := hid hst)
        | (at_builtin; refine wpList_app1 rfl (.tmp 89) (.tmp 91) 23 rfl (w.heap.size + 1) 35 _ 4 32 Yahh.underlying23 Yahh.info35 rfl (by decide) _ _ _ rfl ((hst.out.set _ (by omega) _).own.alloc _) w3.heap.size _ _ _ rfl (alloc_new_set _ _ _ _) rfl (one4 _ _ _ _ rfl rfl rfl rfl) (by omega) (by decide) (by simp; omega) _ rfl ?_; intro g5 cap5 w5 hown5 hgrow5 hat5 hlt5; have hend := (hst.out.set _ (by omega) _).app hgrow5 hown5; clear hgrow5 hown5 hat5)
        | (at_builtin; refine wpList_app1 rfl (.tmp 89) (.tmp 91) 23 rfl (w.heap.size + 1) 35 _ 4 32 Yahh.underlying23 Yahh.info35 rfl (by decide) _ _ _ rfl ((H0.out _ _ _ _).own.alloc _) (w2.heap.size + 1) _ _ _ rfl (by rw [← World.size_alloc w2]; exact heap_alloc_new _ _) rfl (one4 _ _ _ _ rfl rfl rfl rfl) (by omega) (by decide) (by simp; omega) _ rfl ?_; intro g5 cap5 w5 hown5 hgrow5 hat5 hlt5; have hend := (H0.out _ _ _ _).app hgrow5 hown5; clear hgrow5 hown5 hat5))
      all_goals exact dec_fin hend hrs hlt Hpos.out
    · have hlt' : decide (p < len) = false := by simp [hlt]
      go_wp2
      go_ret
      exact ⟨_, rs, rfl, by have := hr.2.1; omega, own_mono hown (by omega), below_drewN hbel _⟩
end Go.Proofs.Yafahw
