/- spec.DecodeSerial (24): a serial script, of at most 8 operations for each byte. -/
import Derived.Test.YafahwDecRaw
import Derived.Test.YafahwPlainSer
namespace Go.Proofs.Yafahw
open Go.RowKit
set_option linter.unusedVariables false

/-- as DS, the operation's kind and transaction known -/
structure DP (w : World) (a : Option Addr) (len cap p0 : Nat) (rs : List POp) (ou : Value) (ob : Nat) (k t : Int) (W : World) : Prop where
  dr : DR w a len cap p0 rs ou W
  op : ∃ y v : Int, W.heap[ob]? = some (.cells #[.int .i64 k, .int .i64 t, .int .i64 y, .int .i64 v] 35 (0, 0))
  lt : w.heap.size < ob
  nob : ou.ownBlock ≠ some ob

section
variable {w : World} {a : Option Addr} {len cap p0 : Nat} {rs : List POp} {ou : Value} {ob : Nat} {k t : Int} {W : World}
theorem DP.init (h : DR w a len cap p0 rs ou W) (k t y v : Int) : DP w a len cap p0 rs ou W.heap.size k t (W.alloc (.cells #[.int .i64 k, .int .i64 t, .int .i64 y, .int .i64 v] 35 (0, 0))) := by
  obtain ⟨p, hp, hr⟩ := h.rd
  exact ⟨⟨⟨p, hp, hr.alloc _⟩, h.own.alloc _, h.bel.alloc (Nat.le_of_lt hr.lt) _⟩, ⟨y, v, heap_alloc_new W _⟩, hr.lt, fun e => by have := (own_lt h.own e).2; omega⟩
theorem DP.set (h : DP w a len cap p0 rs ou ob k t W) (j : Nat) (hj : j = 2 ∨ j = 3) (u : Int) : DP w a len cap p0 rs ou ob k t (W.setCell ⟨ob, j, none⟩ (.int .i64 u)) := by
  obtain ⟨⟨⟨p, hp, hr⟩, ho, hb⟩, ⟨y, v, hop⟩, hlt, hn⟩ := h
  refine ⟨⟨⟨p, hp, ?_, hr.2⟩, own_keep ho fun g hg => Below.heap_setCell _ _ _ _ (fun e => hn (by rw [hg]; exact congrArg some e)), hb.setCell (by show _ ≤ ob; omega) _⟩, ?_, hlt, hn⟩
  · rw [Below.heap_setCell _ _ _ _ (by show w.heap.size ≠ ob; omega)]; exact hr.1
  · have := heap_setCell_same W ob j _ _ (.int .i64 u) hop
    rcases hj with rfl | rfl
    · exact ⟨u, v, by simpa using this⟩
    · exact ⟨y, u, by simpa using this⟩
theorem DP.step {p' : Nat} {W' : World} (h : DP w a len cap p0 rs ou ob k t W) (hp : p0 ≤ p') (hr : Rdr W' w.heap.size a len cap p') (hg : W.grownBy W' (some w.heap.size)) : DP w a len cap p0 rs ou ob k t W' := by
  obtain ⟨hd, ⟨y, v, hop⟩, hlt, hn⟩ := h
  exact ⟨hd.step hp hr hg, ⟨y, v, by rw [hg.block ob (blk_lt hop) (by simp; omega)]; exact hop⟩, hlt, hn⟩
theorem p45 {b off : Nat} (hd : DataAt w a len b off) (h : DP w a len cap p0 rs ou ob k t W) :
    Calls Yahh.prog 45 #[.pointer (some ⟨w.heap.size, 0, none⟩)] W fun e W' => ∃ z : Int, e = .returned (.int .i64 z) ∧ DP w a len cap p0 rs ou ob k t W' := by
  obtain ⟨p, hp, hr⟩ := h.dr.rd
  refine (key_any w a len cap b off hd _ p _ (Nat.le_refl _) h.dr.bel hr).mono ?_
  rintro e w2 ⟨z, p2, rfl, hp2, hr2, hg2⟩
  exact ⟨z, rfl, h.step (by omega) hr2 hg2⟩
theorem p46 {b off : Nat} (hd : DataAt w a len b off) (h : DP w a len cap p0 rs ou ob k t W) :
    Calls Yahh.prog 46 #[.pointer (some ⟨w.heap.size, 0, none⟩)] W fun e W' => ∃ z : Int, e = .returned (.int .i64 z) ∧ DP w a len cap p0 rs ou ob k t W' := by
  obtain ⟨p, hp, hr⟩ := h.dr.rd
  refine (value_any w a len cap b off hd _ p _ (Nat.le_refl _) h.dr.bel hr).mono ?_
  rintro e w2 ⟨z, p2, rfl, hp2, hr2, hg2⟩
  exact ⟨z, rfl, h.step (by omega) hr2 hg2⟩
theorem DP.cells (h : DP w a len cap p0 rs ou ob k t W) : ∃ y v : Int, W.cell? ⟨ob, 0, none⟩ = some (.int .i64 k) ∧ W.cell? ⟨ob, 1, none⟩ = some (.int .i64 t) ∧ W.cell? ⟨ob, 2, none⟩ = some (.int .i64 y) ∧ W.cell? ⟨ob, 3, none⟩ = some (.int .i64 v) ∧
    W.frozen? ⟨ob, 2, none⟩ = false ∧ W.frozen? ⟨ob, 3, none⟩ = false := by
  obtain ⟨y, v, hop⟩ := h.op
  have c0 := cell_of_row W ob 0 _ _ _ hop
  have c1 := cell_of_row W ob 1 _ _ _ hop
  have c2 := cell_of_row W ob 2 _ _ _ hop
  have c3 := cell_of_row W ob 3 _ _ _ hop
  simp at c0 c1 c2 c3
  exact ⟨y, v, c0, c1, c2, c3, frozen_of_row W _ _ _ _ hop, frozen_of_row W _ _ _ _ hop⟩
end

def SerR (w : World) (a : Option Addr) (len cap : Nat) (ou idv : Value) (wr : World) : Prop :=
  ∃ (p n : Nat) (rs : List POp), idv = .int .i64 (n : Int) ∧ n ≤ p ∧ rs.length ≤ 8 * p ∧ SerTo rs n false ∧ Rdr wr w.heap.size a len cap p ∧ wr.ownsRow (w.heap.size + 1) 35 4 ou rs.length (opCells rs) ∧ Below w.heap.size w wr
def SerInR (w : World) (a : Option Addr) (len cap p0 m0 n c : Nat) (ou jv : Value) (wr : World) : Prop :=
  ∃ (j : Nat) (rs : List POp), jv = .int .i64 (j : Int) ∧ j ≤ c ∧ rs.length = m0 + j ∧ SerTo rs n true ∧ DR w a len cap p0 rs ou wr

theorem serIn_fin {w : World} {a : Option Addr} {len cap p0 m0 n c j : Nat} {rs : List POp} {o : POp} {v : Value} {W' : World} (h : DR w a len cap p0 (rs ++ [o]) v W') (hs : SerTo rs n true) (htx : o.tx = 7 * (n : Int) - 3) (hk : o.kind = 1 ∨ o.kind = 2 ∨ o.kind = 3) (hj : j < c) (hl : rs.length = m0 + j) :
    SerInR w a len cap p0 m0 n c v (.int .i64 ((j : Int) + 1)) W' ∧ c - (intOf (.int .i64 ((j : Int) + 1))).toNat < c - (intOf (.int .i64 (j : Int))).toNat :=
  ⟨⟨j + 1, _, by go_num, by omega, by rw [List.length_append]; simp; omega, SerTo.mid o hs htx hk, h⟩, by simp [intOf]; omega⟩
theorem ser_fin {w : World} {a : Option Addr} {len cap p n : Nat} {rs : List POp} {o : POp} {v : Value} {W' : World} (h : DR w a len cap (p + 1) (rs ++ [o]) v W') (hs : SerTo (rs ++ [o]) (n + 1) false) (hn : n ≤ p) (hrs : rs.length + 1 ≤ 8 * (p + 1)) (hp : p < len) {P : Nat} (hP : P = p) :
    SerR w a len cap v (.int .i64 ((n : Int) + 1)) W' ∧ len - posOf W' w.heap.size < len - P := by
  obtain ⟨⟨p', hp', hr⟩, ho, hb⟩ := h
  refine ⟨⟨p', n + 1, rs ++ [o], by go_num, by omega, by rw [List.length_append]; simp; omega, hs, hr, ho, hb⟩, ?_⟩
  rw [hr.pos]
  omega

set_option maxHeartbeats 8000000 in
set_option maxRecDepth 100000 in
theorem decSer_any (w : World) (a : Option Addr) (len cap b off : Nat) (hd : DataAt w a len b off) (hl : len ≤ 1048576) :
    Calls Yahh.prog 24 #[.slice a len cap] w fun e w' => ∃ (v : Value) (rs : List POp) (n : Nat), e = .returned v ∧ rs.length ≤ 8388608 ∧ SerTo rs n false ∧ w'.ownsRow w.heap.size 35 4 v rs.length (opCells rs) ∧ Below w.heap.size w w' := by
  go_enter Yahh.func24, Yahh.ntmps24
  go_wp2_with fail
  go_loopw [4, 5] (fun ou idv wr => SerR w a len cap ou idv wr) (fun _ _ wr => len - posOf wr w.heap.size)
  case atStart =>
    refine ⟨0, 0, [], rfl, Nat.le_refl _, Nat.le_refl _, SerTo.nil, ⟨alloc_keep (heap_alloc_new w _) _, by omega, hl⟩, ?_, ((Below.refl _ _).alloc (Nat.le_refl _) _).alloc (by simp) _⟩
    have := World.ownsRow_lit (base := w.heap.size + 1) (e := 35) (size := 4) (w.alloc (Obj.cells #[Value.slice a len cap, Value.int IntKind.i64 0] 63)) #[] 0 (by simp) (by decide) rfl
    simpa [opCells] using this
  case round =>
    obtain ⟨p, n, rs, rfl, hnp, hrs, hser, hr, hown, hbel⟩ := hrel
    have hsz := hr.lt
    have hpl := hr.2.1
    have Hpos := hid hr.pos
    go_wp2_with fail
    refine (more_any _ _ a len cap p hr).mono ?_
    rintro e w1 ⟨rfl, nq, rfl⟩
    by_cases hlt : p < len
    · have hlt' : decide (p < len) = true := by simp [hlt]
      have hrl : rs.length ≤ 8388608 := by omega
      have hn20 : (n : Int) ≤ 1048576 := by omega
      have hn0 : (0 : Int) ≤ (n : Int) := by omega
      have Hser := hid hser
      have hD0 : DR w a len cap p rs u4 (wr.drewN nq) := ⟨⟨p, Nat.le_refl _, hr.drewN nq⟩, hown, below_drewN hbel _⟩
      have hr1 : Rdr (wr.drewN nq) w.heap.size a len cap p := hr.drewN nq
      have hsz1 : w.heap.size < (wr.drewN nq).heap.size := hsz
      generalize hWW : wr.drewN nq = W1 at *
      clear hWW hown hbel hr hser
      go_wp2_with (first
        | (at_builtin; refine wpList_app1 rfl (.tmp 21) (.tmp 24) 23 rfl (w.heap.size + 1) 35 _ 4 32 Yahh.underlying23 Yahh.info35 rfl (by decide) _ _ _ rfl (hD0.own.alloc _) W1.heap.size _ _ _ rfl (heap_alloc_new W1 _) rfl (one4 _ _ _ _ rfl rfl rfl rfl) (by omega) (by decide) (by simp; omega) _ rfl ?_; intro g6 cap6 w6 hown6 hgrow6 hat6 hlt6; have hE := hD0.app hgrow6 hown6; have hr6 := (hr1.alloc _).own (hD0.own.alloc _) hgrow6 (by decide); clear hgrow6 hat6 hown6)
        | fail)
      refine (next_any w a len cap b off hd _ p _ (Nat.le_refl _) hE.bel hr6).mono ?_
      rintro e w7 ⟨z, p2, rfl, z0, z1, hp2, hp2', hr7, hg7⟩
      obtain rfl := hp2' hlt
      have hD7 : DR w a len cap (p + 1) (rs ++ [⟨0, ((n : Int) + 1) * 7 - 3, 0, 0⟩]) (.slice (some ⟨g6, 0, none⟩) (rs.length + 1) cap6) w7 := ⟨⟨p + 1, Nat.le_refl _, hr7⟩, own_rdr hE.own hg7 (by omega), rdr_below hE.bel hg7 (Nat.le_refl _)⟩
      have hs1 : SerTo (rs ++ [⟨0, ((n : Int) + 1) * 7 - 3, 0, 0⟩]) (n + 1) true := SerTo.beg _ Hser.out rfl (by show ((n : Int) + 1) * 7 - 3 = 7 * ((n : Int) + 1) - 3; omega)
      have hl1 : (rs ++ [(⟨0, ((n : Int) + 1) * 7 - 3, 0, 0⟩ : POp)]).length = rs.length + 1 := by simp
      generalize hR1 : rs ++ [(⟨0, ((n : Int) + 1) * 7 - 3, 0, 0⟩ : POp)] = rs1 at *
      have htx : ((n : Int) + 1) * 7 - 3 = 7 * ((n + 1 : Nat) : Int) - 3 := by omega
      have Htx := hid htx
      have Hs1 := hid hs1
      clear hp2 hp2' hE hr6 hr7 hg7 hD0 hr1 hR1 htx hs1 hlt'
      go_wp2
      obtain ⟨c, hc, hc6⟩ : ∃ c : Nat, z % 7 = (c : Int) ∧ c ≤ 6 := ⟨(z % 7).toNat, by omega, by omega⟩
      rw [hc]
      generalize htt : ((n : Int) + 1) * 7 - 3 = tx at *
      clear htt hc
      go_loopw [4, 8] (fun ou jv wr => SerInR w a len cap (p + 1) (rs.length + 1) (n + 1) c ou jv wr) (fun _ jv _ => c - (intOf jv).toNat)
      case atStart => exact ⟨0, rs1, rfl, Nat.zero_le _, by omega, Hs1.out, hD7⟩
      case round =>
        obtain ⟨j, rs2, rfl, hj, hl2, hs2, hD⟩ := hrel
        have Hs2 := hid hs2
        have hrl2 : rs2.length ≤ 8388616 := by omega
        have Hl2 := hid hl2
        clear hs2 hD7 Hs1 hl2
        by_cases hjlt : j < c
        · have hjc : (j : Int) < (c : Int) := by omega
          go_wp2_with fail
          refine (r43 hd hD).mono ?_
          rintro e w8 ⟨z8, rfl, z80, z81, hD8⟩
          have H0 := hid (fun k t y v => DP.init hD8 k t y v)
          have hs8 := hD8.sz
          clear hD hD8
          go_wp2_with (first
            | (go_at_call 45; refine (p45 hd (H0.out _ _ _ _)).mono ?_; rintro e w9 ⟨z9, rfl, hst⟩; obtain ⟨y9, v9, c0, c1, c2, c3, f2, f3⟩ := hst.cells; have hsz9 := hst.dr.sz; have hst := hid hst; clear H0)
            | (go_at_call 46; refine (p46 hd (hst.out.set _ (by omega) _)).mono ?_; clear hst c0 c1 c2 c3 f2 f3; rintro e w9 ⟨z9, rfl, hst⟩; obtain ⟨y9, v9, c0, c1, c2, c3, f2, f3⟩ := hst.cells; have hsz9 := hst.dr.sz; have hst := hid hst)
            | (at_builtin; refine wpList_app1 rfl (.tmp 55) (.tmp 57) 23 rfl (w.heap.size + 1) 35 _ 4 32 Yahh.underlying23 Yahh.info35 rfl (by decide) _ _ _ rfl ((hst.out.set _ (by omega) _).dr.own.alloc _) w9.heap.size _ _ _ rfl (alloc_new_set _ _ _ _) rfl (one4 _ _ _ _ rfl rfl rfl rfl) (by omega) (by decide) (by simp; omega) _ rfl ?_; intro g5 cap5 w5 hown5 hgrow5 hat5 hlt5; have hend := (hst.out.set _ (by omega) _).dr.app hgrow5 hown5; clear hgrow5 hown5 hat5))
          all_goals exact serIn_fin hend Hs2.out Htx.out (by simp) hjlt Hl2.out
        · obtain rfl : j = c := by omega
          go_wp2_with fail
          refine (r43 hd hD).mono ?_
          rintro e w8 ⟨z8, rfl, z80, z81, hD8⟩
          have hs8 := hD8.sz
          clear hD
          go_wp2_with (first
            | (at_builtin; refine wpList_app1 rfl (.tmp 62) (.tmp 66) 23 rfl (w.heap.size + 1) 35 _ 4 32 Yahh.underlying23 Yahh.info35 rfl (by decide) _ _ _ rfl (hD8.own.alloc _) w8.heap.size _ _ _ rfl (heap_alloc_new w8 _) rfl (one4 _ _ _ _ rfl rfl rfl rfl) (by omega) (by decide) (by simp; omega) _ rfl ?_; intro g5 cap5 w5 hown5 hgrow5 hat5 hlt5; have hend := hD8.app hgrow5 hown5; clear hgrow5 hown5 hat5))
          all_goals exact ser_fin hend (SerTo.fin _ Hs2.out Htx.out (by simp)) hnp (by have := Hl2.out; omega) hlt Hpos.out
    · have hlt' : decide (p < len) = false := by simp [hlt]
      go_wp2
      go_ret
      exact ⟨_, rs, n, rfl, by omega, hser, own_mono hown (by omega), below_drewN hbel _⟩
end Go.Proofs.Yafahw
