/- spec.DecodeRaw (29): SOME list of operations, no longer than the input. -/
import Derived.Test.YafahwDecOps
namespace Go.Proofs.Yafahw
open Go.RowKit
set_option linter.unusedVariables false

/-- inside a round: the reader (at or behind p0), the row of operations so far -/
structure DR (w : World) (a : Option Addr) (len cap p0 : Nat) (rs : List POp) (ou : Value) (W : World) : Prop where
  rd : ∃ p, p0 ≤ p ∧ Rdr W w.heap.size a len cap p
  own : W.ownsRow (w.heap.size + 1) 35 4 ou rs.length (opCells rs)
  bel : Below w.heap.size w W

section
variable {w : World} {a : Option Addr} {len cap p0 : Nat} {rs : List POp} {ou : Value} {W : World}
theorem DR.step {p' : Nat} {W' : World} (h : DR w a len cap p0 rs ou W) (hp : p0 ≤ p') (hr : Rdr W' w.heap.size a len cap p') (hg : W.grownBy W' (some w.heap.size)) : DR w a len cap p0 rs ou W' :=
  ⟨⟨p', hp, hr⟩, own_rdr h.own hg (by omega), rdr_below h.bel hg (Nat.le_refl _)⟩
theorem r43 {b off : Nat} (hd : DataAt w a len b off) (h : DR w a len cap p0 rs ou W) :
    Calls Yahh.prog 43 #[.pointer (some ⟨w.heap.size, 0, none⟩)] W fun e W' => ∃ z : Int, e = .returned (.int .u8 z) ∧ 0 ≤ z ∧ z ≤ 255 ∧ DR w a len cap p0 rs ou W' := by
  obtain ⟨p, hp, hr⟩ := h.rd
  refine (next_any w a len cap b off hd _ p _ (Nat.le_refl _) h.bel hr).mono ?_
  rintro e w2 ⟨z, p2, rfl, z0, z1, hp2, _, hr2, hg2⟩
  exact ⟨z, rfl, z0, z1, h.step (by omega) hr2 hg2⟩
theorem r45 {b off : Nat} (hd : DataAt w a len b off) (h : DR w a len cap p0 rs ou W) :
    Calls Yahh.prog 45 #[.pointer (some ⟨w.heap.size, 0, none⟩)] W fun e W' => ∃ z : Int, e = .returned (.int .i64 z) ∧ DR w a len cap p0 rs ou W' := by
  obtain ⟨p, hp, hr⟩ := h.rd
  refine (key_any w a len cap b off hd _ p _ (Nat.le_refl _) h.bel hr).mono ?_
  rintro e w2 ⟨z, p2, rfl, hp2, hr2, hg2⟩
  exact ⟨z, rfl, h.step (by omega) hr2 hg2⟩
theorem r46 {b off : Nat} (hd : DataAt w a len b off) (h : DR w a len cap p0 rs ou W) :
    Calls Yahh.prog 46 #[.pointer (some ⟨w.heap.size, 0, none⟩)] W fun e W' => ∃ z : Int, e = .returned (.int .i64 z) ∧ DR w a len cap p0 rs ou W' := by
  obtain ⟨p, hp, hr⟩ := h.rd
  refine (value_any w a len cap b off hd _ p _ (Nat.le_refl _) h.bel hr).mono ?_
  rintro e w2 ⟨z, p2, rfl, hp2, hr2, hg2⟩
  exact ⟨z, rfl, h.step (by omega) hr2 hg2⟩
theorem DR.app (h : DR w a len cap p0 rs ou W) {o : Obj} {W' : World} (hg : (W.alloc o).grownBy W' ou.ownBlock) {k t y v : Int} {v' : Value}
    (hown : W'.ownsRow (w.heap.size + 1) 35 4 v' (rs.length + 1) (opCells rs ++ (#[.int .i64 k, .int .i64 t, .int .i64 y, .int .i64 v] : Array Value).toList)) : DR w a len cap p0 (rs ++ [⟨k, t, y, v⟩]) v' W' := by
  obtain ⟨p, hp, hr⟩ := h.rd
  refine ⟨⟨p, hp, (hr.alloc o).own (h.own.alloc o) hg (by decide)⟩, ?_, (h.bel.alloc (Nat.le_of_lt hr.lt) o).grown hg (by have := hr.lt; simp; omega) (fun k hk => by have := (own_lt h.own hk).1; omega)⟩
  rw [opCells_snoc, List.length_append]
  exact hown
theorem DR.sz (h : DR w a len cap p0 rs ou W) : w.heap.size + 1 ≤ W.heap.size := by
  obtain ⟨p, hp, hr⟩ := h.rd
  exact hr.lt
end

def DecRawR (w : World) (a : Option Addr) (len cap : Nat) (ou : Value) (wr : World) : Prop :=
  ∃ (p : Nat) (rs : List POp), rs.length ≤ p ∧ Rdr wr w.heap.size a len cap p ∧ wr.ownsRow (w.heap.size + 1) 35 4 ou rs.length (opCells rs) ∧ Below w.heap.size w wr
theorem raw_fin {w : World} {a : Option Addr} {len cap p : Nat} {rs : List POp} {o : POp} {v : Value} {W' : World} (h : DR w a len cap (p + 1) (rs ++ [o]) v W') (hrs : rs.length ≤ p) (hp : p < len) {P : Nat} (hP : P = p) :
    DecRawR w a len cap v W' ∧ len - posOf W' w.heap.size < len - P := by
  obtain ⟨⟨p', hp', hr⟩, ho, hb⟩ := h
  refine ⟨⟨p', rs ++ [o], by simp; omega, hr, ho, hb⟩, ?_⟩
  rw [hr.pos]
  omega

set_option maxHeartbeats 8000000 in
set_option maxRecDepth 100000 in
theorem decRaw_any (w : World) (a : Option Addr) (len cap b off : Nat) (hd : DataAt w a len b off) (hl : len ≤ 1048576) :
    Calls Yahh.prog 29 #[.slice a len cap] w fun e w' => ∃ (v : Value) (rs : List POp), e = .returned v ∧ rs.length ≤ len ∧ w'.ownsRow w.heap.size 35 4 v rs.length (opCells rs) ∧ Below w.heap.size w w' := by
  go_enter Yahh.func29, Yahh.ntmps29
  go_wp2_with fail
  go_loopw [4] (fun ou wr => DecRawR w a len cap ou wr) (fun _ wr => len - posOf wr w.heap.size)
  case atStart =>
    refine ⟨0, [], Nat.le_refl _, ⟨alloc_keep (heap_alloc_new w _) _, by omega, hl⟩, ?_, ((Below.refl _ _).alloc (Nat.le_refl _) _).alloc (by simp) _⟩
    have := World.ownsRow_lit (base := w.heap.size + 1) (e := 35) (size := 4) (w.alloc (Obj.cells #[Value.slice a len cap, Value.int IntKind.i64 0] 63)) #[] 0 (by simp) (by decide) rfl
    simpa [opCells] using this
  case round =>
    obtain ⟨p, rs, hrs, hr, hown, hbel⟩ := hrel
    have hsz := hr.lt
    have Hpos := hid hr.pos
    go_wp2_with fail
    refine (more_any _ _ a len cap p hr).mono ?_
    rintro e w1 ⟨rfl, nq, rfl⟩
    by_cases hlt : p < len
    · have hlt' : decide (p < len) = true := by simp [hlt]
      have hrl : rs.length ≤ 1048576 := by omega
      go_wp2_with fail
      refine (next_any w a len cap b off hd _ p _ (Nat.le_refl _) (below_drewN hbel _) (hr.drewN nq)).mono ?_
      rintro e w2 ⟨z, p2, rfl, z0, z1, hp2, hp2', hr2, hg2⟩
      obtain rfl := hp2' hlt
      have hD : DR w a len cap (p + 1) rs u4 w2 := ⟨⟨p + 1, Nat.le_refl _, hr2⟩, own_rdr (w := wr.drewN nq) hown hg2 (by omega), rdr_below (below_drewN hbel nq) hg2 (Nat.le_refl _)⟩
      clear hp2' hp2 hg2 hown hbel hr hlt' hr2
      go_wp2_with (first
        | (go_at_call 43; refine (r43 hd hD).mono ?_; rintro e w3 ⟨z3, rfl, z03, z13, hD'⟩; clear hD; have hD := hD'; clear hD')
        | (go_at_call 45; refine (r45 hd hD).mono ?_; rintro e w4 ⟨z4, rfl, hD'⟩; clear hD; have hD := hD'; clear hD')
        | (go_at_call 46; refine (r46 hd hD).mono ?_; rintro e w5 ⟨z5, rfl, hD'⟩; clear hD; have hD := hD'; clear hD'; have hsz5 := hD.sz)
        | (at_builtin; refine wpList_app1 rfl (.tmp 29) (.tmp 35) 23 rfl (w.heap.size + 1) 35 _ 4 32 Yahh.underlying23 Yahh.info35 rfl (by decide) _ _ _ rfl (hD.own.alloc _) w5.heap.size _ _ _ rfl (heap_alloc_new w5 _) rfl (one4 _ _ _ _ rfl rfl rfl rfl) (by omega) (by decide) (by simp; omega) _ rfl ?_; intro g6 cap6 w6 hown6 hgrow6 hat6 hlt6; have hE := hD.app hgrow6 hown6; clear hgrow6 hat6 hown6))
      all_goals exact raw_fin hE hrs hlt Hpos.out
    · have hlt' : decide (p < len) = false := by simp [hlt]
      go_wp2
      go_ret
      exact ⟨_, rs, rfl, by have := hr.2.1; omega, own_mono hown (by omega), below_drewN hbel _⟩
end Go.Proofs.Yafahw
