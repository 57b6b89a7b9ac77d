/- The reader: more (42), next (43), anyID (44), key (45), value (46), wide (57): each gives SOME byte or number; the position goes on. -/
import Derived.Test.YafahwBytes
import Derived.BigQuiet
import Derived.Deep.QuietTactic
namespace Go.Proofs.Yafahw
open Go.RowKit
set_option linter.unusedVariables false

/-- the bytes of the input, in the world in which the decoder began -/
def DataAt (w0 : World) (a : Option Addr) (len b off : Nat) : Prop :=
  (0 < len → a = some ⟨b, off, none⟩) ∧ ∀ j, j < len → ∃ z : Int, 0 ≤ z ∧ z ≤ 255 ∧ w0.cell? ⟨b, off + j, none⟩ = some (.int .u8 z)

/-- the reader's struct in block br stands at position p -/
def Rdr (w : World) (br : Nat) (a : Option Addr) (len cap p : Nat) : Prop :=
  w.heap[br]? = some (.cells #[.slice a len cap, .int .i64 (p : Int)] 63 (0, 0)) ∧ p ≤ len ∧ len ≤ 1048576

theorem more_any (w : World) (br : Nat) (a : Option Addr) (len cap p : Nat) (hr : Rdr w br a len cap p) :
    Calls Yahh.prog 42 #[.pointer (some ⟨br, 0, none⟩)] w fun e w' => e = .returned (.bool (decide (p < len))) ∧ ∃ n, w' = w.drewN n := by
  obtain ⟨hb, hp, hl⟩ := hr
  have c0 := cell_of_row w br 0 _ _ _ hb
  have c1 := cell_of_row w br 1 _ _ _ hb
  simp at c0 c1
  clear hb
  go_enter Yahh.func42, Yahh.ntmps42
  go_wp2_with fail
  go_quiet (fail)
  go_wp2
  go_ret
  refine ⟨?_, _, rfl⟩
  simp

set_option maxHeartbeats 1000000 in
theorem next_any (w0 : World) (a : Option Addr) (len cap b off : Nat) (hd : DataAt w0 a len b off) (br p : Nat) (w : World) (hbr : w0.heap.size ≤ br) (hbel : Below w0.heap.size w0 w) (hr : Rdr w br a len cap p) :
    Calls Yahh.prog 43 #[.pointer (some ⟨br, 0, none⟩)] w fun e w' => ∃ (z : Int) (p' : Nat), e = .returned (.int .u8 z) ∧ 0 ≤ z ∧ z ≤ 255 ∧ p ≤ p' ∧ (p < len → p' = p + 1) ∧ Rdr w' br a len cap p' ∧ w.grownBy w' (some br) := by
  obtain ⟨hb, hp, hl⟩ := hr
  have c0 := cell_of_row w br 0 _ _ _ hb
  have c1 := cell_of_row w br 1 _ _ _ hb
  simp at c0 c1
  have f1 : w.frozen? ⟨br, 1, none⟩ = false := frozen_of_row w _ _ _ _ hb
  have Hb := hid hb
  clear hb
  by_cases hlt : p < len
  · obtain ⟨z, z0, z1, hz⟩ := hd.2 p hlt
    obtain rfl := hd.1 (by omega)
    have hc := cell_below hbel hz
    have hlt' : (p : Int) < (len : Int) := by omega
    have hp0 : (0 : Int) ≤ (p : Int) := by omega
    clear hd hz
    go_enter Yahh.func43, Yahh.ntmps43
    go_wp2_with fail
    go_quiet (fail)
    go_wp2_with fail
    go_quiet (fail)
    go_wp2
    go_ret
    have hs := heap_setCell_same (w.drewN 0) br 1 _ _ (.int .i64 ((p : Int) + 1)) Hb.out
    refine ⟨z, p + 1, rfl, z0, z1, by omega, fun _ => rfl, ⟨?_, by omega, hl⟩, grown_trans (grown_drewN w _ _) (grown_setCell _ _ _)⟩
    rw [show ((p + 1 : Nat) : Int) = (p : Int) + 1 from by omega]
    exact hs
  · have hge : (len : Int) ≤ (p : Int) := by omega
    have hd' : decide (len ≤ p) = true := by simp; omega
    go_enter Yahh.func43, Yahh.ntmps43
    go_wp2_with fail
    go_quiet (fail)
    go_wp2
    go_ret
    exact ⟨0, p, rfl, by omega, by omega, Nat.le_refl _, fun h => absurd h hlt, ⟨Hb.out, hp, hl⟩, grown_drewN w _ _⟩

theorem rdr_below {w0 w w' : World} {br : Nat} (hbel : Below w0.heap.size w0 w) (hg : w.grownBy w' (some br)) (hbr : w0.heap.size ≤ br) : Below w0.heap.size w0 w' :=
  hbel.grown hg hbel.size (fun k hk => by simp at hk; omega)

def WideR (w0 : World) (a : Option Addr) (len cap br p : Nat) (w : World) (u i : Value) (wr : World) : Prop :=
  ∃ (k p' : Nat) (un : Int), i = .int .i64 (k : Int) ∧ k ≤ 8 ∧ u = .int .u64 un ∧ p ≤ p' ∧ Rdr wr br a len cap p' ∧ w.grownBy wr (some br)

set_option maxHeartbeats 1000000 in
theorem wide_any (w0 : World) (a : Option Addr) (len cap b off : Nat) (hd : DataAt w0 a len b off) (br p : Nat) (w : World) (hbr : w0.heap.size ≤ br) (hbel : Below w0.heap.size w0 w) (hr : Rdr w br a len cap p) :
    Calls Yahh.prog 57 #[.pointer (some ⟨br, 0, none⟩)] w fun e w' => ∃ (z : Int) (p' : Nat), e = .returned (.int .i64 z) ∧ p ≤ p' ∧ Rdr w' br a len cap p' ∧ w.grownBy w' (some br) := by
  go_enter Yahh.func57, Yahh.ntmps57
  go_wp2
  go_loopw [3, 4] (fun u i wr => WideR w0 a len cap br p w u i wr) (fun _ i _ => 8 - (intOf i).toNat)
  case atStart => exact ⟨0, p, 0, rfl, by omega, rfl, Nat.le_refl _, hr, World.grownBy.refl _ _⟩
  case round =>
    clear hr
    obtain ⟨k, p', un, rfl, hk, rfl, hpp, hr, hgr⟩ := hrel
    by_cases hlt : k < 8
    · have hbel' := rdr_below hbel hgr hbr
      go_wp2_with (first
        | (go_at_call 43; refine (next_any w0 a len cap b off hd br p' _ hbr hbel' hr).mono ?_; rintro e w1 ⟨z, p1, rfl, z0, z1, hp1, hp2, hr1, hg1⟩))
      refine ⟨⟨k + 1, p1, _, by go_num, by omega, rfl, by omega, hr1, grown_trans hgr hg1⟩, by simp [intOf]; omega⟩
    · obtain rfl : k = 8 := by omega
      go_wp2
      go_ret
      exact ⟨_, p', rfl, hpp, hr, hgr⟩

set_option maxHeartbeats 1000000 in
theorem anyID_any (w0 : World) (a : Option Addr) (len cap b off : Nat) (hd : DataAt w0 a len b off) (br p : Nat) (w : World) (hbr : w0.heap.size ≤ br) (hbel : Below w0.heap.size w0 w) (hr : Rdr w br a len cap p) :
    Calls Yahh.prog 44 #[.pointer (some ⟨br, 0, none⟩)] w fun e w' => ∃ (z : Int) (p' : Nat), e = .returned (.int .i64 z) ∧ p ≤ p' ∧ Rdr w' br a len cap p' ∧ w.grownBy w' (some br) := by
  go_enter Yahh.func44, Yahh.ntmps44
  go_wp2_with (first
    | (go_at_call 43; refine (next_any w0 a len cap b off hd br p _ hbr hbel hr).mono ?_; rintro e w1 ⟨z, p1, rfl, z0, z1, hp1, hp2, hr1, hg1⟩))
  go_ret
  exact ⟨_, p1, rfl, hp1, hr1, hg1⟩

set_option maxHeartbeats 1000000 in
theorem value_any (w0 : World) (a : Option Addr) (len cap b off : Nat) (hd : DataAt w0 a len b off) (br p : Nat) (w : World) (hbr : w0.heap.size ≤ br) (hbel : Below w0.heap.size w0 w) (hr : Rdr w br a len cap p) :
    Calls Yahh.prog 46 #[.pointer (some ⟨br, 0, none⟩)] w fun e w' => ∃ (z : Int) (p' : Nat), e = .returned (.int .i64 z) ∧ p ≤ p' ∧ Rdr w' br a len cap p' ∧ w.grownBy w' (some br) := by
  go_enter Yahh.func46, Yahh.ntmps46
  go_wp2_with fail
  refine (next_any w0 a len cap b off hd br p _ hbr hbel hr).mono ?_
  rintro e w1 ⟨z, p1, rfl, z0, z1, hp1, hp2, hr1, hg1⟩
  have hbel1 := rdr_below hbel hg1 hbr
  go_wp2_with (first
    | (go_at_call 57; refine (wide_any w0 a len cap b off hd br p1 _ hbr hbel1 hr1).mono ?_; rintro e w2 ⟨z', p2, rfl, hp3, hr2, hg2⟩))
  all_goals go_ret
  all_goals first | exact ⟨_, p1, rfl, hp1, hr1, hg1⟩ | exact ⟨_, p2, rfl, by omega, hr2, grown_trans hg1 hg2⟩

set_option maxHeartbeats 1000000 in
theorem key_any (w0 : World) (a : Option Addr) (len cap b off : Nat) (hd : DataAt w0 a len b off) (br p : Nat) (w : World) (hbr : w0.heap.size ≤ br) (hbel : Below w0.heap.size w0 w) (hr : Rdr w br a len cap p) :
    Calls Yahh.prog 45 #[.pointer (some ⟨br, 0, none⟩)] w fun e w' => ∃ (z : Int) (p' : Nat), e = .returned (.int .i64 z) ∧ p ≤ p' ∧ Rdr w' br a len cap p' ∧ w.grownBy w' (some br) := by
  go_enter Yahh.func45, Yahh.ntmps45
  go_wp2_with fail
  refine (next_any w0 a len cap b off hd br p _ hbr hbel hr).mono ?_
  rintro e w1 ⟨z, p1, rfl, z0, z1, hp1, hp2, hr1, hg1⟩
  have hbel1 := rdr_below hbel hg1 hbr
  go_wp2_with (first
    | (go_at_call 57; refine (wide_any w0 a len cap b off hd br p1 _ hbr hbel1 hr1).mono ?_; rintro e w2 ⟨z', p2, rfl, hp3, hr2, hg2⟩)
    | (go_at_call 43; refine (next_any w0 a len cap b off hd br p1 _ hbr hbel1 hr1).mono ?_; rintro e w2 ⟨z', p2, rfl, z0', z1', hp3, hp4, hr2, hg2⟩))
  all_goals go_ret
  all_goals first | exact ⟨_, p1, rfl, hp1, hr1, hg1⟩ | exact ⟨_, p2, rfl, by omega, hr2, grown_trans hg1 hg2⟩
end Go.Proofs.Yafahw
