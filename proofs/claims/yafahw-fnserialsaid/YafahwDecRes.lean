/- spec.DecodeResults (28): SOME list of results, no longer than the input. -/
import Derived.Test.YafahwReader
import Derived.Test.YafahwLawRes
namespace Go.Proofs.Yafahw
open Go.RowKit
set_option linter.unusedVariables false

def DecResR (w : World) (a : Option Addr) (len cap : Nat) (ou : Value) (wr : World) : Prop :=
  ∃ (p : Nat) (rs : List (Int × Int)), rs.length ≤ p ∧ Rdr wr w.heap.size a len cap p ∧ wr.ownsRow (w.heap.size + 1) 37 2 ou rs.length (resCells rs) ∧ Below w.heap.size w wr

def posOf (w : World) (br : Nat) : Nat := match w.cell? ⟨br, 1, none⟩ with | some (.int _ n) => n.toNat | _ => 0
theorem Rdr.pos {w : World} {br : Nat} {a : Option Addr} {len cap p : Nat} (h : Rdr w br a len cap p) : posOf w br = p := by
  have := cell_of_row w br 1 _ _ _ h.1
  simp at this
  simp [posOf, this]

theorem Rdr.alloc {w : World} {br : Nat} {a : Option Addr} {len cap p : Nat} (h : Rdr w br a len cap p) (o : Obj) : Rdr (w.alloc o) br a len cap p := ⟨alloc_keep h.1 o, h.2⟩
theorem Rdr.lt {w : World} {br : Nat} {a : Option Addr} {len cap p : Nat} (h : Rdr w br a len cap p) : br < w.heap.size := blk_lt h.1
theorem Rdr.drewN {w : World} {br : Nat} {a : Option Addr} {len cap p : Nat} (h : Rdr w br a len cap p) (n : Nat) : Rdr (w.drewN n) br a len cap p := h
/-- behind an append to a row of another element type the reader stands as it stood -/
theorem Rdr.own {w w' : World} {br base : Nat} {e : TypeId} {size n : Nat} {v : Value} {xs : List Value} {a : Option Addr} {len cap p : Nat} (h : Rdr w br a len cap p) (ho : w.ownsRow base e size v n xs) (hg : w.grownBy w' v.ownBlock) (he : (63 : TypeId) ≠ e) : Rdr w' br a len cap p :=
  ⟨own_other ho hg _ _ _ _ h.1 he, h.2⟩
/-- behind a step of the reader a row of another element type is owned as it was -/
theorem own_rdr {w w' : World} {br base : Nat} {e : TypeId} {size n : Nat} {v : Value} {xs : List Value} (ho : w.ownsRow base e size v n xs) (hg : w.grownBy w' (some br)) (hb : br < base) : w'.ownsRow base e size v n xs :=
  own_keep ho fun g hgg => hg.block g (own_lt ho hgg).2 (by have := (own_lt ho hgg).1; simp; omega)

set_option maxHeartbeats 2000000 in
set_option maxRecDepth 100000 in
theorem decRes_any (w : World) (a : Option Addr) (len cap b off : Nat) (hd : DataAt w a len b off) (hl : len ≤ 1048576) :
    Calls Yahh.prog 28 #[.slice a len cap] w fun e w' => ∃ (v : Value) (rs : List (Int × Int)), e = .returned v ∧ rs.length ≤ len ∧ w'.ownsRow w.heap.size 37 2 v rs.length (resCells rs) ∧ Below w.heap.size w w' := by
  go_enter Yahh.func28, Yahh.ntmps28
  go_wp2_with fail
  go_loopw [4] (fun ou wr => DecResR w a len cap ou wr) (fun _ wr => len - posOf wr w.heap.size)
  case atStart =>
    refine ⟨0, [], Nat.le_refl _, ⟨alloc_keep (heap_alloc_new w _) _, by omega, hl⟩, ?_, ((Below.refl _ _).alloc (Nat.le_refl _) _).alloc (by simp) _⟩
    have := World.ownsRow_lit (base := w.heap.size + 1) (e := 37) (size := 2) (w.alloc (Obj.cells #[Value.slice a len cap, Value.int IntKind.i64 0] 63)) #[] 0 (by simp) (by decide) rfl
    simpa [resCells] using this
  case round =>
    obtain ⟨p, rs, hrs, hr, hown, hbel⟩ := hrel
    have hsz := hr.lt
    have Hpos := hid hr.pos
    go_wp2_with fail
    refine (more_any _ _ a len cap p hr).mono ?_
    rintro e w1 ⟨rfl, nq, rfl⟩
    by_cases hlt : p < len
    · have hlt' : decide (p < len) = true := by simp [hlt]
      go_wp2_with fail
      refine (next_any w a len cap b off hd _ p _ (Nat.le_refl _) (below_drewN hbel _) (hr.drewN nq)).mono ?_
      rintro e w2 ⟨z, p2, rfl, z0, z1, hp2, hp2', hr2, hg2⟩
      obtain rfl := hp2' hlt
      have hbel2 := rdr_below (below_drewN hbel nq) hg2 (Nat.le_refl _)
      have hown2 := own_rdr (w := wr.drewN nq) hown hg2 (by omega)
      clear hp2' hp2 hg2 hown hbel hr hlt'
      go_wp2_with (first
        | (go_at_call 43; refine (next_any w a len cap b off hd _ _ _ (Nat.le_refl _) hbel2 hr2).mono ?_; rintro e w3 ⟨z3, p3, rfl, z03, z13, hp3, hp3', hr3, hg3⟩; have hbel3 := rdr_below hbel2 hg3 (Nat.le_refl _); have hown3 := own_rdr hown2 hg3 (by omega); clear hg3 hown2 hbel2 hr2 hp3')
        | (go_at_call 46; refine (value_any w a len cap b off hd _ _ _ (Nat.le_refl _) hbel3 hr3).mono ?_; rintro e w4 ⟨z4, p4, rfl, hp4, hr4, hg4⟩; have hbel4 := rdr_below hbel3 hg4 (Nat.le_refl _); have hown4 := own_rdr hown3 hg4 (by omega); have hpp : p + 1 ≤ p4 := (by omega); have hsz4 := hr4.lt; clear hg4 hown3 hbel3 hr3)
        | (go_at_call 46; refine (value_any w a len cap b off hd _ _ _ (Nat.le_refl _) hbel2 hr2).mono ?_; rintro e w4 ⟨z4, p4, rfl, hp4, hr4, hg4⟩; have hbel4 := rdr_below hbel2 hg4 (Nat.le_refl _); have hown4 := own_rdr hown2 hg4 (by omega); have hpp : p + 1 ≤ p4 := (by omega); have hsz4 := hr4.lt; clear hg4 hown2 hbel2 hr2)
        | (at_builtin; refine wpList_app1 rfl (.tmp 27) (.tmp 31) 25 rfl (w.heap.size + 1) 37 _ 2 16 Yahh.underlying25 Yahh.info37 rfl (by decide) _ _ _ rfl (hown4.alloc _) w4.heap.size _ _ _ rfl (heap_alloc_new w4 _) rfl (one2 _ _ rfl rfl) (by have := hr4.2.1; omega) (by decide) (by simp; omega) _ rfl ?_; intro g5 cap5 w5 hown5 hgrow5 hat5 hlt5; have hr5 := (hr4.alloc _).own (hown4.alloc _) hgrow5 (by decide); have hbel5 := (hbel4.alloc (by omega) _).grown hgrow5 (by simp; omega) (fun k hk => by have := (own_lt hown4 hk).1; omega); clear hgrow5 hown4 hr4 hbel4 hat5))
      all_goals
        refine ⟨⟨p4, rs ++ [(_, z4)], by simp; omega, hr5, by rw [resCells_snoc, List.length_append]; exact hown5, hbel5⟩, ?_⟩
        rw [hr5.pos, Hpos.out]
        have := hr5.2.1
        omega
    · have hlt' : decide (p < len) = false := by simp [hlt]
      go_wp2
      go_ret
      exact ⟨_, rs, rfl, by have := hr.2.1; omega, own_mono hown (by omega), below_drewN hbel _⟩
end Go.Proofs.Yafahw
