/- Walk: laws.FnExactFinal (12). -/
import Derived.Test.YafahwFinS
import Derived.Test.YafahwLawOps
namespace Go.Proofs.Yafahw
open Go.RowKit
set_option linter.unusedVariables false
set_option linter.unusedSimpArgs false

theorem rowF_nil (w : World) : RowAt w 4 (.slice none 0 0) ([] : List POp).length (opCells []) :=
  ⟨none, 0, 0, 0, rfl, Nat.le_refl _, rfl, fun h => by simp at h, fun j u hj => by simp [opCells] at hj⟩
theorem rowF_lit0 (w : World) (g : Nat) : RowAt w 4 (.slice (some ⟨g, 0, none⟩) 0 0) ([] : List POp).length (opCells []) :=
  ⟨some ⟨g, 0, none⟩, 0, g, 0, rfl, Nat.le_refl _, rfl, fun h => rfl, fun j u hj => by simp [opCells] at hj⟩

/-- both answers of Final are one list -/
theorem final_eq {ops : List POp} {l m : List (Int × Int)} (h : FinOf (fun k => cur (versOf (stI ops (lidN ops)).keys k)) l) (h' : FinOf (lookS (stS ops (lidN ops)).log) m) : l = m := by
  have e : (fun k => cur (versOf (stI ops (lidN ops)).keys k)) = lookS (stS ops (lidN ops)).log := by
    funext k; exact look_eq (sim_all ops (lidN ops)) k
  rw [e] at h
  exact fin_eq h h'
theorem finI_eq {ops : List POp} {l m : List (Int × Int)} (h : FinOf (fun k => cur (versOf (stI ops (lidN ops)).keys k)) l) (h' : FinOf (fun k => cur (versOf (stI ops (lidN ops)).keys k)) m) : l = m := fin_eq h h'
theorem fin_none {l : List (Int × Int)} (h : FinOf (fun k => cur (versOf (stI [] (lidN [])).keys k)) l) : l = [] := by
  cases l with
  | nil => rfl
  | cons c l =>
    have := (h.2 c).1 (by simp)
    simp [lidN, stI, sto0, versOf, cur] at this

def ZeroR (w : World) (i : Value) (wr : World) : Prop := i = .int .i64 0 ∧ wr = w
theorem scribbleCells_own {B n : Nat} {v : Value} {xs : List Value} {w : World} (hown : w.ownsRow B 43 2 v n xs) (hx : AllI xs) (hn : n ≤ 400000000) :
    Calls Yahh.prog 40 #[v] w fun e w' => e = .returned (.tuple #[]) ∧ w.grownBy w' v.ownBlock := by
  rcases hown.2 with ⟨rfl, rfl⟩ | ⟨g, cap, cur, rfl, r⟩
  · go_enter Yahh.func40, Yahh.ntmps40
    go_wp2
    go_loopw [2] (fun i wr => ZeroR w i wr) (fun i _ => 0)
    case atStart => exact ⟨rfl, rfl⟩
    case round =>
      obtain ⟨rfl, rfl⟩ := hrel
      go_wp2
      go_end0
      exact ⟨rfl, World.grownBy.refl _ _⟩
  · exact scribbleCells_any B g n cap xs w hown hx hn

set_option maxHeartbeats 4000000 in
set_option maxRecDepth 100000 in
theorem exactFinal_any (ops : List POp) (a : Option Addr) (cap : Nat) (w : World) (hrow : RowAt w 4 (.slice a ops.length cap) ops.length (opCells ops)) (hn : ops.length ≤ 1048576) :
    Calls Yahh.prog 12 #[.slice a ops.length cap] w fun e w' => e = .returned (.bool true) ∧ Below w.heap.size w w' := by
  have hn' : ops.length ≤ 100000000 := by omega
  go_enter Yahh.func12, Yahh.ntmps12
  go_wp2_with fail
  refine (copyOps_any ops _ _ hrow hn').mono ?_
  rintro e w1 ⟨rfl, ho1, hb1⟩
  go_wp2_with fail
  refine (finalS_any ops _ _ (RowAt.of_own ho1) hn').mono ?_
  rintro e w2 ⟨v2, l, rfl, ho2, hlr, hfin, hb2⟩
  have Hfin := hid hfin
  have hB2 : Below w.heap.size w w2 := hb1.trans (hb2.mono hb1.size)
  clear ho1 hb1 hb2 hfin
  go_wp2_with fail
  refine (cellsOf_any l _ _ (RowAt.of_own ho2) hlr).mono ?_
  rintro e w3 ⟨vW, rfl, hW3, hb3⟩
  have hB3 : Below w.heap.size w w3 := hB2.trans (hb3.mono hB2.size)
  have hrow3 := hrow.below hB3
  clear ho2 hb3
  go_wp2_with fail
  refine (opsOf_any ops _ _ hrow3 hn').mono ?_
  rintro e w4 ⟨vB, rfl, hL4, hb4⟩
  have hB4 : Below w.heap.size w w4 := hB3.trans (hb4.mono hB3.size)
  have hrow4 := hrow.below hB4
  have hW4 := own_below hW3 hb4 (Nat.le_refl _)
  clear hrow3 hb4 hW3
  go_wp2_with fail
  refine (copyOps_any ops _ _ hrow4 hn').mono ?_
  rintro e w5 ⟨rfl, hA5, hb5⟩
  have hB5 : Below w.heap.size w w5 := hB4.trans (hb5.mono hB4.size)
  have hW5 := own_below hW4 hb5 (Nat.le_refl _)
  have hL5 := own_below hL4 hb5 (Nat.le_refl _)
  clear hrow4 hb5 hW4 hL4
  generalize hgA : w4.heap.size = gA at *
  go_wp2_with fail
  refine (finalI_any ops _ _ (RowAt.of_own hA5) hn').mono ?_
  rintro e w6 ⟨vG, l6, rfl, hG6, _, hfin6, hb6⟩
  obtain rfl := final_eq hfin6 Hfin.out
  have hB6 : Below w.heap.size w w6 := hB5.trans (hb6.mono hB5.size)
  have hW6 := own_below hW5 hb6 (Nat.le_refl _)
  have hL6 := own_below hL5 hb6 (Nat.le_refl _)
  have hA6 := own_below hA5 hb6 (Nat.le_refl _)
  have hgB : w.heap.size ≤ gA := by rw [← hgA]; exact hB4.size
  have hGB : w.heap.size ≤ w5.heap.size := hB5.size
  clear hb6 hW5 hL5 hA5 hfin6
  go_wp2_with fail
  refine (cellsOf_any l6 _ _ (RowAt.of_own hG6) hlr).mono ?_
  rintro e w7 ⟨v7, rfl, hR7, hb7⟩
  have hB7 : Below w.heap.size w w7 := hB6.trans (hb7.mono hB6.size)
  have hW7 := own_below hW6 hb7 (Nat.le_refl _)
  have hL7 := own_below hL6 hb7 (Nat.le_refl _)
  have hA7 := own_below hA6 hb7 (Nat.le_refl _)
  have hG7 := own_below hG6 hb7 (Nat.le_refl _)
  clear hb7 hW6 hL6 hA6 hG6
  go_wp2_with fail
  refine (sameCells_any l6 _ _ _ (RowAt.of_own hR7) (RowAt.of_own hW7) hlr).mono ?_
  rintro e w8 ⟨rfl, hb8⟩
  have hB8 : Below w.heap.size w w8 := hB7.trans (hb8.mono hB7.size)
  have hW8 := own_below hW7 hb8 (Nat.le_refl _)
  have hL8 := own_below hL7 hb8 (Nat.le_refl _)
  have hA8 := own_below hA7 hb8 (Nat.le_refl _)
  have hG8 := own_below hG7 hb8 (Nat.le_refl _)
  clear hb8 hW7 hL7 hA7 hG7 hR7
  go_wp2_with fail
  refine (opsOf_any ops _ _ (RowAt.of_own hA8) hn').mono ?_
  rintro e w9 ⟨v9, rfl, hP9, hb9⟩
  have hB9 : Below w.heap.size w w9 := hB8.trans (hb9.mono hB8.size)
  have hW9 := own_below hW8 hb9 (Nat.le_refl _)
  have hL9 := own_below hL8 hb9 (Nat.le_refl _)
  have hA9 := own_below hA8 hb9 (Nat.le_refl _)
  have hG9 := own_below hG8 hb9 (Nat.le_refl _)
  clear hb9 hW8 hL8 hA8 hG8
  go_wp2_with fail
  refine (sameOps_any ops _ _ _ (RowAt.of_own hP9) (RowAt.of_own hL9) hn').mono ?_
  rintro e w10 ⟨rfl, hb10⟩
  have hB10 : Below w.heap.size w w10 := hB9.trans (hb10.mono hB9.size)
  have hW10 := own_below hW9 hb10 (Nat.le_refl _)
  have hA10 := own_below hA9 hb10 (Nat.le_refl _)
  have hG10 := own_below hG9 hb10 (Nat.le_refl _)
  clear hb10 hW9 hL9 hA9 hG9 hP9
  go_wp2_with fail
  refine (scribbleOps_any _ _ _ _ _ _ hA10 (AllI.ops ops) hn').mono ?_
  rintro e w11 ⟨rfl, hg11⟩
  have tA : RowTy w10 (some gA) 35 := RowTy.of_own (v := .slice (some ⟨gA, 0, none⟩) ops.length ops.length) hA10
  have hW11 := own_ty hg11 tA hW10 (by decide)
  have hG11 := own_ty hg11 tA hG10 (by decide)
  have hB11 : Below w.heap.size w w11 := hB10.grown hg11 hB10.size (fun k hk => by simp at hk; omega)
  clear hg11 tA hW10 hG10 hA10
  go_wp2_with fail
  refine (cellsOf_any l6 _ _ (RowAt.of_own hG11) hlr).mono ?_
  rintro e w12 ⟨v12, rfl, hR12, hb12⟩
  have hB12 : Below w.heap.size w w12 := hB11.trans (hb12.mono hB11.size)
  have hW12 := own_below hW11 hb12 (Nat.le_refl _)
  have hG12 := own_below hG11 hb12 (Nat.le_refl _)
  clear hb12 hW11 hG11
  go_wp2_with fail
  refine (sameCells_any l6 _ _ _ (RowAt.of_own hR12) (RowAt.of_own hW12) hlr).mono ?_
  rintro e w13 ⟨rfl, hb13⟩
  have hB13 : Below w.heap.size w w13 := hB12.trans (hb13.mono hB12.size)
  have hW13 := own_below hW12 hb13 (Nat.le_refl _)
  have hG13 := own_below hG12 hb13 (Nat.le_refl _)
  clear hb13 hW12 hG12 hR12
  go_wp2_with fail
  refine (scribbleCells_own hG13 (AllI.res l6) hlr).mono ?_
  rintro e w14 ⟨rfl, hg14⟩
  have tG : RowTy w13 vG.ownBlock 43 := RowTy.of_own hG13
  have hW14 := own_ty hg14 tG hW13 (by decide)
  have hB14 : Below w.heap.size w w14 := hB13.grown hg14 hB13.size (fun k hk => Nat.le_trans hGB (own_lt hG13 hk).1)
  have hrow14 := hrow.below hB14
  clear hg14 tG hW13 hG13
  go_wp2_with fail
  refine (copyOps_any ops _ _ hrow14 hn').mono ?_
  rintro e w15 ⟨rfl, hA15, hb15⟩
  have hB15 : Below w.heap.size w w15 := hB14.trans (hb15.mono hB14.size)
  have hW15 := own_below hW14 hb15 (Nat.le_refl _)
  clear hb15 hW14 hrow14
  go_wp2_with fail
  refine (finalI_any ops _ _ (RowAt.of_own hA15) hn').mono ?_
  rintro e w16 ⟨v16, l16, rfl, hG16, _, hfin16, hb16⟩
  obtain rfl := final_eq hfin16 Hfin.out
  have hB16 : Below w.heap.size w w16 := hB15.trans (hb16.mono hB15.size)
  have hW16 := own_below hW15 hb16 (Nat.le_refl _)
  clear hb16 hW15 hA15 hfin16
  go_wp2_with fail
  refine (cellsOf_any l16 _ _ (RowAt.of_own hG16) hlr).mono ?_
  rintro e w17 ⟨v17, rfl, hR17, hb17⟩
  have hB17 : Below w.heap.size w w17 := hB16.trans (hb17.mono hB16.size)
  have hW17 := own_below hW16 hb17 (Nat.le_refl _)
  clear hb17 hW16 hG16
  go_wp2_with fail
  refine (sameCells_any l16 _ _ _ (RowAt.of_own hR17) (RowAt.of_own hW17) hlr).mono ?_
  rintro e w18 ⟨rfl, hb18⟩
  have hB18 : Below w.heap.size w w18 := hB17.trans (hb18.mono hB17.size)
  clear hb18 hW17 hR17
  go_wp2_with fail
  refine (finalI_any [] _ _ (rowF_nil _) (by simp)).mono ?_
  rintro e w19 ⟨v19, l19, rfl, hO19, _, hf19, hb19⟩
  obtain rfl := fin_none hf19
  obtain ⟨a19, c19, g19, rfl, _⟩ := own_shape hO19
  have hB19 : Below w.heap.size w w19 := hB18.trans (hb19.mono hB18.size)
  have hs19 := hB19.size
  simp only [List.length_nil]
  clear hO19 hf19
  go_wp2_with fail
  refine (finalI_any [] _ _ (rowF_lit0 _ _) (by simp)).mono ?_
  rintro e w20 ⟨v20, l20, rfl, hO20, _, hf20, hb20⟩
  obtain rfl := fin_none hf20
  obtain ⟨a20, c20, g20, rfl, _⟩ := own_shape hO20
  have hB20 : Below w.heap.size w w20 := (hB19.alloc hs19 _).trans (hb20.mono (by simp; omega))
  simp only [List.length_nil]
  clear hO20 hf20
  go_wp2
  go_ret
  exact ⟨rfl, hB20⟩

theorem exactFinal_all (rs : List POp) (a0 : Option Addr) (len0 cap0 : Nat) (w : World) (hlen : rs.length = len0) (hmax : len0 ≤ maxLen) (hrow : RowAt w 4 (.slice a0 len0 cap0) rs.length (opCells rs)) :
    Calls Yahh.prog 12 #[.slice a0 len0 cap0] w fun e w' => e = .returned (.bool true) ∧ Below w.heap.size w w' := by
  subst hlen
  by_cases hl : rs.length ≤ 1048576
  · exact exactFinal_any rs a0 cap0 w hrow hl
  · unfold maxLen at hmax
    have h' : (1048576 : Int) < (rs.length : Int) := by omega
    go_enter Yahh.func12, Yahh.ntmps12
    go_wp2_with fail
    go_ret
    exact ⟨rfl, Below.refl _ _⟩
end Go.Proofs.Yafahw
