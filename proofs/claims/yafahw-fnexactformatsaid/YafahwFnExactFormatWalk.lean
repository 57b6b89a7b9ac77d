/- Walk: laws.FnExactFormat (13). -/
import Derived.Test.YafahwFmtS
import Derived.Test.YafahwLawRes
namespace Go.Proofs.Yafahw
open Go.RowKit

set_option maxHeartbeats 2000000 in
set_option maxRecDepth 100000 in
theorem exactFormat_any (rs : List (Int × Int)) (a : Option Addr) (cap : Nat) (w : World) (hrow : RowAt w 2 (.slice a rs.length cap) rs.length (resCells rs)) (hn : rs.length ≤ 1048576) :
    Calls Yahh.prog 13 #[.slice a rs.length cap] w fun e w' => e = .returned (.bool true) ∧ Below w.heap.size w w' := by
  have hn' : rs.length ≤ 100000000 := by omega
  go_enter Yahh.func13, Yahh.ntmps13
  go_wp2_with fail
  refine (copyRes_any rs _ _ hrow hn').mono ?_
  rintro e w1 ⟨rfl, ho1, hb1⟩
  go_wp2_with fail
  refine (fmtS_any rs _ _ (RowAt.of_own ho1) hn').mono ?_
  rintro e w2 ⟨rfl, hb2⟩
  have hB2 : Below w.heap.size w w2 := hb1.trans (hb2.mono hb1.size)
  have hrow2 := hrow.below hB2
  clear ho1 hb1 hb2
  go_wp2_with fail
  refine (resOf_any rs _ _ hrow2 hn').mono ?_
  rintro e w3 ⟨vB, rfl, ho3, hb3⟩
  have hB3 : Below w.heap.size w w3 := hB2.trans (hb3.mono hB2.size)
  have hrow3 := hrow.below hB3
  have hB := RowAt.of_own ho3
  clear ho3 hb3 hrow2 hB2
  go_wp2_with fail
  refine (copyRes_any rs _ _ hrow3 hn').mono ?_
  rintro e w4 ⟨rfl, ho4, hb4⟩
  have hB4 : Below w.heap.size w w4 := hB3.trans (hb4.mono hB3.size)
  have hBb := hB.below hb4
  clear hB hrow3 hb4
  go_wp2_with fail
  refine (fmtI_any rs _ _ (RowAt.of_own ho4) hn').mono ?_
  rintro e w5 ⟨rfl, hb5⟩
  have ho5 := own_below ho4 hb5 (Nat.le_refl _)
  have hBb5 := hBb.below hb5
  have hB5 : Below w.heap.size w w5 := hB4.trans (hb5.mono hB4.size)
  clear ho4 hBb hB4 hb5
  go_wp2_with fail
  refine (resOf_any rs _ _ (RowAt.of_own ho5) hn').mono ?_
  rintro e w6 ⟨vI, rfl, ho6, hb6⟩
  have hI := RowAt.of_own ho6
  have hBb6 := hBb5.below hb6
  have ho6' := own_below ho5 hb6 (Nat.le_refl _)
  have hB6 : Below w.heap.size w w6 := hB5.trans (hb6.mono hB5.size)
  clear ho6 hBb5 hb6 ho5 hB5
  go_wp2_with fail
  refine (sameRes_any rs _ _ _ hI hBb6 hn').mono ?_
  rintro e w7 ⟨rfl, hb7⟩
  have ho7 := own_below ho6' hb7 (Nat.le_refl _)
  have hB7 : Below w.heap.size w w7 := hB6.trans (hb7.mono hB6.size)
  clear hI hBb6 hb7 ho6' hB6
  go_wp2_with fail
  refine (scribbleRes_any _ _ _ _ _ _ ho7 (AllI.res rs) hn').mono ?_
  rintro e w8 ⟨rfl, hg8⟩
  have hB8 : Below w.heap.size w w8 := hB7.grown hg8 hB7.size (fun k hk => by have := hB3.size; simp at hk; omega)
  have hrow8 := hrow.below hB8
  clear ho7 hg8 hB7
  go_wp2_with fail
  refine (copyRes_any rs _ _ hrow8 hn').mono ?_
  rintro e w9 ⟨rfl, ho9, hb9⟩
  have hB9 : Below w.heap.size w w9 := hB8.trans (hb9.mono hB8.size)
  clear hb9 hrow8 hB8
  go_wp2_with fail
  refine (fmtI_any rs _ _ (RowAt.of_own ho9) hn').mono ?_
  rintro e w10 ⟨rfl, hb10⟩
  have hB10 : Below w.heap.size w w10 := hB9.trans (hb10.mono hB9.size)
  clear hb10 ho9 hB9
  go_wp2_with fail
  refine (fmtI_any [] _ _ (RowAt.of_own (World.ownsRow_nil w10 0 37 2)) (by simp)).mono ?_
  rintro e w11 ⟨rfl, hb11⟩
  have hB11 : Below w.heap.size w w11 := hB10.trans (hb11.mono hB10.size)
  have he : strOf (fmtL []) = ⟨#[]⟩ := rfl
  clear hb11 hB10
  go_wp2_with fail
  refine (fmtI_any [] _ _ (RowAt.of_own (World.ownsRow_lit (base := 0) (e := 37) (size := 2) w11 #[] 0 (by omega) (by decide) rfl)) (by simp)).mono ?_
  rintro e w12 ⟨rfl, hb12⟩
  have hB12 : Below w.heap.size w w12 := (hB11.alloc hB11.size _).trans (hb12.mono (by have := hB11.size; simp; omega))
  go_wp2
  go_ret
  exact ⟨rfl, hB12⟩

theorem exactFormat_long (a : Option Addr) (len cap : Nat) (w : World) (h : 1048576 < len) (hm : len ≤ maxLen) :
    Calls Yahh.prog 13 #[.slice a len cap] w fun e w' => e = .returned (.bool true) ∧ Below w.heap.size w w' := by
  unfold maxLen at hm
  have h' : (1048576 : Int) < (len : Int) := by omega
  go_enter Yahh.func13, Yahh.ntmps13
  go_wp2_with fail
  go_ret
  exact ⟨rfl, Below.refl _ _⟩

theorem exactFormat_all (rs : List (Int × Int)) (a : Option Addr) (len cap : Nat) (w : World) (hl : rs.length = len) (hm : len ≤ maxLen) (hrow : RowAt w 2 (.slice a len cap) rs.length (resCells rs)) :
    Calls Yahh.prog 13 #[.slice a len cap] w fun e w' => e = .returned (.bool true) ∧ Below w.heap.size w w' := by
  by_cases h : 1048576 < len
  · exact exactFormat_long a len cap w h hm
  · subst hl
    exact exactFormat_any rs a cap w hrow (by omega)
end Go.Proofs.Yafahw
