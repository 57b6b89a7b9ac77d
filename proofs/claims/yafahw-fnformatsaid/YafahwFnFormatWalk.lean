/- Walk: laws.FnFormat (9). -/
import Derived.Test.YafahwFmtS
import Derived.Test.YafahwDecRes
import Derived.Test.YafahwIsRow
namespace Go.Proofs.Yafahw
open Go.RowKit

theorem format_any (w : World) (a : Option Addr) (len cap b off : Nat) (hd : DataAt w a len b off) (hl : len ≤ 1048576) :
    Calls Yahh.prog 9 #[.slice a len cap] w fun e w' => e = .returned (.bool true) ∧ Below w.heap.size w w' := by
  go_enter Yahh.func9, Yahh.ntmps9
  go_wp2_with fail
  refine (decRes_any w a len cap b off hd hl).mono ?_
  rintro e w1 ⟨v, rs, rfl, hrs, hown, hb1⟩
  go_wp2_with fail
  refine (fmtI_any rs _ _ (RowAt.of_own hown) (by omega)).mono ?_
  rintro e w2 ⟨rfl, hb2⟩
  have hown2 := own_below hown hb2 (Nat.le_refl _)
  have hB2 : Below w.heap.size w w2 := hb1.trans (hb2.mono hb1.size)
  go_wp2_with fail
  refine (fmtS_any rs _ _ (RowAt.of_own hown2) (by omega)).mono ?_
  rintro e w3 ⟨rfl, hb3⟩
  have hB3 : Below w.heap.size w w3 := hB2.trans (hb3.mono hB2.size)
  go_wp2
  go_ret
  exact ⟨rfl, hB3⟩

theorem format_all (a : Option Addr) (len cap : Nat) (zs : List Int) (w : World) (h : IsRow .u8 w a len cap zs) :
    Calls Yahh.prog 9 #[.slice a len cap] w fun e w' => e = .returned (.bool true) ∧ Below w.heap.size w w' := by
  obtain ⟨b, off, hd, hm⟩ := h.data
  by_cases hl : len ≤ 1048576
  · exact format_any w a len cap b off hd hl
  · unfold maxLen at hm
    have h' : (1048576 : Int) < (len : Int) := by omega
    go_enter Yahh.func9, Yahh.ntmps9
    go_wp2_with fail
    go_ret
    exact ⟨rfl, Below.refl _ _⟩
end Go.Proofs.Yafahw
