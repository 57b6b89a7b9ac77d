/- Walk: laws.FnPrefix (7). -/
import Derived.Test.YafahwRunMatchesWalk
namespace Go.Proofs.Yafahw
open Go.RowKit
set_option linter.unusedVariables false
set_option linter.unusedSimpArgs false

theorem opCells_take (ops : List POp) (K : Nat) : opCells (ops.take K) = (opCells ops).take (K * 4) := by
  induction ops generalizing K with
  | nil => simp [opCells]
  | cons o ops ih =>
    cases K with
    | zero => simp [opCells]
    | succ K =>
      have := ih K
      simp only [opCells, List.flatMap_cons, List.take_succ_cons] at this ⊢
      rw [this, show (K + 1) * 4 = K * 4 + 4 from by omega]
      simp
theorem resCells_take (rs : List (Int × Int)) (K : Nat) : resCells (rs.take K) = (resCells rs).take (K * 2) := by
  induction rs generalizing K with
  | nil => simp [resCells]
  | cons o rs ih =>
    cases K with
    | zero => simp [resCells]
    | succ K =>
      have := ih K
      simp only [resCells, List.flatMap_cons, List.take_succ_cons] at this ⊢
      rw [this, show (K + 1) * 2 = K * 2 + 2 from by omega]
      simp
theorem take_some {α : Type} {l : List α} {n j : Nat} {u : α} (h : (l.take n)[j]? = some u) : l[j]? = some u := by
  rw [List.getElem?_take] at h
  split at h
  · exact h
  · cases h
theorem RowAt.takeOp {w : World} {g n cap : Nat} {ops : List POp} (h : RowAt w 4 (.slice (some ⟨g, 0, none⟩) n cap) n (opCells ops)) (hn : n = ops.length) (K : Nat) (hK : K ≤ n) : RowAt w 4 (.slice (some ⟨g, 0, none⟩) K cap) K (opCells (ops.take K)) := by
  obtain ⟨ad, c, b, off, hv, hcap, hl, had, hcell⟩ := h
  simp only [Value.slice.injEq] at hv
  obtain ⟨rfl, _, rfl⟩ := hv
  refine ⟨_, _, b, off, rfl, by omega, by rw [opCells_len]; simp; omega, fun h0 => had (by omega), fun j u hj => hcell j u ?_⟩
  rw [opCells_take] at hj
  exact take_some hj
theorem RowAt.takeRes {w : World} {g n cap : Nat} {rs : List (Int × Int)} (h : RowAt w 2 (.slice (some ⟨g, 0, none⟩) n cap) n (resCells rs)) (hn : n = rs.length) (K : Nat) (hK : K ≤ n) : RowAt w 2 (.slice (some ⟨g, 0, none⟩) K cap) K (resCells (rs.take K)) := by
  obtain ⟨ad, c, b, off, hv, hcap, hl, had, hcell⟩ := h
  simp only [Value.slice.injEq] at hv
  obtain ⟨rfl, _, rfl⟩ := hv
  refine ⟨_, _, b, off, rfl, by omega, by rw [resCells_len]; simp; omega, fun h0 => had (by omega), fun j u hj => hcell j u ?_⟩
  rw [resCells_take] at hj
  exact take_some hj
theorem RowAt.cap {w : World} {sz : Nat} {a : Option Addr} {n n' cap : Nat} {xs : List Value} (h : RowAt w sz (.slice a n cap) n' xs) : n' ≤ cap := by
  obtain ⟨ad, c, b, off, hv, hcap, hl, had, hcell⟩ := h
  simp only [Value.slice.injEq] at hv
  omega
theorem tmod_bounds (c n : Int) (hn : 0 ≤ n) : -(n + 1) < c.tmod (n + 1) ∧ c.tmod (n + 1) < n + 1 := by
  have h := Int.tmod_lt_of_pos c (show 0 < n + 1 by omega)
  have h2 := Int.tmod_lt_of_pos (-c) (show 0 < n + 1 by omega)
  rw [Int.neg_tmod] at h2
  omega

set_option maxHeartbeats 4000000 in
set_option maxRecDepth 100000 in
theorem prefix_any (w : World) (a : Option Addr) (len cap b off : Nat) (hd : DataAt w a len b off) (hl : len ≤ 1048576) (cut : Int) :
    Calls Yahh.prog 7 #[.slice a len cap, .int .i64 cut] w fun e w' => e = .returned (.bool true) ∧ Below w.heap.size w w' := by
  go_enter Yahh.func7, Yahh.ntmps7
  go_wp2_with fail
  refine (decScript_any w a len cap b off hd hl).mono ?_
  rintro e w1 ⟨v, ops, rfl, hops, hown, hb1⟩
  have hcapR := RowAt.of_own hown
  have hown' := hown
  rcases hown'.2 with ⟨hv, hn0⟩ | ⟨g, cp, cur, hv, _⟩
  · have hops0 : ops = [] := List.eq_nil_of_length_eq_zero (by first | exact hn0 | (have := hn0; simpa using this) | omega)
    subst hops0
    subst hv
    clear hown' hcapR
    have hT : cut.tmod (0 + 1) = 0 := by simp
    have hT' : cut.tmod 1 = 0 := by simp
    go_wp2_with fail
    refine (runI_any [] _ _ (RowAt.of_own hown) (by simp)).mono ?_
    rintro e w2 ⟨v2, rfl, hown2, ⟨_, g2, c2, rfl⟩, hb2⟩
    have hownO := own_below hown hb2 (Nat.le_refl _)
    have hB2 : Below w.heap.size w w2 := hb1.trans (hb2.mono hb1.size)
    simp only [List.length_nil] at hown2
    go_wp2_with fail
    refine (runI_any [] _ _ (RowAt.of_own hownO) (by simp)).mono ?_
    rintro e w3 ⟨v3, rfl, hown3, ⟨_, g3, c3, rfl⟩, hb3⟩
    have hownO3 := own_below hownO hb3 (Nat.le_refl _)
    have hown23 := own_below hown2 hb3 (Nat.le_refl _)
    have hB3 : Below w.heap.size w w3 := hB2.trans (hb3.mono hB2.size)
    simp only [List.length_nil] at hown3
    go_wp2_with fail
    refine (runS_any [] _ _ (RowAt.of_own hownO3) (by simp)).mono ?_
    rintro e w4 ⟨v4, rfl, hown4, hb4⟩
    have hown24 := own_below hown23 hb4 (Nat.le_refl _)
    have hown34 := own_below hown3 hb4 (Nat.le_refl _)
    have hB4 : Below w.heap.size w w4 := hB3.trans (hb4.mono hB3.size)
    go_wp2_with fail
    refine (equalRes_any [] _ _ _ (RowAt.of_own hown24) (RowAt.of_own hown4) (by simp)).mono ?_
    rintro e w5 ⟨rfl, hb5⟩
    have hown25 := own_below hown24 hb5 (Nat.le_refl _)
    have hown35 := own_below hown34 hb5 (Nat.le_refl _)
    have hB5 : Below w.heap.size w w5 := hB4.trans (hb5.mono hB4.size)
    go_wp2_with fail
    refine (equalRes_any [] _ _ _ (RowAt.of_own hown35) (RowAt.of_own hown25) (by simp)).mono ?_
    rintro e w6 ⟨rfl, hb6⟩
    have hB6 : Below w.heap.size w w6 := hB5.trans (hb6.mono hB5.size)
    go_wp2
    go_ret
    exact ⟨rfl, hB6⟩
  · subst hv
    have hcp := hcapR.cap
    clear hcapR hown'
    obtain ⟨hT0, hT1⟩ := tmod_bounds cut ops.length (by omega)
    have hn1 : ((ops.length : Int) + 1) ≠ 0 := by omega
    by_cases hneg : cut.tmod ((ops.length : Int) + 1) < 0
    · obtain ⟨K, hKe⟩ : ∃ K : Nat, (K : Int) = cut.tmod ((ops.length : Int) + 1) + ((ops.length : Int) + 1) := ⟨(cut.tmod ((ops.length : Int) + 1) + ((ops.length : Int) + 1)).toNat, by omega⟩
      have hK : K ≤ ops.length := by omega
      have HKe := hid hKe
      clear hKe
      go_wp2_with fail
      rw [← HKe.out]
      clear HKe hT0 hT1 hneg
      refine (runI_any ops _ _ (RowAt.of_own hown) (by omega)).mono ?_
      rintro e w2 ⟨v2, rfl, hown2, ⟨_, g2, c2, rfl⟩, hb2⟩
      have hownO := own_below hown hb2 (Nat.le_refl _)
      have hB2 : Below w.heap.size w w2 := hb1.trans (hb2.mono hb1.size)
      have hc2 := (RowAt.of_own hown2).cap
      have hKc : (K : Int) ≤ (cp : Int) := by omega
      have hKc2 : (K : Int) ≤ (c2 : Int) := by omega
      have hK0 : (0 : Int) ≤ (K : Int) := by omega
      have htl : (ops.take K).length = K := by rw [List.length_take]; omega
      have hrowK := (RowAt.of_own hownO).takeOp rfl K hK
      have HrowK := hid hrowK
      clear hrowK
      go_wp2_with fail
      have hcallK := runI_any (ops.take K) (.slice (some ⟨g, 0, none⟩) K cp) w2 (by rw [htl]; exact HrowK.out) (by omega)
      rw [htl, runI_take ops K hK] at hcallK
      refine hcallK.mono ?_
      clear hcallK
      rintro e w3 ⟨v3, rfl, hown3, ⟨_, g3, c3, rfl⟩, hb3⟩
      have hownO3 := own_below hownO hb3 (Nat.le_refl _)
      have hown23 := own_below hown2 hb3 (Nat.le_refl _)
      have hB3 : Below w.heap.size w w3 := hB2.trans (hb3.mono hB2.size)
      go_wp2_with fail
      refine (runS_any ops _ _ (RowAt.of_own hownO3) (by omega)).mono ?_
      rintro e w4 ⟨v4, rfl, hown4, hb4⟩
      have hown24 := own_below hown23 hb4 (Nat.le_refl _)
      have hown34 := own_below hown3 hb4 (Nat.le_refl _)
      have hB4 : Below w.heap.size w w4 := hB3.trans (hb4.mono hB3.size)
      have hlen : (runI ops).length ≤ 100000000 := by rw [runI_len]; omega
      have r4 : RowAt w4 2 v4 (runI ops).length (resCells (runI ops)) := by rw [runI_len, run_eq]; exact RowAt.of_own hown4
      have r2 : RowAt w4 2 (.slice (some ⟨g2, 0, none⟩) ops.length c2) (runI ops).length (resCells (runI ops)) := by rw [runI_len]; exact RowAt.of_own hown24
      have R4 := hid r4
      have R2 := hid r2
      clear r4 r2
      go_wp2_with fail
      refine (equalRes_any (runI ops) _ _ _ R2.out R4.out hlen).mono ?_
      rintro e w5 ⟨rfl, hb5⟩
      have hown25 := own_below hown24 hb5 (Nat.le_refl _)
      have hown35 := own_below hown34 hb5 (Nat.le_refl _)
      have hB5 : Below w.heap.size w w5 := hB4.trans (hb5.mono hB4.size)
      have htl2 : ((runI ops).take K).length = K := by rw [List.length_take, runI_len]; omega
      have r3 : RowAt w5 2 (.slice (some ⟨g3, 0, none⟩) K c3) ((runI ops).take K).length (resCells ((runI ops).take K)) := by rw [htl2]; exact RowAt.of_own hown35
      have r2 : RowAt w5 2 (.slice (some ⟨g2, 0, none⟩) K c2) ((runI ops).take K).length (resCells ((runI ops).take K)) := by rw [htl2]; exact (RowAt.of_own hown25).takeRes (runI_len ops).symm K hK
      have R3 := hid r3
      have R2 := hid r2
      clear r3 r2
      go_wp2_with fail
      refine (equalRes_any ((runI ops).take K) _ _ _ R3.out R2.out (by rw [htl2]; omega)).mono ?_
      rintro e w6 ⟨rfl, hb6⟩
      have hB6 : Below w.heap.size w w6 := hB5.trans (hb6.mono hB5.size)
      go_wp2
      go_ret
      exact ⟨rfl, hB6⟩
    · obtain ⟨K, hKe⟩ : ∃ K : Nat, (K : Int) = cut.tmod ((ops.length : Int) + 1) := ⟨(cut.tmod ((ops.length : Int) + 1)).toNat, by omega⟩
      have hK : K ≤ ops.length := by omega
      have HKe := hid hKe
      clear hKe
      go_wp2_with fail
      try rw [← HKe.out]
      clear HKe hT0 hT1 hneg
      refine (runI_any ops _ _ (RowAt.of_own hown) (by omega)).mono ?_
      rintro e w2 ⟨v2, rfl, hown2, ⟨_, g2, c2, rfl⟩, hb2⟩
      have hownO := own_below hown hb2 (Nat.le_refl _)
      have hB2 : Below w.heap.size w w2 := hb1.trans (hb2.mono hb1.size)
      have hc2 := (RowAt.of_own hown2).cap
      have hKc : (K : Int) ≤ (cp : Int) := by omega
      have hKc2 : (K : Int) ≤ (c2 : Int) := by omega
      have hK0 : (0 : Int) ≤ (K : Int) := by omega
      have htl : (ops.take K).length = K := by rw [List.length_take]; omega
      have hrowK := (RowAt.of_own hownO).takeOp rfl K hK
      have HrowK := hid hrowK
      clear hrowK
      go_wp2_with fail
      have hcallK := runI_any (ops.take K) (.slice (some ⟨g, 0, none⟩) K cp) w2 (by rw [htl]; exact HrowK.out) (by omega)
      rw [htl, runI_take ops K hK] at hcallK
      refine hcallK.mono ?_
      clear hcallK
      rintro e w3 ⟨v3, rfl, hown3, ⟨_, g3, c3, rfl⟩, hb3⟩
      have hownO3 := own_below hownO hb3 (Nat.le_refl _)
      have hown23 := own_below hown2 hb3 (Nat.le_refl _)
      have hB3 : Below w.heap.size w w3 := hB2.trans (hb3.mono hB2.size)
      go_wp2_with fail
      refine (runS_any ops _ _ (RowAt.of_own hownO3) (by omega)).mono ?_
      rintro e w4 ⟨v4, rfl, hown4, hb4⟩
      have hown24 := own_below hown23 hb4 (Nat.le_refl _)
      have hown34 := own_below hown3 hb4 (Nat.le_refl _)
      have hB4 : Below w.heap.size w w4 := hB3.trans (hb4.mono hB3.size)
      have hlen : (runI ops).length ≤ 100000000 := by rw [runI_len]; omega
      have r4 : RowAt w4 2 v4 (runI ops).length (resCells (runI ops)) := by rw [runI_len, run_eq]; exact RowAt.of_own hown4
      have r2 : RowAt w4 2 (.slice (some ⟨g2, 0, none⟩) ops.length c2) (runI ops).length (resCells (runI ops)) := by rw [runI_len]; exact RowAt.of_own hown24
      have R4 := hid r4
      have R2 := hid r2
      clear r4 r2
      go_wp2_with fail
      refine (equalRes_any (runI ops) _ _ _ R2.out R4.out hlen).mono ?_
      rintro e w5 ⟨rfl, hb5⟩
      have hown25 := own_below hown24 hb5 (Nat.le_refl _)
      have hown35 := own_below hown34 hb5 (Nat.le_refl _)
      have hB5 : Below w.heap.size w w5 := hB4.trans (hb5.mono hB4.size)
      have htl2 : ((runI ops).take K).length = K := by rw [List.length_take, runI_len]; omega
      have r3 : RowAt w5 2 (.slice (some ⟨g3, 0, none⟩) K c3) ((runI ops).take K).length (resCells ((runI ops).take K)) := by rw [htl2]; exact RowAt.of_own hown35
      have r2 : RowAt w5 2 (.slice (some ⟨g2, 0, none⟩) K c2) ((runI ops).take K).length (resCells ((runI ops).take K)) := by rw [htl2]; exact (RowAt.of_own hown25).takeRes (runI_len ops).symm K hK
      have R3 := hid r3
      have R2 := hid r2
      clear r3 r2
      go_wp2_with fail
      refine (equalRes_any ((runI ops).take K) _ _ _ R3.out R2.out (by rw [htl2]; omega)).mono ?_
      rintro e w6 ⟨rfl, hb6⟩
      have hB6 : Below w.heap.size w w6 := hB5.trans (hb6.mono hB5.size)
      go_wp2
      go_ret
      exact ⟨rfl, hB6⟩

theorem prefix_all (a : Option Addr) (len cap : Nat) (zs : List Int) (cut : Int) (w : World) (h : IsRow .u8 w a len cap zs) :
    Calls Yahh.prog 7 #[.slice a len cap, .int .i64 cut] w fun e w' => e = .returned (.bool true) ∧ Below w.heap.size w w' := by
  obtain ⟨b, off, hd, hm⟩ := h.data
  by_cases hl : len ≤ 1048576
  · exact prefix_any w a len cap b off hd hl cut
  · unfold maxLen at hm
    have h' : (1048576 : Int) < (len : Int) := by omega
    go_enter Yahh.func7, Yahh.ntmps7
    go_wp2_with fail
    go_ret
    exact ⟨rfl, Below.refl _ _⟩
end Go.Proofs.Yafahw
