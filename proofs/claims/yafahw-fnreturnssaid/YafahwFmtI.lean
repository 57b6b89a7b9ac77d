/- Walk: impl.Format (22). -/
import Derived.Test.YafahwItoa
namespace Go.Proofs.Yafahw
open Go.RowKit

def FmtR (w : World) (rs : List (Int × Int)) (ou i : Value) (wr : World) : Prop :=
  ∃ k : Nat, i = .int .i64 (k : Int) ∧ k ≤ rs.length ∧ Buf w.heap.size wr ou (fmtL (rs.take k)) ∧ Below w.heap.size w wr

theorem fmt_lim {rs : List (Int × Int)} {k : Nat} (hn : rs.length ≤ 100000000) : (fmtL (rs.take k)).length ≤ 3100000000 := by
  have := fmtL_len (rs.take k)
  have h2 : (rs.take k).length ≤ rs.length := List.length_take_le' _ _
  omega

/-- the five ways of the switch over a code, each with its tests and its word -/
theorem code_cases (c : Int) :
    ((c == 0) = true ∧ True ∧ True ∧ True ∧ wordL c = [111, 107]) ∨
    ((c == 0) = false ∧ (c == 1) = true ∧ True ∧ True ∧ wordL c = [109, 105, 115, 115, 105, 110, 103]) ∨
    ((c == 0) = false ∧ (c == 1) = false ∧ (c == 2) = true ∧ True ∧ wordL c = [105, 110, 118, 97, 108, 105, 100]) ∨
    ((c == 0) = false ∧ (c == 1) = false ∧ (c == 2) = false ∧ (c == 3) = true ∧ wordL c = [99, 111, 110, 102, 108, 105, 99, 116]) ∨
    ((c == 0) = false ∧ (c == 1) = false ∧ (c == 2) = false ∧ (c == 3) = false ∧ wordL c = [117, 110, 107, 110, 111, 119, 110]) := by
  unfold wordL
  by_cases h0 : c = 0
  · left; simp [h0]
  by_cases h1 : c = 1
  · right; left; simp [h1]
  by_cases h2 : c = 2
  · right; right; left; simp [h2]
  by_cases h3 : c = 3
  · right; right; right; left; simp [h3]
  · right; right; right; right; simp [h0, h1, h2, h3]

set_option maxHeartbeats 1000000 in
set_option maxRecDepth 100000 in
theorem fmtI_any (rs : List (Int × Int)) (v : Value) (w : World) (hrow : RowAt w 2 v rs.length (resCells rs)) (hn : rs.length ≤ 100000000) :
    Calls Yahh.prog 22 #[v] w fun e w' => e = .returned (.string (strOf (fmtL rs))) ∧ Below w.heap.size w w' := by
  obtain ⟨ad, cap, b, off, rfl, hcap, _, had, hcell⟩ := hrow
  go_enter Yahh.func22, Yahh.ntmps22
  go_wp2
  go_loopw [3, 4] (fun ou i wr => FmtR w rs ou i wr) (fun _ i _ => rs.length - (intOf i).toNat)
  case atStart => exact ⟨0, rfl, Nat.zero_le _, Buf.nil _ _, Below.refl _ _⟩
  case round =>
    obtain ⟨k, rfl, hk, hbuf, hbel⟩ := hrel
    by_cases hlt : k < rs.length
    · obtain ⟨⟨c, x⟩, hr⟩ : ∃ r, rs[k]? = some r := ⟨_, List.getElem?_eq_getElem hlt⟩
      obtain rfl := had (by omega)
      have hc := resCells_at rs k _ hr
      have hc0 : wr.cell? ⟨b, off + k * 2, none⟩ = some (.int .i64 c) := cell_below hbel (hcell _ _ hc.1)
      have hc1 : w.cell? ⟨b, off + k * 2 + 1, none⟩ = some (.int .i64 x) := by rw [Nat.add_assoc]; exact hcell _ _ hc.2
      have Hr := (show Hid (_ = _) from hr)
      have hlim := fmt_lim (k := k) hn
      have hsz := hbel.size
      clear hr hc hcell had
      have hix : (strOf (itoaL x)).size < 1000 := by rw [strOf_size]; have := itoaL_len x; omega
      rcases code_cases c with hw | hw | hw | hw | hw
      all_goals
        obtain ⟨hw0, hw1, hw2, hw3, hw⟩ := hw
        have Hw := (show Hid (_ = _) from hw)
        clear hw
        go_wp2_with (first
          | (at_builtin; refine wpList_bufStr rfl (.tmp 25) (.tmp 26) rfl w.heap.size _ _ rfl hbuf _ rfl (by omega) (by decide) hsz ?_; intro v1 w1 l1 hl1 hn1 hbuf1 hb1 _; have hz1 := hb1.size)
          | (at_builtin; refine wpList_buf1 rfl (.tmp 28) (.tmp 29) rfl w.heap.size _ _ rfl (hbuf1.alloc _) w1.heap.size 32 _ _ rfl (heap_alloc_new w1 _) (by omega) (by simp; omega) ?_; intro v2 w2 l2 hl2 hn2 hbuf2 hb2 _; have hB2 : Below w.heap.size w w2 := ((hbel.trans hb1).alloc (by omega) _).trans hb2; have hz2 := hB2.size; have hc2 := cell_below hB2 hc1; clear hb2 hb1 hbuf1)
          | (go_at_call 51; refine (itoaI_any _ _).mono ?_; rintro e w3 ⟨rfl, hb3⟩; have hz3 := hb3.size; have hbuf3 := hbuf2.below hb3; have hB3 : Below w.heap.size w w3 := hB2.trans (hb3.mono hz2); clear hb3 hbuf2)
          | (at_builtin; refine wpList_bufStr rfl (.tmp 31) (.tmp 37) rfl w.heap.size _ _ rfl hbuf3 _ rfl (by omega) (by omega) (by omega) ?_; intro v4 w4 l4 hl4 hn4 hbuf4 hb4 _; have hB4 := hB3.trans hb4; have hz4 := hB4.size)
          | (at_builtin; refine wpList_buf1 rfl (.tmp 39) (.tmp 40) rfl w.heap.size _ _ rfl (hbuf4.alloc _) w4.heap.size 10 _ _ rfl (heap_alloc_new w4 _) (by omega) (by simp; omega) ?_; intro v5 w5 l5 hl5 hn5 hbuf5 hb5 _; have hB5 := (hB4.alloc hz4 _).trans hb5; clear hb5 hb4)
          | fail)
        refine ⟨⟨k + 1, by go_num, by omega, ?_, hB5⟩, by simp [intOf]; omega⟩
        have e : l5 = fmtL (rs.take (k + 1)) := by
          rw [List.take_add_one, Hr.out]
          simp only [Option.toList]
          rw [fmtL_snoc, hl5.out, hl4.out, hl2.out, hl1.out, bytesL_strOf _ (fun x hx => by have := itoaL_range _ x hx; omega), lineL, Hw.out]
          simp [bytesL]
        rw [← e]; exact hbuf5
    · obtain rfl : k = rs.length := by omega
      have hl : (fmtL (rs.take rs.length)) = fmtL rs := by rw [List.take_length]
      rw [hl] at hbuf
      clear hl
      obtain ⟨ad2, cap2, g2, rfl, hg2⟩ := own_shape hbuf
      have hcv : (convert 22 9 (.slice ad2 (fmtL rs).length cap2)).run Yahh.prog wr = .ok (.string (strOf (fmtL rs))) wr := own_conv hbuf
      go_wp2
      go_ret
      exact ⟨rfl, hbel⟩
end Go.Proofs.Yafahw
