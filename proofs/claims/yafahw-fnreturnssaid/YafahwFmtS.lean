/- Walk: spec.Format (23). -/
import Derived.Test.YafahwFmtI
namespace Go.Proofs.Yafahw
open Go.RowKit

set_option maxHeartbeats 1000000 in
set_option maxRecDepth 100000 in
theorem fmtS_any (rs : List (Int × Int)) (v : Value) (w : World) (hrow : RowAt w 2 v rs.length (resCells rs)) (hn : rs.length ≤ 100000000) :
    Calls Yahh.prog 23 #[v] w fun e w' => e = .returned (.string (strOf (fmtL rs))) ∧ Below w.heap.size w w' := by
  obtain ⟨ad, cap, b, off, rfl, hcap, _, had, hcell⟩ := hrow
  go_enter Yahh.func23, Yahh.ntmps23
  go_wp2
  go_loopw [3, 8] (fun ou i wr => FmtR w rs ou i wr) (fun _ i _ => rs.length - (intOf i).toNat)
  case atStart => exact ⟨0, rfl, Nat.zero_le _, Buf.nil _ _, Below.refl _ _⟩
  case round =>
    obtain ⟨k, rfl, hk, hbuf, hbel⟩ := hrel
    by_cases hlt : k < rs.length
    · obtain ⟨⟨c, x⟩, hr⟩ : ∃ r, rs[k]? = some r := ⟨_, List.getElem?_eq_getElem hlt⟩
      obtain rfl := had (by omega)
      have hc := resCells_at rs k _ hr
      have hc0 : wr.cell? ⟨b, off + k * 2, none⟩ = some (.int .i64 c) := cell_below hbel (hcell _ _ hc.1)
      have hc1 : wr.cell? ⟨b, off + k * 2 + 1, none⟩ = some (.int .i64 x) := cell_below hbel (by rw [Nat.add_assoc]; exact hcell _ _ hc.2)
      have Hr := (show Hid (_ = _) from hr)
      have hlim := fmt_lim (k := k) hn
      have hsz := hbel.size
      clear hr hc hcell had
      have hix : (strOf (itoaL x)).size ≤ 1000 := by rw [strOf_size]; have := itoaL_len x; omega
      have hiw : (strOf (wordL c)).size ≤ 1000 := by rw [strOf_size]; have := wordL_len c; omega
      have hr0 : (wr.alloc (Obj.cells #[Value.int IntKind.i64 c, Value.int IntKind.i64 x] 37)).heap[wr.heap.size]? = _ := heap_alloc_new wr _
      have hW0 : Below w.heap.size w (wr.alloc (Obj.cells #[Value.int IntKind.i64 c, Value.int IntKind.i64 x] 37)) := hbel.alloc hsz _
      have Hr0 := hid hr0
      clear hr0
      go_wp2_with (first
          | (go_at_call 52; refine (word_any _ _).mono ?_; rintro e w0 ⟨rfl, rfl⟩)
          | (at_builtin; refine wpList_bufStr rfl (.tmp 12) (.tmp 15) rfl w.heap.size _ _ rfl (hbuf.alloc _) _ rfl (by omega) (by omega) (by simp; omega) ?_; intro v1 w1 l1 hl1 hn1 hbuf1 hb1 hf1; have hB1 : Below w.heap.size w w1 := hW0.trans hb1; have hz1 := hB1.size; have hr1 := hid (hf1 _ _ _ _ Hr0.out (by decide)); clear hf1 hb1)
          | (at_builtin; refine wpList_buf1 rfl (.tmp 17) (.tmp 18) rfl w.heap.size _ _ rfl (hbuf1.alloc _) w1.heap.size 32 _ _ rfl (heap_alloc_new w1 _) (by omega) (by simp; omega) ?_; intro v2 w2 l2 hl2 hn2 hbuf2 hb2 hf2; have hB2 : Below w.heap.size w w2 := (hB1.alloc hz1 _).trans hb2; have hz2 := hB2.size; have hr2 := hf2 wr.heap.size _ _ _ (alloc_keep hr1.out _) (by decide); have hc2 := cell_of_row w2 wr.heap.size 1 _ _ _ hr2; simp only [List.getElem?_toArray, List.getElem?_cons_succ, List.getElem?_cons_zero] at hc2; clear hr2 hf2 hb2 hbuf1)
          | (go_at_call 53; refine (itoaS_any _ _).mono ?_; rintro e w3 ⟨rfl, hb3⟩; have hz3 := hb3.size; have hbuf3 := hbuf2.below hb3; have hB3 : Below w.heap.size w w3 := hB2.trans (hb3.mono hz2); clear hb3 hbuf2)
          | (at_builtin; refine wpList_bufStr rfl (.tmp 20) (.tmp 23) rfl w.heap.size _ _ rfl hbuf3 _ rfl (by omega) (by omega) (by omega) ?_; intro v4 w4 l4 hl4 hn4 hbuf4 hb4 _; have hB4 := hB3.trans hb4; have hz4 := hB4.size)
          | (at_builtin; refine wpList_buf1 rfl (.tmp 25) (.tmp 26) rfl w.heap.size _ _ rfl (hbuf4.alloc _) w4.heap.size 10 _ _ rfl (heap_alloc_new w4 _) (by omega) (by simp; omega) ?_; intro v5 w5 l5 hl5 hn5 hbuf5 hb5 _; have hB5 := (hB4.alloc hz4 _).trans hb5; clear hb5 hb4)
          | fail)
      refine ⟨⟨k + 1, by go_num, by omega, ?_, hB5⟩, by simp [intOf]; omega⟩
      have e : l5 = fmtL (rs.take (k + 1)) := by
          rw [List.take_add_one, Hr.out]
          simp only [Option.toList]
          rw [fmtL_snoc, hl5.out, hl4.out, hl2.out, hl1.out, bytesL_strOf (itoaL x) (fun y hy => by have := itoaL_range _ y hy; omega), bytesL_strOf (wordL c) (fun y hy => by have := wordL_range _ y hy; omega), lineL]
          simp
      rw [← e]; exact hbuf5
    · obtain rfl : k = rs.length := by omega
      have hl : (fmtL (rs.take rs.length)) = fmtL rs := by rw [List.take_length]
      rw [hl] at hbuf
      clear hl
      obtain ⟨ad2, cap2, g2, rfl, hg2⟩ := own_shape hbuf
      have hcv : (convert 22 9 (.slice ad2 (fmtL rs).length cap2)).run Yahh.prog wr = .ok (.string (strOf (fmtL rs))) wr := own_conv hbuf
      go_wp2
      go_ret
      exact ⟨rfl, hbel⟩
end Go.Proofs.Yafahw
