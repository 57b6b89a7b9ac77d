/- Walks: impl.itoa (51), spec.word (52), spec.itoa (53). -/
import Derived.Test.YafahwBytes
namespace Go.Proofs.Yafahw
open Go.RowKit

/-- the buffer of 24 bytes with the digits at its end -/
def bufC (dl : List Int) : Array Value := ((List.replicate (24 - dl.length) 0 ++ dl.reverse).map (Value.int .u8)).toArray

theorem bufC_set (dl : List Int) (q : Nat) (x : Int) (h : q + 1 + dl.length = 24) : (bufC dl).setIfInBounds q (.int .u8 x) = bufC (dl ++ [x]) := by
  apply Array.ext'
  simp only [bufC, Array.toList_setIfInBounds, ← List.map_set, List.reverse_append, List.reverse_cons, List.reverse_nil, List.nil_append, List.length_append, List.length_cons, List.length_nil]
  congr 1
  rw [show 24 - dl.length = q + 1 from by omega, show 24 - (dl.length + (0 + 1)) = q from by omega, List.replicate_succ']
  simp [List.append_assoc]

theorem bufC_get (dl : List Int) (q : Nat) (h : q < 24) (hd : dl.length ≤ 24) : ∃ c, (bufC dl)[q]? = some c := by
  refine ⟨(bufC dl)[q]'(by simp [bufC]; omega), ?_⟩
  simp

theorem buf_slice (W : World) (g k : Nat) (hk : k ≤ 24) :
    (Instr.sliceAt 120 (.pointer (some ⟨g, 0, none⟩)) (some (.int .i64 (k : Int))) none none).run Yahh.prog W = .ok (.slice (some ⟨g, if k = 24 then 0 else k, none⟩) (24 - k) (24 - k)) W := by
  have hb : (k : Int) ≤ (24 : Nat) := by omega
  have hbd := run_sliceBound (P := Yahh.prog) W .i64 (k : Int) 24 .sliceB (by omega) hb
  have h5 : (sizeOf 5).run Yahh.prog W = .ok 1 W := by kernel_rfl
  simp only [Instr.sliceAt, Sem.run_bind, run_underlying Yahh.underlying120, Result.andThen_ok, Instr.sureAddr, Instr.sliceBounds, Sem.run_pure, Option.isSome_none, Bool.false_eq_true, if_false, hbd, h5, Int.toNat_natCast, Nat.mul_one]
  by_cases h : k = 24
  · subst h
    rfl
  · have h' : ¬ 24 = k := by omega
    have e : (⟨g, 0, none⟩ : Addr).add k = ⟨g, k, none⟩ := by
      unfold Addr.add; split <;> simp_all
    rw [if_neg h, if_neg h', e]

theorem buf_conv (W : World) (g k : Nat) (dl : List Int) (hk : k + dl.length = 24) (hW : W.heap[g]? = some (.cells (bufC dl) 120 (0, 0))) :
    (convert 22 9 (.slice (some ⟨g, if k = 24 then 0 else k, none⟩) (24 - k) (24 - k))).run Yahh.prog W = .ok (.string (strOf dl.reverse)) W := by
  refine run_convert_bytes_arg W 22 5 Yahh.underlying22 Yahh.underlying5 g _ (24 - k) (24 - k) dl.reverse (by simp; omega) ?_ 9 Yahh.underlying9
  intro i hi
  rw [if_neg (by omega), cell_of_row W g (k + i) _ _ _ hW]
  simp only [bufC, List.getElem?_toArray, List.getElem?_map]
  rw [List.getElem?_append_right (by simp; omega)]
  simp only [List.length_replicate]
  rw [show k + i - (24 - dl.length) = i from by omega, List.getElem?_eq_getElem (by simp; omega)]
  rw [List.getD_eq_getElem?_getD, List.getElem?_eq_getElem (by simp; omega)]
  rfl

set_option maxRecDepth 100000 in
theorem itoaI_any (v : Int) (w : World) : Calls Yahh.prog 51 #[.int .i64 v] w fun e w' => e = .returned (.string (strOf (itoaL v))) ∧ Below w.heap.size w w' := by
  by_cases h0 : v = 0
  · subst h0
    go_enter Yahh.func51, Yahh.ntmps51
    go_wp2
    go_ret
    exact ⟨by rfl, Below.refl _ _⟩
  have h0' : (v == 0) = false := by simp [h0]
  have hlt := uOf_lt v
  have Hu1 : Hid (v < 0 → IntKind.u64.wrap (IntKind.u64.wrap (wrap64 (-wrap64 (v + 1))) + 1) = (uOf v : Int)) := uOf_neg v
  have Hu2 : Hid (¬ v < 0 → IntKind.u64.wrap v = (uOf v : Int)) := uOf_pos v
  by_cases hn : v < 0
  all_goals
    go_enter Yahh.func51, Yahh.ntmps51
    go_wp2
    go_loopw [4, 6] (fun u p wr => ∃ (un q f : Nat) (dl : List Int), u = .int .u64 un ∧ p = .int .i64 (q : Int) ∧ un ≤ 18446744073709551615 ∧ q + dl.length = 24 ∧ dl.length + f = 20 ∧ un < 10 ^ f ∧ dl ++ lsd f un = lsd 20 (uOf v) ∧ wr.heap[w.heap.size]? = some (.cells (bufC dl) 120 (0, 0)) ∧ Below w.heap.size w wr)
      (fun u _ _ => (intOf u).toNat)
    case atStart =>
      refine ⟨uOf v, 24, 20, [], ?_, rfl, ?_, rfl, rfl, by omega, rfl, ?_, (Below.refl _ _).alloc (Nat.le_refl _) _⟩
      · first | rw [Hu1.out hn] | rw [Hu2.out hn]
      · have h1 := u64_wrap_range (IntKind.u64.wrap (wrap64 (-wrap64 (v + 1))) + 1)
        have h2 := u64_wrap_range v
        first | (rw [Hu1.out hn] at h1; omega) | (rw [Hu2.out hn] at h2; omega)
      · exact heap_alloc_new w _
    case round =>
      obtain ⟨un, q, f, dl, rfl, rfl, hle, hq, hf, hun, hdl, hbuf, hbel⟩ := hrel
      by_cases hpos : 0 < un
      · have hf0 : 0 < f := by
          cases f
          · simp at hun; omega
          · omega
        obtain ⟨q, rfl⟩ : ∃ q', q = q' + 1 := ⟨q - 1, by omega⟩
        obtain ⟨c, hc⟩ := bufC_get dl q (by omega) (by omega)
        rw [← cell_of_row wr w.heap.size q _ _ _ hbuf] at hc
        have hfz : wr.frozen? ⟨w.heap.size, q, none⟩ = false := frozen_of_row wr _ _ _ _ hbuf
        go_wp2
        refine ⟨?_, by simp [intOf]; omega⟩
        obtain ⟨f, rfl⟩ : ∃ f', f = f' + 1 := ⟨f - 1, by omega⟩
        have hb := heap_setCell_same wr w.heap.size q _ _ (.int .u8 (48 + ((un % 10 : Nat) : Int))) hbuf
        rw [bufC_set dl q _ hq] at hb
        refine ⟨un / 10, q, f, dl ++ [48 + ((un % 10 : Nat) : Int)], by simp, rfl, by omega, by simp; omega, by simp; omega, ?_, ?_, hb, hbel.setCell (Nat.le_refl _) _⟩
        · rw [Nat.pow_succ] at hun; omega
        · rw [← hdl, lsd_pos f un hpos]; simp
      · obtain rfl : un = 0 := by omega
        obtain ⟨q, rfl⟩ : ∃ q', q = q' + 1 := ⟨q - 1, by omega⟩
        obtain ⟨c, hc⟩ := bufC_get dl q (by omega) (by omega)
        rw [← cell_of_row wr w.heap.size q _ _ _ hbuf] at hc
        have hfz : wr.frozen? ⟨w.heap.size, q, none⟩ = false := frozen_of_row wr _ _ _ _ hbuf
        rw [lsd_zero, List.append_nil] at hdl
        have Hdl : Hid (dl = lsd 20 (uOf v)) := hdl
        have hb := heap_setCell_same wr w.heap.size q _ _ (.int .u8 45) hbuf
        rw [bufC_set dl q _ hq] at hb
        have hs1 := fun W => buf_slice W w.heap.size q (by omega)
        have hs2 := fun W => buf_slice W w.heap.size (q + 1) (by omega)
        have hv1 := buf_conv _ w.heap.size q (dl ++ [45]) (by simp; omega) hb
        have hv2 := buf_conv wr w.heap.size (q + 1) dl hq hbuf
        have hq0 : ¬ q = 24 := by omega
        rw [Int.natCast_add, Int.natCast_one] at hs2
        rw [if_neg hq0] at hs1 hv1
        generalize he : (if q + 1 = 24 then 0 else q + 1) = o2 at hs2 hv2
        generalize hm2 : 24 - (q + 1) = m2 at hs2 hv2
        generalize hm1 : 24 - q = m1 at hs1 hv1
        clear hlt hdl hb hbuf hq0 he hm2 hm1
        go_wp2
        go_ret
        first | (refine ⟨by simp [itoaL, h0, hn, Hdl.out], hbel.setCell (Nat.le_refl _) _⟩) | (refine ⟨?_, hbel⟩; simp [itoaL, h0, Hdl.out, show ¬ v < 0 from by omega])

theorem word_any (c : Int) (w : World) : Calls Yahh.prog 52 #[.int .i64 c] w fun e w' => e = .returned (.string (strOf (wordL c))) ∧ w' = w := by
  go_enter Yahh.func52, Yahh.ntmps52
  go_wp2
  all_goals (go_ret; refine ⟨?_, rfl⟩)
  · have h : c = 0 := by simpa using ‹(c == 0) = true›
    subst h; rfl
  · have h : c = 1 := by simpa using ‹(c == 1) = true›
    subst h; rfl
  · have h : c = 2 := by simpa using ‹(c == 2) = true›
    subst h; rfl
  · have h : c = 3 := by simpa using ‹(c == 3) = true›
    subst h; rfl
  · have h0 : ¬ c = 0 := by simpa using ‹(c == 0) = false›
    have h1 : ¬ c = 1 := by simpa using ‹(c == 1) = false›
    have h2 : ¬ c = 2 := by simpa using ‹(c == 2) = false›
    have h3 : ¬ c = 3 := by simpa using ‹(c == 3) = false›
    simp only [wordL, h0, h1, h2, h3, if_false]
    rfl


theorem own_conv {w : World} {base n cap : Nat} {a : Option Addr} {xs : List Int} (h : w.ownsRow base 5 1 (.slice a n cap) n (xs.map (Value.int .u8))) :
    (convert 22 9 (.slice a n cap)).run Yahh.prog w = .ok (.string (strOf xs)) w := by
  have hl : xs.length = n := by have := h.1; simpa using this
  by_cases hn : 0 < n
  · obtain ⟨a', cap', g, hv, ha⟩ := own_shape h
    simp only [Value.slice.injEq, true_and] at hv
    obtain ⟨rfl, rfl⟩ := hv
    obtain rfl := ha hn
    refine run_convert_bytes_arg w 22 5 Yahh.underlying22 Yahh.underlying5 g 0 n cap xs hl ?_ 9 Yahh.underlying9
    intro i hi
    have := own_cell h i (.int .u8 (xs.getD i 0)) (by rw [List.getElem?_map, List.getD_eq_getElem?_getD, List.getElem?_eq_getElem (by omega)]; rfl)
    simpa using this
  · obtain rfl : n = 0 := by omega
    have : xs = [] := List.eq_nil_of_length_eq_zero hl
    subst this
    cases a with
    | none => exact run_convert_bytes_nil w 22 5 Yahh.underlying22 Yahh.underlying5 0 cap 9 Yahh.underlying9
    | some ad =>
      rw [run_convert_bytes_string w 22 9 5 _ 0 cap Yahh.underlying22 Yahh.underlying5 Yahh.underlying9, run_bytesToString w ad 0 cap [] (by simp [loadCells, loadCellsFrom])]
      rfl

def ItoaR2 (wA : World) (pre dl : List Int) (ou i : Value) (wr2 : World) : Prop :=
  ∃ (k : Nat) (ol : List Int), i = .int .i64 ((k : Int) - 1) ∧ k ≤ dl.length ∧ ol.length ≤ 1 + (dl.length - k) ∧ ol ++ (dl.take k).reverse = pre ++ dl.reverse ∧ wr2.ownsRow wA.heap.size 5 1 ou ol.length (ol.map (Value.int .u8)) ∧ Below wA.heap.size wA wr2

set_option maxRecDepth 100000 in
theorem itoaS_any (v : Int) (w : World) : Calls Yahh.prog 53 #[.int .i64 v] w fun e w' => e = .returned (.string (strOf (itoaL v))) ∧ Below w.heap.size w w' := by
  obtain ⟨i0, hi, hz0, hz1, hz2⟩ := info_parts Yahh.info5
  by_cases h0 : v = 0
  · subst h0
    go_enter Yahh.func53, Yahh.ntmps53
    go_wp2
    go_ret
    exact ⟨by rfl, Below.refl _ _⟩
  have h0' : (v == 0) = false := by simp [h0]
  have hlt := uOf_lt v
  have Hu1 : Hid (v < 0 → IntKind.u64.wrap (IntKind.u64.wrap (wrap64 (-wrap64 (v + 1))) + 1) = (uOf v : Int)) := uOf_neg v
  have Hu2 : Hid (¬ v < 0 → IntKind.u64.wrap v = (uOf v : Int)) := uOf_pos v
  by_cases hn : v < 0
  all_goals
    go_enter Yahh.func53, Yahh.ntmps53
    go_wp2
    go_loopw [4, 5] (fun u d wr => ∃ (un f : Nat) (dl : List Int), u = .int .u64 un ∧ un ≤ 18446744073709551615 ∧ dl.length + f = 20 ∧ un < 10 ^ f ∧ dl ++ lsd f un = lsd 20 (uOf v) ∧ wr.ownsRow w.heap.size 5 1 d dl.length (dl.map (Value.int .u8)) ∧ Below w.heap.size w wr)
      (fun u _ _ => (intOf u).toNat)
    case atStart =>
      refine ⟨uOf v, 20, [], ?_, ?_, rfl, by omega, rfl, World.ownsRow_nil _ _ _ _, Below.refl _ _⟩
      · first | rw [Hu1.out hn] | rw [Hu2.out hn]
      · have h1 := u64_wrap_range (IntKind.u64.wrap (wrap64 (-wrap64 (v + 1))) + 1)
        have h2 := u64_wrap_range v
        first | (rw [Hu1.out hn] at h1; omega) | (rw [Hu2.out hn] at h2; omega)
    case round =>
      obtain ⟨un, f, dl, rfl, hle, hf, hun, hdl, hown, hbel⟩ := hrel
      by_cases hpos : 0 < un
      · have hf0 : 0 < f := by
          cases f
          · simp at hun; omega
          · omega
        go_wp2_with (first
          | (at_builtin; refine wpList_app1 rfl _ _ 22 rfl w.heap.size 5 (.int .u8 0) 1 1 Yahh.underlying22 Yahh.info5 rfl (by decide) _ _ _ rfl (hown.alloc _) wr.heap.size _ _ _ rfl (heap_alloc_new wr _) rfl (one1 _ rfl) (by omega) (by decide) (by have := hbel.size; simp; omega) (wr.heap.size + 1) (by simp) ?_))
        intro g cap w1 hown' hgrow hat hlt1
        have hbel' : Below w.heap.size w w1 := (hbel.alloc hbel.size _).grown hgrow (by have := hbel.size; simp; omega) (fun k hk => (hown.lt k hk).1)
        obtain ⟨f, rfl⟩ : ∃ f', f = f' + 1 := ⟨f - 1, by omega⟩
        have Hown : Hid (w1.ownsRow w.heap.size 5 1 (.slice (some ⟨g, 0, none⟩) (dl.length + 1) cap) (dl.length + 1) ((dl ++ [48 + (un : Int) % 10]).map (Value.int .u8))) := by
          show w1.ownsRow _ _ _ _ _ _
          simpa using hown'
        clear hown' hgrow hat hown hbel
        go_wp2
        go_roundw
        case rel =>
          refine ⟨un / 10, f, dl ++ [48 + (un : Int) % 10], by simp, by omega, by simp; omega, ?_, ?_, by simpa using Hown.out, hbel'⟩
          · rw [Nat.pow_succ] at hun; omega
          · rw [← hdl, lsd_pos f un hpos]; simp
        case measure => simp [intOf]; omega
      · obtain rfl : un = 0 := by omega
        rw [lsd_zero, List.append_nil] at hdl
        have Hdl : Hid (dl = lsd 20 (uOf v)) := hdl
        rename World => wA
        obtain ⟨ad, cap, g, rfl, hg⟩ := own_shape hown
        have hsz := hbel.size
        have hdlen : dl.length ≤ 20 := by omega
        clear hdl hlt hun Hu1 Hu2 hle
        obtain ⟨pre, hpre⟩ : ∃ pre : List Int, pre = if v < 0 then [45] else [] := ⟨_, rfl⟩
        have hprel : pre.length ≤ 1 := by rw [hpre]; split <;> simp
        have Hpre := (show Hid (_ = _) from hpre)
        clear hpre
        go_wp2_with (first
          | (at_builtin; refine wpList_app1 rfl _ _ 22 rfl wA.heap.size 5 (.int .u8 0) 1 1 Yahh.underlying22 Yahh.info5 rfl (by decide) (.slice none 0 0) 0 [] rfl (World.ownsRow_nil _ _ _ _) wA.heap.size _ _ _ rfl (heap_alloc_new wA _) rfl (one1 _ rfl) (by decide) (by decide) (by simp) (wA.heap.size + 1) (by simp) ?_; intro g2 cap2 w1 hown1 hgrow1 hat1 hlt1))
        all_goals
          go_loopw [6, 7] (fun ou i wr2 => ItoaR2 wA pre dl ou i wr2)
            (fun _ i _ => (intOf i + 1).toNat)
          case atStart =>
            refine ⟨dl.length, pre, by simp, Nat.le_refl _, by omega, by simp, ?_, ?_⟩
            · rw [Hpre.out]; first | (simp only [hn, if_true]; simpa using hown1) | (rw [if_neg (by omega)]; exact World.ownsRow_nil _ _ _ _)
            · first | exact ((Below.refl _ _).alloc (Nat.le_refl _) _).grown hgrow1 (by simp) (fun k hk => by simp [Value.ownBlock] at hk) | exact Below.refl _ _
          case round =>
            obtain ⟨k, ol, rfl, hk, hol, hcat, hown2, hbel2⟩ := hrel
            by_cases hk0 : 0 < k
            · obtain ⟨k, rfl⟩ : ∃ k', k = k' + 1 := ⟨k - 1, by omega⟩
              obtain rfl := hg (by omega)
              obtain ⟨d, hd⟩ : ∃ d, dl[k]? = some d := ⟨_, List.getElem?_eq_getElem (by omega)⟩
              have hcell : wr.cell? ⟨g, k, none⟩ = some (.int .u8 d) :=
                own_cell (own_below hown hbel2 (Nat.le_refl _)) k _ (by simp [hd])
              have Hd := (show Hid (_ = _) from hd)
              clear hd
              have hsz2 := hbel2.size
              go_wp2_with (first
                | (at_builtin; refine wpList_app1 rfl _ _ 22 rfl wA.heap.size 5 (.int .u8 0) 1 1 Yahh.underlying22 Yahh.info5 rfl (by decide) _ _ _ rfl (hown2.alloc _) wr.heap.size _ _ _ rfl (heap_alloc_new wr _) rfl (one1 _ rfl) (by omega) (by decide) (by simp; omega) (wr.heap.size + 1) (by simp) ?_; intro g3 cap3 w3 hown3 hgrow3 hat3 hlt3))
              refine ⟨⟨k, ol ++ [d], by go_num, by omega, by simp; omega, ?_, by simpa using hown3, (hbel2.alloc hsz2 _).grown hgrow3 (by simp; omega) (fun k hk => ?_)⟩, by first | (simp [intOf]; done) | (simp [intOf]; omega)⟩
              · rw [← hcat, List.take_add_one, Hd.out]; simp
              · exact (own_lt hown2 hk).1
            · obtain rfl : k = 0 := by omega
              rw [List.take_zero, List.reverse_nil, List.append_nil] at hcat
              have Hcat := (show Hid (_ = _) from hcat)
              clear hcat
              obtain ⟨ad2, cap2, g2, rfl, hg2⟩ := own_shape hown2
              have hcv : (convert 22 9 (.slice ad2 ol.length cap2)).run Yahh.prog wr = .ok (.string (strOf ol)) wr := own_conv hown2
              go_wp2
              go_ret
              refine ⟨?_, hbel.trans (hbel2.mono hsz)⟩
              simp only [itoaL, h0, if_false, Hcat.out, Hpre.out, Hdl.out]
              rfl
end Go.Proofs.Yafahw
