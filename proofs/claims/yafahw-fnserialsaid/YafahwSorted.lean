/- Walk: spec.sortedCells (50). -/
import Derived.Test.YafahwCells
import Derived.Test.YafahwSwap
namespace Go.Proofs.Yafahw
open Go.RowKit
set_option linter.unusedVariables false
set_option linter.unusedSimpArgs false
attribute [local go_sem ↓] Go.wp_at_zero Go.wp_at_succ

/-- the present cells -/
def pres (cs : List PC) : List (Int × Int) := cs.filterMap (fun c => if c.present then some (c.key, c.val) else none)
theorem pres_snoc (l : List PC) (c : PC) : pres (l ++ [c]) = if c.present then pres l ++ [(c.key, c.val)] else pres l := by
  unfold pres
  rw [List.filterMap_append]
  cases h : c.present <;> simp [h]
theorem pres_len (l : List PC) : (pres l).length ≤ l.length := List.length_filterMap_le _ _
theorem pres_keys {cs : List PC} (h : NodupC cs) : (pres cs).Pairwise (fun a b => a.1 ≠ b.1) := by
  unfold NodupC at h
  unfold pres
  rw [List.pairwise_filterMap]
  rw [List.nodup_iff_pairwise_ne, List.pairwise_map] at h
  refine h.imp ?_
  intro a b hab x hx y hy
  split at hx
  · split at hy
    · simp at hx hy; subst hx; subst hy; exact hab
    · cases hy
  · cases hx
def seeP (cs : List PC) (k : Int) : Option Int := if (see cs k).1 then some (see cs k).2 else none
theorem pres_mem {cs : List PC} (h : NodupC cs) (c : Int × Int) : c ∈ pres cs ↔ seeP cs c.1 = some c.2 := by
  unfold pres seeP
  rw [List.mem_filterMap]
  constructor
  · rintro ⟨p, hp, hc⟩
    obtain ⟨i, hi, rfl⟩ := List.getElem_of_mem hp
    have := see_at h (List.getElem?_eq_getElem hi)
    split at hc
    · rename_i hpr
      simp at hc; subst hc
      simp only [this, hpr, if_true]
    · cases hc
  · intro hs
    by_cases hx : ∃ p ∈ cs, p.key = c.1
    · obtain ⟨p, hp, hk⟩ := hx
      obtain ⟨i, hi, rfl⟩ := List.getElem_of_mem hp
      have := see_at h (List.getElem?_eq_getElem hi)
      rw [hk] at this
      rw [this] at hs
      simp only [] at hs
      split at hs
      · rename_i hpr
        simp at hs
        refine ⟨_, hp, ?_⟩
        rw [if_pos hpr, hk, hs]
      · cases hs
    · rw [see_no (fun p hp e => hx ⟨p, hp, e⟩)] at hs
      simp at hs

def PresR (w : World) (cs : List PC) (ou i : Value) (wr : World) : Prop :=
  ∃ k : Nat, i = .int .i64 (k : Int) ∧ k ≤ cs.length ∧ wr.ownsRow w.heap.size 43 2 ou (pres (cs.take k)).length (resCells (pres (cs.take k))) ∧ Below w.heap.size w wr
def SortR (w : World) (L : List (Int × Int)) (v : Value) (i : Value) (wr : World) : Prop :=
  ∃ (k : Nat) (p : List (Int × Int)), i = .int .i64 (k : Int) ∧ 1 ≤ k ∧ k ≤ 400000001 ∧ wr.ownsRow w.heap.size 43 2 v L.length (resCells (p ++ L.drop k)) ∧ Asc p ∧ (∀ c, c ∈ p ↔ c ∈ L.take k) ∧ Below w.heap.size w wr
def Sink2R (w : World) (p : List (Int × Int)) (c : Int × Int) (rest : List (Int × Int)) (v : Value) (n : Nat) (i : Value) (wr : World) : Prop :=
  ∃ j : Nat, i = .int .i64 (j : Int) ∧ j ≤ p.length ∧ (∀ x ∈ p.drop j, c.1 < x.1) ∧ wr.ownsRow w.heap.size 43 2 v n (resCells (sunk p c j ++ rest)) ∧ Below w.heap.size w wr
theorem sink_more2 {l : List (Int × Int)} {i : Nat} {y c : Int × Int} (hy : l[i]? = some y) (h : ∀ z ∈ l.drop (i + 1), c.1 < z.1) (hgt : c.1 < y.1) : ∀ z ∈ l.drop i, c.1 < z.1 := by
  obtain ⟨hi, rfl⟩ := List.getElem?_eq_some_iff.1 hy
  intro z hz
  rw [List.drop_eq_getElem_cons hi] at hz
  rcases List.mem_cons.1 hz with rfl | hz
  · exact hgt
  · exact h z hz
/-- c has found its place: one more is sorted -/
theorem sort_step {L p : List (Int × Int)} {c : Int × Int} {k j : Nat} (hL : L.Pairwise (fun a b => a.1 ≠ b.1)) (hc : L[k]? = some c) (ha : Asc p) (hm : ∀ x, x ∈ p ↔ x ∈ L.take k) (hj : j ≤ p.length) (hhi : ∀ x ∈ p.drop j, c.1 < x.1) (hlo : j = 0 ∨ ∃ y, p[j - 1]? = some y ∧ y.1 ≤ c.1) :
    Asc (sunk p c j) ∧ ∀ x, x ∈ sunk p c j ↔ x ∈ L.take (k + 1) := by
  obtain ⟨hk, rfl⟩ := List.getElem?_eq_some_iff.1 hc
  refine ⟨ins_asc ha ?_ hhi hlo hj, fun x => ?_⟩
  · intro x hx e
    obtain ⟨i, hi, rfl⟩ := List.getElem_of_mem ((hm x).1 hx)
    have hik : i < k := by simp at hi; omega
    rw [List.getElem_take] at e
    exact (List.pairwise_iff_getElem.1 hL) i k (by omega) hk hik e
  · unfold sunk
    rw [ins_mem, hm, List.take_add_one, List.getElem?_eq_getElem hk]
    simp only [Option.toList, List.mem_append, List.mem_singleton]
    exact Or.comm

set_option maxHeartbeats 4000000 in
set_option maxRecDepth 100000 in
theorem sortedCells_any {B : Nat} {w : World} (cs : List PC) (v : Value) (hown : w.ownsRow B 94 3 v cs.length (pcCells cs)) (hnd : NodupC cs) (hn : cs.length ≤ 400000000) :
    Calls Yahh.prog 50 #[v] w fun e w' => ∃ (v' : Value) (l : List (Int × Int)), e = .returned v' ∧ w'.ownsRow w.heap.size 43 2 v' l.length (resCells l) ∧ l.length ≤ 400000000 ∧ FinOf (seeP cs) l ∧ Below w.heap.size w w' := by
  obtain ⟨ad, cap, g, rfl, had⟩ := own_shape hown
  have Hnd := hid hnd
  clear hnd
  go_enter Yahh.func50, Yahh.ntmps50
  go_wp2
  go_loopw [3, 12] (fun ou i wr => PresR w cs ou i wr) (fun _ i _ => cs.length - (intOf i).toNat)
  case atStart => exact ⟨0, rfl, Nat.zero_le _, World.ownsRow_lit w _ 0 (Nat.le_refl _) (by decide) rfl, (Below.refl _ _).alloc (Nat.le_refl _) _⟩
  case round =>
    obtain ⟨k, rfl, hk, how, hbel⟩ := hrel
    by_cases hlt : k < cs.length
    · obtain ⟨p, hp⟩ : ∃ p, cs[k]? = some p := ⟨_, List.getElem?_eq_getElem hlt⟩
      obtain rfl := had (by omega)
      have hc0 := cell_below hbel (row_cell pcC_len hown hp (j := 0) (by omega) rfl)
      have hc1 := cell_below hbel (row_cell pcC_len hown hp (j := 1) (by omega) rfl)
      have hc2 := cell_below hbel (row_cell pcC_len hown hp (j := 2) (by omega) rfl)
      rw [Nat.add_zero] at hc0
      have hsz := hbel.size
      have hk0 : (0 : Int) ≤ (k : Int) := by omega
      have hkl : (k : Int) < (cs.length : Int) := by omega
      have hlk : (pres (cs.take k)).length ≤ k := by have := pres_len (cs.take k); simp at this; omega
      have hsn : pres (cs.take (k + 1)) = if p.present then pres (cs.take k) ++ [(p.key, p.val)] else pres (cs.take k) := by
        rw [List.take_add_one, hp]; exact pres_snoc _ _
      have Hsn := hid hsn
      have howA := hid (fun o1 o2 => (how.alloc o1).alloc o2)
      have how1 := hid (fun o1 => (how.alloc o1))
      have hbel1 := hid (fun o1 => (hbel.alloc hsz o1))
      have hbelA := hid (fun o1 o2 => (hbel.alloc hsz o1).alloc (by simp; omega) o2)
      clear hp hsn
      cases hq : p.present with
      | false =>
        rw [hq] at hc2
        have Hq := hid hq
        clear hq
        go_wp2
        refine ⟨⟨k + 1, by go_num, by omega, ?_, hbel1.out _⟩, by simp [intOf]; omega⟩
        rw [Hsn.out, Hq.out]
        exact how1.out _
      | true =>
        rw [hq] at hc2
        have Hq := hid hq
        clear hq
        go_wp2_with (first
          | (at_builtin; refine wpList_app1 rfl (.tmp 18) (.tmp 24) 29 rfl w.heap.size 43 _ 2 16 Yahh.underlying29 Yahh.info43 rfl (by decide) _ _ _ rfl (howA.out _ _) (wr.heap.size + 1) _ _ _ rfl (alloc2c wr _ _) rfl (one2 _ _ rfl rfl) (by omega) (by decide) (by simp; omega) _ rfl ?_; intro g5 cap5 w5 hown5 hgrow5 hat5 hlt5; have hbel5 := (hbelA.out _ _).grown hgrow5 (by simp; omega) (fun k hk => (own_lt how hk).1); clear hgrow5 hat5))
        refine ⟨⟨k + 1, by go_num, by omega, ?_, hbel5⟩, by simp [intOf]; omega⟩
        rw [Hsn.out, Hq.out, if_pos rfl, resCells_snoc, List.length_append]
        exact hown5
    · obtain rfl : k = cs.length := by omega
      rw [List.take_length] at how
      have hpl := pres_len cs
      have Hpk := hid (pres_keys Hnd.out)
      have Hpm := hid (fun c => pres_mem Hnd.out c)
      generalize hLL : pres cs = L at *
      clear hLL hown had
      obtain ⟨sd, scap, sg, hsv, hsd⟩ := own_shape how
      subst hsv
      have Hhow := hid how
      go_wp2
      clear how
      go_loopw [6] (fun i wr => SortR w L (.slice sd L.length scap) i wr) (fun i _ => L.length - (intOf i).toNat)
      case atStart =>
        refine ⟨1, L.take 1, rfl, Nat.le_refl _, by omega, by rw [List.take_append_drop]; exact Hhow.out, ?_, fun c => Iff.rfl, hbel⟩
        cases L with
        | nil => exact List.Pairwise.nil
        | cons a t => simp [Asc]
      case round =>
        rename World => W1
        obtain ⟨k, p, rfl, hk1, hk2, how, hasc, hmem, hbel2⟩ := hrel
        clear Hhow hbel
        by_cases hlt : k < L.length
        · obtain ⟨c, hc⟩ : ∃ c, L[k]? = some c := ⟨_, List.getElem?_eq_getElem hlt⟩
          obtain rfl := hsd (by omega)
          have hdk : L.drop k = c :: L.drop (k + 1) := by
            obtain ⟨hk', rfl⟩ := List.getElem?_eq_some_iff.1 hc
            exact List.drop_eq_getElem_cons hk'
          have hpl : p.length = k := by
            have := how.1
            rw [resCells_len, List.length_append, List.length_drop] at this
            omega
          have how2 : W1.ownsRow w.heap.size 43 2 (.slice (some ⟨sg, 0, none⟩) L.length scap) L.length (resCells (sunk p c k ++ L.drop (k + 1))) := by
            have e : sunk p c k = p ++ [c] := by unfold sunk; rw [← hpl, List.take_length, List.drop_length]
            rw [e, List.append_assoc]
            rw [hdk] at how
            exact how
          have Hhow2 := hid how2
          have Hmem := hid hmem
          have Hasc := hid hasc
          have Hc := hid hc
          have hkl : (k : Int) < (L.length : Int) := by omega
          clear how how2 hmem hasc hc hdk
          go_wp2
          go_loopw [7] (fun i wr => Sink2R w p c (L.drop (k + 1)) (.slice (some ⟨sg, 0, none⟩) L.length scap) L.length i wr) (fun i _ => (intOf i).toNat)
          case atStart => exact ⟨k, rfl, by omega, by rw [← hpl, List.drop_length]; simp, Hhow2.out, hbel2⟩
          case round =>
            rename World => W2
            obtain ⟨j, rfl, hj, hhi, hownj, hbelj⟩ := hrel
            clear Hhow2 hbel2
            by_cases hj0 : j = 0
            · subst hj0
              have HD := hid (sort_step Hpk.out Hc.out Hasc.out Hmem.out (Nat.zero_le _) hhi (.inl rfl))
              clear hhi
              go_wp2_with fail
              go_quiet (fail)
              go_wp2
              exact ⟨⟨k + 1, sunk p c 0, by go_num, by omega, by omega, hownj, HD.out.1, HD.out.2, below_drewN hbelj _⟩, by simp [intOf]; omega⟩
            · obtain ⟨i, rfl⟩ : ∃ i, j = i + 1 := ⟨j - 1, by omega⟩
              obtain ⟨y, hy⟩ : ∃ y, p[i]? = some y := ⟨_, List.getElem?_eq_getElem (by omega)⟩
              have hL : (sunk p c (i + 1) ++ L.drop (k + 1))[i]? = some y := by
                rw [List.getElem?_append_left (by rw [sunk_len]; omega)]; exact sunk_left hj hy
              have hC : (sunk p c (i + 1) ++ L.drop (k + 1))[i + 1]? = some c := by
                rw [List.getElem?_append_left (by rw [sunk_len]; omega)]; exact sunk_at hj
              have k0 := row_cell resC_len hownj hL (j := 0) (by omega) rfl
              have k1 := row_cell resC_len hownj hC (j := 0) (by omega) rfl
              rw [Nat.add_zero] at k0 k1
              have hi0 : (0 : Int) ≤ (i : Int) := by omega
              have hin : (i : Int) < (L.length : Int) := by omega
              have hi1 : (i : Int) + 1 < (L.length : Int) := by omega
              have hi2 : (0 : Int) < (i : Int) + 1 := by omega
              have hi3 : (0 : Int) ≤ (i : Int) + 1 := by omega
              by_cases hgt : c.1 < y.1
              · have Hhi2 := hid (sink_more2 hy hhi hgt)
                have hst : ((sunk p c (i + 1) ++ L.drop (k + 1)).set i c).set (i + 1) y = sunk p c i ++ L.drop (k + 1) := by
                  rw [List.set_append_left _ _ (by rw [sunk_len]; omega), List.set_append_left _ _ (by rw [List.length_set, sunk_len]; omega), sunk_step hj hy]
                have Hst := hid hst
                have HL := hid hL
                have HC := hid hC
                clear hhi hst hy hL hC
                go_wp2_with fail
                go_quiet (fail)
                have hown3 : (W2.drewN nq).ownsRow w.heap.size 43 2 (.slice (some ⟨sg, 0, none⟩) L.length scap) L.length (resCells (sunk p c (i + 1) ++ L.drop (k + 1))) := hownj
                have hbel3 : Below w.heap.size w (W2.drewN nq) := below_drewN hbelj _
                generalize W2.drewN nq = W3 at *
                clear hownj hbelj k0 k1
                obtain ⟨⟨a0, a1, a2, a3, b0, b1, e0, e1, e2, e3, d0, d1⟩, hO, hG⟩ := swap_row hown3 HL.out HC.out
                have k0 := row_cell resC_len hown3 HL.out (j := 0) (by omega) rfl
                have k1 := row_cell resC_len hown3 HL.out (j := 1) (by omega) rfl
                rw [Nat.add_zero] at k0
                have hO2 := hO
                rw [Hst.out] at hO2
                have HO := hid hO2
                have hsz3 := hbel3.size
                have HB := hid ((hbel3.alloc hsz3 (Obj.cells #[.int .i64 y.1, .int .i64 y.2] 43)).grown hG (by simp [swA]; omega) (fun k hk => (own_lt hown3 hk).1))
                simp only [sw4, sw3, sw2, sw1, swA] at a0 a1 a2 a3 b0 b1 e0 e1 e2 e3 d0 d1 HO HB
                clear hO hO2 hG Hst HL HC hown3 hbel3
                go_wp2
                exact ⟨⟨i, by go_num, by omega, Hhi2.out, HO.out, HB.out⟩, by simp [intOf]⟩
              · have hd : decide (c.1 < y.1) = false := by simp [hgt]
                have HD := hid (sort_step Hpk.out Hc.out Hasc.out Hmem.out hj hhi (.inr ⟨y, by rw [Nat.add_sub_cancel]; exact hy, by omega⟩))
                clear hhi hgt hy hL hC
                go_wp2_with fail
                go_quiet (fail)
                go_wp2
                exact ⟨⟨k + 1, sunk p c (i + 1), by go_num, by omega, by omega, hownj, HD.out.1, HD.out.2, below_drewN hbelj _⟩, by simp [intOf]; omega⟩
        · have hdr : L.drop k = [] := List.drop_eq_nil_of_le (by omega)
          have htk : L.take k = L := List.take_of_length_le (by omega)
          rw [hdr, List.append_nil] at how
          rw [htk] at hmem
          have hpl : p.length = L.length := by
            have := how.1
            rw [resCells_len] at this
            omega
          have Hmem := hid hmem
          have Hpl := hid hpl
          clear hdr htk hmem hpl
          go_wp2
          go_ret
          exact ⟨_, p, rfl, by rw [Hpl.out]; exact how, by rw [Hpl.out]; omega, ⟨hasc, fun c => by rw [Hmem.out]; exact Hpm.out c⟩, hbel2⟩
end Go.Proofs.Yafahw
