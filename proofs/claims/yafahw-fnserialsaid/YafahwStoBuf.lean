/- Walk: (*store).bufSet (61). -/
import Derived.Test.YafahwStoSmall
namespace Go.Proofs.Yafahw
open Go.RowKit
set_option linter.unusedVariables false
attribute [local go_sem ↓] Go.wp_at_zero Go.wp_at_succ

theorem bufSet_hit (b : List Wr) (x : Wr) : ∀ (i : Nat) (y : Wr), b[i]? = some y → y.key = x.key → (∀ j z, j < i → b[j]? = some z → (z.key == x.key) = false) → bufSet b x = b.set i x := by
  induction b with
  | nil => intro i y h; simp at h
  | cons c b ih =>
    intro i y h hk hno
    cases i with
    | zero => simp at h; subst h; simp [bufSet, hk]
    | succ i =>
      have h0 := hno 0 c (by omega) (by simp)
      simp only [bufSet, h0, Bool.false_eq_true, if_false, List.set_cons_succ]
      rw [ih i y (by simpa using h) hk (fun j z hj hz => hno (j + 1) z (by omega) (by simpa using hz))]
theorem bufSet_miss (b : List Wr) (x : Wr) (h : ∀ j z, j < b.length → b[j]? = some z → (z.key == x.key) = false) : bufSet b x = b ++ [x] := by
  induction b with
  | nil => rfl
  | cons c b ih =>
    have h0 := h 0 c (by simp) (by simp)
    simp only [bufSet, h0, Bool.false_eq_true, if_false, List.cons_append]
    rw [ih (fun j z hj hz => h (j + 1) z (by simpa using hj) (by simpa using hz))]

theorem Yahh.info111 : (Yahh.prog.info? 111).map (fun i => (i.zero, i.size, i.bytes)) = some (some (.agg #[.int .i64 0, .bool false, .int .i64 0]), 3, 24) := by kernel_rfl

/-- a whole write laid over element m -/
theorem row_put3 {w : World} {B e g n cap : Nat} {l : List Wr} (h : w.ownsRow B e 3 (.slice (some ⟨g, 0, none⟩) n cap) n (wrCells l)) {m : Nat} {y : Wr} (hy : l[m]? = some y) (k v : Int) (d : Bool) :
    (((w.setCell ⟨g, m * 3, none⟩ (.int .i64 k)).setCell ⟨g, m * 3 + 1, none⟩ (.bool d)).setCell ⟨g, m * 3 + 2, none⟩ (.int .i64 v)).ownsRow B e 3 (.slice (some ⟨g, 0, none⟩) n cap) n (wrCells (l.set m ⟨k, d, v⟩)) ∧
    w.grownBy (((w.setCell ⟨g, m * 3, none⟩ (.int .i64 k)).setCell ⟨g, m * 3 + 1, none⟩ (.bool d)).setCell ⟨g, m * 3 + 2, none⟩ (.int .i64 v)) (some g) := by
  have hm : m < l.length := (List.getElem?_eq_some_iff.1 hy).1
  have h1 := row_set wrC_len h hy (a' := ⟨k, y.del, y.val⟩) (j := 0) (by omega) (u := .int .i64 k) rfl
  have g1 : (l.set m ⟨k, y.del, y.val⟩)[m]? = some ⟨k, y.del, y.val⟩ := by simp [hm]
  have h2 := row_set wrC_len h1 g1 (a' := ⟨k, d, y.val⟩) (j := 1) (by omega) (u := .bool d) rfl
  rw [List.set_set] at h2
  have g2 : (l.set m ⟨k, d, y.val⟩)[m]? = some ⟨k, d, y.val⟩ := by simp [hm]
  have h3 := row_set wrC_len h2 g2 (a' := ⟨k, d, v⟩) (j := 2) (by omega) (u := .int .i64 v) rfl
  rw [List.set_set] at h3
  exact ⟨h3, grown_trans (grown_trans (set_grown _ _ _ _) (set_grown _ _ _ _)) (set_grown _ _ _ _)⟩

def BufPost (B : Nat) (w : World) (bs : Nat) (clock : Int) (kv tv : Value) (ck : List (KH × Value)) (ct : List (Txn × Value)) (i : Nat) (t : Txn) (x : Wr) (w' : World) : Prop :=
  ∃ hd', StoM B w' bs clock kv tv ck (ct.set i (⟨t.id, t.active, t.snap, bufSet t.buf x⟩, hd')) ∧ Keep B stoT w w'

set_option maxHeartbeats 2000000 in
set_option maxRecDepth 100000 in
theorem bufSet_any {B : Nat} {w : World} {bs : Nat} {clock : Int} {kv tv : Value} {ck : List (KH × Value)} {ct : List (Txn × Value)} (h : StoM B w bs clock kv tv ck ct) (hB : B ≤ w.heap.size) (i : Nat) (t : Txn) (hd : Value) (hp : ct[i]? = some (t, hd)) (k v : Int) (d : Bool) (hn : ct.length ≤ 1000000) (hb : t.buf.length ≤ 1000000) :
    Calls Yahh.prog 61 #[.pointer (some ⟨bs, 0, none⟩), .int .i64 (i : Int), .int .i64 k, .bool d, .int .i64 v] w fun e w' => e = .returned (.tuple #[]) ∧ BufPost B w bs clock kv tv ck ct i t ⟨k, d, v⟩ w' := by
  have c2 := h.c2
  have htx := h.txs
  have hbuf := h.bufs i _ hp
  obtain ⟨ad, cap, g, htv, had⟩ := own_shape htx
  obtain ⟨bd, bcap, bg, hbv, hbd⟩ := own_shape hbuf
  have hi : i < ct.length := by
    rcases Nat.lt_or_ge i ct.length with h' | h'
    · exact h'
    · rw [List.getElem?_eq_none h'] at hp; cases hp
  have hil : (i : Int) < (ct.length : Int) := by omega
  have hi0 : (0 : Int) ≤ (i : Int) := by omega
  simp only [] at hbv
  subst htv
  subst hbv
  obtain rfl := had (by omega)
  have hc3 := row_cell txC_len htx hp (j := 3) (by omega) rfl
  have Hp := hid hp
  have Htx := hid htx
  have Hb := hid hbuf
  have hbl : (bd = none ∨ True) := .inr trivial
  clear hp htx hbuf had hbl
  go_enter Yahh.func61, Yahh.ntmps61
  go_wp2
  go_loopw [11] (fun j wr => SearchR w t.buf (fun y => y.key == k) j wr) (fun j _ => t.buf.length - (intOf j).toNat)
  case atStart => exact ⟨0, rfl, Nat.zero_le _, fun j a hj => by omega, rfl⟩
  case round =>
    obtain ⟨m, rfl, hm, hno, rfl⟩ := hrel
    by_cases hlt : m < t.buf.length
    · obtain ⟨y, hy⟩ : ∃ y, t.buf[m]? = some y := ⟨_, List.getElem?_eq_getElem hlt⟩
      obtain rfl := hbd (by omega)
      have hy0 := row_cell wrC_len Hb.out hy (j := 0) (by omega) rfl
      have hy1 := row_cell wrC_len Hb.out hy (j := 1) (by omega) rfl
      have hy2 := row_cell wrC_len Hb.out hy (j := 2) (by omega) rfl
      have f0 := Hb.out.frozenAt (m * 3)
      have f1 := Hb.out.frozenAt (m * 3 + 1)
      have f2 := Hb.out.frozenAt (m * 3 + 2)
      rw [Nat.add_zero] at hy0
      have Hy := hid hy
      have Hno := hid hno
      clear hy hno hbd
      by_cases hq : (y.key == k) = true
      · go_wp2
        try simp only [Exit.inBlock, Exit.then]
        refine bodyPost_ret (results_none rfl _ _ _) rfl ?_
        obtain ⟨q1, q2⟩ := row_put3 Hb.out Hy.out k v d
        have e : bufSet t.buf ⟨k, d, v⟩ = t.buf.set m ⟨k, d, v⟩ := bufSet_hit _ _ m y Hy.out (by simpa using hq) Hno.out
        refine ⟨rfl, .slice (some ⟨bg, 0, none⟩) t.buf.length bcap, ?_, (Keep.refl _ _ _).grown q2 hB (fun k hk => by simp at hk; subst hk; exact (own_lt Hb.out rfl).1) (RowTy.of_own (v := .slice (some ⟨bg, 0, none⟩) t.buf.length bcap) Hb.out) (by decide)⟩
        rw [e]
        exact h.bufPut Hp.out q2 (by rw [List.length_set]; exact q1)
      · have hq' : (y.key == k) = false := by simpa using hq
        go_wp2
        refine ⟨⟨m + 1, by go_num, by omega, ?_, rfl⟩, by simp [intOf]; omega⟩
        intro j a hj ha
        by_cases hjk : j = m
        · subst hjk; rw [Hy.out] at ha; simp at ha; subst ha; exact hq'
        · exact Hno.out j a (by omega) ha
    · obtain rfl : m = t.buf.length := by omega
      have Hno := hid hno
      clear hno
      have hsz := h.lt
      have hne : g ≠ bs := own_bne Htx.out h.blk (by decide)
      have hne' : bs ≠ g := hne.symm
      go_wp2
      go_region_held3 (fun w' => w'.cell? ⟨bs, 2, none⟩ = some (.slice (some ⟨g, 0, none⟩) ct.length cap)) (go_keep)
        ((refine step_app1 (by rfl) (.tmp 45) (.tmp 50) 107 (by rfl) B 111 _ 3 24 Yahh.underlying107 Yahh.info111 rfl (by decide) _ t.buf.length _ (by rfl) (Hb.out.drew.alloc _) wr.heap.size _ _ _ (by rfl) (heap_alloc_new wr.drew _) rfl (one3 _ _ _ rfl rfl rfl) (by omega) (by decide) (by simp; omega) (wr.heap.size + 1) (by simp) ?_; intro g2 cap2 w2 hown2 hgrow2 hat2 hlt2; have r := hid ((h.drew.alloc _).bufRow Hp.out hgrow2); have q2 := cell_of_row w2 bs 2 _ _ _ r.out.1; simp only [List.getElem?_toArray, List.getElem?_cons_succ, List.getElem?_cons_zero] at q2; have q3 := row_cell txC_len r.out.2.2.1 Hp.out (j := 3) (by omega) rfl; have q4 := r.out.2.2.1.frozenAt (i * 4 + 3)))
      go_wp2
      go_end0
      have e : bufSet t.buf ⟨k, d, v⟩ = t.buf ++ [⟨k, d, v⟩] := bufSet_miss _ _ Hno.out
      have hM := (h.alloc (Obj.cells #[Value.int IntKind.i64 k, Value.bool d, Value.int IntKind.i64 v] 111)).drew.bufMove Hp.out hgrow2 (b' := t.buf ++ [⟨k, d, v⟩]) (hd' := .slice (some ⟨g2, 0, none⟩) (t.buf.length + 1) cap2)
        (by rw [List.length_append]; simpa [wrCells, wrC] using hown2) (at_or hat2 (by simp)) rfl
      refine ⟨rfl, _, by rw [e]; exact hM, ?_⟩
      have k1 : Keep B stoT wr ((wr.alloc (Obj.cells #[Value.int IntKind.i64 k, Value.bool d, Value.int IntKind.i64 v] 111)).drew) := ((Keep.refl _ _ _).alloc hB _).drew
      have k2 : Keep B stoT wr w2 := k1.grown (e := 111) hgrow2 (by simp; omega) (fun j hj => (own_lt Hb.out hj).1) (RowTy.of_own ((Hb.out.alloc _).drew)) (by decide)
      refine k2.grown (e := 109) (set_grown _ _ _ _) (by have := k2.below.size; omega) (fun j hj => by simp at hj; subst hj; exact (own_lt Htx.out rfl).1) (RowTy.of_own (v := .slice (some ⟨g, 0, none⟩) ct.length cap) r.out.2.2.1) (by decide)
end Go.Proofs.Yafahw
