/- Walk: (*store).step (47), Read of an active transaction. -/
import Derived.Test.YafahwStepBegin
namespace Go.Proofs.Yafahw
open Go.RowKit
set_option linter.unusedVariables false
set_option linter.unusedSimpArgs false
attribute [local go_sem ↓] Go.wp_at_zero Go.wp_at_succ

/-- a search from the left, in a world that has only drawn since -/
def SearchN {α : Type} (w : World) (l : List α) (p : α → Bool) (i : Value) (wr : World) : Prop :=
  ∃ k nq : Nat, i = .int .i64 (k : Int) ∧ k ≤ l.length ∧ (∀ j a, j < k → l[j]? = some a → p a = false) ∧ wr = w.drewN nq
/-- a search from the right: none from k on has hit -/
def SearchBack {α : Type} (w : World) (l : List α) (p : α → Bool) (i : Value) (wr : World) : Prop :=
  ∃ k nq : Nat, i = .int .i64 ((k : Int) - 1) ∧ k ≤ l.length ∧ (∀ j a, k ≤ j → l[j]? = some a → p a = false) ∧ wr = w.drewN nq

theorem find_at {α : Type} {l : List α} {p : α → Bool} {k : Nat} {a : α} (h : ∀ j a, j < k → l[j]? = some a → p a = false) (hk : l[k]? = some a) (hp : p a = true) : l.find? p = some a := by
  rw [List.find?_eq_some_iff_getElem]
  obtain ⟨hlt, rfl⟩ := List.getElem?_eq_some_iff.1 hk
  refine ⟨hp, k, hlt, rfl, fun j hj => ?_⟩
  have := h j _ hj (List.getElem?_eq_getElem (by omega))
  simp [this]
theorem find_no {α : Type} {l : List α} {p : α → Bool} (h : ∀ j a, j < l.length → l[j]? = some a → p a = false) : l.find? p = none := by
  rw [List.find?_eq_none]
  intro x hx
  obtain ⟨j, hj, rfl⟩ := List.getElem_of_mem hx
  simp [h j _ hj (List.getElem?_eq_getElem hj)]
theorem findBack_at {α : Type} {l : List α} {p : α → Bool} {k : Nat} {a : α} (h : ∀ j a, k + 1 ≤ j → l[j]? = some a → p a = false) (hk : l[k]? = some a) (hp : p a = true) : l.reverse.find? p = some a := by
  have hlt := (List.getElem?_eq_some_iff.1 hk).1
  refine find_at (k := l.length - 1 - k) ?_ ?_ hp
  · intro j b hj hb
    rw [List.getElem?_reverse (by omega)] at hb
    exact h _ b (by omega) hb
  · rw [List.getElem?_reverse (by omega), show l.length - 1 - (l.length - 1 - k) = k from by omega]; exact hk
theorem findBack_no {α : Type} {l : List α} {p : α → Bool} (h : ∀ (j : Nat) (a : α), 0 ≤ j → l[j]? = some a → p a = false) : l.reverse.find? p = none := by
  rw [List.find?_eq_none]
  intro x hx
  obtain ⟨j, hj, rfl⟩ := List.getElem_of_mem (List.mem_reverse.1 hx)
  simp [h j _ (Nat.zero_le _) (List.getElem?_eq_getElem hj)]

theorem findKey_lt {keys : List KH} {k : Int} {i : Nat} (h : findKey keys k = some i) : i < keys.length := by
  unfold findKey at h
  exact (List.findIdx?_eq_some_iff_getElem.1 h).1
theorem versOf_none {keys : List KH} {k : Int} (h : findKey keys k = none) : versOf keys k = [] := by
  unfold findKey at h
  rw [List.findIdx?_eq_none_iff] at h
  have : keys.find? (fun h => h.key == k) = none := by
    rw [List.find?_eq_none]; intro x hx; simp [h x hx]
  unfold versOf; rw [this]
theorem versOf_some {keys : List KH} {k : Int} {i : Nat} {x : KH} (h : findKey keys k = some i) (hx : keys[i]? = some x) : versOf keys k = x.vers := by
  unfold findKey at h
  obtain ⟨hlt, hp, hno⟩ := List.findIdx?_eq_some_iff_getElem.1 h
  have : keys.find? (fun h => h.key == k) = some x := by
    refine find_at (k := i) ?_ hx ?_
    · intro j a hj ha
      have := hno j hj
      obtain ⟨hjl, rfl⟩ := List.getElem?_eq_some_iff.1 ha
      simpa using this
    · obtain ⟨_, rfl⟩ := List.getElem?_eq_some_iff.1 hx; exact hp
  unfold versOf; rw [this]

set_option maxHeartbeats 8000000 in
set_option maxRecDepth 100000 in
theorem step_read {B : Nat} {w : World} {bs : Nat} {clock : Int} {kv tv : Value} {ck : List (KH × Value)} {ct : List (Txn × Value)} (h : StoM B w bs clock kv tv ck ct) (hB : B ≤ w.heap.size) (tx key val : Int) (i : Nat) (t : Txn) (hd : Value) (hf : actTx (ct.map (·.1)) tx = some i) (hp : ct[i]? = some (t, hd)) (hn : ct.length ≤ 1000000) (hb : t.buf.length ≤ 1000000) (hnk : ck.length ≤ 1000000000) (hv : ∀ p ∈ ck, p.1.vers.length ≤ 1000000000) :
    Calls Yahh.prog 47 #[.pointer (some ⟨bs, 0, none⟩), .agg #[.int .i64 1, .int .i64 tx, .int .i64 key, .int .i64 val]] w fun e w' => e = .returned (resV (readI (ck.map (·.1)) t key)) ∧ StepPost B w bs ⟨clock, ck.map (·.1), ct.map (·.1)⟩ w' := by
  have hM := (h.alloc (Obj.cells #[.int .i64 1, .int .i64 tx, .int .i64 key, .int .i64 val] 35)).alloc (Obj.cells #[.int .i64 0, .int .i64 0] 37)
  have hfc := activeTx_any hM tx hn
  rw [hf] at hfc
  have k0 : Keep B stoT w ((w.alloc (Obj.cells #[.int .i64 1, .int .i64 tx, .int .i64 key, .int .i64 val] 35)).alloc (Obj.cells #[.int .i64 0, .int .i64 0] 37)) := ((Keep.refl _ _ _).alloc hB _).alloc (by simp; omega) _
  have ho := alloc_keep (heap_alloc_new w (Obj.cells #[.int .i64 1, .int .i64 tx, .int .i64 key, .int .i64 val] 35)) (Obj.cells #[.int .i64 0, .int .i64 0] 37)
  have hr := heap_alloc_new (w.alloc (Obj.cells #[.int .i64 1, .int .i64 tx, .int .i64 key, .int .i64 val] 35)) (Obj.cells #[.int .i64 0, .int .i64 0] 37)
  rw [World.size_alloc] at hr
  have Ho := hid ho
  have Hr := hid hr
  clear hf ho hr
  have hi : i < ct.length := (List.getElem?_eq_some_iff.1 hp).1
  have hil : (i : Int) < (ct.length : Int) := by omega
  have Hv := hid hv
  clear hv
  go_enter Yahh.func47, Yahh.ntmps47
  go_wp2_with fail
  refine hfc.mono ?_
  rintro e w1 ⟨rfl, rfl⟩
  simp only [idxI]
  generalize hW : (w.alloc (Obj.cells #[.int .i64 1, .int .i64 tx, .int .i64 key, .int .i64 val] 35)).alloc (Obj.cells #[.int .i64 0, .int .i64 0] 37) = W at *
  clear hW hfc
  have c2 := hM.c2
  have htx := hM.txs
  have hbuf := hM.bufs i _ hp
  obtain ⟨ad, cap, g, htv, had⟩ := own_shape htx
  obtain ⟨bd, bcap, bg, hbv, hbd⟩ := own_shape hbuf
  simp only [] at hbv
  subst htv
  subst hbv
  obtain rfl := had (by omega)
  have hc3 := row_cell txC_len htx hp (j := 3) (by omega) rfl
  have hcs := row_cell txC_len htx hp (j := 2) (by omega) rfl
  have Hp := hid hp
  have Hb := hid hbuf
  clear hp htx hbuf had
  go_wp2_with fail
  go_loopw [7] (fun j wr => SearchN W t.buf (fun y => y.key == key) j wr) (fun j _ => t.buf.length - (intOf j).toNat)
  case atStart => exact ⟨0, 0, rfl, Nat.zero_le _, fun j a hj => by omega, rfl⟩
  case round =>
    obtain ⟨m, nq, rfl, hm, hno, rfl⟩ := hrel
    have o2 := cell_of_row W w.heap.size 2 _ _ _ Ho.out
    have rr := hid (show (W.drewN nq).heap[w.heap.size + 1]? = _ from Hr.out)
    have x0 := cell_of_row W (w.heap.size + 1) 0 _ _ _ Hr.out
    have x1 := cell_of_row W (w.heap.size + 1) 1 _ _ _ Hr.out
    have y0 := frozen_of_row W (w.heap.size + 1) 0 _ _ Hr.out
    have y1 := frozen_of_row W (w.heap.size + 1) 1 _ _ Hr.out
    simp only [List.getElem?_toArray, List.getElem?_cons_succ, List.getElem?_cons_zero] at o2 x0 x1
    by_cases hlt : m < t.buf.length
    · obtain ⟨y, hy⟩ : ∃ y, t.buf[m]? = some y := ⟨_, List.getElem?_eq_getElem hlt⟩
      obtain rfl := hbd (by omega)
      have hy0 := row_cell wrC_len Hb.out hy (j := 0) (by omega) rfl
      have hy1 := row_cell wrC_len Hb.out hy (j := 1) (by omega) rfl
      have hy2 := row_cell wrC_len Hb.out hy (j := 2) (by omega) rfl
      rw [Nat.add_zero] at hy0
      have hml : (m : Int) < (t.buf.length : Int) := by omega
      have hm0 : (0 : Int) ≤ (m : Int) := by omega
      have Hy := hid hy
      have Hno := hid hno
      clear hy hno hbd
      by_cases hq : (y.key == key) = true
      · have hR : readI (ck.map (·.1)) t key = ansV y.del y.val := by
          unfold readI; rw [find_at Hno.out Hy.out hq]
        have HR := hid hR
        clear hR
        cases hdel : y.del with
        | true =>
          rw [hdel] at hy1 HR
          clear hdel
          go_wp2_with fail
          go_quiet (fail)
          go_wp2
          exact bodyPost_ret (v := resV _) (res_run rfl (W := W.drewN _) Hr.out rfl _ _) rfl ⟨(by first | (rw [HR.out]; done) | (rw [HR.out]; rfl)), step_fin ⟨_, _, _, _, hM.drewN _, rfl, rfl⟩ (k0.drewN _) Hr.out (by omega) hB _ _⟩
        | false =>
          rw [hdel] at hy1 HR
          clear hdel
          go_wp2_with fail
          go_quiet (fail)
          go_wp2
          exact bodyPost_ret (v := resV _) (res_run rfl (W := W.drewN _) Hr.out rfl _ _) rfl ⟨(by first | (rw [HR.out]; done) | (rw [HR.out]; rfl)), step_fin ⟨_, _, _, _, hM.drewN _, rfl, rfl⟩ (k0.drewN _) Hr.out (by omega) hB _ _⟩
      · have hq' : (y.key == key) = false := by simpa using hq
        go_wp2_with fail
        go_quiet (fail)
        go_wp2
        refine ⟨⟨m + 1, _, by go_num, by omega, ?_, rfl⟩, by simp [intOf]; omega⟩
        intro j a hj ha
        by_cases hjk : j = m
        · subst hjk; rw [Hy.out] at ha; simp at ha; subst ha; exact hq'
        · exact Hno.out j a (by omega) ha
    · obtain rfl : m = t.buf.length := by omega
      have hbn : t.buf.find? (fun y => y.key == key) = none := find_no hno
      have Hbn := hid hbn
      clear hno hbn
      have hkc := findKey_any (hM.drewN nq) key hnk
      cases hfk : findKey (ck.map (·.1)) key with
      | none =>
        have hR : readI (ck.map (·.1)) t key = (1, 0) := by
          have hv0 : versOf (ck.map (·.1)) key = [] := versOf_none hfk
          unfold readI; rw [Hbn.out]; simp only [hv0]; rfl
        have HR := hid hR
        rw [hfk] at hkc
        clear hR hfk
        go_wp2_with fail
        refine hkc.mono ?_
        rintro e w1 ⟨rfl, rfl⟩
        simp only [idxI]
        go_wp2
        exact bodyPost_ret (v := resV _) (res_run rfl (W := W.drewN _) Hr.out rfl _ _) rfl ⟨(by first | (rw [HR.out]; done) | (rw [HR.out]; rfl)), step_fin ⟨_, _, _, _, hM.drewN _, rfl, rfl⟩ (k0.drewN _) Hr.out (by omega) hB _ _⟩
      | some ki =>
        obtain ⟨p, hpk⟩ : ∃ p, ck[ki]? = some p := by
          have := findKey_lt hfk
          exact ⟨_, List.getElem?_eq_getElem (by simpa using this)⟩
        have hvo : versOf (ck.map (·.1)) key = p.1.vers := versOf_some hfk (by rw [List.getElem?_map, hpk]; rfl)
        have hvl : p.1.vers.length ≤ 1000000000 := Hv.out p (List.mem_of_getElem? hpk)
        have hki : ki < ck.length := (List.getElem?_eq_some_iff.1 hpk).1
        have hkil : (ki : Int) < (ck.length : Int) := by omega
        rw [hfk] at hkc
        have c1 := hM.c1
        have hks := hM.keys
        have hvs := hM.vers ki _ hpk
        obtain ⟨kd, kcap, kg, hkv, hkd⟩ := own_shape hks
        obtain ⟨vd, vcap, vg, hvv, hvd⟩ := own_shape hvs
        subst hkv
        obtain rfl := hkd (by omega)
        have hk1 := row_cell khC_len hks hpk (j := 1) (by omega) rfl
        rw [hvv] at hk1
        rw [hvv] at hvs
        have Hvs := hid hvs
        have Hvo := hid hvo
        clear hfk hks hvs hpk hvv hvo hkd
        go_wp2_with fail
        refine hkc.mono ?_
        rintro e w1 ⟨rfl, rfl⟩
        simp only [idxI]
        clear hkc
        go_wp2_with fail
        go_loopw [11] (fun j wr => SearchBack W p.1.vers (fun v => decide (v.ts ≤ t.snap)) j wr) (fun j _ => (intOf j + 1).toNat)
        case atStart => exact ⟨p.1.vers.length, _, rfl, Nat.le_refl _, (fun j a hj ha => by rw [List.getElem?_eq_none hj] at ha; cases ha), rfl⟩
        case round =>
          obtain ⟨m, nq2, rfl, hm2, hno2, rfl⟩ := hrel
          by_cases hm0 : 0 < m
          · obtain ⟨m, rfl⟩ : ∃ m', m = m' + 1 := ⟨m - 1, by omega⟩
            obtain ⟨v, hvm⟩ : ∃ v, p.1.vers[m]? = some v := ⟨_, List.getElem?_eq_getElem (by omega)⟩
            obtain rfl := hvd (by omega)
            have hv0 := row_cell verC_len Hvs.out hvm (j := 0) (by omega) rfl
            have hv1 := row_cell verC_len Hvs.out hvm (j := 1) (by omega) rfl
            have hv2 := row_cell verC_len Hvs.out hvm (j := 2) (by omega) rfl
            rw [Nat.add_zero] at hv0
            have Hvm := hid hvm
            have Hno2 := hid hno2
            clear hvm hno2 hvd
            by_cases hts : v.ts ≤ t.snap
            · have hR : readI (ck.map (·.1)) t key = ansV v.del v.val := by
                unfold readI; rw [Hbn.out, Hvo.out, findBack_at Hno2.out Hvm.out (by simpa using hts)]
              have HR := hid hR
              clear hR
              cases hdel : v.del with
              | true =>
                rw [hdel] at hv1 HR
                clear hdel
                go_wp2
                exact bodyPost_ret (v := resV _) (res_run rfl (W := W.drewN _) Hr.out rfl _ _) rfl ⟨(by first | (rw [HR.out]; done) | (rw [HR.out]; rfl)), step_fin ⟨_, _, _, _, hM.drewN _, rfl, rfl⟩ (k0.drewN _) Hr.out (by omega) hB _ _⟩
              | false =>
                rw [hdel] at hv1 HR
                clear hdel
                go_wp2
                exact bodyPost_ret (v := resV _) (res_run rfl (W := W.drewN _) Hr.out rfl _ _) rfl ⟨(by first | (rw [HR.out]; done) | (rw [HR.out]; rfl)), step_fin ⟨_, _, _, _, hM.drewN _, rfl, rfl⟩ (k0.drewN _) Hr.out (by omega) hB _ _⟩
            · go_wp2
              refine ⟨⟨m, _, by go_num, by omega, ?_, rfl⟩, by first | (simp [intOf]; done) | (simp [intOf]; omega)⟩
              intro j a hj ha
              by_cases hjk : j = m
              · subst hjk; rw [Hvm.out] at ha; simp at ha; subst ha; simp; omega
              · exact Hno2.out j a (by omega) ha
          · obtain rfl : m = 0 := by omega
            have hR : readI (ck.map (·.1)) t key = (1, 0) := by
              unfold readI; rw [Hbn.out, Hvo.out, findBack_no hno2]
            have HR := hid hR
            clear hR hno2
            go_wp2
            exact bodyPost_ret (v := resV _) (res_run rfl (W := W.drewN _) Hr.out rfl _ _) rfl ⟨(by first | (rw [HR.out]; done) | (rw [HR.out]; rfl)), step_fin ⟨_, _, _, _, hM.drewN _, rfl, rfl⟩ (k0.drewN _) Hr.out (by omega) hB _ _⟩
end Go.Proofs.Yafahw
