/- Walks of the store's small methods: findTx (58), findKey (60), activeTx (59). -/
import Derived.Test.YafahwHeap
import Derived.Deep.RegionHeld3
import Derived.Deep.DrawnRows
namespace Go.Proofs.Yafahw
open Go.RowKit
set_option linter.unusedVariables false
attribute [local go_sem ↓] Go.wp_at_zero Go.wp_at_succ

/-- a search from the left has come to k without a hit -/
def SearchR {α : Type} (w : World) (l : List α) (p : α → Bool) (i : Value) (wr : World) : Prop :=
  ∃ k : Nat, i = .int .i64 (k : Int) ∧ k ≤ l.length ∧ (∀ j a, j < k → l[j]? = some a → p a = false) ∧ wr = w

theorem find_hit {α : Type} {l : List α} {p : α → Bool} {k : Nat} {a : α} (h : ∀ j a, j < k → l[j]? = some a → p a = false) (hk : l[k]? = some a) (hp : p a = true) : l.findIdx? p = some k := by
  rw [List.findIdx?_eq_some_iff_getElem]
  obtain ⟨hlt, rfl⟩ := List.getElem?_eq_some_iff.1 hk
  refine ⟨hlt, hp, fun j hj => ?_⟩
  have := h j _ hj (List.getElem?_eq_getElem (by omega))
  simp [this]
theorem find_miss {α : Type} {l : List α} {p : α → Bool} (h : ∀ j a, j < l.length → l[j]? = some a → p a = false) : l.findIdx? p = none := by
  rw [List.findIdx?_eq_none_iff]
  intro x hx
  obtain ⟨j, hj, rfl⟩ := List.getElem_of_mem hx
  exact h j _ hj (List.getElem?_eq_getElem hj)

theorem findTx_pairs (ct : List (Txn × Value)) (id : Int) : findTx (ct.map (·.1)) id = ct.findIdx? (fun p => p.1.id == id) := by
  unfold findTx; rw [List.findIdx?_map]; rfl
theorem findKey_pairs (ck : List (KH × Value)) (k : Int) : findKey (ck.map (·.1)) k = ck.findIdx? (fun p => p.1.key == k) := by
  unfold findKey; rw [List.findIdx?_map]; rfl

set_option maxHeartbeats 1000000 in
set_option maxRecDepth 100000 in
theorem findTx_any {B : Nat} {w : World} {bs : Nat} {clock : Int} {kv tv : Value} {ck : List (KH × Value)} {ct : List (Txn × Value)} (h : StoM B w bs clock kv tv ck ct) (id : Int) (hn : ct.length ≤ 1000000) :
    Calls Yahh.prog 58 #[.pointer (some ⟨bs, 0, none⟩), .int .i64 id] w fun e w' => e = .returned (.int .i64 (idxI (findTx (ct.map (·.1)) id))) ∧ w' = w := by
  have c2 := h.c2
  have htx := h.txs
  obtain ⟨ad, cap, g, rfl, had⟩ := own_shape htx
  clear h
  go_enter Yahh.func58, Yahh.ntmps58
  go_wp2
  go_loopw [5] (fun i wr => SearchR w ct (fun p => p.1.id == id) i wr) (fun i _ => ct.length - (intOf i).toNat)
  case atStart => exact ⟨0, rfl, Nat.zero_le _, fun j a hj => by omega, rfl⟩
  case round =>
    obtain ⟨k, rfl, hk, hno, rfl⟩ := hrel
    by_cases hlt : k < ct.length
    · obtain ⟨p, hp⟩ : ∃ p, ct[k]? = some p := ⟨_, List.getElem?_eq_getElem hlt⟩
      obtain rfl := had (by omega)
      have hc0 := row_cell txC_len htx hp (j := 0) (by omega) rfl
      rw [Nat.add_zero] at hc0
      have Hp := hid hp
      have Hno := hid hno
      clear hp hno
      by_cases hq : (p.1.id == id) = true
      · go_wp2
        go_ret
        refine ⟨?_, rfl⟩
        rw [findTx_pairs, find_hit Hno.out Hp.out hq]
        rfl
      · have hq' : (p.1.id == id) = false := by simpa using hq
        go_wp2
        refine ⟨⟨k + 1, by go_num, by omega, ?_, rfl⟩, by simp [intOf]; omega⟩
        intro j a hj ha
        by_cases hjk : j = k
        · subst hjk; rw [Hp.out] at ha; simp at ha; subst ha; exact hq'
        · exact Hno.out j a (by omega) ha
    · obtain rfl : k = ct.length := by omega
      have Hno := hid hno
      clear hno
      go_wp2
      go_ret
      refine ⟨?_, rfl⟩
      rw [findTx_pairs, find_miss Hno.out]
      rfl
set_option maxHeartbeats 1000000 in
set_option maxRecDepth 100000 in
theorem findKey_any {B : Nat} {w : World} {bs : Nat} {clock : Int} {kv tv : Value} {ck : List (KH × Value)} {ct : List (Txn × Value)} (h : StoM B w bs clock kv tv ck ct) (k0 : Int) (hn : ck.length ≤ 1000000000) :
    Calls Yahh.prog 60 #[.pointer (some ⟨bs, 0, none⟩), .int .i64 k0] w fun e w' => e = .returned (.int .i64 (idxI (findKey (ck.map (·.1)) k0))) ∧ w' = w := by
  have c1 := h.c1
  have htx := h.keys
  obtain ⟨ad, cap, g, rfl, had⟩ := own_shape htx
  clear h
  go_enter Yahh.func60, Yahh.ntmps60
  go_wp2
  go_loopw [5] (fun i wr => SearchR w ck (fun p => p.1.key == k0) i wr) (fun i _ => ck.length - (intOf i).toNat)
  case atStart => exact ⟨0, rfl, Nat.zero_le _, fun j a hj => by omega, rfl⟩
  case round =>
    obtain ⟨k, rfl, hk, hno, rfl⟩ := hrel
    by_cases hlt : k < ck.length
    · obtain ⟨p, hp⟩ : ∃ p, ck[k]? = some p := ⟨_, List.getElem?_eq_getElem hlt⟩
      obtain rfl := had (by omega)
      have hc0 := row_cell khC_len htx hp (j := 0) (by omega) rfl
      rw [Nat.add_zero] at hc0
      have Hp := hid hp
      have Hno := hid hno
      clear hp hno
      by_cases hq : (p.1.key == k0) = true
      · go_wp2
        go_ret
        refine ⟨?_, rfl⟩
        rw [findKey_pairs, find_hit Hno.out Hp.out hq]
        rfl
      · have hq' : (p.1.key == k0) = false := by simpa using hq
        go_wp2
        refine ⟨⟨k + 1, by go_num, by omega, ?_, rfl⟩, by simp [intOf]; omega⟩
        intro j a hj ha
        by_cases hjk : j = k
        · subst hjk; rw [Hp.out] at ha; simp at ha; subst ha; exact hq'
        · exact Hno.out j a (by omega) ha
    · obtain rfl : k = ck.length := by omega
      have Hno := hid hno
      clear hno
      go_wp2
      go_ret
      refine ⟨?_, rfl⟩
      rw [findKey_pairs, find_miss Hno.out]
      rfl

theorem findTx_lt {txs : List Txn} {id : Int} {i : Nat} (h : findTx txs id = some i) : i < txs.length := by
  unfold findTx at h
  exact (List.findIdx?_eq_some_iff_getElem.1 h).1

set_option maxHeartbeats 1000000 in
set_option maxRecDepth 100000 in
theorem activeTx_any {B : Nat} {w : World} {bs : Nat} {clock : Int} {kv tv : Value} {ck : List (KH × Value)} {ct : List (Txn × Value)} (h : StoM B w bs clock kv tv ck ct) (id : Int) (hn : ct.length ≤ 1000000) :
    Calls Yahh.prog 59 #[.pointer (some ⟨bs, 0, none⟩), .int .i64 id] w fun e w' => e = .returned (.int .i64 (idxI (actTx (ct.map (·.1)) id))) ∧ w' = w := by
  have c2 := h.c2
  have htx := h.txs
  obtain ⟨ad, cap, g, htv, had⟩ := own_shape htx
  cases hf : findTx (ct.map (·.1)) id with
  | none =>
    have ha : actTx (ct.map (·.1)) id = none := by unfold actTx; rw [hf]
    have Ha := hid ha
    have hfc := findTx_any h id hn
    rw [hf] at hfc
    clear ha hf htx had c2 htv
    go_enter Yahh.func59, Yahh.ntmps59
    go_wp2_with fail
    refine hfc.mono ?_
    rintro e w1 ⟨rfl, rfl⟩
    simp only [idxI]
    go_wp2
    go_ret
    exact ⟨by rw [Ha.out]; rfl, rfl⟩
  | some i =>
    have hi : i < ct.length := by have := findTx_lt hf; simpa using this
    obtain ⟨p, hp⟩ : ∃ p, ct[i]? = some p := ⟨_, List.getElem?_eq_getElem hi⟩
    have ha : actTx (ct.map (·.1)) id = if p.1.active = true then some i else none := by
      unfold actTx; rw [hf]; simp only [List.getElem?_map, hp, Option.map_some]
    have Ha := hid ha
    have hfc := findTx_any h id hn
    rw [hf] at hfc
    subst htv
    obtain rfl := had (by omega)
    have hc1 := row_cell txC_len htx hp (j := 1) (by omega) rfl
    have hil : (i : Int) < (ct.length : Int) := by omega
    clear ha hf htx had
    cases hact : p.1.active with
    | true =>
      rw [hact] at hc1
      rw [hact] at Ha
      have Hact := hid hact
      clear hact
      go_enter Yahh.func59, Yahh.ntmps59
      go_wp2_with fail
      refine hfc.mono ?_
      rintro e w1 ⟨rfl, rfl⟩
      simp only [idxI]
      go_wp2
      go_ret
      exact ⟨by rw [Ha.out]; rfl, rfl⟩
    | false =>
      rw [hact] at hc1
      rw [hact] at Ha
      have Hact := hid hact
      clear hact
      go_enter Yahh.func59, Yahh.ntmps59
      go_wp2_with fail
      refine hfc.mono ?_
      rintro e w1 ⟨rfl, rfl⟩
      simp only [idxI]
      go_wp2
      go_ret
      exact ⟨by rw [Ha.out]; rfl, rfl⟩
end Go.Proofs.Yafahw
