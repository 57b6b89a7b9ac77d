/- (*store).step (47): the whole contract. -/
import Derived.Test.YafahwStepCommit
namespace Go.Proofs.Yafahw
open Go.RowKit
set_option linter.unusedVariables false

theorem map_at {α : Type} {l : List (α × Value)} {i : Nat} {t : α} (h : (l.map (·.1))[i]? = some t) : ∃ hd, l[i]? = some (t, hd) := by
  rw [List.getElem?_map] at h
  cases hp : l[i]? with
  | none => rw [hp] at h; cases h
  | some p => rw [hp] at h; simp at h; exact ⟨p.2, by rw [← h]⟩

theorem step_any {B : Nat} {w : World} {bs : Nat} {s : Sto} (hs : StoAt B w bs s) (hB : B ≤ w.heap.size) (hsm : Small 20000 s) (o : POp) :
    Calls Yahh.prog 47 #[.pointer (some ⟨bs, 0, none⟩), opV o] w fun e w' => e = .returned (resV (stepI s o).2) ∧ StepPost B w bs (stepI s o).1 w' := by
  obtain ⟨kind, tx, key, val⟩ := o
  obtain ⟨clock, keys, txs⟩ := s
  obtain ⟨kv, tv, ck, ct, h, hk, ht⟩ := hs
  simp only [] at hk ht
  subst hk
  subst ht
  simp only [] at h
  have hn : ct.length ≤ 1000000 := by have := hsm.tx; simp at this; omega
  have hnk : ck.length ≤ 900000000 := by have := hsm.keys; simp at this; omega
  have hv : ∀ p ∈ ck, p.1.vers.length ≤ 900000000 := fun p hp => by
    have := hsm.vers p.1 (List.mem_map.2 ⟨p, hp, rfl⟩); omega
  have hc0 := hsm.c0
  have hc1 := hsm.c1
  simp only [] at hc0 hc1
  unfold opV
  simp only []
  by_cases k0 : kind = 0
  · subst k0
    cases hf : findTx (ct.map (·.1)) tx with
    | some i =>
      have e : stepI ⟨clock, ck.map (·.1), ct.map (·.1)⟩ ⟨0, tx, key, val⟩ = (⟨clock, ck.map (·.1), ct.map (·.1)⟩, (2, 0)) := by simp [stepI, hf]
      rw [e]
      exact step_begin_hit h hB tx key val i hf hn
    | none =>
      have e : stepI ⟨clock, ck.map (·.1), ct.map (·.1)⟩ ⟨0, tx, key, val⟩ = (⟨clock, ck.map (·.1), ct.map (·.1) ++ [⟨tx, true, clock, []⟩]⟩, (0, clock)) := by simp [stepI, hf]
      rw [e]
      exact step_begin_miss h hB tx key val hf hn
  cases ha : actTx (ct.map (·.1)) tx with
  | none =>
    have e := stepI_inv (s := ⟨clock, ck.map (·.1), ct.map (·.1)⟩) (o := ⟨kind, tx, key, val⟩) k0 ha
    rw [e]
    by_cases k1 : kind = 1
    · subst k1; exact step_inv1 h hB tx key val ha hn
    by_cases k2 : kind = 2
    · subst k2; exact step_inv2 h hB tx key val ha hn
    by_cases k3 : kind = 3
    · subst k3; exact step_inv3 h hB tx key val ha hn
    by_cases k4 : kind = 4
    · subst k4; exact step_inv4 h hB tx key val ha hn
    by_cases k5 : kind = 5
    · subst k5; exact step_inv5 h hB tx key val ha hn
    exact step_other h hB tx key val kind (by simp [k0]) (by simp [k1]) (by simp [k2]) (by simp [k3]) (by simp [k4]) (by simp [k5])
  | some i =>
    obtain ⟨_, t, hti, _⟩ := actTx_some ha
    obtain ⟨hd, hp⟩ := map_at hti
    obtain ⟨hact, e⟩ := stepI_act (s := ⟨clock, ck.map (·.1), ct.map (·.1)⟩) (o := ⟨kind, tx, key, val⟩) k0 ha hti
    rw [e]
    have hb : t.buf.length ≤ 1000000 := by have := hsm.buf t (List.mem_of_getElem? hti); omega
    by_cases k1 : kind = 1
    · subst k1; simp only [if_true]; exact step_read h hB tx key val i t hd ha hp hn hb (by omega) (fun p hp => by have := hv p hp; omega)
    simp only [k1, if_false]
    by_cases k2 : kind = 2
    · subst k2; simp only [if_true]
      have := step_put2 h hB tx key val i t hd ha hp hn hb
      rw [hact] at this; exact this
    simp only [k2, if_false]
    by_cases k3 : kind = 3
    · subst k3; simp only [if_true]
      have := step_put3 h hB tx key val i t hd ha hp hn hb
      rw [hact] at this; exact this
    simp only [k3, if_false]
    by_cases k4 : kind = 4
    · subst k4; simp only [if_true]
      cases hc : conflictI (ck.map (·.1)) t.snap t.buf with
      | true => simp only [if_true]; exact step_conflict h hB tx key val i t hd ha hp hn hb hnk hv hc
      | false => simp only [Bool.false_eq_true, if_false]; exact step_commit h hB tx key val i t hd ha hp hn hb hnk hv hc hc0 (by omega)
    simp only [k4, if_false]
    by_cases k5 : kind = 5
    · subst k5; simp only [if_true]; exact step_abort h hB tx key val i t hd ha hp hn
    simp only [k5, if_false]
    exact step_other h hB tx key val kind (by simp [k0]) (by simp [k1]) (by simp [k2]) (by simp [k3]) (by simp [k4]) (by simp [k5])
end Go.Proofs.Yafahw
