/- (*world).step (48): the whole contract. -/
import Derived.Test.YafahwWldStepD
import Derived.Test.YafahwPlain3
namespace Go.Proofs.Yafahw
open Go.RowKit
set_option linter.unusedVariables false
set_option linter.unusedSimpArgs false

theorem map_at' {α : Type} {l : List (α × Value)} {i : Nat} {t : α} (h : (l.map (·.1))[i]? = some t) : ∃ hd, l[i]? = some (t, hd) := by
  rw [List.getElem?_map] at h
  cases hp : l[i]? with
  | none => rw [hp] at h; cases h
  | some p => rw [hp] at h; simp at h; exact ⟨p.2, by rw [← h]⟩

theorem stepS_any {B : Nat} {w : World} {bw : Nat} {s : Wld} (hs : WldAt B w bw s) (hB : B ≤ w.heap.size) (hsm : SmallW 20000 s) (o : POp) :
    Calls Yahh.prog 48 #[.pointer (some ⟨bw, 0, none⟩), opV o] w fun e w' => e = .returned (resV (stepS s o).2) ∧ StepPostS B w bw (stepS s o).1 w' := by
  obtain ⟨kind, tx, key, val⟩ := o
  obtain ⟨txs, log⟩ := s
  obtain ⟨tv, lv, ct, cl, h, hk, ht⟩ := hs
  simp only [] at hk ht
  subst hk
  subst ht
  have hn : ct.length ≤ 1000000 := by have := hsm.tx; simp at this; omega
  have hln : cl.length ≤ 1000000 := by have := hsm.log; simp at this; omega
  have hlw : ∀ p ∈ cl, p.1.writes.length ≤ 1000000 := fun p hp => by
    have := hsm.wr p.1 (List.mem_map.2 ⟨p, hp, rfl⟩); omega
  unfold opV
  simp only []
  have hcl : (cl.map (·.1)).length = cl.length := by simp
  by_cases k0 : kind = 0
  · subst k0
    cases hf : findTx (ct.map (·.1)) tx with
    | some i =>
      have e : stepS ⟨ct.map (·.1), cl.map (·.1)⟩ ⟨0, tx, key, val⟩ = (⟨ct.map (·.1), cl.map (·.1)⟩, (2, 0)) := by simp [stepS, hf]
      rw [e]
      exact stepS_begin_hit h hB tx key val i hf hn
    | none =>
      have e : stepS ⟨ct.map (·.1), cl.map (·.1)⟩ ⟨0, tx, key, val⟩ = (⟨ct.map (·.1) ++ [⟨tx, true, (cl.length : Int), []⟩], cl.map (·.1)⟩, (0, (cl.length : Int))) := by simp [stepS, hf]
      rw [e]
      exact stepS_begin_miss h hB tx key val hf hn hln
  have hk0 : (kind == 0) = false := by simp [k0]
  cases hf : findTx (ct.map (·.1)) tx with
  | none =>
    have e : stepS ⟨ct.map (·.1), cl.map (·.1)⟩ ⟨kind, tx, key, val⟩ = (⟨ct.map (·.1), cl.map (·.1)⟩, (2, 0)) := by simp [stepS, hf, k0]
    rw [e]
    exact stepS_none h hB tx key val kind hk0 hf hn
  | some i =>
    have hi := findTx_lt hf
    obtain ⟨t, hti⟩ : ∃ t, (ct.map (·.1))[i]? = some t := ⟨_, List.getElem?_eq_getElem hi⟩
    obtain ⟨hd, hp⟩ := map_at' hti
    have hb : t.buf.length ≤ 1000000 := by have := hsm.buf t (List.mem_of_getElem? hti); omega
    have e : stepS ⟨ct.map (·.1), cl.map (·.1)⟩ ⟨kind, tx, key, val⟩ =
        (if t.active = false then (⟨ct.map (·.1), cl.map (·.1)⟩, (2, 0))
        else if kind = 1 then (⟨ct.map (·.1), cl.map (·.1)⟩, ansP (readS (cl.map (·.1)) t key))
        else if kind = 2 then (⟨(ct.map (·.1)).set i ⟨t.id, true, t.snap, t.buf ++ [⟨key, false, val⟩]⟩, cl.map (·.1)⟩, (0, 0))
        else if kind = 3 then (⟨(ct.map (·.1)).set i ⟨t.id, true, t.snap, t.buf ++ [⟨key, true, 0⟩]⟩, cl.map (·.1)⟩, (0, 0))
        else if kind = 5 then (⟨(ct.map (·.1)).set i ⟨t.id, false, t.snap, t.buf⟩, cl.map (·.1)⟩, (0, 0))
        else if kind = 4 then
          if conflictS (cl.map (·.1)) t then (⟨(ct.map (·.1)).set i ⟨t.id, false, t.snap, t.buf⟩, cl.map (·.1)⟩, (3, 0))
          else (⟨(ct.map (·.1)).set i ⟨t.id, false, t.snap, t.buf⟩, cl.map (·.1) ++ [⟨(cl.length : Int) + 1, t.buf⟩]⟩, (0, (cl.length : Int) + 1))
        else (⟨ct.map (·.1), cl.map (·.1)⟩, (2, 0))) := by
      unfold stepS
      simp only [k0, if_false, hf, hti, hcl]
    rw [e]
    by_cases hact : t.active = false
    · simp only [hact, if_true]
      exact stepS_dead h hB tx key val kind hk0 i t hd hf hp hn hact
    simp only [hact, if_false]
    have hact' : t.active = true := by simpa using hact
    by_cases k1 : kind = 1
    · subst k1; simp only [if_true]; exact stepS_read h hB tx key val i t hd hf hp hn hact' hb hln hlw
    simp only [k1, if_false]
    by_cases k2 : kind = 2
    · subst k2; simp only [if_true]; exact stepS_put2 h hB tx key val i t hd hf hp hn hact' hb
    simp only [k2, if_false]
    by_cases k3 : kind = 3
    · subst k3; simp only [if_true]; exact stepS_put3 h hB tx key val i t hd hf hp hn hact' hb
    simp only [k3, if_false]
    by_cases k5 : kind = 5
    · subst k5; simp only [if_true]; exact stepS_abort h hB tx key val i t hd hf hp hn hact'
    simp only [k5, if_false]
    by_cases k4 : kind = 4
    · subst k4; simp only [if_true]
      cases hc : conflictS (cl.map (·.1)) t with
      | true => simp only [if_true]; exact stepS_conf h hB tx key val i t hd hf hp hn hact' hb hln hlw hc
      | false => simp only [Bool.false_eq_true, if_false]; exact stepS_com h hB tx key val i t hd hf hp hn hact' hb hln hlw hc
    simp only [k4, if_false]
    exact stepS_other h hB tx key val kind hk0 (by simp [k1]) (by simp [k2]) (by simp [k3]) (by simp [k4]) (by simp [k5]) i t hd hf hp hn hact'
end Go.Proofs.Yafahw
