/- The plain law behind Final: both programs give the ascending list of the keys whose last committed write is no delete. -/
import Derived.Test.YafahwPlain3
namespace Go.Proofs.Yafahw
set_option linter.unusedSimpArgs false

def Asc (l : List (Int × Int)) : Prop := l.Pairwise (fun a b => a.1 < b.1)

theorem asc_eq : ∀ {l m : List (Int × Int)}, Asc l → Asc m → (∀ c, c ∈ l ↔ c ∈ m) → l = m := by
  intro l
  induction l with
  | nil =>
    intro m _ _ h
    cases m with
    | nil => rfl
    | cons b m => exact absurd ((h b).2 (by simp)) (by simp)
  | cons a l ih =>
    intro m hl hm h
    cases m with
    | nil => exact absurd ((h a).1 (by simp)) (by simp)
    | cons b m =>
      have hl' := List.pairwise_cons.1 hl
      have hm' := List.pairwise_cons.1 hm
      have hab : a = b := by
        rcases List.mem_cons.1 ((h a).1 (by simp)) with e | e
        · exact e
        · rcases List.mem_cons.1 ((h b).2 (by simp)) with e' | e'
          · exact e'.symm
          · have := hm'.1 a e; have := hl'.1 b e'; omega
      subst hab
      rw [ih hl'.2 hm'.2 (fun c => ?_)]
      constructor
      · intro hc
        rcases List.mem_cons.1 ((h c).1 (by simp [hc])) with e | e
        · subst e; have := hl'.1 c hc; omega
        · exact e
      · intro hc
        rcases List.mem_cons.1 ((h c).2 (by simp [hc])) with e | e
        · subst e; have := hm'.1 c hc; omega
        · exact e

/-- c has sunk to place j of the ascending list l: no further -/
theorem ins_asc {l : List (Int × Int)} {c : Int × Int} {j : Nat} (hl : Asc l) (hk : ∀ x ∈ l, x.1 ≠ c.1) (hhi : ∀ x ∈ l.drop j, c.1 < x.1) (hlo : j = 0 ∨ ∃ y, l[j - 1]? = some y ∧ y.1 ≤ c.1) (hj : j ≤ l.length) : Asc (l.take j ++ c :: l.drop j) := by
  have hsp : Asc (l.take j ++ l.drop j) := by rw [List.take_append_drop]; exact hl
  obtain ⟨h1, h2, h3⟩ := List.pairwise_append.1 hsp
  refine List.pairwise_append.2 ⟨h1, List.pairwise_cons.2 ⟨fun x hx => hhi x hx, h2⟩, ?_⟩
  intro x hx y hy
  rcases List.mem_cons.1 hy with rfl | hy
  · rcases hlo with e | ⟨z, hz, hzc⟩
    · subst e; simp at hx
    · have hzl : z ∈ l := List.mem_of_getElem? hz
      have hzne := hk z hzl
      have hzt : z ∈ l.take j := by
        have hj1 : j - 1 < j := by
          have : j - 1 < l.length := (List.getElem?_eq_some_iff.1 hz).1
          rcases Nat.eq_zero_or_pos j with e | e
          · subst e; simp at hx
          · omega
        refine List.mem_of_getElem? (i := j - 1) ?_
        rw [List.getElem?_take, if_pos hj1]; exact hz
      -- x stands at or left of z
      obtain ⟨i, hi, hxi⟩ := List.getElem_of_mem hx
      have hil : i < j := by have := hi; simp at this; omega
      have hxl : l[i]? = some x := by
        rw [List.getElem_take] at hxi
        rw [List.getElem?_eq_getElem (by simp at hi; omega), hxi]
      by_cases e : i = j - 1
      · subst e; rw [hxl] at hz; simp at hz; subst hz; omega
      · have hlt : i < j - 1 := by omega
        obtain ⟨hi', rfl⟩ := List.getElem?_eq_some_iff.1 hxl
        obtain ⟨hj', rfl⟩ := List.getElem?_eq_some_iff.1 hz
        have := (List.pairwise_iff_getElem.1 hl) i (j - 1) hi' hj' hlt
        omega
  · exact h3 x hx y hy
theorem ins_mem {l : List (Int × Int)} {c : Int × Int} {j : Nat} (x : Int × Int) : x ∈ l.take j ++ c :: l.drop j ↔ x = c ∨ x ∈ l := by
  constructor
  · intro h
    rcases List.mem_append.1 h with h | h
    · exact .inr (List.mem_of_mem_take h)
    · rcases List.mem_cons.1 h with h | h
      · exact .inl h
      · exact .inr (List.mem_of_mem_drop h)
  · rintro (rfl | h)
    · simp
    · rw [← List.take_append_drop j l] at h
      rcases List.mem_append.1 h with h | h
      · simp [h]
      · simp [h]

/-- what the newest version says -/
def cur (l : List Ver) : Option Int :=
  match l.getLast? with
  | some v => if v.del then none else some v.val
  | none => none

/-- the answer of Final -/
def FinOf (look : Int → Option Int) (l : List (Int × Int)) : Prop := Asc l ∧ ∀ c, c ∈ l ↔ look c.1 = some c.2
theorem fin_eq {look : Int → Option Int} {l m : List (Int × Int)} (h : FinOf look l) (h' : FinOf look m) : l = m :=
  asc_eq h.1 h'.1 (fun c => by rw [h.2, h'.2])

/-! ### the store's side -/
/-- the keys below m are worked off -/
def KeysDone (keys : List KH) (m : Nat) (l : List (Int × Int)) : Prop :=
  Asc l ∧ ∀ c, c ∈ l ↔ ∃ i h, i < m ∧ keys[i]? = some h ∧ c.1 = h.key ∧ cur h.vers = some c.2

theorem versOf_at {keys : List KH} (hn : (keys.map (·.key)).Nodup) {i : Nat} {h : KH} (hi : keys[i]? = some h) : versOf keys h.key = h.vers := by
  have : keys.find? (fun x => x.key == h.key) = some h := by
    rw [List.find?_eq_some_iff_getElem]
    obtain ⟨hlt, rfl⟩ := List.getElem?_eq_some_iff.1 hi
    refine ⟨by simp, i, hlt, rfl, fun j hj => ?_⟩
    have := (List.pairwise_iff_getElem.1 hn) j i (by simp; omega) (by simpa using hlt) hj
    simpa using this
  unfold versOf; rw [this]
theorem versOf_nil {keys : List KH} {k : Int} (h : ∀ x ∈ keys, x.key ≠ k) : versOf keys k = [] := by
  have : keys.find? (fun x => x.key == k) = none := by
    rw [List.find?_eq_none]; intro x hx; simp [h x hx]
  unfold versOf; rw [this]
theorem keysDone_fin {keys : List KH} (hn : (keys.map (·.key)).Nodup) {l : List (Int × Int)} (h : KeysDone keys keys.length l) : FinOf (fun k => cur (versOf keys k)) l := by
  refine ⟨h.1, fun c => ?_⟩
  rw [h.2]
  constructor
  · rintro ⟨i, x, _, hx, hk, hc⟩
    show cur (versOf keys c.1) = some c.2
    rw [hk, versOf_at hn hx, hc]
  · intro hc
    simp only [] at hc
    by_cases hx : ∃ x ∈ keys, x.key = c.1
    · obtain ⟨x, hx, hk⟩ := hx
      obtain ⟨i, hi, rfl⟩ := List.getElem_of_mem hx
      refine ⟨i, _, hi, List.getElem?_eq_getElem hi, hk.symm, ?_⟩
      rw [← hc, ← hk, versOf_at hn (List.getElem?_eq_getElem hi)]
    · rw [versOf_nil (fun x hxm e => hx ⟨x, hxm, e⟩)] at hc
      simp [cur] at hc
theorem keysDone_skip {keys : List KH} {m : Nat} {l : List (Int × Int)} {x : KH} (h : KeysDone keys m l) (hx : keys[m]? = some x) (hc : cur x.vers = none) : KeysDone keys (m + 1) l := by
  refine ⟨h.1, fun c => ?_⟩
  rw [h.2]
  constructor
  · rintro ⟨i, y, hi, hy⟩; exact ⟨i, y, by omega, hy⟩
  · rintro ⟨i, y, hi, hy, hk, hcc⟩
    by_cases e : i = m
    · subst e; rw [hx] at hy; simp at hy; subst hy; rw [hc] at hcc; cases hcc
    · exact ⟨i, y, by omega, hy, hk, hcc⟩
theorem keysDone_fresh {keys : List KH} (hn : (keys.map (·.key)).Nodup) {m : Nat} {l : List (Int × Int)} {x : KH} (h : KeysDone keys m l) (hx : keys[m]? = some x) : ∀ y ∈ l, y.1 ≠ x.key := by
  intro y hy e
  obtain ⟨i, z, hi, hz, hk, _⟩ := (h.2 y).1 hy
  obtain ⟨hlt, rfl⟩ := List.getElem?_eq_some_iff.1 hz
  obtain ⟨hlt', rfl⟩ := List.getElem?_eq_some_iff.1 hx
  have := (List.pairwise_iff_getElem.1 hn) i m (by simpa using hlt) (by simpa using hlt') hi
  simp at this
  exact this (by rw [← hk, e])
theorem keysDone_ins {keys : List KH} (hn : (keys.map (·.key)).Nodup) {m : Nat} {l : List (Int × Int)} {x : KH} {v : Int} (h : KeysDone keys m l) (hx : keys[m]? = some x) (hc : cur x.vers = some v) {j : Nat} (hhi : ∀ y ∈ l.drop j, x.key < y.1) (hlo : j = 0 ∨ ∃ y, l[j - 1]? = some y ∧ y.1 ≤ x.key) (hj : j ≤ l.length) :
    KeysDone keys (m + 1) (l.take j ++ (x.key, v) :: l.drop j) := by
  refine ⟨ins_asc h.1 (keysDone_fresh hn h hx) hhi hlo hj, fun c => ?_⟩
  rw [ins_mem, h.2]
  constructor
  · rintro (rfl | ⟨i, y, hi, hy⟩)
    · exact ⟨m, x, by omega, hx, rfl, hc⟩
    · exact ⟨i, y, by omega, hy⟩
  · rintro ⟨i, y, hi, hy, hk, hcc⟩
    by_cases e : i = m
    · subst e; rw [hx] at hy; simp at hy; subst hy
      rw [hc] at hcc; simp at hcc
      left; obtain ⟨c1, c2⟩ := c; simp at hk hcc; simp [hk, hcc]
    · exact .inr ⟨i, y, by omega, hy, hk, hcc⟩

/-! ### the model's side: a list of cells -/
structure PC where
  key : Int
  val : Int
  present : Bool
def see (cs : List PC) (k : Int) : Bool × Int :=
  match cs.find? (fun c => c.key == k) with
  | some c => (c.present, c.val)
  | none => (false, 0)
/-- one write replayed -/
def repl (cs : List PC) (x : Wr) : List PC :=
  match cs.findIdx? (fun c => c.key == x.key) with
  | some i => cs.set i ⟨x.key, x.val, !x.del⟩
  | none => cs ++ [⟨x.key, x.val, !x.del⟩]
def NodupC (cs : List PC) : Prop := (cs.map (·.key)).Nodup

theorem repl_keys {cs : List PC} {x : Wr} (h : NodupC cs) : NodupC (repl cs x) := by
  unfold repl
  cases hf : cs.findIdx? (fun c => c.key == x.key) with
  | some i =>
    obtain ⟨hi, hp, _⟩ := List.findIdx?_eq_some_iff_getElem.1 hf
    simp only []
    unfold NodupC
    rw [List.map_set]
    have : ((cs.map (·.key)).set i x.key) = cs.map (·.key) := by
      apply List.ext_getElem?
      intro j
      rw [List.getElem?_set]
      split
      · rename_i e; subst e
        simp at hp
        simp [hi, hp]
      · rfl
    simp only [this]
    exact h
  | none =>
    rw [List.findIdx?_eq_none_iff] at hf
    simp only []
    unfold NodupC
    rw [List.map_append, List.nodup_append]
    refine ⟨h, by simp, ?_⟩
    intro a ha b hb
    simp at hb; subst hb
    obtain ⟨c, hc, rfl⟩ := List.mem_map.1 ha
    have := hf c hc
    simpa using this

theorem see_at {cs : List PC} (hn : NodupC cs) {i : Nat} {c : PC} (hi : cs[i]? = some c) : see cs c.key = (c.present, c.val) := by
  have : cs.find? (fun x => x.key == c.key) = some c := by
    rw [List.find?_eq_some_iff_getElem]
    obtain ⟨hlt, rfl⟩ := List.getElem?_eq_some_iff.1 hi
    refine ⟨by simp, i, hlt, rfl, fun j hj => ?_⟩
    have := (List.pairwise_iff_getElem.1 hn) j i (by simp; omega) (by simpa using hlt) hj
    simpa using this
  unfold see; rw [this]
theorem see_no {cs : List PC} {k : Int} (h : ∀ x ∈ cs, x.key ≠ k) : see cs k = (false, 0) := by
  have : cs.find? (fun x => x.key == k) = none := by
    rw [List.find?_eq_none]; intro x hx; simp [h x hx]
  unfold see; rw [this]

theorem see_repl {cs : List PC} (hn : NodupC cs) (x : Wr) (k : Int) : see (repl cs x) k = seeW k (see cs k) x := by
  have hn' := repl_keys (x := x) hn
  unfold seeW
  by_cases hk : x.key = k
  · simp only [hk, beq_self_eq_true, if_true]
    unfold repl at hn' ⊢
    cases hf : cs.findIdx? (fun c => c.key == x.key) with
    | some i =>
      obtain ⟨hi, hp, _⟩ := List.findIdx?_eq_some_iff_getElem.1 hf
      rw [hf] at hn'
      simp only [] at hn' ⊢
      have := see_at hn' (i := i) (c := ⟨x.key, x.val, !x.del⟩) (by simp [hi])
      rw [← hk]; exact this
    | none =>
      rw [hf] at hn'
      simp only [] at hn' ⊢
      have := see_at hn' (i := cs.length) (c := ⟨x.key, x.val, !x.del⟩) (by simp)
      rw [← hk]; exact this
  · have hk' : (x.key == k) = false := by simp [hk]
    simp only [hk', Bool.false_eq_true, if_false]
    -- the other cells are as they were
    by_cases hx : ∃ c ∈ cs, c.key = k
    · obtain ⟨c, hc, hck⟩ := hx
      obtain ⟨j, hj, rfl⟩ := List.getElem_of_mem hc
      have h1 := see_at hn (List.getElem?_eq_getElem hj)
      have h2 : (repl cs x)[j]? = some cs[j] := by
        unfold repl
        cases hf : cs.findIdx? (fun c => c.key == x.key) with
        | some i =>
          obtain ⟨hi, hp, _⟩ := List.findIdx?_eq_some_iff_getElem.1 hf
          simp only []
          have hne : i ≠ j := by
            intro e; subst e
            simp at hp
            exact hk (by rw [← hp, hck])
          rw [List.getElem?_set_ne hne, List.getElem?_eq_getElem hj]
        | none => simp only []; rw [List.getElem?_append_left hj, List.getElem?_eq_getElem hj]
      have h3 := see_at hn' h2
      rw [← hck, h1, h3]
    · have hno : ∀ c ∈ cs, c.key ≠ k := fun c hc e => hx ⟨c, hc, e⟩
      rw [see_no hno, see_no]
      intro c hc
      unfold repl at hc
      cases hf : cs.findIdx? (fun c => c.key == x.key) with
      | some i =>
        rw [hf] at hc
        simp only [] at hc
        rcases List.mem_or_eq_of_mem_set hc with hc | rfl
        · exact hno c hc
        · exact hk
      | none =>
        rw [hf] at hc
        simp only [] at hc
        rcases List.mem_append.1 hc with hc | hc
        · exact hno c hc
        · simp at hc; subst hc; exact hk
theorem see_fold (ws : List Wr) (k : Int) : ∀ cs : List PC, NodupC cs → NodupC (ws.foldl repl cs) ∧ see (ws.foldl repl cs) k = ws.foldl (seeW k) (see cs k) := by
  induction ws with
  | nil => intro cs h; exact ⟨h, rfl⟩
  | cons x ws ih =>
    intro cs h
    simp only [List.foldl_cons]
    have := ih (repl cs x) (repl_keys h)
    rw [see_repl h] at this
    exact this
def replay (log : List CR) : List PC := log.foldl (fun cs c => c.writes.foldl repl cs) []
theorem see_log (log : List CR) (snap k : Int) (ht : ∀ c ∈ log, c.ts ≤ snap) : ∀ cs : List PC, NodupC cs →
    NodupC (log.foldl (fun cs c => c.writes.foldl repl cs) cs) ∧ see (log.foldl (fun cs c => c.writes.foldl repl cs) cs) k = log.foldl (seeC snap k) (see cs k) := by
  induction log with
  | nil => intro cs h; exact ⟨h, rfl⟩
  | cons c log ih =>
    intro cs h
    simp only [List.foldl_cons]
    have h1 := see_fold c.writes k cs h
    have h2 := ih (fun d hd => ht d (by simp [hd])) _ h1.1
    rw [h1.2] at h2
    have hs : seeC snap k (see cs k) c = c.writes.foldl (seeW k) (see cs k) := by
      have := ht c (by simp)
      unfold seeC; rw [if_neg (by omega)]
    rw [hs]
    exact h2

/-- the look of the model -/
def lookS (log : List CR) (k : Int) : Option Int := if (see (replay log) k).1 then some (see (replay log) k).2 else none

theorem look_eq {s : Sto} {w : Wld} (h : Sim s w) (k : Int) : cur (versOf s.keys k) = lookS w.log k := by
  have h1 := (see_log w.log w.log.length k (fun c hc => h.top c hc) [] (by simp [NodupC])).2
  have h2 : see [] k = (false, 0) := rfl
  rw [h2, foldLog] at h1
  have hall : ∀ v ∈ hist w.log k, v.ts ≤ w.log.length := by
    intro v hv
    obtain ⟨c, x, hc, _, e⟩ := hist_mem hv
    rw [e]; exact h.top c hc
  have h3 : (hist w.log k).reverse.find? (fun v => decide (v.ts ≤ (w.log.length : Int))) = (hist w.log k).getLast? := by
    cases hl : (hist w.log k).getLast? with
    | none =>
      have : hist w.log k = [] := by simpa using hl
      rw [this]; rfl
    | some v =>
      have hv : v ∈ hist w.log k := List.mem_of_getLast? hl
      rw [← List.head?_reverse] at hl
      cases hr : (hist w.log k).reverse with
      | nil => rw [hr] at hl; cases hl
      | cons a t =>
        rw [hr] at hl; simp at hl; subst hl
        rw [List.find?_cons]
        have := hall a hv
        simp [this]
  rw [h3] at h1
  unfold lookS cur
  rw [h.vers]
  unfold replay
  rw [h1]
  cases (hist w.log k).getLast? with
  | none => rfl
  | some v => cases hd : v.del <;> simp [hd]
end Go.Proofs.Yafahw
