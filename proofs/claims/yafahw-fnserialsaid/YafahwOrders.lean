/- A region that draws its order and ends in an operation that waits for all others ('x.f = append(x.f, v)': the store): the last operation is split off, so that the condition S of 'wpAnyH' need not hold behind it. -/
import Derived.WalkKit
import Derived.Deep.RegionHeld3
namespace Go.Proofs.Yafahw
open Go

section
variable {P : Program} {md : Region.Mode} {S : World → Prop}

/-- what the region without its last operation must come to -/
def lastQ (P : Program) (ops : Array Oper) (n : Nat) (Q : Exit → Act → World → Prop) : Exit → Act → World → Prop
  | .normal, a, w => wpOp P ops Q n (fun a' w' => Q .normal a' w') a w
  | e, a, w => Q e a w

def waits (md : Region.Mode) (o : Oper) (i : Nat) : Bool := o.after.any fun e => Region.binds md e && e.on == i
/-- o waits for number i, straight or through others of l -/
def covers (md : Region.Mode) (l : List Oper) (o : Oper) : Nat → Nat → Bool
  | 0, _ => false
  | f + 1, i => waits md o i || (List.range l.length).any fun j => ((l[j]?).map (waits md · i)).getD false && covers md l o f j

def backward (md : Region.Mode) (o : Oper) (i : Nat) : Bool := o.after.all fun e => !Region.binds md e || decide (e.on < i)
def lastOk (md : Region.Mode) (l : List Oper) (o : Oper) : Bool :=
  o.guard.isNone && l.all (·.guard.isNone) && backward md o l.length && ((List.range l.length).all fun i => ((l[i]?).map (backward md · i)).getD true) && (List.range l.length).all fun i => covers md l o l.length i

def Closed (md : Region.Mode) (l : List Oper) (listed : Array Bool) : Prop :=
  ∀ (i : Nat) (o : Oper), l[i]? = some o → listed.getD i false = true → ∀ e ∈ o.after, Region.binds md e = true → listed.getD e.on false = true

theorem covers_listed {l : List Oper} {o : Oper} {listed : Array Bool} (hc : Closed md l listed) (ho : ∀ e ∈ o.after, Region.binds md e = true → listed.getD e.on false = true) :
    ∀ (f i : Nat), covers md l o f i = true → listed.getD i false = true := by
  have dir : ∀ (o' : Oper) (i : Nat), (∀ e ∈ o'.after, Region.binds md e = true → listed.getD e.on false = true) → waits md o' i = true → listed.getD i false = true := by
    intro o' i h hw
    unfold waits at hw
    rw [Array.any_eq_true] at hw
    obtain ⟨k, hk, hh⟩ := hw
    simp only [Bool.and_eq_true, beq_iff_eq] at hh
    have := h _ (Array.getElem_mem hk) hh.1
    rwa [hh.2] at this
  intro f
  induction f with
  | zero => intro i h; cases h
  | succ f ih =>
    intro i h
    simp only [covers, Bool.or_eq_true, List.any_eq_true, Bool.and_eq_true] at h
    rcases h with h | ⟨j, _, hw, hcv⟩
    · exact dir o i ho h
    · cases hj : l[j]? with
      | none => rw [hj] at hw; cases hw
      | some oj =>
        rw [hj] at hw
        exact dir oj i (hc j oj hj (ih j hcv)) hw

theorem upon_mono {o : Oper} {a : Act} {K K' : Act → World → Prop} {Q Q' : Exit → Act → World → Prop} (hK : ∀ a w, K a w → K' a w) (hQ : ∀ c a w, Q (.panic c) a w → Q' (.panic c) a w) (hO : LetsOut Q → LetsOut Q') {r : Result Next} (h : o.upon P a K Q r) : o.upon P a K' Q' r := by
  cases r with
  | ok n w' =>
    cases n <;> simp only [Oper.upon] at h ⊢
    case value v => exact hK _ _ h
    case skip => exact hK _ _ h
    case defer d => exact hK _ _ h
    case enter f args =>
      refine Calls.mono h fun e w'' he => ?_
      cases e with
      | returned v => exact hK _ _ he
      | panicked c => exact hQ _ _ _ he
      | outgrown => exact hO he
    case row row args => exact Rows.mono h fun v w'' he => hK _ _ he
  | halt x w' =>
    cases x <;> simp only [Oper.upon] at h ⊢
    case panic v => exact hQ _ _ _ h

theorem lets_last {ops : Array Oper} {n : Nat} {Q : Exit → Act → World → Prop} (h : LetsOut (lastQ P ops n Q)) : LetsOut Q := by
  obtain ⟨a, w, hq⟩ := h; exact ⟨a, w, hq⟩

theorem getD_push {α : Type} (x : Array α) (b d : α) (i : Nat) (h : i < x.size) : (x.push b).getD i d = x.getD i d := by
  simp only [Array.getD_eq_getD_getElem?]
  rw [Array.getElem?_push, if_neg (by omega)]

theorem wpAny_last {l : List Oper} {o : Oper} {Q : Exit → Act → World → Prop} (hok : lastOk md l o = true) :
    ∀ (fuel : Nat) (listed : Array Bool) (a : Act) (w : World), listed.size = l.length → Closed md l listed →
      wpAnyH P md l.toArray (lastQ P (l ++ [o]).toArray l.length Q) S fuel listed a w → wpAny P md (l ++ [o]).toArray Q (fuel + 1) (listed.push false) a w := by
  simp only [lastOk, Bool.and_eq_true, List.all_eq_true, List.mem_range] at hok
  obtain ⟨⟨⟨⟨hg, hgl⟩, hbo⟩, hbl⟩, hcov⟩ := hok
  have hog : o.guard = none := by simpa using hg
  have back : ∀ (o' : Oper) (i : Nat), backward md o' i = true → ∀ e ∈ o'.after, Region.binds md e = true → e.on < i := by
    intro o' i h e he hb
    unfold backward at h
    rw [Array.all_eq_true] at h
    obtain ⟨k, hk, rfl⟩ := Array.getElem_of_mem he
    have := h k hk
    simp only [hb, Bool.not_true, Bool.false_or, decide_eq_true_eq] at this
    exact this
  have hbl' : ∀ (i : Nat) (oi : Oper), l[i]? = some oi → ∀ e ∈ oi.after, Region.binds md e = true → e.on < i := by
    intro i oi hi
    have hil := (List.getElem?_eq_some_iff.1 hi).1
    have := hbl i hil
    rw [hi] at this
    exact back oi i this
  have hat : ∀ i, i < l.length → (l ++ [o]).toArray[i]? = l[i]? := fun i hi => by simp [List.getElem?_append_left hi]
  have hatn : (l ++ [o]).toArray[l.length]? = some o := by simp
  -- where nothing of l may come up, all of l has come up
  have prog : ∀ (listed : Array Bool), listed.size = l.length → Region.ready md l.toArray listed = [] → ∀ i, i < l.length → listed.getD i false = true := by
    intro listed hs hr i
    induction i using Nat.strongRecOn with
    | _ i ih =>
      intro hi
      cases hq : listed.getD i false with
      | true => rfl
      | false =>
        exfalso
        have hm : i ∈ Region.ready md l.toArray listed := by
          rw [mem_ready]
          refine ⟨?_, l[i], by simp [hi], fun e he hb => ?_⟩
          · simp only [Array.getD_eq_getD_getElem?, Array.getElem?_eq_getElem (show i < listed.size by omega), Option.getD_some] at hq ⊢; exact hq
          · have := hbl' i _ (List.getElem?_eq_getElem hi) e he hb
            exact ih e.on this (by omega)
        rw [hr] at hm; cases hm
  have allDone : ∀ (listed : Array Bool), listed.size = l.length → (∀ i, i < l.length → listed.getD i false = true) → Region.ready md l.toArray listed = [] := by
    intro listed hs hall
    rw [List.eq_nil_iff_forall_not_mem]
    intro i hi
    obtain ⟨h1, oi, h2, _⟩ := mem_ready.1 hi
    have hil : i < l.length := by simpa using (Array.getElem?_eq_some_iff.1 h2).1
    have := hall i hil
    simp only [Array.getD_eq_getD_getElem?, Array.getElem?_eq_getElem (show i < listed.size by omega), Option.getD_some] at h1 this
    rw [h1] at this; cases this
  intro fuel
  induction fuel with
  | zero =>
    intro listed a w hs hc H
    have hall := prog listed hs H.1
    refine ⟨fun h0 => ?_, fun i hi => ?_⟩
    · have hm : l.length ∈ Region.ready md (l ++ [o]).toArray (listed.push false) := by
        rw [mem_ready]
        refine ⟨by rw [← hs]; simp [Array.getD_eq_getD_getElem?], o, hatn, fun e he hb => ?_⟩
        have := back o _ hbo e he hb
        rw [getD_push _ _ _ _ (by omega)]; exact hall _ this
      rw [h0] at hm; cases hm
    · obtain ⟨h1, oi, h2, h3⟩ := mem_ready.1 hi
      have hin : i = l.length := by
        rcases Nat.lt_or_ge i l.length with h' | h'
        · exfalso
          rw [getD_push _ _ _ _ (by omega)] at h1
          have := hall i h'
          simp only [Array.getD_eq_getD_getElem?, Array.getElem?_eq_getElem (show i < listed.size by omega), Option.getD_some] at h1 this
          rw [h1] at this; cases this
        · have : i < (l ++ [o]).toArray.size := (Array.getElem?_eq_some_iff.1 h2).1
          simp at this; omega
      subst hin
      refine wpOp_mono (fun a' w' hq => ?_) H.2
      refine wpAny_done ?_ hq 0
      rw [List.eq_nil_iff_forall_not_mem]
      intro j hj
      obtain ⟨g1, oj, g2, _⟩ := mem_ready.1 hj
      have hjl : j < l.length + 1 := by have := (Array.getElem?_eq_some_iff.1 g2).1; simpa using this
      by_cases hjn : j = l.length
      · subst hjn; rw [← hs] at g1; simp [Array.getD_eq_getD_getElem?] at g1
      · have e1 : ((listed.push false).setIfInBounds l.length true).getD j true = listed.getD j true := by
          rw [← getD_push listed false true j (by omega)]
          simp only [Array.getD_eq_getD_getElem?]
          rw [Array.getElem?_setIfInBounds_ne (by omega)]
        rw [e1] at g1
        have := hall j (by omega)
        simp only [Array.getD_eq_getD_getElem?, Array.getElem?_eq_getElem (show j < listed.size by omega), Option.getD_some] at g1 this
        rw [g1] at this; cases this
  | succ fuel ih =>
    intro listed a w hs hc H
    refine ⟨fun h0 => ?_, fun i hi => ?_⟩
    · exfalso
      by_cases hr : Region.ready md l.toArray listed = []
      · have hall := prog listed hs hr
        have hm : l.length ∈ Region.ready md (l ++ [o]).toArray (listed.push false) := by
          rw [mem_ready]
          refine ⟨by rw [← hs]; simp [Array.getD_eq_getD_getElem?], o, hatn, fun e he hb => ?_⟩
          have := back o _ hbo e he hb
          rw [getD_push _ _ _ _ (by omega)]; exact hall _ this
        rw [h0] at hm; cases hm
      · obtain ⟨j, hj⟩ := List.exists_mem_of_ne_nil _ hr
        obtain ⟨g1, oj, g2, g3⟩ := mem_ready.1 hj
        have hjl : j < l.length := by simpa using (Array.getElem?_eq_some_iff.1 g2).1
        have hm : j ∈ Region.ready md (l ++ [o]).toArray (listed.push false) := by
          rw [mem_ready]
          refine ⟨by rw [getD_push _ _ _ _ (by omega)]; exact g1, oj, by rw [hat j hjl]; simpa using g2, fun e he hb => ?_⟩
          have := hbl' j oj (by simpa using g2) e he hb
          rw [getD_push _ _ _ _ (by omega)]; exact g3 e he hb
        rw [h0] at hm; cases hm
    · obtain ⟨h1, oi, h2, h3⟩ := mem_ready.1 hi
      have hile : i < l.length + 1 := by have := (Array.getElem?_eq_some_iff.1 h2).1; simpa using this
      by_cases hin : i = l.length
      · subst hin
        rw [hatn] at h2
        obtain rfl : o = oi := by simpa using h2
        have ho : ∀ e ∈ o.after, Region.binds md e = true → listed.getD e.on false = true := fun e he hb => by
          have := h3 e he hb
          rwa [getD_push _ _ _ _ (by have := back o _ hbo e he hb; omega)] at this
        have hall : ∀ j, j < l.length → listed.getD j false = true := fun j hj => covers_listed hc ho _ j (hcov j hj)
        have hq := H.1 (allDone listed hs hall)
        refine wpOp_mono (fun a' w' hq' => ?_) hq
        refine wpAny_done ?_ hq' (fuel + 1)
        rw [List.eq_nil_iff_forall_not_mem]
        intro j hj
        obtain ⟨g1, oj, g2, _⟩ := mem_ready.1 hj
        have hjl : j < l.length + 1 := by have := (Array.getElem?_eq_some_iff.1 g2).1; simpa using this
        by_cases hjn : j = l.length
        · subst hjn; rw [← hs] at g1; simp [Array.getD_eq_getD_getElem?] at g1
        · have e1 : ((listed.push false).setIfInBounds l.length true).getD j true = listed.getD j true := by
            rw [← getD_push listed false true j (by omega)]
            simp only [Array.getD_eq_getD_getElem?]
            rw [Array.getElem?_setIfInBounds_ne (by omega)]
          rw [e1] at g1
          have := hall j (by omega)
          simp only [Array.getD_eq_getD_getElem?, Array.getElem?_eq_getElem (show j < listed.size by omega), Option.getD_some] at g1 this
          rw [g1] at this; cases this
      · have hil : i < l.length := by omega
        rw [hat i hil] at h2
        have g2 : l.toArray[i]? = some oi := by simpa using h2
        have hm : i ∈ Region.ready md l.toArray listed := by
          rw [mem_ready]
          refine ⟨by rw [getD_push _ _ _ _ (by omega)] at h1; exact h1, oi, g2, fun e he hb => ?_⟩
          have := h3 e he hb
          rwa [getD_push _ _ _ _ (by have := hbl' i oi h2 e he hb; omega)] at this
        have hop := H.2 i hm
        have hgi : oi.guard = none := by
          have := hgl oi (List.mem_of_getElem? h2); simpa using this
        have hwant : ∀ (ops' : Array Oper) (t : Array Value), Region.wanted oi (yielded ops' t) = true := fun _ _ => by simp [Region.wanted, hgi]
        unfold wpOp at hop ⊢
        simp only [g2, hat i hil, h2, hwant, if_true] at hop ⊢
        have hK : ∀ a' w', (S w' ∧ wpAnyH P md l.toArray (lastQ P (l ++ [o]).toArray l.length Q) S fuel (listed.setIfInBounds i true) a' w') → wpAny P md (l ++ [o]).toArray Q (fuel + 1) ((listed.push false).setIfInBounds i true) a' w' := by
          rintro a' w' ⟨_, hH⟩
          have e1 : (listed.push false).setIfInBounds i true = (listed.setIfInBounds i true).push false := by
            apply Array.ext_getElem?
            intro j
            rw [Array.getElem?_setIfInBounds, Array.getElem?_push, Array.getElem?_push, Array.getElem?_setIfInBounds, Array.size_setIfInBounds, Array.size_push]
            by_cases hji : i = j
            · subst hji
              rw [if_pos rfl, if_pos (by omega), if_neg (by omega), if_pos rfl, if_pos (by omega)]
            · rw [if_neg hji, if_neg hji]
          rw [e1]
          refine ih _ a' w' (by simpa using hs) ?_ hH
          intro j oj hj hl e he hb
          by_cases hji : e.on = i
          · rw [hji]; simp [Array.getD_eq_getD_getElem?, hs, hil]
          · have e2 : (listed.setIfInBounds i true).getD e.on false = listed.getD e.on false := by
              simp only [Array.getD_eq_getD_getElem?]; rw [Array.getElem?_setIfInBounds_ne (Ne.symm hji)]
            rw [e2]
            by_cases hj2 : j = i
            · subst hj2
              rw [h2] at hj
              obtain rfl : oi = oj := by simpa using hj
              obtain ⟨_, o2, q2, hall⟩ := mem_ready.1 hm
              rw [g2] at q2
              obtain rfl : oi = o2 := by simpa using q2
              exact hall e he hb
            · refine hc j oj hj ?_ e he hb
              have e3 : (listed.setIfInBounds i true).getD j false = listed.getD j false := by
                simp only [Array.getD_eq_getD_getElem?]; rw [Array.getElem?_setIfInBounds_ne (fun q => hj2 q.symm)]
              rw [← e3]; exact hl
        rcases hop with hop | ⟨hasks, hlets⟩
        · left
          unfold Oper.wp at hop ⊢
          exact upon_mono hK (fun c a w h => h) lets_last hop
        · right; exact ⟨hasks, lets_last hlets⟩

/-- THE BEGINNING: the region without its last operation, under S; then the last one. -/
theorem wp_region_last {id : Nat} {l : List Oper} {o : Oper} {Q : Exit → Act → World → Prop} {a : Act} {w : World} (hm : P.follows .mixedOrders = true) (hok : lastOk .any l o = true) (hS : S w.drew)
    (h : S w.drew → wpAnyH P .any l.toArray (lastQ P (l ++ [o]).toArray l.length Q) S l.length (Array.replicate l.length false) a w.drew) : (Code.region id (l ++ [o]).toArray true).wp P Q a w := by
  refine wp_region_any hm ?_
  have := wpAny_last (P := P) (S := S) (Q := Q) hok l.length (Array.replicate l.length false) a w.drew (by simp) (fun i o' hi hl => by
    have hil := (List.getElem?_eq_some_iff.1 hi).1
    simp [Array.getD_eq_getD_getElem?, hil] at hl) (h hS)
  have e : (Array.replicate l.length false).push false = Array.replicate (l ++ [o]).toArray.size false := by
    simp [Array.replicate_succ]
  rw [e] at this
  simpa using this

/-- the same, the region's list written out -/
theorem wp_region_pop {id : Nat} {L : List Oper} {Q : Exit → Act → World → Prop} {a : Act} {w : World} (l : List Oper) (o : Oper) (hL : L = l ++ [o]) (hm : P.follows .mixedOrders = true) (hok : lastOk .any l o = true) (hS : S w.drew)
    (h : S w.drew → wpAnyH P .any l.toArray (lastQ P L.toArray l.length Q) S l.length (Array.replicate l.length false) a w.drew) : (Code.region id L.toArray true).wp P Q a w := by
  subst hL; exact wp_region_last hm hok hS h

theorem wp_region_cut {id : Nat} {L : List Oper} {Q : Exit → Act → World → Prop} {a : Act} {w : World} (S : World → Prop) (hne : L ≠ []) (hm : P.follows .mixedOrders = true) (hok : lastOk .any L.dropLast (L.getLast hne) = true) (hS : S w.drew)
    (h : S w.drew → wpAnyH P .any L.dropLast.toArray (lastQ P L.toArray L.dropLast.length Q) S L.dropLast.length (Array.replicate L.dropLast.length false) a w.drew) : (Code.region id L.toArray true).wp P Q a w :=
  wp_region_pop L.dropLast (L.getLast hne) (List.dropLast_concat_getLast hne).symm hm hok hS h

theorem wpOp_last {ops : Array Oper} {n : Nat} {o : Oper} {Q : Exit → Act → World → Prop} {K : Act → World → Prop} {a : Act} {w : World} (ho : ops[n]? = some o) (hg : o.guard = none) (h : o.wp P a w K Q) : wpOp P ops Q n K a w := by
  unfold wpOp
  simp only [ho, Region.wanted, hg, if_true]
  exact .inl h
theorem lastQ_mk {ops : Array Oper} {n : Nat} {o : Oper} {Q : Exit → Act → World → Prop} {a : Act} {w : World} (ho : ops[n]? = some o) (hg : o.guard = none) (h : ∀ K : Act → World → Prop, (∀ a w, Q .normal a w → K a w) → o.wp P a w K Q) : lastQ P ops n Q .normal a w :=
  wpOp_last ho hg (h _ (fun _ _ h => h))
end
end Go.Proofs.Yafahw
