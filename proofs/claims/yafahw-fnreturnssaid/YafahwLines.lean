/- laws.lines (30): the number of line feeds; a text of Format has one for each answer. -/
import Derived.Test.YafahwFmtI
import Derived.Test.YafahwLawRes
namespace Go.Proofs.Yafahw
open Go.RowKit
set_option linter.unusedVariables false
set_option linter.unusedSimpArgs false

def nl (ns : List Int) : Nat := (ns.filter (fun x => x == 10)).length
theorem nl_append (a b : List Int) : nl (a ++ b) = nl a + nl b := by simp [nl]
theorem nl_snoc (l : List Int) (x : Int) : nl (l ++ [x]) = if x = 10 then nl l + 1 else nl l := by
  unfold nl; rw [List.filter_append]
  by_cases h : x = 10
  · simp [h]
  · simp [h]
theorem nl_none {l : List Int} (h : ∀ x ∈ l, x ≠ 10) : nl l = 0 := by
  unfold nl
  have : l.filter (fun x => x == 10) = [] := by
    rw [List.filter_eq_nil_iff]; intro x hx; simp [h x hx]
  rw [this]; rfl
theorem nl_line (r : Int × Int) : nl (lineL r) = 1 := by
  unfold lineL
  rw [nl_append, nl_append, nl_append, nl_none (fun x hx => by have := wordL_range _ x hx; omega), nl_none (l := itoaL r.2) (fun x hx => by have := itoaL_range _ x hx; omega)]
  rfl
theorem nl_fmt (rs : List (Int × Int)) : nl (fmtL rs) = rs.length := by
  induction rs with
  | nil => rfl
  | cons r rs ih =>
    have : fmtL (r :: rs) = lineL r ++ fmtL rs := by simp [fmtL]
    rw [this, nl_append, nl_line, ih, List.length_cons]; omega
theorem nl_le (l : List Int) : nl l ≤ l.length := List.length_filter_le _ _
theorem fmtL_range (rs : List (Int × Int)) : ∀ x ∈ fmtL rs, 0 ≤ x ∧ x < 256 := by
  intro x hx
  unfold fmtL at hx
  obtain ⟨r, _, hx⟩ := List.mem_flatMap.1 hx
  unfold lineL at hx
  simp only [List.mem_append, List.mem_singleton] at hx
  rcases hx with ((hx | hx) | hx) | hx
  · have := wordL_range _ x hx; omega
  · omega
  · have := itoaL_range _ x hx; omega
  · omega

theorem strOf_at {ns : List Int} (h : ∀ x ∈ ns, 0 ≤ x ∧ x < 256) {k : Nat} {x : Int} (hx : ns[k]? = some x) : ∃ b : UInt8, (strOf ns)[k]? = some b ∧ ((b.toNat : Nat) : Int) = x := by
  obtain ⟨hk, rfl⟩ := List.getElem?_eq_some_iff.1 hx
  have hs : k < (strOf ns).size := by rw [strOf_size]; exact hk
  refine ⟨(strOf ns)[k], getElem?_pos (strOf ns) k hs, ?_⟩
  have e : (strOf ns)[k] = UInt8.ofNat (ns[k]).toNat := by
    have h1 : (strOf ns).data.toList[k]? = some (strOf ns)[k] := by
      rw [Array.getElem?_toList]
      exact Array.getElem?_eq_getElem hs
    rw [strOf_list, List.getElem?_map, List.getElem?_eq_getElem hk] at h1
    simpa using h1.symm
  rw [e]
  have := h _ (List.getElem_mem hk)
  simp
  omega

theorem idx_str {ns : List Int} (h : ∀ x ∈ ns, 0 ≤ x ∧ x < 256) {k : Nat} {x : Int} (hx : ns[k]? = some x) (w : World) : (Instr.index 9 (.string (strOf ns)) (.int .i64 (k : Int))).run Yahh.prog w = .ok (.int .u8 x) w := by
  obtain ⟨b, hb, hbx⟩ := strOf_at h hx
  have h0 : (0 : Int) ≤ (k : Int) := by omega
  unfold Instr.index
  go_simp

def LinesR (w : World) (ns : List Int) (n i : Value) (wr : World) : Prop :=
  ∃ k : Nat, i = .int .i64 (k : Int) ∧ k ≤ ns.length ∧ n = .int .i64 (nl (ns.take k) : Int) ∧ wr = w

set_option maxHeartbeats 1000000 in
set_option maxRecDepth 100000 in
theorem lines_any (ns : List Int) (h : ∀ x ∈ ns, 0 ≤ x ∧ x < 256) (hn : ns.length ≤ 400000000) (w : World) :
    Calls Yahh.prog 30 #[.string (strOf ns)] w fun e w' => e = .returned (.int .i64 (nl ns : Int)) ∧ w' = w := by
  have hsize := strOf_size ns
  go_enter Yahh.func30, Yahh.ntmps30
  go_wp2
  go_loopw [3, 4] (fun n i wr => LinesR w ns n i wr) (fun _ i _ => ns.length - (intOf i).toNat)
  case atStart => exact ⟨0, rfl, Nat.zero_le _, rfl, rfl⟩
  case round =>
    obtain ⟨k, rfl, hk, rfl, rfl⟩ := hrel
    by_cases hlt : k < ns.length
    · obtain ⟨x, hx⟩ : ∃ x, ns[k]? = some x := ⟨_, List.getElem?_eq_getElem hlt⟩
      have hk0 : (0 : Int) ≤ (k : Int) := by omega
      have hkl : (k : Int) < (ns.length : Int) := by omega
      have hnl := nl_le (ns.take k)
      rw [List.length_take] at hnl
      have hidx := fun w => idx_str h hx w
      have hsn : nl (ns.take (k + 1)) = if x = 10 then nl (ns.take k) + 1 else nl (ns.take k) := by
        rw [List.take_add_one, hx]; exact nl_snoc _ _
      have Hsn := hid hsn
      clear hsn hx
      by_cases h10 : x = 10
      · subst h10
        go_wp2
        exact ⟨⟨k + 1, by go_num, by omega, by rw [Hsn.out]; simp, rfl⟩, by simp [intOf]; omega⟩
      · have hd : (x == 10) = false := by simp [h10]
        go_wp2
        exact ⟨⟨k + 1, by go_num, by omega, by rw [Hsn.out]; simp [h10], rfl⟩, by simp [intOf]; omega⟩
    · obtain rfl : k = ns.length := by omega
      rw [List.take_length]
      go_wp2
      go_ret
      exact ⟨rfl, rfl⟩
end Go.Proofs.Yafahw
