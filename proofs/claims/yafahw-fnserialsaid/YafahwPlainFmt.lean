/- Plain functions on numbers and bytes: what itoa, word and Format compute. No Go here. -/
import Derived.WalkKit
import Derived.Lib.AppendStr
import Derived.Laws.BytesArg
namespace Go.Proofs.Yafahw
open Go.RowKit

/-- the digits of u, the lowest first, as the bytes '0' to '9' (fuel f) -/
def lsd : Nat → Nat → List Int
  | 0, _ => []
  | f + 1, u => if u = 0 then [] else (48 + ((u % 10 : Nat) : Int)) :: lsd f (u / 10)

theorem lsd_zero (f : Nat) : lsd f 0 = [] := by cases f <;> simp [lsd]
theorem lsd_pos (f u : Nat) (h : 0 < u) : lsd (f + 1) u = (48 + ((u % 10 : Nat) : Int)) :: lsd f (u / 10) := by
  simp [lsd]; omega
theorem lsd_len (f : Nat) : ∀ u, (lsd f u).length ≤ f := by
  induction f with
  | zero => intro u; simp [lsd]
  | succ f ih => intro u; simp only [lsd]; split
                 · simp
                 · have := ih (u / 10); simp; omega
theorem lsd_range (f : Nat) : ∀ u, ∀ x ∈ lsd f u, 48 ≤ x ∧ x ≤ 57 := by
  induction f with
  | zero => intro u x hx; simp [lsd] at hx
  | succ f ih =>
    intro u x hx
    simp only [lsd] at hx
    split at hx
    · simp at hx
    · rcases List.mem_cons.1 hx with h | h
      · omega
      · exact ih _ x h

/-- |v| as Go's two itoa take it: a uint64 -/
def uOf (v : Int) : Nat := (if v < 0 then IntKind.u64.wrap (IntKind.u64.wrap (wrap64 (-wrap64 (v + 1))) + 1) else IntKind.u64.wrap v).toNat

theorem u64_wrap_range (x : Int) : 0 ≤ IntKind.u64.wrap x ∧ IntKind.u64.wrap x < 18446744073709551616 := by
  simp only [IntKind.wrap, IntKind.signed, IntKind.bits]
  simp
  omega

theorem uOf_neg (v : Int) (h : v < 0) : IntKind.u64.wrap (IntKind.u64.wrap (wrap64 (-wrap64 (v + 1))) + 1) = (uOf v : Int) := by
  have := u64_wrap_range (IntKind.u64.wrap (wrap64 (-wrap64 (v + 1))) + 1)
  simp only [uOf, h, if_true]; omega
theorem uOf_pos (v : Int) (h : ¬ v < 0) : IntKind.u64.wrap v = (uOf v : Int) := by
  have := u64_wrap_range v
  simp only [uOf, h, if_false]; omega
theorem uOf_lt (v : Int) : uOf v < 100000000000000000000 := by
  have h1 := u64_wrap_range (IntKind.u64.wrap (wrap64 (-wrap64 (v + 1))) + 1)
  have h2 := u64_wrap_range v
  unfold uOf; split <;> omega

/-- the text of v, as numbers -/
def itoaL (v : Int) : List Int :=
  if v = 0 then [48] else (if v < 0 then [45] else []) ++ (lsd 20 (uOf v)).reverse

theorem itoaL_len (v : Int) : (itoaL v).length ≤ 21 := by
  have := lsd_len 20 (uOf v)
  unfold itoaL
  split
  · simp
  · split <;> simp <;> omega
theorem itoaL_range (v : Int) : ∀ x ∈ itoaL v, 45 ≤ x ∧ x ≤ 57 := by
  intro x hx
  unfold itoaL at hx
  split at hx
  · simp at hx; omega
  · rcases List.mem_append.1 hx with h | h
    · split at h
      · simp at h; omega
      · simp at h
    · have := lsd_range 20 (uOf v) x (by simpa using h); omega

/-- a list of byte numbers as a string -/
def strOf (ns : List Int) : ByteArray := strOfNums ns
theorem strOf_list (ns : List Int) : (strOf ns).data.toList = ns.map (fun n => UInt8.ofNat n.toNat) := rfl
theorem strOf_size (ns : List Int) : (strOf ns).size = ns.length := strOfNums_size ns
theorem strOf_cells (ns : List Int) (h : ∀ x ∈ ns, 0 ≤ x ∧ x < 256) : Lib.strCells (strOf ns) = ns.map (Value.int .u8) := by
  unfold Lib.strCells
  rw [strOf_list, List.map_map]
  refine List.map_congr_left (fun x hx => ?_)
  have := h x hx
  simp only [Function.comp]
  have e : ((UInt8.ofNat x.toNat).toNat : Int) = x := by simp; omega
  rw [e]

def wordL (c : Int) : List Int :=
  if c = 0 then [111, 107] else if c = 1 then [109, 105, 115, 115, 105, 110, 103]
  else if c = 2 then [105, 110, 118, 97, 108, 105, 100] else if c = 3 then [99, 111, 110, 102, 108, 105, 99, 116]
  else [117, 110, 107, 110, 111, 119, 110]
theorem wordL_len (c : Int) : (wordL c).length ≤ 8 := by
  unfold wordL; repeat' split
  all_goals simp
theorem wordL_range (c : Int) : ∀ x ∈ wordL c, 97 ≤ x ∧ x ≤ 122 := by
  unfold wordL; repeat' split
  all_goals (intro x hx; simp at hx; omega)

def lineL (r : Int × Int) : List Int := wordL r.1 ++ [32] ++ itoaL r.2 ++ [10]
def fmtL (rs : List (Int × Int)) : List Int := rs.flatMap lineL
theorem lineL_len (r : Int × Int) : (lineL r).length ≤ 31 := by
  have := wordL_len r.1; have := itoaL_len r.2
  unfold lineL; simp; omega
theorem fmtL_len (rs : List (Int × Int)) : (fmtL rs).length ≤ 31 * rs.length := by
  induction rs with
  | nil => simp [fmtL]
  | cons r rs ih => have := lineL_len r; simp only [fmtL, List.flatMap_cons, List.length_append, List.length_cons] at *; omega
theorem fmtL_snoc (rs : List (Int × Int)) (r : Int × Int) : fmtL (rs ++ [r]) = fmtL rs ++ lineL r := by
  simp [fmtL]
end Go.Proofs.Yafahw
