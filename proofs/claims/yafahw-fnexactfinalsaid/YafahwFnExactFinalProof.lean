/- The row's step for laws.FnExactFinal: after the shell that the seed gives for its neighbours. -/
import Derived.Test.YafahwExactFinalWalk
import Derived.Test.YafahwOpenIn
import Derived.ProofKit
import Derived.OpenShut
import Derived.ShutString
import Derived.ChangeOld
namespace Go.Proofs.Yafahw.fnExactFinal
open Go.ChangeShapes Go.WideShapes Go.ChangeAt Go.RowKit
set_option linter.unusedVariables false

theorem own : ownKnob Yahh.prog.godebug = none := by kernel_rfl
theorem laidOut : laidOutB Yahh.prog = true := by kernel_rfl

set_option maxRecDepth 100000 in
theorem lifted (os : Os) (started : os.Started) (H : Type) (enc : TypeId × Value → H) :
    ReturnsInHanded {} Yahh.checked os 12 .any (Rows.fnExactFinalSpec.pre6 enc Yahh.prog Yahh.f12 Rows.fnExactFinalRow.domain false) (Rows.fnExactFinalSpec.post enc Yahh.prog Yahh.f12 false true false false) := by
  refine returnsInHanded_of_change (C := Yahh.checked) own started (by kernel_rfl) Yahh.func12
    (ChangeSpec.witness6 (enc := enc) (C := Yahh.checked) false ⟨#[], #[.slice none 0 0], []⟩ 8 (by kernel_rfl) (by kernel_rfl) (by kernel_rfl) (by kernel_rfl)) ?_
  intro W base args ds gs before hval0 hW hcnd _
  have hval : ∀ (j : Nat) t v, Yahh.f12.params[j]? = some t → args[j]? = some v → Value.okWide Yahh.prog W .any base t v := hval0
  have hW' := hW
  obtain ⟨p, q, hA0, hV, rfl, hfz, hnd⟩ := hW
  have hA : DataW.TrodAll enc Yahh.prog W 0 (fun _ => true) true Yahh.f12.params.toList args.toList ds p := hA0
  rw [Yahh.params12] at hA hval
  obtain ⟨v0, vs0, d0, ds0, p0, q0, hargs, rfl, rfl, h0, r0⟩ := trodAll_cons hA
  obtain ⟨rfl, rfl, rfl⟩ := trodAll_nil r0
  obtain rfl : args = #[v0] := by cases args; simp_all
  obtain ⟨rfl, rfl⟩ := trodVars_none hV
  obtain ⟨a0, len0, cap0, rfl⟩ := okWide_slice Yahh.underlying23 (hval 0 23 v0 rfl rfl)
  have k0 := h0
  have lt0 : ∀ x ∈ p0, x.block < W.heap.size := by obtain ⟨m, hm⟩ := k0; exact DataW.trod_lt m _ _ _ hm
  obtain ⟨rs, hlen, hmax, hrow⟩ : ∃ rs, rs.length = len0 ∧ len0 ≤ maxLen ∧ RowAt W 4 (.slice a0 len0 cap0) rs.length (opCells rs) := by
    obtain ⟨fuel, hf⟩ := h0
    exact open_op (by simpa [Value.cells] using hf)
  clear hA0 hval0
  refine (exactFinal_all rs a0 len0 cap0 W hlen hmax hrow).mono fun e W' ⟨he, bel⟩ => ?_
  subst he
  exact ⟨_, rfl, _, _, _, [], _, [], hW', trodAll_mk1 (shut_bool Yahh.underlying4 _), (trodAll_cons_mk (Below.trod laidOut (by kernel_rfl) (of_decide_eq_true (by kernel_rfl)) k0 bel lt0) trodAll_mk0), rfl, bel.frame _, fun h => by cases h⟩

theorem over : Rows.fnExactFinalRow.holds Yahh.pinned (OpenSpec.ofChange Rows.fnExactFinalSpec) :=
  OpenClaim.holds_of_wide 12 Yahh.f12 rfl rfl rfl rfl rfl rfl rfl ⟨rfl, rfl, rfl, rfl, rfl⟩ rfl rfl rfl rfl rfl (by kernel_rfl) Yahh.func12 (by kernel_rfl)
    (of_decide_eq_true (by kernel_rfl)) (by unfold Func.isWrapper; first | (rw [if_pos (by decide +kernel)]; kernel_rfl) | (rw [if_neg (by decide +kernel)]; exact ⟨rfl, rfl⟩))
    (fun os started H enc _ => lifted os started H enc)

/-- the given statement -/
theorem proved : Rows.FnExactFinalSaid := over
end Go.Proofs.Yafahw.fnExactFinal
