/- FnExactSubtractPairs returns true for every input, and its arguments read afterwards as they read before. No condition. -/
import Derived.Test.YtnboedkdnnlgnaaWExactMergePairs
import Derived.Test.YtnboedkdnnlgnaaWExactSubtractPairs
import Derived.Test.YtnboedkdnnlgnaaRows
import Derived.ProofKit
namespace Go.Proofs.Ytnboedkdnnlgnaa
open Go.ChangeShapes Go.WideShapes Go.ChangeAt Go.RowKit Go.Deep Go.Joins Go.KLib

theorem own_fnExactSubtractPairs : ownKnob Try.prog.godebug = none := by kernel_rfl
theorem laid_fnExactSubtractPairs : laidOutB Try.prog = true := by kernel_rfl

set_option maxRecDepth 100000 in
theorem fnExactSubtractPairs_lifted (os : Os) (started : os.Started) (H : Type) (enc : TypeId × Value → H) :
    ReturnsInHanded {} Try.checked os 5 .any (Rows.fnExactSubtractPairsSpec.pre6 enc Try.prog Try.f5 Rows.fnExactSubtractPairsRow.domain false) (Rows.fnExactSubtractPairsSpec.post enc Try.prog Try.f5 false true false false) := by
  refine returnsInHanded_of_change (C := Try.checked) own_fnExactSubtractPairs started (by kernel_rfl) Try.func5
    (ChangeSpec.witness6 (enc := enc) (C := Try.checked) false ⟨#[], #[.slice none 0 0, .slice none 0 0], []⟩ 8 (by kernel_rfl) (by kernel_rfl) (by kernel_rfl) (by kernel_rfl)) ?_
  intro W base args ds gs before hval0 hW hcnd _
  have hval : ∀ (j : Nat) t v, Try.f5.params[j]? = some t → args[j]? = some v → Value.okWide Try.prog W .any base t v := hval0
  have hW' := hW
  obtain ⟨p, q, hA0, hV, rfl, hfz, hnd⟩ := hW
  have hA : DataW.TrodAll enc Try.prog W 0 (fun _ => true) true Try.f5.params.toList args.toList ds p := hA0
  rw [Try.params5] at hA hval
  obtain ⟨v0, v1, d0, d1, p0, p1, rfl, rfl, rfl, h0, h1⟩ := trodAll_two hA
  obtain ⟨rfl, rfl⟩ := trodVars_none hV
  obtain ⟨n0, y0, t0⟩ := trod_slice1 Try.underlying35 (hval 0 35 v0 rfl rfl) h0
  obtain ⟨xs0, L0⟩ := open_ls (cs := Pair.cs) (k := 2) Try.underlying35 (by kernel_rfl) (by decide) Pair.len (fun _ _ _ _ h => open_Pair (by kernel_rfl) h) t0
  obtain ⟨n1, y1, t1⟩ := trod_slice1 Try.underlying35 (hval 1 35 v1 rfl rfl) h1
  obtain ⟨xs1, L1⟩ := open_ls (cs := Pair.cs) (k := 2) Try.underlying35 (by kernel_rfl) (by decide) Pair.len (fun _ _ _ _ h => open_Pair (by kernel_rfl) h) t1
  refine (c_laws_FnExactSubtractPairs L0 L1 ).mono fun v W' hv => ?_
  obtain ⟨rfl, hc⟩ := hv
  exact law_post laid_fnExactSubtractPairs (by kernel_rfl) rfl Try.underlying4 rfl rfl hW' hc

theorem fnExactSubtractPairs_holds : Rows.FnExactSubtractPairsSaid :=
  OpenClaim.holds_of_wide 5 Try.f5 rfl rfl rfl rfl rfl rfl rfl ⟨rfl, rfl, rfl, rfl, rfl⟩ rfl rfl rfl rfl rfl (by kernel_rfl) Try.func5 (by kernel_rfl)
    (of_decide_eq_true (by kernel_rfl)) (by unfold Func.isWrapper; rw [if_neg (of_decide_eq_false (by kernel_rfl))]; exact ⟨rfl, rfl⟩)
    (fun os started H enc _ => fnExactSubtractPairs_lifted os started H enc)

end Go.Proofs.Ytnboedkdnnlgnaa
