/- FnExactLetterExpr returns true for every input, and its arguments read afterwards as they read before. No condition. -/
import Derived.Test.YtiadcghbjphchaaWExactLetterExpr
import Derived.Test.YtiadcghbjphchaaRows
import Derived.ProofKit
namespace Go.Proofs.Ytiadcghbjphchaa
open Go.ChangeShapes Go.WideShapes Go.ChangeAt Go.RowKit Go.Deep Go.Joins Go.KLib

theorem own_fnExactLetterExpr : ownKnob Try.prog.godebug = none := by kernel_rfl
theorem laid_fnExactLetterExpr : laidOutB Try.prog = true := by kernel_rfl

set_option maxRecDepth 100000 in
theorem fnExactLetterExpr_lifted (os : Os) (started : os.Started) (H : Type) (enc : TypeId × Value → H) :
    ReturnsInHanded {} Try.checked os 5 .any (Rows.fnExactLetterExprSpec.pre6 enc Try.prog Try.f5 Rows.fnExactLetterExprRow.domain false) (Rows.fnExactLetterExprSpec.post enc Try.prog Try.f5 false true false false) := by
  refine returnsInHanded_of_change (C := Try.checked) own_fnExactLetterExpr started (by kernel_rfl) Try.func5
    (ChangeSpec.witness6 (enc := enc) (C := Try.checked) false ⟨#[], #[.int .i64 0], []⟩ 8 (by kernel_rfl) (by kernel_rfl) (by kernel_rfl) (by kernel_rfl)) ?_
  intro W base args ds gs before hval0 hW hcnd _
  have hval : ∀ (j : Nat) t v, Try.f5.params[j]? = some t → args[j]? = some v → Value.okWide Try.prog W .any base t v := hval0
  have hW' := hW
  obtain ⟨p, q, hA0, hV, rfl, hfz, hnd⟩ := hW
  have hA : DataW.TrodAll enc Try.prog W 0 (fun _ => true) true Try.f5.params.toList args.toList ds p := hA0
  rw [Try.params5] at hA hval
  obtain ⟨v0, d0, rfl, rfl, h0⟩ := trodAll_one hA
  obtain ⟨rfl, rfl⟩ := trodVars_none hV
  obtain ⟨n0, y0, t0⟩ := trod_int1 Try.underlying3 (hval 0 3 v0 rfl rfl) h0
  obtain ⟨i0, rfl, lo0, hi0⟩ := open_I1 Try.underlying3 t0
  refine (c_laws_FnExactLetterExpr i0 ).mono fun v W' hv => ?_
  obtain ⟨rfl, hc⟩ := hv
  exact law_post laid_fnExactLetterExpr (by kernel_rfl) rfl Try.underlying4 rfl rfl hW' hc

theorem fnExactLetterExpr_holds : Rows.FnExactLetterExprSaid :=
  OpenClaim.holds_of_wide 5 Try.f5 rfl rfl rfl rfl rfl rfl rfl ⟨rfl, rfl, rfl, rfl, rfl⟩ rfl rfl rfl rfl rfl (by kernel_rfl) Try.func5 (by kernel_rfl)
    (of_decide_eq_true (by kernel_rfl)) (by unfold Func.isWrapper; rw [if_neg (of_decide_eq_false (by kernel_rfl))]; exact ⟨rfl, rfl⟩)
    (fun os started H enc _ => fnExactLetterExpr_lifted os started H enc)

end Go.Proofs.Ytiadcghbjphchaa
