/- FnDerivatives returns true for every input, and its arguments read afterwards as they read before. No condition. -/
import Derived.Test.YtholldndjafnpaaGreatWDerivatives
import Derived.Test.YtholldndjafnpaaGreatWDerivativesb
import Derived.Test.YtholldndjafnpaaGreatWDerivativesc
import Derived.Test.YtholldndjafnpaaGreatWDerivativesd
import Derived.Test.YtholldndjafnpaaGreatWDerivativese
import Derived.Test.YtholldndjafnpaaGreatWDerivativesf
import Derived.Test.YtholldndjafnpaaGreatRows
import Derived.ProofKit
namespace Go.Proofs.YtholldndjafnpaaGreat
open Go.ChangeShapes Go.WideShapes Go.ChangeAt Go.RowKit Go.Deep Go.Joins Go.KLib

theorem own_fnDerivatives : ownKnob Tryz.prog.godebug = none := by kernel_rfl
theorem laid_fnDerivatives : laidOutB Tryz.prog = true := by kernel_rfl

set_option maxRecDepth 100000 in
theorem fnDerivatives_lifted (os : Os) (started : os.Started) (H : Type) (enc : TypeId × Value → H) :
    ReturnsInHanded {} Tryz.checked os 3 .any (Rows.fnDerivativesSpec.pre6 enc Tryz.prog Tryz.f3 Rows.fnDerivativesRow.domain false) (Rows.fnDerivativesSpec.post enc Tryz.prog Tryz.f3 false true false false) := by
  refine returnsInHanded_of_change (C := Tryz.checked) own_fnDerivatives started (by kernel_rfl) Tryz.func3
    (ChangeSpec.witness6 (enc := enc) (C := Tryz.checked) false ⟨#[], #[.slice none 0 0], []⟩ 8 (by kernel_rfl) (by kernel_rfl) (by kernel_rfl) (by kernel_rfl)) ?_
  intro W base args ds gs before hval0 hW hcnd _
  have hval : ∀ (j : Nat) t v, Tryz.f3.params[j]? = some t → args[j]? = some v → Value.okWide Tryz.prog W .any base t v := hval0
  have hW' := hW
  obtain ⟨p, q, hA0, hV, rfl, hfz, hnd⟩ := hW
  have hA : DataW.TrodAll enc Tryz.prog W 0 (fun _ => true) true Tryz.f3.params.toList args.toList ds p := hA0
  rw [Tryz.params3] at hA hval
  obtain ⟨v0, d0, rfl, rfl, h0⟩ := trodAll_one hA
  obtain ⟨rfl, rfl⟩ := trodVars_none hV
  obtain ⟨n0, y0, t0⟩ := trod_slice1 Tryz.underlying22 (hval 0 22 v0 rfl rfl) h0
  obtain ⟨xs0, L0⟩ := open_ls (cs := ucs) (k := 1) Tryz.underlying22 (by kernel_rfl) (by decide) ucs_len (fun _ _ _ _ h => open_U Tryz.underlying5 h) t0
  refine (c_laws_FnDerivatives L0 ).mono fun v W' hv => ?_
  obtain ⟨rfl, hc⟩ := hv
  exact law_post laid_fnDerivatives (by kernel_rfl) rfl Tryz.underlying4 rfl rfl hW' hc

theorem fnDerivatives_holds : Rows.FnDerivativesSaid :=
  OpenClaim.holds_of_wide 3 Tryz.f3 rfl rfl rfl rfl rfl rfl rfl ⟨rfl, rfl, rfl, rfl, rfl⟩ rfl rfl rfl rfl rfl (by kernel_rfl) Tryz.func3 (by kernel_rfl)
    (of_decide_eq_true (by kernel_rfl)) (by unfold Func.isWrapper; rw [if_neg (of_decide_eq_false (by kernel_rfl))]; exact ⟨rfl, rfl⟩)
    (fun os started H enc _ => fnDerivatives_lifted os started H enc)

end Go.Proofs.YtholldndjafnpaaGreat
