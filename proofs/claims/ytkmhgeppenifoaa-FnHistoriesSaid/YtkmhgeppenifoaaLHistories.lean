/- FnHistories returns true for every input, and its arguments read afterwards as they read before. No condition. -/
import Derived.Test.YtkmhgeppenifoaaWHistories
import Derived.Test.YtkmhgeppenifoaaWHistoriesb
import Derived.Test.YtkmhgeppenifoaaWHistoriesc
import Derived.Test.YtkmhgeppenifoaaWHistoriesd
import Derived.Test.YtkmhgeppenifoaaWHistoriese
import Derived.Test.YtkmhgeppenifoaaRows
import Derived.ProofKit
namespace Go.Proofs.Ytkmhgeppenifoaa
open Go.ChangeShapes Go.WideShapes Go.ChangeAt Go.RowKit Go.Deep Go.Joins Go.KLib

theorem Zfd : ownKnob Try.prog.godebug = none := by kernel_rfl
theorem Zer : laidOutB Try.prog = true := by kernel_rfl

set_option maxRecDepth 100000 in
theorem fnHistories_lifted (os : Os) (started : os.Started) (H : Type) (enc : TypeId × Value → H) :
    ReturnsInHanded {} Try.checked os 5 .any (Rows.fnHistoriesSpec.pre6 enc Try.prog Try.f5 Rows.fnHistoriesRow.domain false) (Rows.fnHistoriesSpec.post enc Try.prog Try.f5 false true false false) := by
  refine returnsInHanded_of_change (C := Try.checked) Zfd started (by kernel_rfl) Try.func5
    (ChangeSpec.witness6 (enc := enc) (C := Try.checked) false ⟨#[], #[.slice none 0 0], []⟩ 8 (by kernel_rfl) (by kernel_rfl) (by kernel_rfl) (by kernel_rfl)) ?_
  intro W base args ds gs before hval0 hW hcnd _
  have hval : ∀ (j : Nat) t v, Try.f5.params[j]? = some t → args[j]? = some v → Value.okWide Try.prog W .any base t v := hval0
  have hW' := hW
  obtain ⟨p, q, hA0, hV, rfl, hfz, hnd⟩ := hW
  have hA : DataW.TrodAll enc Try.prog W 0 (fun _ => true) true Try.f5.params.toList args.toList ds p := hA0
  rw [Try.params5] at hA hval
  obtain ⟨v0, d0, rfl, rfl, h0⟩ := trodAll_one hA
  obtain ⟨rfl, rfl⟩ := trodVars_none hV
  obtain ⟨n0, y0, t0⟩ := Zha Try.underlying70 (hval 0 70 v0 rfl rfl) h0
  obtain ⟨xs0, L0⟩ := Zle (cs := ucs) (k := 1) Try.underlying70 (by kernel_rfl) (by decide) Zgx (fun _ _ _ _ h => Zmz Try.underlying5 h) t0
  refine (Zdu L0 ).mono fun v W' hv => ?_
  obtain ⟨rfl, hc⟩ := hv
  exact Zkb Zer (by kernel_rfl) rfl Try.underlying4 rfl rfl hW' hc

theorem fnHistories_holds : Rows.FnHistoriesSaid :=
  OpenClaim.holds_of_wide 5 Try.f5 rfl rfl rfl rfl rfl rfl rfl ⟨rfl, rfl, rfl, rfl, rfl⟩ rfl rfl rfl rfl rfl (by kernel_rfl) Try.func5 (by kernel_rfl)
    (of_decide_eq_true (by kernel_rfl)) (by unfold Func.isWrapper; rw [if_neg (of_decide_eq_false (by kernel_rfl))]; exact ⟨rfl, rfl⟩)
    (fun os started H enc _ => fnHistories_lifted os started H enc)

end Go.Proofs.Ytkmhgeppenifoaa
