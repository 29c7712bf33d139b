/- FnWords returns true for every input, and its arguments read afterwards as they read before. No condition. -/
import Derived.Test.YtholldndjafnpaaWWords
import Derived.Test.YtholldndjafnpaaWWordsb
import Derived.Test.YtholldndjafnpaaWWordsc
import Derived.Test.YtholldndjafnpaaWWordsd
import Derived.Test.YtholldndjafnpaaWWordse
import Derived.Test.YtholldndjafnpaaRows
import Derived.ProofKit
namespace Go.Proofs.Ytholldndjafnpaa
open Go.ChangeShapes Go.WideShapes Go.ChangeAt Go.RowKit Go.Deep Go.Joins Go.KLib

theorem own_fnWords : ownKnob Try.prog.godebug = none := by kernel_rfl
theorem laid_fnWords : laidOutB Try.prog = true := by kernel_rfl

set_option maxRecDepth 100000 in
theorem fnWords_lifted (os : Os) (started : os.Started) (H : Type) (enc : TypeId × Value → H) :
    ReturnsInHanded {} Try.checked os 7 .any (Rows.fnWordsSpec.pre6 enc Try.prog Try.f7 Rows.fnWordsRow.domain false) (Rows.fnWordsSpec.post enc Try.prog Try.f7 false true false false) := by
  refine returnsInHanded_of_change (C := Try.checked) own_fnWords started (by kernel_rfl) Try.func7
    (ChangeSpec.witness6 (enc := enc) (C := Try.checked) false ⟨#[], #[.slice none 0 0], []⟩ 8 (by kernel_rfl) (by kernel_rfl) (by kernel_rfl) (by kernel_rfl)) ?_
  intro W base args ds gs before hval0 hW hcnd _
  have hval : ∀ (j : Nat) t v, Try.f7.params[j]? = some t → args[j]? = some v → Value.okWide Try.prog W .any base t v := hval0
  have hW' := hW
  obtain ⟨p, q, hA0, hV, rfl, hfz, hnd⟩ := hW
  have hA : DataW.TrodAll enc Try.prog W 0 (fun _ => true) true Try.f7.params.toList args.toList ds p := hA0
  rw [Try.params7] at hA hval
  obtain ⟨v0, d0, rfl, rfl, h0⟩ := trodAll_one hA
  obtain ⟨rfl, rfl⟩ := trodVars_none hV
  obtain ⟨n0, y0, t0⟩ := trod_slice1 Try.underlying22 (hval 0 22 v0 rfl rfl) h0
  obtain ⟨xs0, L0⟩ := open_ls (cs := ucs) (k := 1) Try.underlying22 (by kernel_rfl) (by decide) ucs_len (fun _ _ _ _ h => open_U Try.underlying5 h) t0
  refine (c_laws_FnWords L0 ).mono fun v W' hv => ?_
  obtain ⟨rfl, hc⟩ := hv
  exact law_post laid_fnWords (by kernel_rfl) rfl Try.underlying4 rfl rfl hW' hc

theorem fnWords_holds : Rows.FnWordsSaid :=
  OpenClaim.holds_of_wide 7 Try.f7 rfl rfl rfl rfl rfl rfl rfl ⟨rfl, rfl, rfl, rfl, rfl⟩ rfl rfl rfl rfl rfl (by kernel_rfl) Try.func7 (by kernel_rfl)
    (of_decide_eq_true (by kernel_rfl)) (by unfold Func.isWrapper; rw [if_neg (of_decide_eq_false (by kernel_rfl))]; exact ⟨rfl, rfl⟩)
    (fun os started H enc _ => fnWords_lifted os started H enc)

end Go.Proofs.Ytholldndjafnpaa
