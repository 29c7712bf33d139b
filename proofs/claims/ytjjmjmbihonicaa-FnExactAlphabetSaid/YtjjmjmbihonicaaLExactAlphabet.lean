/- FnExactAlphabet returns true for every input, and its arguments read afterwards as they read before. No condition. -/
import Derived.Test.YtjjmjmbihonicaaWExactDerivativeWord
import Derived.Test.YtjjmjmbihonicaaWExactDerivativeWordb
import Derived.Test.YtjjmjmbihonicaaWExactAlphabet
import Derived.Test.YtjjmjmbihonicaaRows
import Derived.ProofKit
namespace Go.Proofs.Ytjjmjmbihonicaa
open Go.ChangeShapes Go.WideShapes Go.ChangeAt Go.RowKit Go.Deep Go.Joins Go.KLib

theorem own_fnExactAlphabet : ownKnob Try.prog.godebug = none := by kernel_rfl
theorem laid_fnExactAlphabet : laidOutB Try.prog = true := by kernel_rfl

set_option maxRecDepth 100000 in
theorem fnExactAlphabet_lifted (os : Os) (started : os.Started) (H : Type) (enc : TypeId × Value → H) :
    ReturnsInHanded {} Try.checked os 12 .any (Rows.fnExactAlphabetSpec.pre6 enc Try.prog Try.f12 Rows.fnExactAlphabetRow.domain false) (Rows.fnExactAlphabetSpec.post enc Try.prog Try.f12 false true false false) := by
  refine returnsInHanded_of_change (C := Try.checked) own_fnExactAlphabet started (by kernel_rfl) Try.func12
    (ChangeSpec.witness6 (enc := enc) (C := Try.checked) false ⟨#[], #[.agg #[.slice none 0 0]], []⟩ 8 (by kernel_rfl) (by kernel_rfl) (by kernel_rfl) (by kernel_rfl)) ?_
  intro W base args ds gs before hval0 hW hcnd _
  have hval : ∀ (j : Nat) t v, Try.f12.params[j]? = some t → args[j]? = some v → Value.okWide Try.prog W .any base t v := hval0
  have hW' := hW
  obtain ⟨p, q, hA0, hV, rfl, hfz, hnd⟩ := hW
  have hA : DataW.TrodAll enc Try.prog W 0 (fun _ => true) true Try.f12.params.toList args.toList ds p := hA0
  rw [Try.params12] at hA hval
  obtain ⟨v0, d0, rfl, rfl, h0⟩ := trodAll_one hA
  obtain ⟨rfl, rfl⟩ := trodVars_none hV
  obtain ⟨cs0, rfl, cl0, cf0⟩ := open_cells 1 Try.underlying24 (by kernel_rfl) (by kernel_rfl) rfl (hval 0 24 v0 rfl rfl) h0
  obtain ⟨c0x0, rfl⟩ := list1 cl0
  obtain ⟨n0x0, y0x0, t0x0⟩ := cf0 0 _ _ rfl rfl
  obtain ⟨xs0, L0⟩ := open_ls (cs := Token.cs) (k := 4) Try.underlying22 (by kernel_rfl) (by decide) Token.len (fun _ _ _ _ h => open_Token (by kernel_rfl) h) t0x0
  refine (c_laws_FnExactAlphabet L0 ).mono fun v W' hv => ?_
  obtain ⟨rfl, hc⟩ := hv
  exact law_post laid_fnExactAlphabet (by kernel_rfl) rfl Try.underlying4 rfl rfl hW' hc

theorem fnExactAlphabet_holds : Rows.FnExactAlphabetSaid :=
  OpenClaim.holds_of_wide 12 Try.f12 rfl rfl rfl rfl rfl rfl rfl ⟨rfl, rfl, rfl, rfl, rfl⟩ rfl rfl rfl rfl rfl (by kernel_rfl) Try.func12 (by kernel_rfl)
    (of_decide_eq_true (by kernel_rfl)) (by unfold Func.isWrapper; rw [if_neg (of_decide_eq_false (by kernel_rfl))]; exact ⟨rfl, rfl⟩)
    (fun os started H enc _ => fnExactAlphabet_lifted os started H enc)

end Go.Proofs.Ytjjmjmbihonicaa
