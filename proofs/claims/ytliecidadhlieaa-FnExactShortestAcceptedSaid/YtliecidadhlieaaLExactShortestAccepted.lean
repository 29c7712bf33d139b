/- FnExactShortestAccepted returns true for every input, and its arguments read afterwards as they read before. No condition. -/
import Derived.Test.YtliecidadhlieaaWExactMissingWord
import Derived.Test.YtliecidadhlieaaWExactMissingWordb
import Derived.Test.YtliecidadhlieaaWExactShortestAccepted
import Derived.Test.YtliecidadhlieaaRows
import Derived.ProofKit
namespace Go.Proofs.Ytliecidadhlieaa
open Go.ChangeShapes Go.WideShapes Go.ChangeAt Go.RowKit Go.Deep Go.Joins Go.KLib

theorem own_fnExactShortestAccepted : ownKnob Try.prog.godebug = none := by kernel_rfl
theorem laid_fnExactShortestAccepted : laidOutB Try.prog = true := by kernel_rfl

set_option maxRecDepth 100000 in
theorem fnExactShortestAccepted_lifted (os : Os) (started : os.Started) (H : Type) (enc : TypeId × Value → H) :
    ReturnsInHanded {} Try.checked os 7 .any (Rows.fnExactShortestAcceptedSpec.pre6 enc Try.prog Try.f7 Rows.fnExactShortestAcceptedRow.domain false) (Rows.fnExactShortestAcceptedSpec.post enc Try.prog Try.f7 false true false false) := by
  refine returnsInHanded_of_change (C := Try.checked) own_fnExactShortestAccepted started (by kernel_rfl) Try.func7
    (ChangeSpec.witness6 (enc := enc) (C := Try.checked) false ⟨#[], #[.agg #[.int .i64 0, .slice none 0 0, .slice none 0 0]], []⟩ 8 (by kernel_rfl) (by kernel_rfl) (by kernel_rfl) (by kernel_rfl)) ?_
  intro W base args ds gs before hval0 hW hcnd _
  have hval : ∀ (j : Nat) t v, Try.f7.params[j]? = some t → args[j]? = some v → Value.okWide Try.prog W .any base t v := hval0
  have hW' := hW
  obtain ⟨p, q, hA0, hV, rfl, hfz, hnd⟩ := hW
  have hA : DataW.TrodAll enc Try.prog W 0 (fun _ => true) true Try.f7.params.toList args.toList ds p := hA0
  rw [Try.params7] at hA hval
  obtain ⟨v0, d0, rfl, rfl, h0⟩ := trodAll_one hA
  obtain ⟨rfl, rfl⟩ := trodVars_none hV
  obtain ⟨cs0, rfl, cl0, cf0⟩ := open_cells 3 Try.underlying25 (by kernel_rfl) (by kernel_rfl) rfl (hval 0 25 v0 rfl rfl) h0
  obtain ⟨c0x0, c0x1, c0x2, rfl⟩ := list3 cl0
  obtain ⟨n0x0, y0x0, t0x0⟩ := cf0 0 _ _ rfl rfl
  obtain ⟨i0, rfl, lo0, hi0⟩ := open_I1 Try.underlying3 t0x0
  obtain ⟨n0x1, y0x1, t0x1⟩ := cf0 1 _ _ rfl rfl
  obtain ⟨xs1, L1⟩ := open_ls (cs := bcs) (k := 1) Try.underlying22 (by kernel_rfl) (by decide) bcs_len (fun _ _ _ _ h => open_B Try.underlying4 h) t0x1
  obtain ⟨n0x2, y0x2, t0x2⟩ := cf0 2 _ _ rfl rfl
  obtain ⟨svs2, xs2, L2, R2⟩ := open_nest (cs := ics) (k := 1) Try.underlying23 (by kernel_rfl) Try.underlying31 (by kernel_rfl) (by decide) ics_len (fun _ _ _ _ h => open_I Try.underlying3 h) t0x2
  refine (c_laws_FnExactShortestAccepted i0 L1 L2 R2 ).mono fun v W' hv => ?_
  obtain ⟨rfl, hc⟩ := hv
  exact law_post laid_fnExactShortestAccepted (by kernel_rfl) rfl Try.underlying4 rfl rfl hW' hc

theorem fnExactShortestAccepted_holds : Rows.FnExactShortestAcceptedSaid :=
  OpenClaim.holds_of_wide 7 Try.f7 rfl rfl rfl rfl rfl rfl rfl ⟨rfl, rfl, rfl, rfl, rfl⟩ rfl rfl rfl rfl rfl (by kernel_rfl) Try.func7 (by kernel_rfl)
    (of_decide_eq_true (by kernel_rfl)) (by unfold Func.isWrapper; rw [if_neg (of_decide_eq_false (by kernel_rfl))]; exact ⟨rfl, rfl⟩)
    (fun os started H enc _ => fnExactShortestAccepted_lifted os started H enc)

end Go.Proofs.Ytliecidadhlieaa
