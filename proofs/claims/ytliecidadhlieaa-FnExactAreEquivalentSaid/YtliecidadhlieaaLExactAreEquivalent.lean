/- FnExactAreEquivalent returns true for every input, and its arguments read afterwards as they read before. No condition. -/
import Derived.Test.YtliecidadhlieaaWExactMissingWord
import Derived.Test.YtliecidadhlieaaWExactMissingWordb
import Derived.Test.YtliecidadhlieaaWExactIncludesLanguage
import Derived.Test.YtliecidadhlieaaWExactAreEquivalent
import Derived.Test.YtliecidadhlieaaRows
import Derived.ProofKit
namespace Go.Proofs.Ytliecidadhlieaa
open Go.ChangeShapes Go.WideShapes Go.ChangeAt Go.RowKit Go.Deep Go.Joins Go.KLib

theorem own_fnExactAreEquivalent : ownKnob Try.prog.godebug = none := by kernel_rfl
theorem laid_fnExactAreEquivalent : laidOutB Try.prog = true := by kernel_rfl

set_option maxRecDepth 100000 in
theorem fnExactAreEquivalent_lifted (os : Os) (started : os.Started) (H : Type) (enc : TypeId × Value → H) :
    ReturnsInHanded {} Try.checked os 4 .any (Rows.fnExactAreEquivalentSpec.pre6 enc Try.prog Try.f4 Rows.fnExactAreEquivalentRow.domain false) (Rows.fnExactAreEquivalentSpec.post enc Try.prog Try.f4 false true false false) := by
  refine returnsInHanded_of_change (C := Try.checked) own_fnExactAreEquivalent started (by kernel_rfl) Try.func4
    (ChangeSpec.witness6 (enc := enc) (C := Try.checked) false ⟨#[], #[.agg #[.int .i64 0, .slice none 0 0, .slice none 0 0], .agg #[.int .i64 0, .slice none 0 0, .slice none 0 0]], []⟩ 8 (by kernel_rfl) (by kernel_rfl) (by kernel_rfl) (by kernel_rfl)) ?_
  intro W base args ds gs before hval0 hW hcnd _
  have hval : ∀ (j : Nat) t v, Try.f4.params[j]? = some t → args[j]? = some v → Value.okWide Try.prog W .any base t v := hval0
  have hW' := hW
  obtain ⟨p, q, hA0, hV, rfl, hfz, hnd⟩ := hW
  have hA : DataW.TrodAll enc Try.prog W 0 (fun _ => true) true Try.f4.params.toList args.toList ds p := hA0
  rw [Try.params4] at hA hval
  obtain ⟨v0, v1, d0, d1, p0, p1, rfl, rfl, rfl, h0, h1⟩ := trodAll_two hA
  obtain ⟨rfl, rfl⟩ := trodVars_none hV
  obtain ⟨cs0, rfl, cl0, cf0⟩ := open_cells 3 Try.underlying25 (by kernel_rfl) (by kernel_rfl) rfl (hval 0 25 v0 rfl rfl) h0
  obtain ⟨c0x0, c0x1, c0x2, rfl⟩ := list3 cl0
  obtain ⟨n0x0, y0x0, t0x0⟩ := cf0 0 _ _ rfl rfl
  obtain ⟨i0, rfl, lo0, hi0⟩ := open_I1 Try.underlying3 t0x0
  obtain ⟨n0x1, y0x1, t0x1⟩ := cf0 1 _ _ rfl rfl
  obtain ⟨xs1, L1⟩ := open_ls (cs := bcs) (k := 1) Try.underlying22 (by kernel_rfl) (by decide) bcs_len (fun _ _ _ _ h => open_B Try.underlying4 h) t0x1
  obtain ⟨n0x2, y0x2, t0x2⟩ := cf0 2 _ _ rfl rfl
  obtain ⟨svs2, xs2, L2, R2⟩ := open_nest (cs := ics) (k := 1) Try.underlying23 (by kernel_rfl) Try.underlying31 (by kernel_rfl) (by decide) ics_len (fun _ _ _ _ h => open_I Try.underlying3 h) t0x2
  obtain ⟨cs1, rfl, cl1, cf1⟩ := open_cells 3 Try.underlying25 (by kernel_rfl) (by kernel_rfl) rfl (hval 1 25 v1 rfl rfl) h1
  obtain ⟨c1x0, c1x1, c1x2, rfl⟩ := list3 cl1
  obtain ⟨n1x0, y1x0, t1x0⟩ := cf1 0 _ _ rfl rfl
  obtain ⟨i3, rfl, lo3, hi3⟩ := open_I1 Try.underlying3 t1x0
  obtain ⟨n1x1, y1x1, t1x1⟩ := cf1 1 _ _ rfl rfl
  obtain ⟨xs4, L4⟩ := open_ls (cs := bcs) (k := 1) Try.underlying22 (by kernel_rfl) (by decide) bcs_len (fun _ _ _ _ h => open_B Try.underlying4 h) t1x1
  obtain ⟨n1x2, y1x2, t1x2⟩ := cf1 2 _ _ rfl rfl
  obtain ⟨svs5, xs5, L5, R5⟩ := open_nest (cs := ics) (k := 1) Try.underlying23 (by kernel_rfl) Try.underlying31 (by kernel_rfl) (by decide) ics_len (fun _ _ _ _ h => open_I Try.underlying3 h) t1x2
  refine (c_laws_FnExactAreEquivalent i0 L1 L2 R2 i3 L4 L5 R5 ).mono fun v W' hv => ?_
  obtain ⟨rfl, hc⟩ := hv
  exact law_post laid_fnExactAreEquivalent (by kernel_rfl) rfl Try.underlying4 rfl rfl hW' hc

theorem fnExactAreEquivalent_holds : Rows.FnExactAreEquivalentSaid :=
  OpenClaim.holds_of_wide 4 Try.f4 rfl rfl rfl rfl rfl rfl rfl ⟨rfl, rfl, rfl, rfl, rfl⟩ rfl rfl rfl rfl rfl (by kernel_rfl) Try.func4 (by kernel_rfl)
    (of_decide_eq_true (by kernel_rfl)) (by unfold Func.isWrapper; rw [if_neg (of_decide_eq_false (by kernel_rfl))]; exact ⟨rfl, rfl⟩)
    (fun os started H enc _ => fnExactAreEquivalent_lifted os started H enc)

end Go.Proofs.Ytliecidadhlieaa
