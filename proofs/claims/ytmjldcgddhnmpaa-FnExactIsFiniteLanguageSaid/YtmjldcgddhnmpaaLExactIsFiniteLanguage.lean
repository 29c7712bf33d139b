/- FnExactIsFiniteLanguage returns true for every input, and its arguments read afterwards as they read before. No condition. -/
import Derived.Test.YtmjldcgddhnmpaaWExactIsFiniteLanguage
import Derived.Test.YtmjldcgddhnmpaaWExactIsFiniteLanguageb
import Derived.Test.YtmjldcgddhnmpaaRows
import Derived.ProofKit
namespace Go.Proofs.Ytmjldcgddhnmpaa
open Go.ChangeShapes Go.WideShapes Go.ChangeAt Go.RowKit Go.Deep Go.Joins Go.KLib

theorem own_fnExactIsFiniteLanguage : ownKnob Try.prog.godebug = none := by kernel_rfl
theorem laid_fnExactIsFiniteLanguage : laidOutB Try.prog = true := by kernel_rfl

set_option maxRecDepth 100000 in
theorem fnExactIsFiniteLanguage_lifted (os : Os) (started : os.Started) (H : Type) (enc : TypeId × Value → H) :
    ReturnsInHanded {} Try.checked os 4 .any (Rows.fnExactIsFiniteLanguageSpec.pre6 enc Try.prog Try.f4 Rows.fnExactIsFiniteLanguageRow.domain false) (Rows.fnExactIsFiniteLanguageSpec.post enc Try.prog Try.f4 false true false false) := by
  refine returnsInHanded_of_change (C := Try.checked) own_fnExactIsFiniteLanguage started (by kernel_rfl) Try.func4
    (ChangeSpec.witness6 (enc := enc) (C := Try.checked) false ⟨#[], #[.agg #[.int .i64 0, .slice none 0 0, .slice none 0 0]], []⟩ 8 (by kernel_rfl) (by kernel_rfl) (by kernel_rfl) (by kernel_rfl)) ?_
  intro W base args ds gs before hval0 hW hcnd _
  have hval : ∀ (j : Nat) t v, Try.f4.params[j]? = some t → args[j]? = some v → Value.okWide Try.prog W .any base t v := hval0
  have hW' := hW
  obtain ⟨p, q, hA0, hV, rfl, hfz, hnd⟩ := hW
  have hA : DataW.TrodAll enc Try.prog W 0 (fun _ => true) true Try.f4.params.toList args.toList ds p := hA0
  rw [Try.params4] at hA hval
  obtain ⟨v0, d0, rfl, rfl, h0⟩ := trodAll_one hA
  obtain ⟨rfl, rfl⟩ := trodVars_none hV
  obtain ⟨cs0, rfl, cl0, cf0⟩ := open_cells 3 Try.underlying39 (by kernel_rfl) (by kernel_rfl) rfl (hval 0 39 v0 rfl rfl) h0
  obtain ⟨c0x0, c0x1, c0x2, rfl⟩ := list3 cl0
  obtain ⟨n0x0, y0x0, t0x0⟩ := cf0 0 _ _ rfl rfl
  obtain ⟨i0, rfl, lo0, hi0⟩ := open_I1 Try.underlying3 t0x0
  obtain ⟨n0x1, y0x1, t0x1⟩ := cf0 1 _ _ rfl rfl
  obtain ⟨xs1, L1⟩ := open_ls (cs := bcs) (k := 1) Try.underlying37 (by kernel_rfl) (by decide) bcs_len (fun _ _ _ _ h => open_B Try.underlying4 h) t0x1
  obtain ⟨n0x2, y0x2, t0x2⟩ := cf0 2 _ _ rfl rfl
  obtain ⟨svs2, xs2, L2, R2⟩ := open_nest (cs := ics) (k := 1) Try.underlying26 (by kernel_rfl) Try.underlying46 (by kernel_rfl) (by decide) ics_len (fun _ _ _ _ h => open_I Try.underlying3 h) t0x2
  refine (c_laws_FnExactIsFiniteLanguage i0 L1 L2 R2 ).mono fun v W' hv => ?_
  obtain ⟨rfl, hc⟩ := hv
  exact law_post laid_fnExactIsFiniteLanguage (by kernel_rfl) rfl Try.underlying4 rfl rfl hW' hc

theorem fnExactIsFiniteLanguage_holds : Rows.FnExactIsFiniteLanguageSaid :=
  OpenClaim.holds_of_wide 4 Try.f4 rfl rfl rfl rfl rfl rfl rfl ⟨rfl, rfl, rfl, rfl, rfl⟩ rfl rfl rfl rfl rfl (by kernel_rfl) Try.func4 (by kernel_rfl)
    (of_decide_eq_true (by kernel_rfl)) (by unfold Func.isWrapper; rw [if_neg (of_decide_eq_false (by kernel_rfl))]; exact ⟨rfl, rfl⟩)
    (fun os started H enc _ => fnExactIsFiniteLanguage_lifted os started H enc)

end Go.Proofs.Ytmjldcgddhnmpaa
