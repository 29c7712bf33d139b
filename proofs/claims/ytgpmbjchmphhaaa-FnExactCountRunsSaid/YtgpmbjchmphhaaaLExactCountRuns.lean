/- FnExactCountRuns returns true for every input, and its arguments read afterwards as they read before. No condition. -/
import Derived.Test.YtgpmbjchmphhaaaWExactUsefulStates
import Derived.Test.YtgpmbjchmphhaaaWExactTestClosure
import Derived.Test.YtgpmbjchmphhaaaWExactCountRuns
import Derived.Test.YtgpmbjchmphhaaaWExactCountRunsb
import Derived.Test.YtgpmbjchmphhaaaRows
import Derived.ProofKit
namespace Go.Proofs.Ytgpmbjchmphhaaa
open Go.ChangeShapes Go.WideShapes Go.ChangeAt Go.RowKit Go.Deep Go.Joins Go.KLib

theorem own_fnExactCountRuns : ownKnob Try.prog.godebug = none := by kernel_rfl
theorem laid_fnExactCountRuns : laidOutB Try.prog = true := by kernel_rfl

set_option maxRecDepth 100000 in
theorem fnExactCountRuns_lifted (os : Os) (started : os.Started) (H : Type) (enc : TypeId × Value → H) :
    ReturnsInHanded {} Try.checked os 4 .any (Rows.fnExactCountRunsSpec.pre6 enc Try.prog Try.f4 Rows.fnExactCountRunsRow.domain false) (Rows.fnExactCountRunsSpec.post enc Try.prog Try.f4 false true false false) := by
  refine returnsInHanded_of_change (C := Try.checked) own_fnExactCountRuns started (by kernel_rfl) Try.func4
    (ChangeSpec.witness6 (enc := enc) (C := Try.checked) false ⟨#[], #[.agg #[.slice none 0 0, .int .i64 0, .int .i64 0, .slice none 0 0, .bool false], .slice none 0 0], []⟩ 8 (by kernel_rfl) (by kernel_rfl) (by kernel_rfl) (by kernel_rfl)) ?_
  intro W base args ds gs before hval0 hW hcnd _
  have hval : ∀ (j : Nat) t v, Try.f4.params[j]? = some t → args[j]? = some v → Value.okWide Try.prog W .any base t v := hval0
  have hW' := hW
  obtain ⟨p, q, hA0, hV, rfl, hfz, hnd⟩ := hW
  have hA : DataW.TrodAll enc Try.prog W 0 (fun _ => true) true Try.f4.params.toList args.toList ds p := hA0
  rw [Try.params4] at hA hval
  obtain ⟨v0, v1, d0, d1, p0, p1, rfl, rfl, rfl, h0, h1⟩ := trodAll_two hA
  obtain ⟨rfl, rfl⟩ := trodVars_none hV
  obtain ⟨cs0, rfl, cl0, cf0⟩ := open_cells 5 Try.underlying34 (by kernel_rfl) (by kernel_rfl) rfl (hval 0 34 v0 rfl rfl) h0
  obtain ⟨c0x0, c0x1, c0x2, c0x3, c0x4, rfl⟩ := list5 cl0
  obtain ⟨n0x0, y0x0, t0x0⟩ := cf0 0 _ _ rfl rfl
  obtain ⟨xs0, L0⟩ := open_ls (cs := ics) (k := 1) Try.underlying32 (by kernel_rfl) (by decide) ics_len (fun _ _ _ _ h => open_I Try.underlying3 h) t0x0
  obtain ⟨n0x1, y0x1, t0x1⟩ := cf0 1 _ _ rfl rfl
  obtain ⟨i1, rfl, lo1, hi1⟩ := open_I1 Try.underlying3 t0x1
  obtain ⟨n0x2, y0x2, t0x2⟩ := cf0 2 _ _ rfl rfl
  obtain ⟨i2, rfl, lo2, hi2⟩ := open_I1 Try.underlying3 t0x2
  obtain ⟨n0x3, y0x3, t0x3⟩ := cf0 3 _ _ rfl rfl
  obtain ⟨xs3, L3⟩ := open_ls (cs := ics) (k := 1) Try.underlying32 (by kernel_rfl) (by decide) ics_len (fun _ _ _ _ h => open_I Try.underlying3 h) t0x3
  obtain ⟨n0x4, y0x4, t0x4⟩ := cf0 4 _ _ rfl rfl
  obtain ⟨b4, rfl⟩ := open_B1 Try.underlying4 t0x4
  obtain ⟨n1, y1, t1⟩ := trod_slice1 Try.underlying32 (hval 1 32 v1 rfl rfl) h1
  obtain ⟨xs5, L5⟩ := open_ls (cs := ics) (k := 1) Try.underlying32 (by kernel_rfl) (by decide) ics_len (fun _ _ _ _ h => open_I Try.underlying3 h) t1
  refine (c_laws_FnExactCountRuns L0 i1 i2 L3 b4 L5 ).mono fun v W' hv => ?_
  obtain ⟨rfl, hc⟩ := hv
  exact law_post laid_fnExactCountRuns (by kernel_rfl) rfl Try.underlying4 rfl rfl hW' hc

theorem fnExactCountRuns_holds : Rows.FnExactCountRunsSaid :=
  OpenClaim.holds_of_wide 4 Try.f4 rfl rfl rfl rfl rfl rfl rfl ⟨rfl, rfl, rfl, rfl, rfl⟩ rfl rfl rfl rfl rfl (by kernel_rfl) Try.func4 (by kernel_rfl)
    (of_decide_eq_true (by kernel_rfl)) (by unfold Func.isWrapper; rw [if_neg (of_decide_eq_false (by kernel_rfl))]; exact ⟨rfl, rfl⟩)
    (fun os started H enc _ => fnExactCountRuns_lifted os started H enc)

end Go.Proofs.Ytgpmbjchmphhaaa
