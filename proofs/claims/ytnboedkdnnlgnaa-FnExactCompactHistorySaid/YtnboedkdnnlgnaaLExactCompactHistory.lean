/- FnExactCompactHistory returns true for every input, and its arguments read afterwards as they read before. No condition. -/
import Derived.Test.YtnboedkdnnlgnaaWExactCompactHistory
import Derived.Test.YtnboedkdnnlgnaaWExactCompactHistoryb
import Derived.Test.YtnboedkdnnlgnaaRows
import Derived.ProofKit
namespace Go.Proofs.Ytnboedkdnnlgnaa
open Go.ChangeShapes Go.WideShapes Go.ChangeAt Go.RowKit Go.Deep Go.Joins Go.KLib

theorem own_fnExactCompactHistory : ownKnob Try.prog.godebug = none := by kernel_rfl
theorem laid_fnExactCompactHistory : laidOutB Try.prog = true := by kernel_rfl

set_option maxRecDepth 100000 in
theorem fnExactCompactHistory_lifted (os : Os) (started : os.Started) (H : Type) (enc : TypeId × Value → H) :
    ReturnsInHanded {} Try.checked os 3 .any (Rows.fnExactCompactHistorySpec.pre6 enc Try.prog Try.f3 Rows.fnExactCompactHistoryRow.domain false) (Rows.fnExactCompactHistorySpec.post enc Try.prog Try.f3 false true false false) := by
  refine returnsInHanded_of_change (C := Try.checked) own_fnExactCompactHistory started (by kernel_rfl) Try.func3
    (ChangeSpec.witness6 (enc := enc) (C := Try.checked) false ⟨#[], #[.agg #[.int .i64 0, .slice none 0 0], .int .i64 0], []⟩ 8 (by kernel_rfl) (by kernel_rfl) (by kernel_rfl) (by kernel_rfl)) ?_
  intro W base args ds gs before hval0 hW hcnd _
  have hval : ∀ (j : Nat) t v, Try.f3.params[j]? = some t → args[j]? = some v → Value.okWide Try.prog W .any base t v := hval0
  have hW' := hW
  obtain ⟨p, q, hA0, hV, rfl, hfz, hnd⟩ := hW
  have hA : DataW.TrodAll enc Try.prog W 0 (fun _ => true) true Try.f3.params.toList args.toList ds p := hA0
  rw [Try.params3] at hA hval
  obtain ⟨v0, v1, d0, d1, p0, p1, rfl, rfl, rfl, h0, h1⟩ := trodAll_two hA
  obtain ⟨rfl, rfl⟩ := trodVars_none hV
  obtain ⟨cs0, rfl, cl0, cf0⟩ := open_cells 2 Try.underlying24 (by kernel_rfl) (by kernel_rfl) rfl (hval 0 24 v0 rfl rfl) h0
  obtain ⟨c0x0, c0x1, rfl⟩ := list2 cl0
  obtain ⟨n0x0, y0x0, t0x0⟩ := cf0 0 _ _ rfl rfl
  obtain ⟨i0, rfl, lo0, hi0⟩ := open_I1 Try.underlying3 t0x0
  obtain ⟨n0x1, y0x1, t0x1⟩ := cf0 1 _ _ rfl rfl
  obtain ⟨svs1, xs1, L1, R1⟩ := open_nestG Try.underlying22 (by kernel_rfl) Try.underlying46 (by kernel_rfl) Try.underlying43 (by kernel_rfl) Try.underlying44 (by kernel_rfl) (fun _ _ _ _ h => open_I Try.underlying3 h) (fun _ _ _ _ h => open_GEdge (by kernel_rfl) h) t0x1
  obtain ⟨n1, y1, t1⟩ := trod_int1 Try.underlying3 (hval 1 3 v1 rfl rfl) h1
  obtain ⟨i2, rfl, lo2, hi2⟩ := open_I1 Try.underlying3 t1
  refine (c_laws_FnExactCompactHistory i0 L1 R1 i2 ).mono fun v W' hv => ?_
  obtain ⟨rfl, hc⟩ := hv
  exact law_post laid_fnExactCompactHistory (by kernel_rfl) rfl Try.underlying4 rfl rfl hW' hc

theorem fnExactCompactHistory_holds : Rows.FnExactCompactHistorySaid :=
  OpenClaim.holds_of_wide 3 Try.f3 rfl rfl rfl rfl rfl rfl rfl ⟨rfl, rfl, rfl, rfl, rfl⟩ rfl rfl rfl rfl rfl (by kernel_rfl) Try.func3 (by kernel_rfl)
    (of_decide_eq_true (by kernel_rfl)) (by unfold Func.isWrapper; rw [if_neg (of_decide_eq_false (by kernel_rfl))]; exact ⟨rfl, rfl⟩)
    (fun os started H enc _ => fnExactCompactHistory_lifted os started H enc)

end Go.Proofs.Ytnboedkdnnlgnaa
