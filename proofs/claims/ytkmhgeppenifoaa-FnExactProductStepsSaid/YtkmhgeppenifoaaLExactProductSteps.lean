/- FnExactProductSteps returns true for every input, and its arguments read afterwards as they read before. No condition. -/
import Derived.Test.YtkmhgeppenifoaaWExactProductSteps
import Derived.Test.YtkmhgeppenifoaaWExactProductStepsb
import Derived.Test.YtkmhgeppenifoaaWExactProductStepsc
import Derived.Test.YtkmhgeppenifoaaWExactProductStepsd
import Derived.Test.YtkmhgeppenifoaaRows
import Derived.ProofKit
namespace Go.Proofs.Ytkmhgeppenifoaa
open Go.ChangeShapes Go.WideShapes Go.ChangeAt Go.RowKit Go.Deep Go.Joins Go.KLib

theorem Zbc : ownKnob Try.prog.godebug = none := by kernel_rfl
theorem Zax : laidOutB Try.prog = true := by kernel_rfl

set_option maxRecDepth 100000 in
theorem fnExactProductSteps_lifted (os : Os) (started : os.Started) (H : Type) (enc : TypeId × Value → H) :
    ReturnsInHanded {} Try.checked os 3 .any (Rows.fnExactProductStepsSpec.pre6 enc Try.prog Try.f3 Rows.fnExactProductStepsRow.domain false) (Rows.fnExactProductStepsSpec.post enc Try.prog Try.f3 false true false false) := by
  refine returnsInHanded_of_change (C := Try.checked) Zbc started (by kernel_rfl) Try.func3
    (ChangeSpec.witness6 (enc := enc) (C := Try.checked) false ⟨#[], #[.agg #[.slice none 0 0, .slice none 0 0], .agg #[.int .i64 0, .slice none 0 0, .slice none 0 0], .int .i64 0, .int .i64 0], []⟩ 8 (by kernel_rfl) (by kernel_rfl) (by kernel_rfl) (by kernel_rfl)) ?_
  intro W base args ds gs before hval0 hW hcnd _
  have hval : ∀ (j : Nat) t v, Try.f3.params[j]? = some t → args[j]? = some v → Value.okWide Try.prog W .any base t v := hval0
  have hW' := hW
  obtain ⟨p, q, hA0, hV, rfl, hfz, hnd⟩ := hW
  have hA : DataW.TrodAll enc Try.prog W 0 (fun _ => true) true Try.f3.params.toList args.toList ds p := hA0
  rw [Try.params3] at hA hval
  obtain ⟨v0, v1, v2, v3, d0, d1, d2, d3, p0, p1, p2, p3, rfl, rfl, rfl, h0, h1, h2, h3⟩ := trodAll_four hA
  obtain ⟨rfl, rfl⟩ := trodVars_none hV
  obtain ⟨cs0, rfl, cl0, cf0⟩ := Zes 2 Try.underlying25 (by kernel_rfl) (by kernel_rfl) rfl (hval 0 25 v0 rfl rfl) h0
  obtain ⟨c0x0, c0x1, rfl⟩ := Zmy cl0
  obtain ⟨n0x0, y0x0, t0x0⟩ := cf0 0 _ _ rfl rfl
  obtain ⟨xs0, L0⟩ := Zfd (cs := ics) (k := 1) Try.underlying22 (by kernel_rfl) (by decide) Xr (fun _ _ _ _ h => Zkv Try.underlying3 h) t0x0
  obtain ⟨n0x1, y0x1, t0x1⟩ := cf0 1 _ _ rfl rfl
  obtain ⟨xs1, L1⟩ := Zfd (cs := GEdge.cs) (k := 4) Try.underlying23 (by kernel_rfl) (by decide) GEdge.len (fun _ _ _ _ h => Zhz (by kernel_rfl) h) t0x1
  obtain ⟨cs1, rfl, cl1, cf1⟩ := Zes 3 Try.underlying29 (by kernel_rfl) (by kernel_rfl) rfl (hval 1 29 v1 rfl rfl) h1
  obtain ⟨c1x0, c1x1, c1x2, rfl⟩ := Zmr cl1
  obtain ⟨n1x0, y1x0, t1x0⟩ := cf1 0 _ _ rfl rfl
  obtain ⟨i2, rfl, lo2, hi2⟩ := Zgx Try.underlying3 t1x0
  obtain ⟨n1x1, y1x1, t1x1⟩ := cf1 1 _ _ rfl rfl
  obtain ⟨xs3, L3⟩ := Zfd (cs := bcs) (k := 1) Try.underlying26 (by kernel_rfl) (by decide) Zcc (fun _ _ _ _ h => Zmm Try.underlying4 h) t1x1
  obtain ⟨n1x2, y1x2, t1x2⟩ := cf1 2 _ _ rfl rfl
  obtain ⟨svs4, xs4, L4, R4⟩ := Zjn (cs := ics) (k := 1) Try.underlying27 (by kernel_rfl) Try.underlying22 (by kernel_rfl) (by decide) Xr (fun _ _ _ _ h => Zkv Try.underlying3 h) t1x2
  obtain ⟨n2, y2, t2⟩ := Zgk Try.underlying3 (hval 2 3 v2 rfl rfl) h2
  obtain ⟨i5, rfl, lo5, hi5⟩ := Zgx Try.underlying3 t2
  obtain ⟨n3, y3, t3⟩ := Zgk Try.underlying3 (hval 3 3 v3 rfl rfl) h3
  obtain ⟨i6, rfl, lo6, hi6⟩ := Zgx Try.underlying3 t3
  refine (Zaq L0 L1 i2 L3 L4 R4 i5 i6 ).mono fun v W' hv => ?_
  obtain ⟨rfl, hc⟩ := hv
  exact Zkd Zax (by kernel_rfl) rfl Try.underlying4 rfl rfl hW' hc

theorem fnExactProductSteps_holds : Rows.FnExactProductStepsSaid :=
  OpenClaim.holds_of_wide 3 Try.f3 rfl rfl rfl rfl rfl rfl rfl ⟨rfl, rfl, rfl, rfl, rfl⟩ rfl rfl rfl rfl rfl (by kernel_rfl) Try.func3 (by kernel_rfl)
    (of_decide_eq_true (by kernel_rfl)) (by unfold Func.isWrapper; rw [if_neg (of_decide_eq_false (by kernel_rfl))]; exact ⟨rfl, rfl⟩)
    (fun os started H enc _ => fnExactProductSteps_lifted os started H enc)

end Go.Proofs.Ytkmhgeppenifoaa
