/- FnExactAppendBatch returns true for every input, and its arguments read afterwards as they read before. No condition. -/
import Derived.Test.YtkmhgeppenifoaaWExactAppendBatch
import Derived.Test.YtkmhgeppenifoaaWExactAppendBatchb
import Derived.Test.YtkmhgeppenifoaaWExactAppendBatchc
import Derived.Test.YtkmhgeppenifoaaRows
import Derived.ProofKit
namespace Go.Proofs.Ytkmhgeppenifoaa
open Go.ChangeShapes Go.WideShapes Go.ChangeAt Go.RowKit Go.Deep Go.Joins Go.KLib

theorem Zcl : ownKnob Try.prog.godebug = none := by kernel_rfl
theorem Zci : laidOutB Try.prog = true := by kernel_rfl

set_option maxRecDepth 100000 in
theorem fnExactAppendBatch_lifted (os : Os) (started : os.Started) (H : Type) (enc : TypeId × Value → H) :
    ReturnsInHanded {} Try.checked os 4 .any (Rows.fnExactAppendBatchSpec.pre6 enc Try.prog Try.f4 Rows.fnExactAppendBatchRow.domain false) (Rows.fnExactAppendBatchSpec.post enc Try.prog Try.f4 false true false false) := by
  refine returnsInHanded_of_change (C := Try.checked) Zcl started (by kernel_rfl) Try.func4
    (ChangeSpec.witness6 (enc := enc) (C := Try.checked) false ⟨#[], #[.agg #[.int .i64 0, .slice none 0 0], .agg #[.slice none 0 0]], []⟩ 8 (by kernel_rfl) (by kernel_rfl) (by kernel_rfl) (by kernel_rfl)) ?_
  intro W base args ds gs before hval0 hW hcnd _
  have hval : ∀ (j : Nat) t v, Try.f4.params[j]? = some t → args[j]? = some v → Value.okWide Try.prog W .any base t v := hval0
  have hW' := hW
  obtain ⟨p, q, hA0, hV, rfl, hfz, hnd⟩ := hW
  have hA : DataW.TrodAll enc Try.prog W 0 (fun _ => true) true Try.f4.params.toList args.toList ds p := hA0
  rw [Try.params4] at hA hval
  obtain ⟨v0, v1, d0, d1, p0, p1, rfl, rfl, rfl, h0, h1⟩ := trodAll_two hA
  obtain ⟨rfl, rfl⟩ := trodVars_none hV
  obtain ⟨cs0, rfl, cl0, cf0⟩ := Zgm 2 Try.underlying49 (by kernel_rfl) (by kernel_rfl) rfl (hval 0 49 v0 rfl rfl) h0
  obtain ⟨c0x0, c0x1, rfl⟩ := Zmv cl0
  obtain ⟨n0x0, y0x0, t0x0⟩ := cf0 0 _ _ rfl rfl
  obtain ⟨i0, rfl, lo0, hi0⟩ := Zmh Try.underlying3 t0x0
  obtain ⟨n0x1, y0x1, t0x1⟩ := cf0 1 _ _ rfl rfl
  obtain ⟨svs1, xs1, L1, R1⟩ := Ziz Try.underlying47 (by kernel_rfl) Try.underlying25 (by kernel_rfl) Try.underlying22 (by kernel_rfl) Try.underlying23 (by kernel_rfl) (fun _ _ _ _ h => Znp Try.underlying3 h) (fun _ _ _ _ h => Zgp (by kernel_rfl) h) t0x1
  obtain ⟨cs1, rfl, cl1, cf1⟩ := Zgm 1 Try.underlying52 (by kernel_rfl) (by kernel_rfl) rfl (hval 1 52 v1 rfl rfl) h1
  obtain ⟨c1x0, rfl⟩ := Znw cl1
  obtain ⟨n1x0, y1x0, t1x0⟩ := cf1 0 _ _ rfl rfl
  obtain ⟨xs2, L2⟩ := Zib (cs := Chg.cs) (k := 5) Try.underlying50 (by kernel_rfl) (by decide) Chg.len (fun _ _ _ _ h => Zkx (by kernel_rfl) h) t1x0
  refine (Zbr i0 L1 R1 L2 ).mono fun v W' hv => ?_
  obtain ⟨rfl, hc⟩ := hv
  exact Zlc Zci (by kernel_rfl) rfl Try.underlying4 rfl rfl hW' hc

theorem fnExactAppendBatch_holds : Rows.FnExactAppendBatchSaid :=
  OpenClaim.holds_of_wide 4 Try.f4 rfl rfl rfl rfl rfl rfl rfl ⟨rfl, rfl, rfl, rfl, rfl⟩ rfl rfl rfl rfl rfl (by kernel_rfl) Try.func4 (by kernel_rfl)
    (of_decide_eq_true (by kernel_rfl)) (by unfold Func.isWrapper; rw [if_neg (of_decide_eq_false (by kernel_rfl))]; exact ⟨rfl, rfl⟩)
    (fun os started H enc _ => fnExactAppendBatch_lifted os started H enc)

end Go.Proofs.Ytkmhgeppenifoaa
