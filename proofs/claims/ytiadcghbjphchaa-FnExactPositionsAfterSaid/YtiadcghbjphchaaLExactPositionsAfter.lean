/- FnExactPositionsAfter returns true for every input, and its arguments read afterwards as they read before. No condition. -/
import Derived.Test.YtiadcghbjphchaaWExactPositionsAfter
import Derived.Test.YtiadcghbjphchaaRows
import Derived.ProofKit
namespace Go.Proofs.Ytiadcghbjphchaa
open Go.ChangeShapes Go.WideShapes Go.ChangeAt Go.RowKit Go.Deep Go.Joins Go.KLib

theorem own_fnExactPositionsAfter : ownKnob Try.prog.godebug = none := by kernel_rfl
theorem laid_fnExactPositionsAfter : laidOutB Try.prog = true := by kernel_rfl

set_option maxRecDepth 100000 in
theorem fnExactPositionsAfter_lifted (os : Os) (started : os.Started) (H : Type) (enc : TypeId × Value → H) :
    ReturnsInHanded {} Try.checked os 9 .any (Rows.fnExactPositionsAfterSpec.pre6 enc Try.prog Try.f9 Rows.fnExactPositionsAfterRow.domain false) (Rows.fnExactPositionsAfterSpec.post enc Try.prog Try.f9 false true false false) := by
  refine returnsInHanded_of_change (C := Try.checked) own_fnExactPositionsAfter started (by kernel_rfl) Try.func9
    (ChangeSpec.witness6 (enc := enc) (C := Try.checked) false ⟨#[], #[.agg #[.slice none 0 0, .int .i64 0, .int .i64 0, .slice none 0 0, .bool false], .int .i64 0, .int .i64 0], []⟩ 8 (by kernel_rfl) (by kernel_rfl) (by kernel_rfl) (by kernel_rfl)) ?_
  intro W base args ds gs before hval0 hW hcnd _
  have hval : ∀ (j : Nat) t v, Try.f9.params[j]? = some t → args[j]? = some v → Value.okWide Try.prog W .any base t v := hval0
  have hW' := hW
  obtain ⟨p, q, hA0, hV, rfl, hfz, hnd⟩ := hW
  have hA : DataW.TrodAll enc Try.prog W 0 (fun _ => true) true Try.f9.params.toList args.toList ds p := hA0
  rw [Try.params9] at hA hval
  obtain ⟨v0, v1, v2, d0, d1, d2, p0, p1, p2, rfl, rfl, rfl, h0, h1, h2⟩ := trodAll_three hA
  obtain ⟨rfl, rfl⟩ := trodVars_none hV
  obtain ⟨cs0, rfl, cl0, cf0⟩ := open_cells 5 Try.underlying45 (by kernel_rfl) (by kernel_rfl) rfl (hval 0 45 v0 rfl rfl) h0
  obtain ⟨c0x0, c0x1, c0x2, c0x3, c0x4, rfl⟩ := list5 cl0
  obtain ⟨n0x0, y0x0, t0x0⟩ := cf0 0 _ _ rfl rfl
  obtain ⟨xs0, L0⟩ := open_ls (cs := ics) (k := 1) Try.underlying43 (by kernel_rfl) (by decide) ics_len (fun _ _ _ _ h => open_I Try.underlying3 h) t0x0
  obtain ⟨n0x1, y0x1, t0x1⟩ := cf0 1 _ _ rfl rfl
  obtain ⟨i1, rfl, lo1, hi1⟩ := open_I1 Try.underlying3 t0x1
  obtain ⟨n0x2, y0x2, t0x2⟩ := cf0 2 _ _ rfl rfl
  obtain ⟨i2, rfl, lo2, hi2⟩ := open_I1 Try.underlying3 t0x2
  obtain ⟨n0x3, y0x3, t0x3⟩ := cf0 3 _ _ rfl rfl
  obtain ⟨xs3, L3⟩ := open_ls (cs := ics) (k := 1) Try.underlying43 (by kernel_rfl) (by decide) ics_len (fun _ _ _ _ h => open_I Try.underlying3 h) t0x3
  obtain ⟨n0x4, y0x4, t0x4⟩ := cf0 4 _ _ rfl rfl
  obtain ⟨b4, rfl⟩ := open_B1 Try.underlying4 t0x4
  obtain ⟨n1, y1, t1⟩ := trod_int1 Try.underlying3 (hval 1 3 v1 rfl rfl) h1
  obtain ⟨i5, rfl, lo5, hi5⟩ := open_I1 Try.underlying3 t1
  obtain ⟨n2, y2, t2⟩ := trod_int1 Try.underlying3 (hval 2 3 v2 rfl rfl) h2
  obtain ⟨i6, rfl, lo6, hi6⟩ := open_I1 Try.underlying3 t2
  refine (c_laws_FnExactPositionsAfter L0 i1 i2 L3 b4 i5 i6 ).mono fun v W' hv => ?_
  obtain ⟨rfl, hc⟩ := hv
  exact law_post laid_fnExactPositionsAfter (by kernel_rfl) rfl Try.underlying4 rfl rfl hW' hc

theorem fnExactPositionsAfter_holds : Rows.FnExactPositionsAfterSaid :=
  OpenClaim.holds_of_wide 9 Try.f9 rfl rfl rfl rfl rfl rfl rfl ⟨rfl, rfl, rfl, rfl, rfl⟩ rfl rfl rfl rfl rfl (by kernel_rfl) Try.func9 (by kernel_rfl)
    (of_decide_eq_true (by kernel_rfl)) (by unfold Func.isWrapper; rw [if_neg (of_decide_eq_false (by kernel_rfl))]; exact ⟨rfl, rfl⟩)
    (fun os started H enc _ => fnExactPositionsAfter_lifted os started H enc)

end Go.Proofs.Ytiadcghbjphchaa
