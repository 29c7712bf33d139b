/- FnExactWordsUpTo returns true for every input, and its arguments read afterwards as they read before. No condition. -/
import Derived.Test.YtmjldcgddhnmpaaWExactWordsUpTo
import Derived.Test.YtmjldcgddhnmpaaWExactWordsUpTob
import Derived.Test.YtmjldcgddhnmpaaWExactWordsUpToc
import Derived.Test.YtmjldcgddhnmpaaRows
import Derived.ProofKit
namespace Go.Proofs.Ytmjldcgddhnmpaa
open Go.ChangeShapes Go.WideShapes Go.ChangeAt Go.RowKit Go.Deep Go.Joins Go.KLib

theorem own_fnExactWordsUpTo : ownKnob Try.prog.godebug = none := by kernel_rfl
theorem laid_fnExactWordsUpTo : laidOutB Try.prog = true := by kernel_rfl

set_option maxRecDepth 100000 in
theorem fnExactWordsUpTo_lifted (os : Os) (started : os.Started) (H : Type) (enc : TypeId × Value → H) :
    ReturnsInHanded {} Try.checked os 3 .any (Rows.fnExactWordsUpToSpec.pre6 enc Try.prog Try.f3 Rows.fnExactWordsUpToRow.domain false) (Rows.fnExactWordsUpToSpec.post enc Try.prog Try.f3 false true false false) := by
  refine returnsInHanded_of_change (C := Try.checked) own_fnExactWordsUpTo started (by kernel_rfl) Try.func3
    (ChangeSpec.witness6 (enc := enc) (C := Try.checked) false ⟨#[], #[.agg #[.slice none 0 0], .int .i64 0], []⟩ 8 (by kernel_rfl) (by kernel_rfl) (by kernel_rfl) (by kernel_rfl)) ?_
  intro W base args ds gs before hval0 hW hcnd _
  have hval : ∀ (j : Nat) t v, Try.f3.params[j]? = some t → args[j]? = some v → Value.okWide Try.prog W .any base t v := hval0
  have hW' := hW
  obtain ⟨p, q, hA0, hV, rfl, hfz, hnd⟩ := hW
  have hA : DataW.TrodAll enc Try.prog W 0 (fun _ => true) true Try.f3.params.toList args.toList ds p := hA0
  rw [Try.params3] at hA hval
  obtain ⟨v0, v1, d0, d1, p0, p1, rfl, rfl, rfl, h0, h1⟩ := trodAll_two hA
  obtain ⟨rfl, rfl⟩ := trodVars_none hV
  obtain ⟨cs0, rfl, cl0, cf0⟩ := open_cells 1 Try.underlying24 (by kernel_rfl) (by kernel_rfl) rfl (hval 0 24 v0 rfl rfl) h0
  obtain ⟨c0x0, rfl⟩ := list1 cl0
  obtain ⟨n0x0, y0x0, t0x0⟩ := cf0 0 _ _ rfl rfl
  obtain ⟨xs0, L0⟩ := open_ls (cs := Token.cs) (k := 4) Try.underlying22 (by kernel_rfl) (by decide) Token.len (fun _ _ _ _ h => open_Token (by kernel_rfl) h) t0x0
  obtain ⟨n1, y1, t1⟩ := trod_int1 Try.underlying3 (hval 1 3 v1 rfl rfl) h1
  obtain ⟨i1, rfl, lo1, hi1⟩ := open_I1 Try.underlying3 t1
  refine (c_laws_FnExactWordsUpTo L0 i1 ).mono fun v W' hv => ?_
  obtain ⟨rfl, hc⟩ := hv
  exact law_post laid_fnExactWordsUpTo (by kernel_rfl) rfl Try.underlying4 rfl rfl hW' hc

theorem fnExactWordsUpTo_holds : Rows.FnExactWordsUpToSaid :=
  OpenClaim.holds_of_wide 3 Try.f3 rfl rfl rfl rfl rfl rfl rfl ⟨rfl, rfl, rfl, rfl, rfl⟩ rfl rfl rfl rfl rfl (by kernel_rfl) Try.func3 (by kernel_rfl)
    (of_decide_eq_true (by kernel_rfl)) (by unfold Func.isWrapper; rw [if_neg (of_decide_eq_false (by kernel_rfl))]; exact ⟨rfl, rfl⟩)
    (fun os started H enc _ => fnExactWordsUpTo_lifted os started H enc)

end Go.Proofs.Ytmjldcgddhnmpaa
