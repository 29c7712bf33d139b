/- FnExactDistinguishingWord returns true for every input, and its arguments read afterwards as they read before. No condition. -/
import Derived.Test.YtliecidadhlieaaWExactMissingWord
import Derived.Test.YtliecidadhlieaaWExactMissingWordb
import Derived.Test.YtliecidadhlieaaWExactDistinguishingWord
import Derived.Test.YtliecidadhlieaaRows
import Derived.ProofKit
namespace Go.Proofs.Ytliecidadhlieaa
open Go.ChangeShapes Go.WideShapes Go.ChangeAt Go.RowKit Go.Deep Go.Joins Go.KLib

theorem own_fnExactDistinguishingWord : ownKnob Try.prog.godebug = none := by kernel_rfl
theorem laid_fnExactDistinguishingWord : laidOutB Try.prog = true := by kernel_rfl

set_option maxRecDepth 100000 in
theorem fnExactDistinguishingWord_lifted (os : Os) (started : os.Started) (H : Type) (enc : TypeId × Value → H) :
    ReturnsInHanded {} Try.checked os 6 .any (Rows.fnExactDistinguishingWordSpec.pre6 enc Try.prog Try.f6 Rows.fnExactDistinguishingWordRow.domain false) (Rows.fnExactDistinguishingWordSpec.post enc Try.prog Try.f6 false true false false) := by
  refine returnsInHanded_of_change (C := Try.checked) own_fnExactDistinguishingWord started (by kernel_rfl) Try.func6
    (ChangeSpec.witness6 (enc := enc) (C := Try.checked) false ⟨#[], #[.agg #[.int .i64 0, .slice none 0 0, .slice none 0 0], .int .i64 0, .int .i64 0], []⟩ 8 (by kernel_rfl) (by kernel_rfl) (by kernel_rfl) (by kernel_rfl)) ?_
  intro W base args ds gs before hval0 hW hcnd _
  have hval : ∀ (j : Nat) t v, Try.f6.params[j]? = some t → args[j]? = some v → Value.okWide Try.prog W .any base t v := hval0
  have hW' := hW
  obtain ⟨p, q, hA0, hV, rfl, hfz, hnd⟩ := hW
  have hA : DataW.TrodAll enc Try.prog W 0 (fun _ => true) true Try.f6.params.toList args.toList ds p := hA0
  rw [Try.params6] at hA hval
  obtain ⟨v0, v1, v2, d0, d1, d2, p0, p1, p2, rfl, rfl, rfl, h0, h1, h2⟩ := trodAll_three hA
  obtain ⟨rfl, rfl⟩ := trodVars_none hV
  obtain ⟨cs0, rfl, cl0, cf0⟩ := open_cells 3 Try.underlying25 (by kernel_rfl) (by kernel_rfl) rfl (hval 0 25 v0 rfl rfl) h0
  obtain ⟨c0x0, c0x1, c0x2, rfl⟩ := list3 cl0
  obtain ⟨n0x0, y0x0, t0x0⟩ := cf0 0 _ _ rfl rfl
  obtain ⟨i0, rfl, lo0, hi0⟩ := open_I1 Try.underlying3 t0x0
  obtain ⟨n0x1, y0x1, t0x1⟩ := cf0 1 _ _ rfl rfl
  obtain ⟨xs1, L1⟩ := open_ls (cs := bcs) (k := 1) Try.underlying22 (by kernel_rfl) (by decide) bcs_len (fun _ _ _ _ h => open_B Try.underlying4 h) t0x1
  obtain ⟨n0x2, y0x2, t0x2⟩ := cf0 2 _ _ rfl rfl
  obtain ⟨svs2, xs2, L2, R2⟩ := open_nest (cs := ics) (k := 1) Try.underlying23 (by kernel_rfl) Try.underlying31 (by kernel_rfl) (by decide) ics_len (fun _ _ _ _ h => open_I Try.underlying3 h) t0x2
  obtain ⟨n1, y1, t1⟩ := trod_int1 Try.underlying3 (hval 1 3 v1 rfl rfl) h1
  obtain ⟨i3, rfl, lo3, hi3⟩ := open_I1 Try.underlying3 t1
  obtain ⟨n2, y2, t2⟩ := trod_int1 Try.underlying3 (hval 2 3 v2 rfl rfl) h2
  obtain ⟨i4, rfl, lo4, hi4⟩ := open_I1 Try.underlying3 t2
  refine (c_laws_FnExactDistinguishingWord i0 L1 L2 R2 i3 i4 ).mono fun v W' hv => ?_
  obtain ⟨rfl, hc⟩ := hv
  exact law_post laid_fnExactDistinguishingWord (by kernel_rfl) rfl Try.underlying4 rfl rfl hW' hc

theorem fnExactDistinguishingWord_holds : Rows.FnExactDistinguishingWordSaid :=
  OpenClaim.holds_of_wide 6 Try.f6 rfl rfl rfl rfl rfl rfl rfl ⟨rfl, rfl, rfl, rfl, rfl⟩ rfl rfl rfl rfl rfl (by kernel_rfl) Try.func6 (by kernel_rfl)
    (of_decide_eq_true (by kernel_rfl)) (by unfold Func.isWrapper; rw [if_neg (of_decide_eq_false (by kernel_rfl))]; exact ⟨rfl, rfl⟩)
    (fun os started H enc _ => fnExactDistinguishingWord_lifted os started H enc)

end Go.Proofs.Ytliecidadhlieaa
