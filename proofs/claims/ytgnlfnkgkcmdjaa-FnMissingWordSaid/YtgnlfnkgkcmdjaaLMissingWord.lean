/- FnMissingWord returns true for every input, and its arguments read afterwards as they read before. No condition. -/
import Derived.Test.YtgnlfnkgkcmdjaaWMissingWord
import Derived.Test.YtgnlfnkgkcmdjaaWMissingWordb
import Derived.Test.YtgnlfnkgkcmdjaaWMissingWordc
import Derived.Test.YtgnlfnkgkcmdjaaWMissingWordd
import Derived.Test.YtgnlfnkgkcmdjaaWMissingWorde
import Derived.Test.YtgnlfnkgkcmdjaaRows
import Derived.ProofKit
namespace Go.Proofs.Ytgnlfnkgkcmdjaa
open Go.ChangeShapes Go.WideShapes Go.ChangeAt Go.RowKit Go.Deep Go.Joins Go.KLib

theorem Zfz : ownKnob Try.prog.godebug = none := by kernel_rfl
theorem Zfk : laidOutB Try.prog = true := by kernel_rfl

set_option maxRecDepth 100000 in
theorem fnMissingWord_lifted (os : Os) (started : os.Started) (H : Type) (enc : TypeId × Value → H) :
    ReturnsInHanded {} Try.checked os 4 .any (Rows.fnMissingWordSpec.pre6 enc Try.prog Try.f4 Rows.fnMissingWordRow.domain false) (Rows.fnMissingWordSpec.post enc Try.prog Try.f4 false true false false) := by
  refine returnsInHanded_of_change (C := Try.checked) Zfz started (by kernel_rfl) Try.func4
    (ChangeSpec.witness6 (enc := enc) (C := Try.checked) false ⟨#[], #[.slice none 0 0], []⟩ 8 (by kernel_rfl) (by kernel_rfl) (by kernel_rfl) (by kernel_rfl)) ?_
  intro W base args ds gs before hval0 hW hcnd _
  have hval : ∀ (j : Nat) t v, Try.f4.params[j]? = some t → args[j]? = some v → Value.okWide Try.prog W .any base t v := hval0
  have hW' := hW
  obtain ⟨p, q, hA0, hV, rfl, hfz, hnd⟩ := hW
  have hA : DataW.TrodAll enc Try.prog W 0 (fun _ => true) true Try.f4.params.toList args.toList ds p := hA0
  rw [Try.params4] at hA hval
  obtain ⟨v0, d0, rfl, rfl, h0⟩ := trodAll_one hA
  obtain ⟨rfl, rfl⟩ := trodVars_none hV
  obtain ⟨n0, y0, t0⟩ := Zmn Try.underlying22 (hval 0 22 v0 rfl rfl) h0
  obtain ⟨xs0, L0⟩ := Zul (cs := ucs) (k := 1) Try.underlying22 (by kernel_rfl) (by decide) Zhq (fun _ _ _ _ h => Zvr Try.underlying5 h) t0
  refine (Zef L0 ).mono fun v W' hv => ?_
  obtain ⟨rfl, hc⟩ := hv
  exact Zsf Zfk (by kernel_rfl) rfl Try.underlying4 rfl rfl hW' hc

theorem fnMissingWord_holds : Rows.FnMissingWordSaid :=
  OpenClaim.holds_of_wide 4 Try.f4 rfl rfl rfl rfl rfl rfl rfl ⟨rfl, rfl, rfl, rfl, rfl⟩ rfl rfl rfl rfl rfl (by kernel_rfl) Try.func4 (by kernel_rfl)
    (of_decide_eq_true (by kernel_rfl)) (by unfold Func.isWrapper; rw [if_neg (of_decide_eq_false (by kernel_rfl))]; exact ⟨rfl, rfl⟩)
    (fun os started H enc _ => fnMissingWord_lifted os started H enc)

end Go.Proofs.Ytgnlfnkgkcmdjaa
