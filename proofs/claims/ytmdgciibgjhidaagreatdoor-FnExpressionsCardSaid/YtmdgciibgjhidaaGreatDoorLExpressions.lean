/- FnExpressions returns true for every input, and its arguments read afterwards as they read before, where the listed variables of the library hold what their text lays; the tied card. No other condition. -/
import Derived.Test.YtmdgciibgjhidaaGreatDoorWExpressions
import Derived.Test.YtmdgciibgjhidaaGreatDoorWExpressionsb
import Derived.Test.YtmdgciibgjhidaaGreatDoorRows
import Derived.Test.YtmdgciibgjhidaaGreatDoorCards
import Derived.Test.YtmdgciibgjhidaaGreatDoorTie
import Derived.ProofKit
import Derived.LaidMore
import Derived.LaidLaws
import Derived.Lay
import Derived.ChangeMaps5
import Derived.SevenTiedAt
namespace Go.Proofs.YtmdgciibgjhidaaGreatDoor
open Go.ChangeShapes Go.WideShapes Go.ChangeAt Go.RowKit Go.Deep Go.Joins Go.KLib

theorem Zdj : ownKnob Tryz.prog.godebug = none := by kernel_rfl
theorem Zcu : laidOutB Tryz.prog = true := by kernel_rfl
theorem Zan : "*" ++ "errors.errorString" = "*errors.errorString" := by decide
theorem Zbz (u : TypeId) (h : Tryz.prog.typeName? 3 u = some "*errors.errorString") : u = 148 :=
  typeName_ptr_named (nm := "errors.errorString") (by rw [Zan]; kernel_rfl) (by kernel_rfl) (by decide) u (by rw [Zan]; exact h)

set_option maxRecDepth 100000 in
theorem fnExpressions_lifted (os : Os) (started : os.Started) (H : Type) (enc : TypeId × Value → H) :
    ReturnsInHanded {} Tryz.checked os 3 .any (fun w args => (Rows.fnExpressionsSpec.pre enc Tryz.prog Tryz.f3 [] false w args ∧ laidMetH Tryz.prog Rows.fnExpressionsRow.laid w) ∧ sizedMet enc Tryz.prog Tryz.f3 (OpenSpec.ofChange Rows.fnExpressionsSpec) false w args) (Rows.fnExpressionsSpec.post enc Tryz.prog Tryz.f3 false true false false) := by
  refine Zdf (C := Tryz.checked) (X := fun w _ => laidMetH Tryz.prog Rows.fnExpressionsRow.laid w) (fun _ _ _ hh h => h.of_heap hh) Zdj started (by kernel_rfl) Tryz.func3
    (ChangeSpec.witness_shaped (enc := enc) (C := Tryz.checked) (os := os) (X := fun w _ => laidMetH Tryz.prog Rows.fnExpressionsRow.laid w) false (World.laidAll Tryz.prog os Rows.fnExpressionsRow.laid) #[.slice none 0 0] 8 (World.laidAll_os _ _ _) (World.shaped_of_ZipB (by kernel_rfl) (by kernel_rfl)) (by kernel_rfl) (by kernel_rfl) (by kernel_rfl) (by rw [MakeChecks.laidMetH_plain _ _ _ (by kernel_rfl)]; exact laidMet_laidAll _ (by kernel_rfl) (by kernel_rfl))) ?_
  intro W base args ds gs before hval0 hW hsh hL
  have hval : ∀ (j : Nat) t v, Tryz.f3.params[j]? = some t → args[j]? = some v → Value.okWide Tryz.prog W .any base t v := hval0
  have hW' := hW
  obtain ⟨p, q, hA0, hV, rfl, hfz, hnd⟩ := hW
  have hA : DataW.TrodAll enc Tryz.prog W 0 (fun _ => true) true Tryz.f3.params.toList args.toList ds p := hA0
  rw [Tryz.params3] at hA hval
  obtain ⟨v0, d0, rfl, rfl, h0⟩ := trodAll_one hA
  obtain ⟨rfl, rfl⟩ := trodVars_none hV
  obtain ⟨n0, y0, t0⟩ := Zhn Tryz.underlying22 (hval 0 22 v0 rfl rfl) h0
  obtain ⟨xs0, L0⟩ := Zoc (cs := ucs) (k := 1) Tryz.underlying22 (by kernel_rfl) (by decide) Zed (fun _ _ _ _ h => Zpe Tryz.underlying5 h) t0
  have hL2 := hL
  rw [MakeChecks.laidMetH_plain _ _ _ (by kernel_rfl)] at hL2
  obtain ⟨mG, hm⟩ := lay_146_27.s1_3 W hsh
  have hG := Zqc (gM := 0) (gt := 5) (t := 143) (e := 123) (n := 20) (g := 3) (ti := 75) (tp := 148) (te := 150) (ts := 9) ⟨mG, hm⟩ hL2 (by kernel_rfl) (by kernel_rfl) Tryz.underlying143 Tryz.underlying123 (by kernel_rfl) (by kernel_rfl) (by kernel_rfl) (by kernel_rfl) Tryz.underlying75 Zbz Tryz.underlying148 Tryz.underlying150 rfl rfl Tryz.underlying9 (by kernel_rfl) (by kernel_rfl)
  refine (Zcb L0 hG ).mono fun v W' hv => ?_
  obtain ⟨rfl, hc⟩ := hv
  exact Zkt Zcu (by kernel_rfl) rfl Tryz.underlying4 rfl rfl hW' hc

theorem Zdg : Rows.FnExpressionsSaid :=
  OpenClaim.holds_of_wide 3 Tryz.f3 rfl rfl rfl rfl rfl rfl rfl ⟨rfl, rfl, rfl, rfl, rfl⟩ rfl rfl rfl rfl rfl (by kernel_rfl) Tryz.func3 (by kernel_rfl)
    (of_decide_eq_true (by kernel_rfl)) (by unfold Func.isWrapper; rw [if_neg (of_decide_eq_false (by kernel_rfl))]; exact ⟨rfl, rfl⟩)
    (fun os started H enc _ => fnExpressions_lifted os started H enc)

theorem fnExpressions_holds : Rows.FnExpressionsCardSaid :=
  Claim7.holds_tied_plain_at .later [] [.data, .data, .data, .data, .sentinel, .sentinel, .pinned] true (true, "c7430cb53cda93d6e7e1ce45cd1078e537639012a175037bd9576f8bb8c03ce7") true
    Zdg (fun _ h => by cases h) (by kernel_rfl) (fun _ h => by cases h) fnExpressions_row_tie rfl ⟨rfl, rfl⟩ (by kernel_rfl) rfl
    (fun f fn hf hfn => by
      obtain rfl : f = 3 := Option.some.inj ((show Tryz.prog.funcNamed "loop.example/g01922/laws.FnExpressions" = some 3 by kernel_rfl).symm.trans hf) |>.symm
      obtain rfl : fn = Tryz.f3 := (Option.some.inj (Tryz.func3.symm.trans hfn)).symm
      exact ⟨by kernel_rfl, fun j t ht => by
        rw [Tryz.params3] at ht
        rcases j with _ | j
        · obtain rfl : t = 22 := by simpa using ht.symm
          exact (show Tryz.prog.wantsStandIn 22 = false by kernel_rfl)
        simp at ht⟩)
    (by kernel_rfl)

end Go.Proofs.YtmdgciibgjhidaaGreatDoor
