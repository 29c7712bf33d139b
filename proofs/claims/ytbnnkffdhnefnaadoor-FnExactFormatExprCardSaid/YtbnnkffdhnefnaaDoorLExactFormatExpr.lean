/- FnExactFormatExpr returns true for every input, and its arguments read afterwards as they read before, where the listed variables of the library hold what their text lays; the tied card. No other condition. -/
import Derived.Test.YtbnnkffdhnefnaaDoorWExactFormatExpr
import Derived.Test.YtbnnkffdhnefnaaDoorRows
import Derived.Test.YtbnnkffdhnefnaaDoorCards
import Derived.Test.YtbnnkffdhnefnaaDoorTie
import Derived.ProofKit
import Derived.LaidMore
import Derived.LaidLaws
import Derived.SevenTiedAt
namespace Go.Proofs.YtbnnkffdhnefnaaDoor
open Go.ChangeShapes Go.WideShapes Go.ChangeAt Go.RowKit Go.Deep Go.Joins Go.KLib

theorem Qd : ownKnob Tryd.prog.godebug = none := by kernel_rfl
theorem Xr : laidOutB Tryd.prog = true := by kernel_rfl
theorem Xz (os : Os) (args : Array Value) : laidMetH Tryd.prog Rows.fnExactFormatExprRow.laid ((World.doorLaid Tryd.prog 400 os).forCall (fun _ _ => 0) ⟨#[], args, []⟩).memory :=
  laidMetH_of_parts3 (fuel := 8) (laidMet_of_run' 8 (by kernel_rfl) (by kernel_rfl)) (by kernel_rfl) (by kernel_rfl)

set_option maxRecDepth 100000 in
theorem fnExactFormatExpr_lifted (os : Os) (started : os.Started) (H : Type) (enc : TypeId × Value → H) :
    ReturnsInHanded {} Tryd.checked os 6 .any (fun w args => (Rows.fnExactFormatExprSpec.pre enc Tryd.prog Tryd.f6 [] false w args ∧ laidMetH Tryd.prog Rows.fnExactFormatExprRow.laid w) ∧ sizedMet enc Tryd.prog Tryd.f6 (OpenSpec.ofChange Rows.fnExactFormatExprSpec) false w args) (Rows.fnExactFormatExprSpec.post enc Tryd.prog Tryd.f6 false true false false) := by
  refine returnsInHanded_of_change_and (C := Tryd.checked) (X := fun w _ => laidMetH Tryd.prog Rows.fnExactFormatExprRow.laid w) (fun _ _ _ hh h => h.of_heap hh) Qd started (by kernel_rfl) Tryd.func6
    (ChangeSpec.witness_shaped (enc := enc) (C := Tryd.checked) (os := os) (X := fun w _ => laidMetH Tryd.prog Rows.fnExactFormatExprRow.laid w) false (World.doorLaid Tryd.prog 400 os) #[.agg #[.slice none 0 0]] 8 rfl (World.shaped_of_RefB (by kernel_rfl) (by kernel_rfl)) (by kernel_rfl) (by kernel_rfl) (by kernel_rfl) (Xz os _)) ?_
  intro W base args ds gs before hval0 hW hcnd _ hL _
  have hval : ∀ (j : Nat) t v, Tryd.f6.params[j]? = some t → args[j]? = some v → Value.okWide Tryd.prog W .any base t v := hval0
  have hW' := hW
  obtain ⟨p, q, hA0, hV, rfl, hfz, hnd⟩ := hW
  have hA : DataW.TrodAll enc Tryd.prog W 0 (fun _ => true) true Tryd.f6.params.toList args.toList ds p := hA0
  rw [Tryd.params6] at hA hval
  obtain ⟨v0, d0, rfl, rfl, h0⟩ := trodAll_one hA
  obtain ⟨rfl, rfl⟩ := trodVars_none hV
  obtain ⟨cs0, rfl, cl0, cf0⟩ := Zdp 1 Tryd.underlying45 (by kernel_rfl) (by kernel_rfl) rfl (hval 0 45 v0 rfl rfl) h0
  obtain ⟨c0x0, rfl⟩ := Zip cl0
  obtain ⟨n0x0, y0x0, t0x0⟩ := cf0 0 _ _ rfl rfl
  obtain ⟨xs0, L0⟩ := Zgp (cs := Token.cs) (k := 4) Tryd.underlying43 (by kernel_rfl) (by decide) Token.len (fun _ _ _ _ h => Zdo (by kernel_rfl) h) t0x0
  refine (Xi L0 ).mono fun v W' hv => ?_
  obtain ⟨rfl, hc⟩ := hv
  exact Zfo Xr (by kernel_rfl) rfl Tryd.underlying4 rfl rfl hW' hc

theorem Qe : Rows.FnExactFormatExprSaid :=
  OpenClaim.holds_of_wide 6 Tryd.f6 rfl rfl rfl rfl rfl rfl rfl ⟨rfl, rfl, rfl, rfl, rfl⟩ rfl rfl rfl rfl rfl (by kernel_rfl) Tryd.func6 (by kernel_rfl)
    (of_decide_eq_true (by kernel_rfl)) (by unfold Func.isWrapper; rw [if_neg (of_decide_eq_false (by kernel_rfl))]; exact ⟨rfl, rfl⟩)
    (fun os started H enc _ => fnExactFormatExpr_lifted os started H enc)

theorem fnExactFormatExpr_holds : Rows.FnExactFormatExprCardSaid :=
  Claim7.holds_tied_plain_at .later [] [.data, .data, .data] true (true, "809540b41e4375da552c17acaa47e070ca9000076bd9b96729f29c09eda6118b") false
    Qe (fun _ h => by cases h) (by kernel_rfl) (fun _ h => by cases h) fnExactFormatExpr_row_tie rfl ⟨rfl, rfl⟩ (by kernel_rfl) rfl
    (fun f fn hf hfn => by
      obtain rfl : f = 6 := Option.some.inj ((show Tryd.prog.funcNamed "loop.example/g01922/laws.FnExactFormatExpr" = some 6 by kernel_rfl).symm.trans hf) |>.symm
      obtain rfl : fn = Tryd.f6 := (Option.some.inj (Tryd.func6.symm.trans hfn)).symm
      exact ⟨by kernel_rfl, fun j t ht => by
        rw [Tryd.params6] at ht
        rcases j with _ | j
        · obtain rfl : t = 45 := by simpa using ht.symm
          exact (show Tryd.prog.wantsStandIn 45 = false by kernel_rfl)
        simp at ht⟩)
    (by kernel_rfl)

end Go.Proofs.YtbnnkffdhnefnaaDoor
