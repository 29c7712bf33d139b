/- FnExactParseExpr returns true for every input, and its arguments read afterwards as they read before, where the listed variables of the library hold what their text lays; the tied card. No other condition. -/
import Derived.Test.YtbnnkffdhnefnaaGreatDoorWExactParseExpr
import Derived.Test.YtbnnkffdhnefnaaGreatDoorRows
import Derived.Test.YtbnnkffdhnefnaaGreatDoorCards
import Derived.Test.YtbnnkffdhnefnaaGreatDoorTie
import Derived.ProofKit
import Derived.LaidMore
import Derived.LaidLaws
import Derived.Lay
import Derived.ChangeMaps5
import Derived.SevenTiedAt
namespace Go.Proofs.YtbnnkffdhnefnaaGreatDoor
open Go.ChangeShapes Go.WideShapes Go.ChangeAt Go.RowKit Go.Deep Go.Joins Go.KLib

theorem Zao : ownKnob Tryz.prog.godebug = none := by kernel_rfl
theorem Zaj : laidOutB Tryz.prog = true := by kernel_rfl
theorem Xo : "*" ++ "errors.errorString" = "*errors.errorString" := by decide
theorem Zaa (u : TypeId) (h : Tryz.prog.typeName? 3 u = some "*errors.errorString") : u = 121 :=
  typeName_ptr_named (nm := "errors.errorString") (by rw [Xo]; kernel_rfl) (by kernel_rfl) (by decide) u (by rw [Xo]; exact h)

set_option maxRecDepth 100000 in
theorem fnExactParseExpr_lifted (os : Os) (started : os.Started) (H : Type) (enc : TypeId × Value → H) :
    ReturnsInHanded {} Tryz.checked os 3 .any (fun w args => (Rows.fnExactParseExprSpec.pre enc Tryz.prog Tryz.f3 [] false w args ∧ laidMetH Tryz.prog Rows.fnExactParseExprRow.laid w) ∧ sizedMet enc Tryz.prog Tryz.f3 (OpenSpec.ofChange Rows.fnExactParseExprSpec) false w args) (Rows.fnExactParseExprSpec.post enc Tryz.prog Tryz.f3 false true false false) := by
  refine Zbo (C := Tryz.checked) (X := fun w _ => laidMetH Tryz.prog Rows.fnExactParseExprRow.laid w) (fun _ _ _ hh h => h.of_heap hh) Zao started (by kernel_rfl) Tryz.func3
    (ChangeSpec.witness_shaped (enc := enc) (C := Tryz.checked) (os := os) (X := fun w _ => laidMetH Tryz.prog Rows.fnExactParseExprRow.laid w) false (World.laidAll Tryz.prog os Rows.fnExactParseExprRow.laid) #[.string ⟨#[]⟩] 8 (World.laidAll_os _ _ _) (World.shaped_of_ZipB (by kernel_rfl) (by kernel_rfl)) (by kernel_rfl) (by kernel_rfl) (by kernel_rfl) (by rw [MakeChecks.laidMetH_plain _ _ _ (by kernel_rfl)]; exact laidMet_laidAll _ (by kernel_rfl) (by kernel_rfl))) ?_
  intro W base args ds gs before hval0 hW hsh hL
  have hval : ∀ (j : Nat) t v, Tryz.f3.params[j]? = some t → args[j]? = some v → Value.okWide Tryz.prog W .any base t v := hval0
  have hW' := hW
  obtain ⟨p, q, hA0, hV, rfl, hfz, hnd⟩ := hW
  have hA : DataW.TrodAll enc Tryz.prog W 0 (fun _ => true) true Tryz.f3.params.toList args.toList ds p := hA0
  rw [Tryz.params3] at hA hval
  obtain ⟨v0, d0, rfl, rfl, h0⟩ := trodAll_one hA
  obtain ⟨rfl, rfl⟩ := trodVars_none hV
  obtain ⟨ba0, rfl, rfl, rfl, ws0⟩ := Go.ChangeMaps.open_string Tryz.underlying9 (hval 0 9 v0 rfl rfl) h0
  have hL2 := hL
  rw [MakeChecks.laidMetH_plain _ _ _ (by kernel_rfl)] at hL2
  obtain ⟨mG, hm⟩ := lay_146_12.s1_3 W hsh
  have hG := Zmk (gM := 0) (gt := 5) (t := 125) (e := 108) (n := 20) (g := 3) (ti := 61) (tp := 121) (te := 123) (ts := 9) ⟨mG, hm⟩ hL2 (by kernel_rfl) (by kernel_rfl) Tryz.underlying125 Tryz.underlying108 (by kernel_rfl) (by kernel_rfl) (by kernel_rfl) (by kernel_rfl) Tryz.underlying61 Zaa Tryz.underlying121 Tryz.underlying123 rfl rfl Tryz.underlying9 (by kernel_rfl) (by kernel_rfl)
  refine (Zab ba0.data.toList hG ).mono fun v W' hv => ?_
  obtain ⟨rfl, hc⟩ := hv
  exact Zik Zaj (by kernel_rfl) rfl Tryz.underlying4 rfl rfl hW' hc

theorem Zan : Rows.FnExactParseExprSaid :=
  OpenClaim.holds_of_wide 3 Tryz.f3 rfl rfl rfl rfl rfl rfl rfl ⟨rfl, rfl, rfl, rfl, rfl⟩ rfl rfl rfl rfl rfl (by kernel_rfl) Tryz.func3 (by kernel_rfl)
    (of_decide_eq_true (by kernel_rfl)) (by unfold Func.isWrapper; rw [if_neg (of_decide_eq_false (by kernel_rfl))]; exact ⟨rfl, rfl⟩)
    (fun os started H enc _ => fnExactParseExpr_lifted os started H enc)

theorem fnExactParseExpr_holds : Rows.FnExactParseExprCardSaid :=
  Claim7.holds_tied_plain_at .later [] [.data, .data, .data, .data, .sentinel, .sentinel, .pinned] true (true, "4a8ded25062f0b313c700ac57db3315ab1a88763dfabc3fa4458b6ffc891a528") true
    Zan (fun _ h => by cases h) (by kernel_rfl) (fun _ h => by cases h) fnExactParseExpr_row_tie rfl ⟨rfl, rfl⟩ (by kernel_rfl) rfl
    (fun f fn hf hfn => by
      obtain rfl : f = 3 := Option.some.inj ((show Tryz.prog.funcNamed "loop.example/g01922/laws.FnExactParseExpr" = some 3 by kernel_rfl).symm.trans hf) |>.symm
      obtain rfl : fn = Tryz.f3 := (Option.some.inj (Tryz.func3.symm.trans hfn)).symm
      exact ⟨by kernel_rfl, fun j t ht => by
        rw [Tryz.params3] at ht
        rcases j with _ | j
        · obtain rfl : t = 9 := by simpa using ht.symm
          exact (show Tryz.prog.wantsStandIn 9 = false by kernel_rfl)
        simp at ht⟩)
    (by kernel_rfl)

end Go.Proofs.YtbnnkffdhnefnaaGreatDoor
