/- FnExactFormatPairs returns true for every input, and its arguments read afterwards as they read before, where the listed variables of the library hold what their text lays; the tied card. No other condition. -/
import Derived.Test.YtbnnkffdhnefnaaDoorWExactFormatPairs
import Derived.Test.YtbnnkffdhnefnaaDoorRows
import Derived.Test.YtbnnkffdhnefnaaDoorCards
import Derived.Test.YtbnnkffdhnefnaaDoorTie
import Derived.ProofKit
import Derived.LaidMore
import Derived.LaidLaws
import Derived.SevenTiedAt
namespace Go.Proofs.YtbnnkffdhnefnaaDoor
open Go.ChangeShapes Go.WideShapes Go.ChangeAt Go.RowKit Go.Deep Go.Joins Go.KLib

theorem Xn : ownKnob Tryd.prog.godebug = none := by kernel_rfl
theorem Xe : laidOutB Tryd.prog = true := by kernel_rfl
theorem Xh (os : Os) (args : Array Value) : laidMetH Tryd.prog Rows.fnExactFormatPairsRow.laid ((World.doorLaid Tryd.prog 400 os).forCall (fun _ _ => 0) ⟨#[], args, []⟩).memory :=
  laidMetH_of_parts3 (fuel := 8) (laidMet_of_run' 8 (by kernel_rfl) (by kernel_rfl)) (by kernel_rfl) (by kernel_rfl)

set_option maxRecDepth 100000 in
theorem fnExactFormatPairs_lifted (os : Os) (started : os.Started) (H : Type) (enc : TypeId × Value → H) :
    ReturnsInHanded {} Tryd.checked os 3 .any (fun w args => (Rows.fnExactFormatPairsSpec.pre enc Tryd.prog Tryd.f3 [] false w args ∧ laidMetH Tryd.prog Rows.fnExactFormatPairsRow.laid w) ∧ sizedMet enc Tryd.prog Tryd.f3 (OpenSpec.ofChange Rows.fnExactFormatPairsSpec) false w args) (Rows.fnExactFormatPairsSpec.post enc Tryd.prog Tryd.f3 false true false false) := by
  refine returnsInHanded_of_change_and (C := Tryd.checked) (X := fun w _ => laidMetH Tryd.prog Rows.fnExactFormatPairsRow.laid w) (fun _ _ _ hh h => h.of_heap hh) Xn started (by kernel_rfl) Tryd.func3
    (ChangeSpec.witness_shaped (enc := enc) (C := Tryd.checked) (os := os) (X := fun w _ => laidMetH Tryd.prog Rows.fnExactFormatPairsRow.laid w) false (World.doorLaid Tryd.prog 400 os) #[.slice none 0 0] 8 rfl (World.shaped_of_RefB (by kernel_rfl) (by kernel_rfl)) (by kernel_rfl) (by kernel_rfl) (by kernel_rfl) (Xh os _)) ?_
  intro W base args ds gs before hval0 hW hcnd _ hL _
  have hval : ∀ (j : Nat) t v, Tryd.f3.params[j]? = some t → args[j]? = some v → Value.okWide Tryd.prog W .any base t v := hval0
  have hW' := hW
  obtain ⟨p, q, hA0, hV, rfl, hfz, hnd⟩ := hW
  have hA : DataW.TrodAll enc Tryd.prog W 0 (fun _ => true) true Tryd.f3.params.toList args.toList ds p := hA0
  rw [Tryd.params3] at hA hval
  obtain ⟨v0, d0, rfl, rfl, h0⟩ := trodAll_one hA
  obtain ⟨rfl, rfl⟩ := trodVars_none hV
  obtain ⟨n0, y0, t0⟩ := Zbq Tryd.underlying22 (hval 0 22 v0 rfl rfl) h0
  obtain ⟨xs0, L0⟩ := Zfi (cs := Pair.cs) (k := 2) Tryd.underlying22 (by kernel_rfl) (by decide) Pair.len (fun _ _ _ _ h => Zdh (by kernel_rfl) h) t0
  refine (Xa L0 ).mono fun v W' hv => ?_
  obtain ⟨rfl, hc⟩ := hv
  exact Zef Xe (by kernel_rfl) rfl Tryd.underlying4 rfl rfl hW' hc

theorem Xp : Rows.FnExactFormatPairsSaid :=
  OpenClaim.holds_of_wide 3 Tryd.f3 rfl rfl rfl rfl rfl rfl rfl ⟨rfl, rfl, rfl, rfl, rfl⟩ rfl rfl rfl rfl rfl (by kernel_rfl) Tryd.func3 (by kernel_rfl)
    (of_decide_eq_true (by kernel_rfl)) (by unfold Func.isWrapper; rw [if_neg (of_decide_eq_false (by kernel_rfl))]; exact ⟨rfl, rfl⟩)
    (fun os started H enc _ => fnExactFormatPairs_lifted os started H enc)

theorem fnExactFormatPairs_holds : Rows.FnExactFormatPairsCardSaid :=
  Claim7.holds_tied_plain_at .later [] [.data, .data, .data] true (true, "809540b41e4375da552c17acaa47e070ca9000076bd9b96729f29c09eda6118b") false
    Xp (fun _ h => by cases h) (by kernel_rfl) (fun _ h => by cases h) fnExactFormatPairs_row_tie rfl ⟨rfl, rfl⟩ (by kernel_rfl) rfl
    (fun f fn hf hfn => by
      obtain rfl : f = 3 := Option.some.inj ((show Tryd.prog.funcNamed "loop.example/g01922/laws.FnExactFormatPairs" = some 3 by kernel_rfl).symm.trans hf) |>.symm
      obtain rfl : fn = Tryd.f3 := (Option.some.inj (Tryd.func3.symm.trans hfn)).symm
      exact ⟨by kernel_rfl, fun j t ht => by
        rw [Tryd.params3] at ht
        rcases j with _ | j
        · obtain rfl : t = 22 := by simpa using ht.symm
          exact (show Tryd.prog.wantsStandIn 22 = false by kernel_rfl)
        simp at ht⟩)
    (by kernel_rfl)

end Go.Proofs.YtbnnkffdhnefnaaDoor
