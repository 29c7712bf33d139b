/- FnExactParsePairs returns true for every input, and its arguments read afterwards as they read before, where the listed variables of the library hold what their text lays; the tied card. No other condition. -/
import Derived.Test.YtbnnkffdhnefnaaDoorWExactParsePairs
import Derived.Test.YtbnnkffdhnefnaaDoorRows
import Derived.Test.YtbnnkffdhnefnaaDoorCards
import Derived.Test.YtbnnkffdhnefnaaDoorTie
import Derived.ProofKit
import Derived.LaidMore
import Derived.LaidLaws
import Derived.Lay
import Derived.ChangeMaps5
import Derived.SevenTiedAt
namespace Go.Proofs.YtbnnkffdhnefnaaDoor
open Go.ChangeShapes Go.WideShapes Go.ChangeAt Go.RowKit Go.Deep Go.Joins Go.KLib

theorem Qw : ownKnob Tryd.prog.godebug = none := by kernel_rfl
theorem Qq : laidOutB Tryd.prog = true := by kernel_rfl

set_option maxRecDepth 100000 in
theorem fnExactParsePairs_lifted (os : Os) (started : os.Started) (H : Type) (enc : TypeId × Value → H) :
    ReturnsInHanded {} Tryd.checked os 4 .any (fun w args => (Rows.fnExactParsePairsSpec.pre enc Tryd.prog Tryd.f4 [] false w args ∧ laidMetH Tryd.prog Rows.fnExactParsePairsRow.laid w) ∧ sizedMet enc Tryd.prog Tryd.f4 (OpenSpec.ofChange Rows.fnExactParsePairsSpec) false w args) (Rows.fnExactParsePairsSpec.post enc Tryd.prog Tryd.f4 false true false false) := by
  refine Zcd (C := Tryd.checked) (X := fun w _ => laidMetH Tryd.prog Rows.fnExactParsePairsRow.laid w) (fun _ _ _ hh h => h.of_heap hh) Qw started (by kernel_rfl) Tryd.func4
    (ChangeSpec.witness_shaped (enc := enc) (C := Tryd.checked) (os := os) (X := fun w _ => laidMetH Tryd.prog Rows.fnExactParsePairsRow.laid w) false (World.laidAll Tryd.prog os Rows.fnExactParsePairsRow.laid) #[.string ⟨#[]⟩] 8 (World.laidAll_os _ _ _) (World.shaped_of_ZipB (by kernel_rfl) (by kernel_rfl)) (by kernel_rfl) (by kernel_rfl) (by kernel_rfl) (by rw [MakeChecks.laidMetH_plain _ _ _ (by kernel_rfl)]; exact laidMet_laidAll _ (by kernel_rfl) (by kernel_rfl))) ?_
  intro W base args ds gs before hval0 hW hsh
  have hval : ∀ (j : Nat) t v, Tryd.f4.params[j]? = some t → args[j]? = some v → Value.okWide Tryd.prog W .any base t v := hval0
  have hW' := hW
  obtain ⟨p, q, hA0, hV, rfl, hfz, hnd⟩ := hW
  have hA : DataW.TrodAll enc Tryd.prog W 0 (fun _ => true) true Tryd.f4.params.toList args.toList ds p := hA0
  rw [Tryd.params4] at hA hval
  obtain ⟨v0, d0, rfl, rfl, h0⟩ := trodAll_one hA
  obtain ⟨rfl, rfl⟩ := trodVars_none hV
  obtain ⟨ba0, rfl, rfl, rfl, ws0⟩ := Go.ChangeMaps.open_string Tryd.underlying9 (hval 0 9 v0 rfl rfl) h0
  obtain ⟨mG, hm⟩ := lay_146_34.s1_3 W hsh
  have hG := Zho (g := 0) hm
  refine (Xv ba0.data.toList hG ).mono fun v W' hv => ?_
  obtain ⟨rfl, hc⟩ := hv
  exact Zfj Qq (by kernel_rfl) rfl Tryd.underlying4 rfl rfl hW' hc

theorem Qx : Rows.FnExactParsePairsSaid :=
  OpenClaim.holds_of_wide 4 Tryd.f4 rfl rfl rfl rfl rfl rfl rfl ⟨rfl, rfl, rfl, rfl, rfl⟩ rfl rfl rfl rfl rfl (by kernel_rfl) Tryd.func4 (by kernel_rfl)
    (of_decide_eq_true (by kernel_rfl)) (by unfold Func.isWrapper; rw [if_neg (of_decide_eq_false (by kernel_rfl))]; exact ⟨rfl, rfl⟩)
    (fun os started H enc _ => fnExactParsePairs_lifted os started H enc)

theorem fnExactParsePairs_holds : Rows.FnExactParsePairsCardSaid :=
  Claim7.holds_tied_plain_at .later [] [.data, .data, .data, .data, .pinned] true (true, "809540b41e4375da552c17acaa47e070ca9000076bd9b96729f29c09eda6118b") false
    Qx (fun _ h => by cases h) (by kernel_rfl) (fun _ h => by cases h) fnExactParsePairs_row_tie rfl ⟨rfl, rfl⟩ (by kernel_rfl) rfl
    (fun f fn hf hfn => by
      obtain rfl : f = 4 := Option.some.inj ((show Tryd.prog.funcNamed "loop.example/g01922/laws.FnExactParsePairs" = some 4 by kernel_rfl).symm.trans hf) |>.symm
      obtain rfl : fn = Tryd.f4 := (Option.some.inj (Tryd.func4.symm.trans hfn)).symm
      exact ⟨by kernel_rfl, fun j t ht => by
        rw [Tryd.params4] at ht
        rcases j with _ | j
        · obtain rfl : t = 9 := by simpa using ht.symm
          exact (show Tryd.prog.wantsStandIn 9 = false by kernel_rfl)
        simp at ht⟩)
    (by kernel_rfl)

end Go.Proofs.YtbnnkffdhnefnaaDoor
