/- FnExactFormatAutomaton returns true for every input, and its arguments read afterwards as they read before, where the listed variables of the library hold what their text lays; the tied card. No other condition. -/
import Derived.Test.YtbnnkffdhnefnaaDoorWExactFormatAutomaton
import Derived.Test.YtbnnkffdhnefnaaDoorRows
import Derived.Test.YtbnnkffdhnefnaaDoorCards
import Derived.Test.YtbnnkffdhnefnaaDoorTie
import Derived.ProofKit
import Derived.LaidMore
import Derived.LaidLaws
import Derived.SevenTiedAt
namespace Go.Proofs.YtbnnkffdhnefnaaDoor
open Go.ChangeShapes Go.WideShapes Go.ChangeAt Go.RowKit Go.Deep Go.Joins Go.KLib

theorem Xs : ownKnob Tryd.prog.godebug = none := by kernel_rfl
theorem Xn : laidOutB Tryd.prog = true := by kernel_rfl
theorem Xp (os : Os) (args : Array Value) : laidMetH Tryd.prog Rows.fnExactFormatAutomatonRow.laid ((World.doorLaid Tryd.prog 400 os).forCall (fun _ _ => 0) ⟨#[], args, []⟩).memory :=
  laidMetH_of_parts3 (fuel := 8) (laidMet_of_run' 8 (by kernel_rfl) (by kernel_rfl)) (by kernel_rfl) (by kernel_rfl)

set_option maxRecDepth 100000 in
theorem fnExactFormatAutomaton_lifted (os : Os) (started : os.Started) (H : Type) (enc : TypeId × Value → H) :
    ReturnsInHanded {} Tryd.checked os 5 .any (fun w args => (Rows.fnExactFormatAutomatonSpec.pre enc Tryd.prog Tryd.f5 [] false w args ∧ laidMetH Tryd.prog Rows.fnExactFormatAutomatonRow.laid w) ∧ sizedMet enc Tryd.prog Tryd.f5 (OpenSpec.ofChange Rows.fnExactFormatAutomatonSpec) false w args) (Rows.fnExactFormatAutomatonSpec.post enc Tryd.prog Tryd.f5 false true false false) := by
  refine returnsInHanded_of_change_and (C := Tryd.checked) (X := fun w _ => laidMetH Tryd.prog Rows.fnExactFormatAutomatonRow.laid w) (fun _ _ _ hh h => h.of_heap hh) Xs started (by kernel_rfl) Tryd.func5
    (ChangeSpec.witness_shaped (enc := enc) (C := Tryd.checked) (os := os) (X := fun w _ => laidMetH Tryd.prog Rows.fnExactFormatAutomatonRow.laid w) false (World.doorLaid Tryd.prog 400 os) #[.agg #[.int .i64 0, .slice none 0 0, .slice none 0 0]] 8 rfl (World.shaped_of_RefB (by kernel_rfl) (by kernel_rfl)) (by kernel_rfl) (by kernel_rfl) (by kernel_rfl) (Xp os _)) ?_
  intro W base args ds gs before hval0 hW hcnd _ hL _
  have hval : ∀ (j : Nat) t v, Tryd.f5.params[j]? = some t → args[j]? = some v → Value.okWide Tryd.prog W .any base t v := hval0
  have hW' := hW
  obtain ⟨p, q, hA0, hV, rfl, hfz, hnd⟩ := hW
  have hA : DataW.TrodAll enc Tryd.prog W 0 (fun _ => true) true Tryd.f5.params.toList args.toList ds p := hA0
  rw [Tryd.params5] at hA hval
  obtain ⟨v0, d0, rfl, rfl, h0⟩ := trodAll_one hA
  obtain ⟨rfl, rfl⟩ := trodVars_none hV
  obtain ⟨cs0, rfl, cl0, cf0⟩ := Zcz 3 Tryd.underlying36 (by kernel_rfl) (by kernel_rfl) rfl (hval 0 36 v0 rfl rfl) h0
  obtain ⟨c0x0, c0x1, c0x2, rfl⟩ := Zhb cl0
  obtain ⟨n0x0, y0x0, t0x0⟩ := cf0 0 _ _ rfl rfl
  obtain ⟨i0, rfl, lo0, hi0⟩ := Zfk Tryd.underlying3 t0x0
  obtain ⟨n0x1, y0x1, t0x1⟩ := cf0 1 _ _ rfl rfl
  obtain ⟨xs1, L1⟩ := Zdm (cs := bcs) (k := 1) Tryd.underlying33 (by kernel_rfl) (by decide) Xu (fun _ _ _ _ h => Zgk Tryd.underlying4 h) t0x1
  obtain ⟨n0x2, y0x2, t0x2⟩ := cf0 2 _ _ rfl rfl
  obtain ⟨svs2, xs2, L2, R2⟩ := Zea (cs := ics) (k := 1) Tryd.underlying34 (by kernel_rfl) Tryd.underlying68 (by kernel_rfl) (by decide) Yt (fun _ _ _ _ h => Zgf Tryd.underlying3 h) t0x2
  refine (Xg i0 L1 L2 R2 ).mono fun v W' hv => ?_
  obtain ⟨rfl, hc⟩ := hv
  exact Zel Xn (by kernel_rfl) rfl Tryd.underlying4 rfl rfl hW' hc

theorem Xq : Rows.FnExactFormatAutomatonSaid :=
  OpenClaim.holds_of_wide 5 Tryd.f5 rfl rfl rfl rfl rfl rfl rfl ⟨rfl, rfl, rfl, rfl, rfl⟩ rfl rfl rfl rfl rfl (by kernel_rfl) Tryd.func5 (by kernel_rfl)
    (of_decide_eq_true (by kernel_rfl)) (by unfold Func.isWrapper; rw [if_neg (of_decide_eq_false (by kernel_rfl))]; exact ⟨rfl, rfl⟩)
    (fun os started H enc _ => fnExactFormatAutomaton_lifted os started H enc)

theorem fnExactFormatAutomaton_holds : Rows.FnExactFormatAutomatonCardSaid :=
  Claim7.holds_tied_plain_at .later [] [.data, .data, .data] true (true, "809540b41e4375da552c17acaa47e070ca9000076bd9b96729f29c09eda6118b") false
    Xq (fun _ h => by cases h) (by kernel_rfl) (fun _ h => by cases h) fnExactFormatAutomaton_row_tie rfl ⟨rfl, rfl⟩ (by kernel_rfl) rfl
    (fun f fn hf hfn => by
      obtain rfl : f = 5 := Option.some.inj ((show Tryd.prog.funcNamed "loop.example/g01922/laws.FnExactFormatAutomaton" = some 5 by kernel_rfl).symm.trans hf) |>.symm
      obtain rfl : fn = Tryd.f5 := (Option.some.inj (Tryd.func5.symm.trans hfn)).symm
      exact ⟨by kernel_rfl, fun j t ht => by
        rw [Tryd.params5] at ht
        rcases j with _ | j
        · obtain rfl : t = 36 := by simpa using ht.symm
          exact (show Tryd.prog.wantsStandIn 36 = false by kernel_rfl)
        simp at ht⟩)
    (by kernel_rfl)

end Go.Proofs.YtbnnkffdhnefnaaDoor
