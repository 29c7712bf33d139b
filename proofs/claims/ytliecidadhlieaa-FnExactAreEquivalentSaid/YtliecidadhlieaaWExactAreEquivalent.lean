/- Walks of functions that FnExactAreEquivalent reaches: what each returns, and that it leaves the memory that was there alone. -/
import Derived.Test.YtliecidadhlieaaKF
import Derived.Test.YtliecidadhlieaaKG
import Derived.Test.YtliecidadhlieaaKH
import Derived.Test.YtliecidadhlieaaKI
import Derived.Test.YtliecidadhlieaaKJ
import Derived.Test.YtliecidadhlieaaKM
import Derived.Test.YtliecidadhlieaaKN
import Derived.Test.YtliecidadhlieaaKO
import Derived.Test.YtliecidadhlieaaKP
import Derived.Test.YtliecidadhlieaaKQ
import Derived.Test.YtliecidadhlieaaKR
import Derived.Test.YtliecidadhlieaaKS
import Derived.Test.YtliecidadhlieaaKT
import Derived.Test.YtliecidadhlieaaKU
import Derived.Test.YtliecidadhlieaaKV
import Derived.Test.YtliecidadhlieaaKX
import Derived.Test.YtliecidadhlieaaKY
import Derived.Test.YtliecidadhlieaaKZ
import Derived.Test.YtliecidadhlieaaJA
import Derived.Test.YtliecidadhlieaaJB
import Derived.Test.YtliecidadhlieaaJC
import Derived.Test.YtliecidadhlieaaJD
import Derived.Test.YtliecidadhlieaaJE
import Derived.Test.YtliecidadhlieaaJF
import Derived.Test.YtliecidadhlieaaJG
import Derived.Test.YtliecidadhlieaaJH
import Derived.Test.YtliecidadhlieaaJI
import Derived.Test.YtliecidadhlieaaJK
import Derived.Test.YtliecidadhlieaaJM
import Derived.Test.YtliecidadhlieaaJN
import Derived.Test.YtliecidadhlieaaJO
import Derived.Test.YtliecidadhlieaaJP
import Derived.Test.YtliecidadhlieaaJQ
import Derived.Test.YtliecidadhlieaaJR
import Derived.Test.YtliecidadhlieaaJS
import Derived.Test.YtliecidadhlieaaJT
import Derived.Test.YtliecidadhlieaaJU
import Derived.Test.YtliecidadhlieaaJV
import Derived.Test.YtliecidadhlieaaWExactMissingWord
import Derived.Test.YtliecidadhlieaaWExactMissingWordb
import Derived.Test.YtliecidadhlieaaWExactIncludesLanguage
import Derived.Test.YtliecidadhlieaaProg
namespace Go.Proofs.Ytliecidadhlieaa
open Go.KLib Go.Shelf
set_option maxHeartbeats 1000000
set_option maxRecDepth 20000
set_option linter.unusedVariables false
set_option linter.unusedSimpArgs false
namespace TExactAreEquivalent
theorem agg25 : aggB Try.prog 25 = some true := by kernel_rfl
theorem agg28 : aggB Try.prog 28 = some true := by kernel_rfl
theorem fk10 : fnB Try.prog 10 = true := by kernel_rfl
theorem fk11 : fnB Try.prog 11 = true := by kernel_rfl
theorem fk12 : fnB Try.prog 12 = true := by kernel_rfl
theorem fk13 : fnB Try.prog 13 = true := by kernel_rfl
theorem fk14 : fnB Try.prog 14 = true := by kernel_rfl
theorem fk15 : fnB Try.prog 15 = true := by kernel_rfl
theorem fk9 : fnB Try.prog 9 = true := by kernel_rfl
theorem mixed : Try.prog.follows .mixedOrders = true := by kernel_rfl
theorem sz25 : sizeB Try.prog 25 = some 3 := by kernel_rfl
theorem sz28 : sizeB Try.prog 28 = some 3 := by kernel_rfl
theorem un4 : Try.prog.underlying 4 = some (.bool) := by kernel_rfl
theorem zr28 : zeroB Try.prog 28 = some (.agg #[.int .i64 0, .slice none 0 0, .slice none 0 0]) := by kernel_rfl
end TExactAreEquivalent
open TExactAreEquivalent

/-- impl.AreEquivalent -/
theorem c_impl_AreEquivalent {w : World} (aS : Int) {LL_aA _B_aA : Nat} {_v_aA : Value} {aA : List Bool} (_h_aA : Ls bcs 1 w LL_aA _B_aA _v_aA aA) {LL_saN _B_saN : Nat} {_v_saN : Value} {saN : List Sv} (_h_saN : Ls Sv.cs 1 w LL_saN _B_saN _v_saN saN) {LR_aN BB_aN : Nat} {aN : List (List Int)} (_rd_aN : Rd ics 1 w LR_aN BB_aN saN aN) (bS : Int) {LL_bA _B_bA : Nat} {_v_bA : Value} {bA : List Bool} (_h_bA : Ls bcs 1 w LL_bA _B_bA _v_bA bA) {LL_sbN _B_sbN : Nat} {_v_sbN : Value} {sbN : List Sv} (_h_sbN : Ls Sv.cs 1 w LL_sbN _B_sbN _v_sbN sbN) {LR_bN BB_bN : Nat} {bN : List (List Int)} (_rd_bN : Rd ics 1 w LR_bN BB_bN sbN bN) :
    Ctr Try.prog 15 #[(.agg #[(.int .i64 aS), _v_aA, _v_saN]), (.agg #[(.int .i64 bS), _v_bA, _v_sbN])] w (fun v w' => v = .bool (tt (IncP aS aA aN bS bA bN ∧ IncP bS bA bN aS aA aN)) ∧ Ch [] w w') := by
  obtain ⟨_A_aA, _C_aA, _e1_aA⟩ := _h_aA.val
  subst _e1_aA
  have _l_aA := _h_aA.len
  have _h_aA := _h_aA.here (by decide)
  obtain ⟨_A_saN, _C_saN, _e1_saN⟩ := _h_saN.val
  subst _e1_saN
  have _l_saN := _h_saN.len
  have _h_saN := _h_saN.here (by decide)
  have _rd_aN := _rd_aN.here (by decide)
  have _rl_aN := _rd_aN.1
  obtain ⟨_A_bA, _C_bA, _e1_bA⟩ := _h_bA.val
  subst _e1_bA
  have _l_bA := _h_bA.len
  have _h_bA := _h_bA.here (by decide)
  obtain ⟨_A_sbN, _C_sbN, _e1_sbN⟩ := _h_sbN.val
  subst _e1_sbN
  have _l_sbN := _h_sbN.len
  have _h_sbN := _h_sbN.here (by decide)
  have _rd_bN := _rd_bN.here (by decide)
  have _rl_bN := _rd_bN.1
  have E := Ch.refl [] w
  refine Ctr_of_W (N := 13) (vs0 := [(.agg #[(.int .i64 aS), (.slice _A_aA aA.length _C_aA), (.slice _A_saN saN.length _C_saN)]), (.agg #[(.int .i64 bS), (.slice _A_bA bA.length _C_bA), (.slice _A_sbN sbN.length _C_sbN)])]) Try.func15 rfl rfl rfl ?_
  refine W_seq fun _K_1 _hK_1 => ?_
  refine W_region ?_
  refine WL_s rfl rfl ?_
  refine s_box rfl fun _b2 _w_2 _m2 _cw_2 _e2 => ?_
  have _cw_2z := _cw_2.size
  have E := E.trans _cw_2
  have _z2 := _m2.lt
  replace _m2 : Blk _w_2 _b2 28 [(.int .i64 aS), (.slice _A_aA aA.length _C_aA), (.slice _A_saN saN.length _C_saN)] := _m2
  refine WL_s rfl rfl ?_
  refine s_box rfl fun _b3 _w_3 _m3 _cw_3 _e3 => ?_
  have _cw_3z := _cw_3.size
  have E := E.trans _cw_3
  have _z3 := _m3.lt
  replace _m3 : Blk _w_3 _b3 28 [(.int .i64 bS), (.slice _A_bA bA.length _C_bA), (.slice _A_sbN sbN.length _C_sbN)] := _m3
  refine WL_step rfl rfl (r_assign rfl) ?_
  refine WL_nil ?_
  refine thn_nrm (_hK_1 _ _ ?_)
  clear _hK_1
  refine W_seq fun _K_4 _hK_4 => ?_
  refine W_region ?_
  have _f_5 := (_m2.ch0 _cw_3)
  refine WL_step rfl rfl (r_loadAtA0 _f_5.at_ agg28 sz28 rfl) ?_
  refine WL_step rfl rfl (r_loadAtA0 _m3.at_ agg28 sz28 rfl) ?_
  refine WL_s rfl rfl ?_
  have _f_6 := ((_h_aA.ch0 _cw_2).ch0 _cw_3)
  have _f_7 := ((_rd_aN.ch0 _cw_2).ch0 _cw_3)
  have _f_8 := ((_h_saN.ch0 _cw_2).ch0 _cw_3)
  have _f_9 := ((_h_bA.ch0 _cw_2).ch0 _cw_3)
  have _f_10 := ((_rd_bN.ch0 _cw_2).ch0 _cw_3)
  have _f_11 := ((_h_sbN.ch0 _cw_2).ch0 _cw_3)
  refine Step.call (r_call (xs := [.tmp 5, .tmp 6]) fk12 rfl) (c_impl_IncludesLanguage _ _f_6 _f_8 _f_7 _ _f_9 _f_11 _f_10 ) fun _v7 _w_12 _q7 => ?_
  obtain ⟨rfl, _cw_12⟩ := _q7
  have _cw_12z := _cw_12.size
  have E := E.trans _cw_12
  refine WL_step rfl rfl (r_move rfl) ?_
  refine WL_split (d := 8) rfl (fun _h8 => ?_) (fun _h8 => ?_)
  · have _kb_13 := _h8
    have _h8 := bt_t _h8
    have _f_14 := (_m3.ch0 _cw_12)
    refine WL_step rfl rfl (r_loadAtA0 _f_14.at_ agg28 sz28 rfl) ?_
    have _f_15 := (_f_5.ch0 _cw_12)
    refine WL_step rfl rfl (r_loadAtA0 _f_15.at_ agg28 sz28 rfl) ?_
    refine WL_s rfl rfl ?_
    have _f_16 := (_f_9.ch0 _cw_12)
    have _f_17 := (_f_10.ch0 _cw_12)
    have _f_18 := (_f_11.ch0 _cw_12)
    have _f_19 := (_f_6.ch0 _cw_12)
    have _f_20 := (_f_7.ch0 _cw_12)
    have _f_21 := (_f_8.ch0 _cw_12)
    refine Step.call (r_call (xs := [.tmp 9, .tmp 10]) fk12 rfl) (c_impl_IncludesLanguage _ _f_16 _f_18 _f_17 _ _f_19 _f_21 _f_20 ) fun _v11 _w_22 _q11 => ?_
    obtain ⟨rfl, _cw_22⟩ := _q11
    have _cw_22z := _cw_22.size
    have E := E.trans _cw_22
    refine WL_step rfl rfl (r_pickT rfl rfl) ?_
    refine WL_step rfl rfl (r_assign rfl) ?_
    refine WL_nil ?_
    refine thn_nrm (_hK_4 _ _ ?_)
    clear _hK_4
    refine W_ret ?_
    exact ret_intro [_] ⟨rfl, trivial⟩ ⟨congrArg Value.bool (by first | exact tt_false (fun q => _h8 q.1) | exact tt_eq ⟨fun q => ⟨_h8, q⟩, fun q => q.2⟩), E⟩
  · have _kb_13 := _h8
    have _h8 := bf_t _h8
    refine WL_skip rfl rfl ?_
    refine WL_skip rfl rfl ?_
    refine WL_skip rfl rfl ?_
    refine WL_step rfl rfl (r_pickF rfl rfl) ?_
    refine WL_step rfl rfl (r_assign rfl) ?_
    refine WL_nil ?_
    refine thn_nrm (_hK_4 _ _ ?_)
    clear _hK_4
    refine W_ret ?_
    exact ret_intro [_] ⟨rfl, trivial⟩ ⟨congrArg Value.bool (by first | exact tt_false (fun q => _h8 q.1) | exact tt_eq ⟨fun q => ⟨_h8, q⟩, fun q => q.2⟩), E⟩

/-- spec.AreEquivalent -/
theorem c_spec_AreEquivalent {w : World} (aS : Int) {LL_aA _B_aA : Nat} {_v_aA : Value} {aA : List Bool} (_h_aA : Ls bcs 1 w LL_aA _B_aA _v_aA aA) {LL_saN _B_saN : Nat} {_v_saN : Value} {saN : List Sv} (_h_saN : Ls Sv.cs 1 w LL_saN _B_saN _v_saN saN) {LR_aN BB_aN : Nat} {aN : List (List Int)} (_rd_aN : Rd ics 1 w LR_aN BB_aN saN aN) (bS : Int) {LL_bA _B_bA : Nat} {_v_bA : Value} {bA : List Bool} (_h_bA : Ls bcs 1 w LL_bA _B_bA _v_bA bA) {LL_sbN _B_sbN : Nat} {_v_sbN : Value} {sbN : List Sv} (_h_sbN : Ls Sv.cs 1 w LL_sbN _B_sbN _v_sbN sbN) {LR_bN BB_bN : Nat} {bN : List (List Int)} (_rd_bN : Rd ics 1 w LR_bN BB_bN sbN bN) :
    Ctr Try.prog 14 #[(.agg #[(.int .i64 aS), _v_aA, _v_saN]), (.agg #[(.int .i64 bS), _v_bA, _v_sbN])] w (fun v w' => v = .bool (tt (IncP aS aA aN bS bA bN ∧ IncP bS bA bN aS aA aN)) ∧ Ch [] w w') := by
  obtain ⟨_A_aA, _C_aA, _e1_aA⟩ := _h_aA.val
  subst _e1_aA
  have _l_aA := _h_aA.len
  have _h_aA := _h_aA.here (by decide)
  obtain ⟨_A_saN, _C_saN, _e1_saN⟩ := _h_saN.val
  subst _e1_saN
  have _l_saN := _h_saN.len
  have _h_saN := _h_saN.here (by decide)
  have _rd_aN := _rd_aN.here (by decide)
  have _rl_aN := _rd_aN.1
  obtain ⟨_A_bA, _C_bA, _e1_bA⟩ := _h_bA.val
  subst _e1_bA
  have _l_bA := _h_bA.len
  have _h_bA := _h_bA.here (by decide)
  obtain ⟨_A_sbN, _C_sbN, _e1_sbN⟩ := _h_sbN.val
  subst _e1_sbN
  have _l_sbN := _h_sbN.len
  have _h_sbN := _h_sbN.here (by decide)
  have _rd_bN := _rd_bN.here (by decide)
  have _rl_bN := _rd_bN.1
  have E := Ch.refl [] w
  refine Ctr_of_W (N := 13) (vs0 := [(.agg #[(.int .i64 aS), (.slice _A_aA aA.length _C_aA), (.slice _A_saN saN.length _C_saN)]), (.agg #[(.int .i64 bS), (.slice _A_bA bA.length _C_bA), (.slice _A_sbN sbN.length _C_sbN)])]) Try.func14 rfl rfl rfl ?_
  refine W_seq fun _K_1 _hK_1 => ?_
  refine W_region ?_
  refine WL_s rfl rfl ?_
  refine s_box rfl fun _b2 _w_2 _m2 _cw_2 _e2 => ?_
  have _cw_2z := _cw_2.size
  have E := E.trans _cw_2
  have _z2 := _m2.lt
  replace _m2 : Blk _w_2 _b2 28 [(.int .i64 aS), (.slice _A_aA aA.length _C_aA), (.slice _A_saN saN.length _C_saN)] := _m2
  refine WL_s rfl rfl ?_
  refine s_box rfl fun _b3 _w_3 _m3 _cw_3 _e3 => ?_
  have _cw_3z := _cw_3.size
  have E := E.trans _cw_3
  have _z3 := _m3.lt
  replace _m3 : Blk _w_3 _b3 28 [(.int .i64 bS), (.slice _A_bA bA.length _C_bA), (.slice _A_sbN sbN.length _C_sbN)] := _m3
  refine WL_step rfl rfl (r_assign rfl) ?_
  refine WL_nil ?_
  refine thn_nrm (_hK_1 _ _ ?_)
  clear _hK_1
  refine W_seq fun _K_4 _hK_4 => ?_
  refine W_region ?_
  have _f_5 := (_m2.ch0 _cw_3)
  refine WL_step rfl rfl (r_loadAtA0 _f_5.at_ agg28 sz28 rfl) ?_
  refine WL_step rfl rfl (r_loadAtA0 _m3.at_ agg28 sz28 rfl) ?_
  refine WL_s rfl rfl ?_
  have _f_6 := ((_h_aA.ch0 _cw_2).ch0 _cw_3)
  have _f_7 := ((_rd_aN.ch0 _cw_2).ch0 _cw_3)
  have _f_8 := ((_h_saN.ch0 _cw_2).ch0 _cw_3)
  have _f_9 := ((_h_bA.ch0 _cw_2).ch0 _cw_3)
  have _f_10 := ((_rd_bN.ch0 _cw_2).ch0 _cw_3)
  have _f_11 := ((_h_sbN.ch0 _cw_2).ch0 _cw_3)
  refine Step.call (r_call (xs := [.tmp 5, .tmp 6]) fk10 rfl) (c_spec_IncludesLanguage _ _f_6 _f_8 _f_7 _ _f_9 _f_11 _f_10 ) fun _v7 _w_12 _q7 => ?_
  obtain ⟨rfl, _cw_12⟩ := _q7
  have _cw_12z := _cw_12.size
  have E := E.trans _cw_12
  refine WL_step rfl rfl (r_move rfl) ?_
  refine WL_split (d := 8) rfl (fun _h8 => ?_) (fun _h8 => ?_)
  · have _kb_13 := _h8
    have _h8 := bt_t _h8
    have _f_14 := (_m3.ch0 _cw_12)
    refine WL_step rfl rfl (r_loadAtA0 _f_14.at_ agg28 sz28 rfl) ?_
    have _f_15 := (_f_5.ch0 _cw_12)
    refine WL_step rfl rfl (r_loadAtA0 _f_15.at_ agg28 sz28 rfl) ?_
    refine WL_s rfl rfl ?_
    have _f_16 := (_f_9.ch0 _cw_12)
    have _f_17 := (_f_10.ch0 _cw_12)
    have _f_18 := (_f_11.ch0 _cw_12)
    have _f_19 := (_f_6.ch0 _cw_12)
    have _f_20 := (_f_7.ch0 _cw_12)
    have _f_21 := (_f_8.ch0 _cw_12)
    refine Step.call (r_call (xs := [.tmp 9, .tmp 10]) fk10 rfl) (c_spec_IncludesLanguage _ _f_16 _f_18 _f_17 _ _f_19 _f_21 _f_20 ) fun _v11 _w_22 _q11 => ?_
    obtain ⟨rfl, _cw_22⟩ := _q11
    have _cw_22z := _cw_22.size
    have E := E.trans _cw_22
    refine WL_step rfl rfl (r_pickT rfl rfl) ?_
    refine WL_step rfl rfl (r_assign rfl) ?_
    refine WL_nil ?_
    refine thn_nrm (_hK_4 _ _ ?_)
    clear _hK_4
    refine W_ret ?_
    exact ret_intro [_] ⟨rfl, trivial⟩ ⟨congrArg Value.bool (by first | exact tt_false (fun q => _h8 q.1) | exact tt_eq ⟨fun q => ⟨_h8, q⟩, fun q => q.2⟩), E⟩
  · have _kb_13 := _h8
    have _h8 := bf_t _h8
    refine WL_skip rfl rfl ?_
    refine WL_skip rfl rfl ?_
    refine WL_skip rfl rfl ?_
    refine WL_step rfl rfl (r_pickF rfl rfl) ?_
    refine WL_step rfl rfl (r_assign rfl) ?_
    refine WL_nil ?_
    refine thn_nrm (_hK_4 _ _ ?_)
    clear _hK_4
    refine W_ret ?_
    exact ret_intro [_] ⟨rfl, trivial⟩ ⟨congrArg Value.bool (by first | exact tt_false (fun q => _h8 q.1) | exact tt_eq ⟨fun q => ⟨_h8, q⟩, fun q => q.2⟩), E⟩

/-- laws.FnExactAreEquivalent -/
theorem c_laws_FnExactAreEquivalent {w : World} (aS : Int) {LL_aA _B_aA : Nat} {_v_aA : Value} {aA : List Bool} (_h_aA : Ls bcs 1 w LL_aA _B_aA _v_aA aA) {LL_saN _B_saN : Nat} {_v_saN : Value} {saN : List Sv} (_h_saN : Ls Sv.cs 1 w LL_saN _B_saN _v_saN saN) {LR_aN BB_aN : Nat} {aN : List (List Int)} (_rd_aN : Rd ics 1 w LR_aN BB_aN saN aN) (bS : Int) {LL_bA _B_bA : Nat} {_v_bA : Value} {bA : List Bool} (_h_bA : Ls bcs 1 w LL_bA _B_bA _v_bA bA) {LL_sbN _B_sbN : Nat} {_v_sbN : Value} {sbN : List Sv} (_h_sbN : Ls Sv.cs 1 w LL_sbN _B_sbN _v_sbN sbN) {LR_bN BB_bN : Nat} {bN : List (List Int)} (_rd_bN : Rd ics 1 w LR_bN BB_bN sbN bN) :
    Ctr Try.prog 4 #[(.agg #[(.int .i64 aS), _v_aA, _v_saN]), (.agg #[(.int .i64 bS), _v_bA, _v_sbN])] w (fun v w' => v = .bool (true) ∧ Ch [] w w') := by
  obtain ⟨_A_aA, _C_aA, _e1_aA⟩ := _h_aA.val
  subst _e1_aA
  have _l_aA := _h_aA.len
  have _h_aA := _h_aA.here (by decide)
  obtain ⟨_A_saN, _C_saN, _e1_saN⟩ := _h_saN.val
  subst _e1_saN
  have _l_saN := _h_saN.len
  have _h_saN := _h_saN.here (by decide)
  have _rd_aN := _rd_aN.here (by decide)
  have _rl_aN := _rd_aN.1
  obtain ⟨_A_bA, _C_bA, _e1_bA⟩ := _h_bA.val
  subst _e1_bA
  have _l_bA := _h_bA.len
  have _h_bA := _h_bA.here (by decide)
  obtain ⟨_A_sbN, _C_sbN, _e1_sbN⟩ := _h_sbN.val
  subst _e1_sbN
  have _l_sbN := _h_sbN.len
  have _h_sbN := _h_sbN.here (by decide)
  have _rd_bN := _rd_bN.here (by decide)
  have _rl_bN := _rd_bN.1
  have E := Ch.refl [] w
  refine Ctr_of_W (N := 45) (vs0 := [(.agg #[(.int .i64 aS), (.slice _A_aA aA.length _C_aA), (.slice _A_saN saN.length _C_saN)]), (.agg #[(.int .i64 bS), (.slice _A_bA bA.length _C_bA), (.slice _A_sbN sbN.length _C_sbN)])]) Try.func4 rfl rfl rfl ?_
  refine W_seq fun _K_1 _hK_1 => ?_
  refine W_region ?_
  refine WL_s rfl rfl ?_
  refine s_box rfl fun _b2 _w_2 _m2 _cw_2 _e2 => ?_
  have _cw_2z := _cw_2.size
  have E := E.trans _cw_2
  have _z2 := _m2.lt
  replace _m2 : Blk _w_2 _b2 25 [(.int .i64 aS), (.slice _A_aA aA.length _C_aA), (.slice _A_saN saN.length _C_saN)] := _m2
  refine WL_s rfl rfl ?_
  refine s_box rfl fun _b3 _w_3 _m3 _cw_3 _e3 => ?_
  have _cw_3z := _cw_3.size
  have E := E.trans _cw_3
  have _z3 := _m3.lt
  replace _m3 : Blk _w_3 _b3 25 [(.int .i64 bS), (.slice _A_bA bA.length _C_bA), (.slice _A_sbN sbN.length _C_sbN)] := _m3
  refine WL_step rfl rfl (r_assign rfl) ?_
  refine WL_nil ?_
  refine thn_nrm (_hK_1 _ _ ?_)
  clear _hK_1
  refine W_seq fun _K_4 _hK_4 => ?_
  refine W_region ?_
  refine WL_step rfl rfl (r_assign rfl) ?_
  refine WL_nil ?_
  refine thn_nrm (_hK_4 _ _ ?_)
  clear _hK_4
  refine W_seq fun _K_5 _hK_5 => ?_
  refine W_region ?_
  have _f_6 := (_m2.ch0 _cw_3)
  refine WL_step rfl rfl (r_loadAtA0 _f_6.at_ agg25 sz25 rfl) ?_
  refine WL_step rfl rfl (r_move rfl) ?_
  refine WL_s rfl rfl ?_
  have _f_7 := ((_h_aA.ch0 _cw_2).ch0 _cw_3)
  have _f_8 := ((_rd_aN.ch0 _cw_2).ch0 _cw_3)
  have _f_9 := ((_h_saN.ch0 _cw_2).ch0 _cw_3)
  refine Step.call (r_call (xs := [.tmp 10, .tmp 11]) fk9 rfl) (c_laws_szAutomaton _ _f_7 _f_9 _f_8 _ (by omega) (by omega)) fun _v12 _w_10 _q12 => ?_
  obtain ⟨rfl, _cw_10⟩ := _q12
  have _cw_10z := _cw_10.size
  have E := E.trans _cw_10
  refine WL_step rfl rfl (r_assign rfl) ?_
  refine WL_nil ?_
  refine thn_nrm (_hK_5 _ _ ?_)
  clear _hK_5
  refine W_seq fun _K_11 _hK_11 => ?_
  refine W_seq fun _K_12 _hK_12 => ?_
  refine W_region ?_
  refine WL_step rfl rfl (r_move rfl) ?_
  refine WL_step rfl rfl (r_lss rfl rfl) ?_
  refine WL_nil ?_
  refine thn_nrm (_hK_12 _ _ ?_)
  clear _hK_12
  refine W_cond rfl (fun _h14 => ?_) (fun _h14 => ?_)
  · have _kb_13 := _h14
    have _h14 := bt_d _h14
    refine W_seq fun _K_14 _hK_14 => ?_
    refine W_region ?_
    refine WL_step rfl rfl (r_assign rfl) ?_
    refine WL_nil ?_
    refine thn_nrm (_hK_14 _ _ ?_)
    clear _hK_14
    refine W_ret (thn_ret ?_)
    clear _hK_11
    exact ret_intro [_] ⟨rfl, trivial⟩ ⟨congrArg Value.bool (by first | rfl | (exfalso; omega) | (exfalso; revert _h14; simp; done) | (exfalso; revert _h14; simp; omega)), E⟩
  · have _kb_13 := _h14
    have _h14 := bf_d _h14
    refine W_skip ?_
    refine thn_nrm (_hK_11 _ _ ?_)
    clear _hK_11
    refine W_seq fun _K_15 _hK_15 => ?_
    refine W_region ?_
    have _f_16 := (_m3.ch0 _cw_10)
    refine WL_step rfl rfl (r_loadAtA0 _f_16.at_ agg25 sz25 rfl) ?_
    refine WL_step rfl rfl (r_move rfl) ?_
    refine WL_s rfl rfl ?_
    have _f_17 := (((_h_bA.ch0 _cw_2).ch0 _cw_3).ch0 _cw_10)
    have _f_18 := (((_rd_bN.ch0 _cw_2).ch0 _cw_3).ch0 _cw_10)
    have _f_19 := (((_h_sbN.ch0 _cw_2).ch0 _cw_3).ch0 _cw_10)
    refine Step.call (r_call (xs := [.tmp 15, .tmp 16]) fk9 rfl) (c_laws_szAutomaton _ _f_17 _f_19 _f_18 _ (by omega) (by omega)) fun _v17 _w_20 _q17 => ?_
    obtain ⟨rfl, _cw_20⟩ := _q17
    have _cw_20z := _cw_20.size
    have E := E.trans _cw_20
    refine WL_step rfl rfl (r_assign rfl) ?_
    refine WL_nil ?_
    refine thn_nrm (_hK_15 _ _ ?_)
    clear _hK_15
    refine W_seq fun _K_21 _hK_21 => ?_
    refine W_seq fun _K_22 _hK_22 => ?_
    refine W_region ?_
    refine WL_step rfl rfl (r_move rfl) ?_
    refine WL_step rfl rfl (r_lss rfl rfl) ?_
    refine WL_nil ?_
    refine thn_nrm (_hK_22 _ _ ?_)
    clear _hK_22
    refine W_cond rfl (fun _h19 => ?_) (fun _h19 => ?_)
    · have _kb_23 := _h19
      have _h19 := bt_d _h19
      refine W_seq fun _K_24 _hK_24 => ?_
      refine W_region ?_
      refine WL_step rfl rfl (r_assign rfl) ?_
      refine WL_nil ?_
      refine thn_nrm (_hK_24 _ _ ?_)
      clear _hK_24
      refine W_ret (thn_ret ?_)
      clear _hK_21
      exact ret_intro [_] ⟨rfl, trivial⟩ ⟨congrArg Value.bool (by first | rfl | (exfalso; omega) | (exfalso; revert _h19; simp; done) | (exfalso; revert _h19; simp; omega)), E⟩
    · have _kb_23 := _h19
      have _h19 := bf_d _h19
      refine W_skip ?_
      refine thn_nrm (_hK_21 _ _ ?_)
      clear _hK_21
      refine W_seq fun _K_25 _hK_25 => ?_
      refine W_drawC [] 6 mixed rfl fun _w_26 _cw_26 => ?_
      have _cw_26z := _cw_26.size
      have E := E.trans _cw_26
      have _f_27 := (((_f_6.ch0 _cw_10).ch0 _cw_20).ch0 _cw_26)
      refine DR_s 0 rfl (by kernel_rfl) rfl rfl (t_loadAtA0 _f_27.at_ (fun i hi => absurd hi List.not_mem_nil) agg25 sz25 rfl ?_)
      have _f_28 := ((_f_16.ch0 _cw_20).ch0 _cw_26)
      refine DR_s 2 rfl (by kernel_rfl) rfl rfl (t_loadAtA0 _f_28.at_ (fun i hi => absurd hi List.not_mem_nil) agg25 sz25 rfl ?_)
      refine DR_one 1 (by kernel_rfl) ?_
      refine DO_s rfl rfl rfl ?_
      have _f_29 := (((_f_7.ch0 _cw_10).ch0 _cw_20).ch0 _cw_26)
      have _f_30 := (((_f_8.ch0 _cw_10).ch0 _cw_20).ch0 _cw_26)
      have _f_31 := (((_f_9.ch0 _cw_10).ch0 _cw_20).ch0 _cw_26)
      refine Step.call (r_call (xs := [.tmp 20]) fk11 rfl) (c_laws_toAutomaton _ _f_29 _f_31 _f_30 (by omega)) fun _v21 _w_32 _q21 => ?_
      obtain ⟨u21_0x1, u21_0x2, _vs21_0x2, rfl, _q_u21_0x1, _lo_u21_0x1, _q_u21_0x2, _lo_u21_0x2, _od_vs21_0x2, _sep_vs21_0x2, _dj_u21_0x1_u21_0x2, _sep_u21_0x1_vs21_0x2, _cw_32⟩ := _q21
      have _cw_32z := _cw_32.size
      have E := E.trans _cw_32
      obtain ⟨Au21_0x1, Cu21_0x1, eu21_0x1⟩ := _q_u21_0x1.val
      subst eu21_0x1
      have lu21_0x1 := _q_u21_0x1.len
      have _hiu21_0x1 := _q_u21_0x1.lt
      obtain ⟨Au21_0x2, Cu21_0x2, eu21_0x2⟩ := _q_u21_0x2.val
      subst eu21_0x2
      have lu21_0x2 := _q_u21_0x2.len
      have _hiu21_0x2 := _q_u21_0x2.lt
      have _S_33 : Ch [] _w_26 _w_32 := ((Ch.refl _ _).trans _cw_32)
      refine ⟨_S_33, ?_⟩
      refine DR_one 3 (by kernel_rfl) ?_
      refine DO_s rfl rfl rfl ?_
      have _f_34 := (((_f_17.ch0 _cw_20).ch0 _cw_26).ch0 _cw_32)
      have _f_35 := (((_f_18.ch0 _cw_20).ch0 _cw_26).ch0 _cw_32)
      have _f_36 := (((_f_19.ch0 _cw_20).ch0 _cw_26).ch0 _cw_32)
      refine Step.call (r_call (xs := [.tmp 22]) fk11 rfl) (c_laws_toAutomaton _ _f_34 _f_36 _f_35 (by omega)) fun _v23 _w_37 _q23 => ?_
      obtain ⟨u23_0x1, u23_0x2, _vs23_0x2, rfl, _q_u23_0x1, _lo_u23_0x1, _q_u23_0x2, _lo_u23_0x2, _od_vs23_0x2, _sep_vs23_0x2, _dj_u23_0x1_u23_0x2, _sep_u23_0x1_vs23_0x2, _cw_37⟩ := _q23
      have _cw_37z := _cw_37.size
      have E := E.trans _cw_37
      obtain ⟨Au23_0x1, Cu23_0x1, eu23_0x1⟩ := _q_u23_0x1.val
      subst eu23_0x1
      have lu23_0x1 := _q_u23_0x1.len
      have _hiu23_0x1 := _q_u23_0x1.lt
      obtain ⟨Au23_0x2, Cu23_0x2, eu23_0x2⟩ := _q_u23_0x2.val
      subst eu23_0x2
      have lu23_0x2 := _q_u23_0x2.len
      have _hiu23_0x2 := _q_u23_0x2.lt
      have _S_38 : Ch [] _w_26 _w_37 := (_S_33.trans _cw_37)
      refine ⟨_S_38, ?_⟩
      refine DR_one 4 (by kernel_rfl) ?_
      refine DO_s rfl rfl rfl ?_
      have _f_39 := (_q_u21_0x1.ch0 _cw_37)
      have _f_40 := (_od_vs21_0x2.ch0 _cw_37)
      have _f_41 := (_q_u21_0x2.ch0 _cw_37)
      refine Step.call (r_call (xs := [.tmp 21, .tmp 23]) fk14 rfl) (c_spec_AreEquivalent _ _f_39.ls _f_41.ls _f_40.rd _ _q_u23_0x1.ls _q_u23_0x2.ls _od_vs23_0x2.rd ) fun _v24 _w_42 _q24 => ?_
      obtain ⟨rfl, _cw_42⟩ := _q24
      have _cw_42z := _cw_42.size
      have E := E.trans _cw_42
      have _S_43 : Ch [] _w_26 _w_42 := (_S_38.trans _cw_42)
      refine ⟨_S_43, ?_⟩
      refine DR_s 5 rfl (by kernel_rfl) rfl rfl (t_v (fun _ => (r_assign rfl)) ?_)
      refine DR_done (by kernel_rfl) ?_
      refine thn_nrm (_hK_25 _ _ ?_)
      clear _hK_25
      refine W_seq fun _K_44 _hK_44 => ?_
      refine W_region ?_
      have _f_45 := (((_f_27.ch0 _cw_32).ch0 _cw_37).ch0 _cw_42)
      refine WL_step rfl rfl (r_loadAtA0 _f_45.at_ agg25 sz25 rfl) ?_
      refine WL_s rfl rfl ?_
      have _f_46 := (((_f_29.ch0 _cw_32).ch0 _cw_37).ch0 _cw_42)
      have _f_47 := (((_f_30.ch0 _cw_32).ch0 _cw_37).ch0 _cw_42)
      have _f_48 := (((_f_31.ch0 _cw_32).ch0 _cw_37).ch0 _cw_42)
      refine Step.call (r_call (xs := [.tmp 25]) fk11 rfl) (c_laws_toAutomaton _ _f_46 _f_48 _f_47 (by omega)) fun _v26 _w_49 _q26 => ?_
      obtain ⟨u26_0x1, u26_0x2, _vs26_0x2, rfl, _q_u26_0x1, _lo_u26_0x1, _q_u26_0x2, _lo_u26_0x2, _od_vs26_0x2, _sep_vs26_0x2, _dj_u26_0x1_u26_0x2, _sep_u26_0x1_vs26_0x2, _cw_49⟩ := _q26
      have _cw_49z := _cw_49.size
      have E := E.trans _cw_49
      obtain ⟨Au26_0x1, Cu26_0x1, eu26_0x1⟩ := _q_u26_0x1.val
      subst eu26_0x1
      have lu26_0x1 := _q_u26_0x1.len
      have _hiu26_0x1 := _q_u26_0x1.lt
      obtain ⟨Au26_0x2, Cu26_0x2, eu26_0x2⟩ := _q_u26_0x2.val
      subst eu26_0x2
      have lu26_0x2 := _q_u26_0x2.len
      have _hiu26_0x2 := _q_u26_0x2.lt
      refine WL_s rfl rfl ?_
      refine s_alloc zr28 fun _b7 _w_50 _m7 _cw_50 _e7 => ?_
      have _cw_50z := _cw_50.size
      have E := E.trans _cw_50
      have _z7 := _m7.lt
      replace _m7 : Blk _w_50 _b7 28 [(.int .i64 0), (.slice none 0 0), (.slice none 0 0)] := _m7
      refine WL_s rfl rfl ?_
      refine s_storeA (off := 0) 3 _m7 sz28 rfl (us := [(.int .i64 aS), (.slice Au26_0x1 (aA).length Cu26_0x1), (.slice Au26_0x2 (_vs26_0x2).length Cu26_0x2)]) rfl rfl rfl rfl fun _w_51 _m_52 _cw_51 => ?_
      have _cw_51z := _cw_51.size
      have E := E.step _cw_51 (fun i hi => .inl (by have _h1 := List.mem_singleton.1 hi; omega))
      replace _m_52 : Blk _w_51 _b7 28 [(.int .i64 aS), (.slice Au26_0x1 (aA).length Cu26_0x1), (.slice Au26_0x2 (_vs26_0x2).length Cu26_0x2)] := _m_52
      refine WL_nil ?_
      refine thn_nrm (_hK_44 _ _ ?_)
      clear _hK_44
      refine W_seq fun _K_53 _hK_53 => ?_
      refine W_region ?_
      have _f_54 := ((((((_f_28.ch0 _cw_32).ch0 _cw_37).ch0 _cw_42).ch0 _cw_49).ch0 _cw_50).ch _cw_51 (fun hm => by have _h1 := List.mem_singleton.1 hm; omega))
      refine WL_step rfl rfl (r_loadAtA0 _f_54.at_ agg25 sz25 rfl) ?_
      refine WL_s rfl rfl ?_
      have _f_55 := (((((_f_34.ch0 _cw_37).ch0 _cw_42).ch0 _cw_49).ch0 _cw_50).ch _cw_51 (fun i hi => by have _h1 := List.mem_singleton.1 hi; omega))
      have _f_56 := (((((_f_35.ch0 _cw_37).ch0 _cw_42).ch0 _cw_49).ch0 _cw_50).ch _cw_51 (fun i hi => by have _h1 := List.mem_singleton.1 hi; omega))
      have _f_57 := (((((_f_36.ch0 _cw_37).ch0 _cw_42).ch0 _cw_49).ch0 _cw_50).ch _cw_51 (fun i hi => by have _h1 := List.mem_singleton.1 hi; omega))
      refine Step.call (r_call (xs := [.tmp 27]) fk11 rfl) (c_laws_toAutomaton _ _f_55 _f_57 _f_56 (by omega)) fun _v28 _w_58 _q28 => ?_
      obtain ⟨u28_0x1, u28_0x2, _vs28_0x2, rfl, _q_u28_0x1, _lo_u28_0x1, _q_u28_0x2, _lo_u28_0x2, _od_vs28_0x2, _sep_vs28_0x2, _dj_u28_0x1_u28_0x2, _sep_u28_0x1_vs28_0x2, _cw_58⟩ := _q28
      have _cw_58z := _cw_58.size
      have E := E.trans _cw_58
      obtain ⟨Au28_0x1, Cu28_0x1, eu28_0x1⟩ := _q_u28_0x1.val
      subst eu28_0x1
      have lu28_0x1 := _q_u28_0x1.len
      have _hiu28_0x1 := _q_u28_0x1.lt
      obtain ⟨Au28_0x2, Cu28_0x2, eu28_0x2⟩ := _q_u28_0x2.val
      subst eu28_0x2
      have lu28_0x2 := _q_u28_0x2.len
      have _hiu28_0x2 := _q_u28_0x2.lt
      refine WL_s rfl rfl ?_
      refine s_alloc zr28 fun _b8 _w_59 _m8 _cw_59 _e8 => ?_
      have _cw_59z := _cw_59.size
      have E := E.trans _cw_59
      have _z8 := _m8.lt
      replace _m8 : Blk _w_59 _b8 28 [(.int .i64 0), (.slice none 0 0), (.slice none 0 0)] := _m8
      refine WL_s rfl rfl ?_
      refine s_storeA (off := 0) 3 _m8 sz28 rfl (us := [(.int .i64 bS), (.slice Au28_0x1 (bA).length Cu28_0x1), (.slice Au28_0x2 (_vs28_0x2).length Cu28_0x2)]) rfl rfl rfl rfl fun _w_60 _m_61 _cw_60 => ?_
      have _cw_60z := _cw_60.size
      have E := E.step _cw_60 (fun i hi => .inl (by have _h1 := List.mem_singleton.1 hi; omega))
      replace _m_61 : Blk _w_60 _b8 28 [(.int .i64 bS), (.slice Au28_0x1 (bA).length Cu28_0x1), (.slice Au28_0x2 (_vs28_0x2).length Cu28_0x2)] := _m_61
      refine WL_nil ?_
      refine thn_nrm (_hK_53 _ _ ?_)
      clear _hK_53
      refine W_seq fun _K_62 _hK_62 => ?_
      refine W_region ?_
      have _f_63 := (((_m_52.ch0 _cw_58).ch0 _cw_59).ch _cw_60 (fun hm => by have _h1 := List.mem_singleton.1 hm; omega))
      refine WL_step rfl rfl (r_loadAtA0 _f_63.at_ agg28 sz28 rfl) ?_
      refine WL_step rfl rfl (r_loadAtA0 _m_61.at_ agg28 sz28 rfl) ?_
      refine WL_s rfl rfl ?_
      have _f_64 := (((((_q_u26_0x1.ch0 _cw_50).ch _cw_51 (fun g hg hm => by have _h0 := List.mem_singleton.1 hm; have _h2 := _lo_u26_0x1 _ hg; have _h3 := _hiu26_0x1 _ hg; omega)).ch0 _cw_58).ch0 _cw_59).ch _cw_60 (fun g hg hm => by have _h0 := List.mem_singleton.1 hm; have _h2 := _lo_u26_0x1 _ hg; have _h3 := _hiu26_0x1 _ hg; omega))
      have _f_65 := (((((_od_vs26_0x2.ch0 _cw_50).ch _cw_51 (fun i hi => by have _h1 := List.mem_singleton.1 hi; omega)).ch0 _cw_58).ch0 _cw_59).ch _cw_60 (fun i hi => by have _h1 := List.mem_singleton.1 hi; omega))
      have _f_66 := (((((_q_u26_0x2.ch0 _cw_50).ch _cw_51 (fun g hg hm => by have _h0 := List.mem_singleton.1 hm; have _h2 := _lo_u26_0x2 _ hg; have _h3 := _hiu26_0x2 _ hg; omega)).ch0 _cw_58).ch0 _cw_59).ch _cw_60 (fun g hg hm => by have _h0 := List.mem_singleton.1 hm; have _h2 := _lo_u26_0x2 _ hg; have _h3 := _hiu26_0x2 _ hg; omega))
      have _f_67 := ((_q_u28_0x1.ch0 _cw_59).ch _cw_60 (fun g hg hm => by have _h0 := List.mem_singleton.1 hm; have _h2 := _lo_u28_0x1 _ hg; have _h3 := _hiu28_0x1 _ hg; omega))
      have _f_68 := ((_od_vs28_0x2.ch0 _cw_59).ch _cw_60 (fun i hi => by have _h1 := List.mem_singleton.1 hi; omega))
      have _f_69 := ((_q_u28_0x2.ch0 _cw_59).ch _cw_60 (fun g hg hm => by have _h0 := List.mem_singleton.1 hm; have _h2 := _lo_u28_0x2 _ hg; have _h3 := _hiu28_0x2 _ hg; omega))
      refine Step.call (r_call (xs := [.tmp 29, .tmp 30]) fk15 rfl) (c_impl_AreEquivalent _ _f_64.ls _f_66.ls _f_65.rd _ _f_67.ls _f_69.ls _f_68.rd ) fun _v31 _w_70 _q31 => ?_
      obtain ⟨rfl, _cw_70⟩ := _q31
      have _cw_70z := _cw_70.size
      have E := E.trans _cw_70
      refine WL_step rfl rfl (r_assign rfl) ?_
      refine WL_nil ?_
      refine thn_nrm (_hK_62 _ _ ?_)
      clear _hK_62
      refine W_seq fun _K_71 _hK_71 => ?_
      refine W_seq fun _K_72 _hK_72 => ?_
      refine W_region ?_
      refine WL_step rfl rfl (r_move rfl) ?_
      refine WL_step rfl rfl (r_move rfl) ?_
      refine WL_step rfl rfl (r_neqB un4 rfl rfl) ?_
      refine WL_nil ?_
      refine thn_nrm (_hK_72 _ _ ?_)
      clear _hK_72
      refine W_cond rfl (fun _h34 => ?_) (fun _h34 => ?_)
      · have _kb_73 := _h34
        have _h34 := bf_e (bt_n _h34)
        refine W_seq fun _K_74 _hK_74 => ?_
        refine W_region ?_
        refine WL_step rfl rfl (r_assign rfl) ?_
        refine WL_nil ?_
        refine thn_nrm (_hK_74 _ _ ?_)
        clear _hK_74
        refine W_ret (thn_ret ?_)
        clear _hK_71
        exact ret_intro [_] ⟨rfl, trivial⟩ ⟨congrArg Value.bool (by first | rfl | (exfalso; omega) | (exfalso; revert _h34; simp; done) | (exfalso; revert _h34; simp; omega)), E⟩
      · have _kb_73 := _h34
        have _h34 := bt_e (bf_n _h34)
        refine W_skip ?_
        refine thn_nrm (_hK_71 _ _ ?_)
        clear _hK_71
        refine W_seq fun _K_75 _hK_75 => ?_
        refine W_seq fun _K_76 _hK_76 => ?_
        refine W_drawC [] 5 mixed rfl fun _w_77 _cw_77 => ?_
        have _cw_77z := _cw_77.size
        have E := E.trans _cw_77
        have _f_78 := ((_f_63.ch0 _cw_70).ch0 _cw_77)
        refine DR_s 0 rfl (by kernel_rfl) rfl rfl (t_loadAtA0 _f_78.at_ (fun i hi => absurd hi List.not_mem_nil) agg28 sz28 rfl ?_)
        have _f_79 := ((((((((_f_45.ch0 _cw_49).ch0 _cw_50).ch _cw_51 (fun hm => by have _h1 := List.mem_singleton.1 hm; omega)).ch0 _cw_58).ch0 _cw_59).ch _cw_60 (fun hm => by have _h1 := List.mem_singleton.1 hm; omega)).ch0 _cw_70).ch0 _cw_77)
        refine DR_s 1 rfl (by kernel_rfl) rfl rfl (t_loadAtA0 _f_79.at_ (fun i hi => absurd hi List.not_mem_nil) agg25 sz25 rfl ?_)
        refine DR_one 2 (by kernel_rfl) ?_
        refine DO_s rfl rfl rfl ?_
        have _f_80 := ((((((((_f_46.ch0 _cw_49).ch0 _cw_50).ch _cw_51 (fun i hi => by have _h1 := List.mem_singleton.1 hi; omega)).ch0 _cw_58).ch0 _cw_59).ch _cw_60 (fun i hi => by have _h1 := List.mem_singleton.1 hi; omega)).ch0 _cw_70).ch0 _cw_77)
        have _f_81 := ((((((((_f_47.ch0 _cw_49).ch0 _cw_50).ch _cw_51 (fun i hi => by have _h1 := List.mem_singleton.1 hi; omega)).ch0 _cw_58).ch0 _cw_59).ch _cw_60 (fun i hi => by have _h1 := List.mem_singleton.1 hi; omega)).ch0 _cw_70).ch0 _cw_77)
        have _f_82 := ((((((((_f_48.ch0 _cw_49).ch0 _cw_50).ch _cw_51 (fun i hi => by have _h1 := List.mem_singleton.1 hi; omega)).ch0 _cw_58).ch0 _cw_59).ch _cw_60 (fun i hi => by have _h1 := List.mem_singleton.1 hi; omega)).ch0 _cw_70).ch0 _cw_77)
        refine Step.call (r_call (xs := [.tmp 36]) fk11 rfl) (c_laws_toAutomaton _ _f_80 _f_82 _f_81 (by omega)) fun _v37 _w_83 _q37 => ?_
        obtain ⟨u37_0x1, u37_0x2, _vs37_0x2, rfl, _q_u37_0x1, _lo_u37_0x1, _q_u37_0x2, _lo_u37_0x2, _od_vs37_0x2, _sep_vs37_0x2, _dj_u37_0x1_u37_0x2, _sep_u37_0x1_vs37_0x2, _cw_83⟩ := _q37
        have _cw_83z := _cw_83.size
        have E := E.trans _cw_83
        obtain ⟨Au37_0x1, Cu37_0x1, eu37_0x1⟩ := _q_u37_0x1.val
        subst eu37_0x1
        have lu37_0x1 := _q_u37_0x1.len
        have _hiu37_0x1 := _q_u37_0x1.lt
        obtain ⟨Au37_0x2, Cu37_0x2, eu37_0x2⟩ := _q_u37_0x2.val
        subst eu37_0x2
        have lu37_0x2 := _q_u37_0x2.len
        have _hiu37_0x2 := _q_u37_0x2.lt
        have _S_84 : Ch [] _w_77 _w_83 := ((Ch.refl _ _).trans _cw_83)
        refine ⟨_S_84, ?_⟩
        refine DR_one 3 (by kernel_rfl) ?_
        refine DO_s rfl rfl rfl ?_
        have _f_85 := (((_f_64.ch0 _cw_70).ch0 _cw_77).ch0 _cw_83)
        have _f_86 := (((_f_65.ch0 _cw_70).ch0 _cw_77).ch0 _cw_83)
        have _f_87 := (((_f_66.ch0 _cw_70).ch0 _cw_77).ch0 _cw_83)
        refine Step.call (r_call (xs := [.tmp 35, .tmp 37]) fk13 rfl) (c_laws_eqAutomaton _ _f_85.ls _f_87.ls _f_86.rd _ _q_u37_0x1.ls _q_u37_0x2.ls _od_vs37_0x2.rd ) fun _v38 _w_88 _q38 => ?_
        obtain ⟨rfl, _cw_88⟩ := _q38
        have _cw_88z := _cw_88.size
        have E := E.trans _cw_88
        have _S_89 : Ch [] _w_77 _w_88 := (_S_84.trans _cw_88)
        refine ⟨_S_89, ?_⟩
        refine DR_s 4 rfl (by kernel_rfl) rfl rfl (t_v (fun _ => (r_not rfl)) ?_)
        refine DR_done (by kernel_rfl) ?_
        refine thn_nrm (_hK_76 _ _ ?_)
        clear _hK_76
        refine W_cond rfl (fun _h39 => ?_) (fun _h39 => ?_)
        · have _kb_90 := _h39
          have _h39 := bf_d (bt_n _h39)
          refine W_seq fun _K_91 _hK_91 => ?_
          refine W_region ?_
          refine WL_step rfl rfl (r_assign rfl) ?_
          refine WL_nil ?_
          refine thn_nrm (_hK_91 _ _ ?_)
          clear _hK_91
          refine W_ret (thn_ret ?_)
          clear _hK_75
          exact ret_intro [_] ⟨rfl, trivial⟩ ⟨congrArg Value.bool (by first | rfl | (exfalso; omega) | (exfalso; revert _h39; simp; done) | (exfalso; revert _h39; simp; omega)), E⟩
        · have _kb_90 := _h39
          have _h39 := bt_d (bf_n _h39)
          refine W_skip ?_
          refine thn_nrm (_hK_75 _ _ ?_)
          clear _hK_75
          refine W_seq fun _K_92 _hK_92 => ?_
          refine W_seq fun _K_93 _hK_93 => ?_
          refine W_drawC [] 5 mixed rfl fun _w_94 _cw_94 => ?_
          have _cw_94z := _cw_94.size
          have E := E.trans _cw_94
          have _f_95 := (((((_m_61.ch0 _cw_70).ch0 _cw_77).ch0 _cw_83).ch0 _cw_88).ch0 _cw_94)
          refine DR_s 0 rfl (by kernel_rfl) rfl rfl (t_loadAtA0 _f_95.at_ (fun i hi => absurd hi List.not_mem_nil) agg28 sz28 rfl ?_)
          have _f_96 := ((((((((_f_54.ch0 _cw_58).ch0 _cw_59).ch _cw_60 (fun hm => by have _h1 := List.mem_singleton.1 hm; omega)).ch0 _cw_70).ch0 _cw_77).ch0 _cw_83).ch0 _cw_88).ch0 _cw_94)
          refine DR_s 1 rfl (by kernel_rfl) rfl rfl (t_loadAtA0 _f_96.at_ (fun i hi => absurd hi List.not_mem_nil) agg25 sz25 rfl ?_)
          refine DR_one 2 (by kernel_rfl) ?_
          refine DO_s rfl rfl rfl ?_
          have _f_97 := ((((((((_f_55.ch0 _cw_58).ch0 _cw_59).ch _cw_60 (fun i hi => by have _h1 := List.mem_singleton.1 hi; omega)).ch0 _cw_70).ch0 _cw_77).ch0 _cw_83).ch0 _cw_88).ch0 _cw_94)
          have _f_98 := ((((((((_f_56.ch0 _cw_58).ch0 _cw_59).ch _cw_60 (fun i hi => by have _h1 := List.mem_singleton.1 hi; omega)).ch0 _cw_70).ch0 _cw_77).ch0 _cw_83).ch0 _cw_88).ch0 _cw_94)
          have _f_99 := ((((((((_f_57.ch0 _cw_58).ch0 _cw_59).ch _cw_60 (fun i hi => by have _h1 := List.mem_singleton.1 hi; omega)).ch0 _cw_70).ch0 _cw_77).ch0 _cw_83).ch0 _cw_88).ch0 _cw_94)
          refine Step.call (r_call (xs := [.tmp 41]) fk11 rfl) (c_laws_toAutomaton _ _f_97 _f_99 _f_98 (by omega)) fun _v42 _w_100 _q42 => ?_
          obtain ⟨u42_0x1, u42_0x2, _vs42_0x2, rfl, _q_u42_0x1, _lo_u42_0x1, _q_u42_0x2, _lo_u42_0x2, _od_vs42_0x2, _sep_vs42_0x2, _dj_u42_0x1_u42_0x2, _sep_u42_0x1_vs42_0x2, _cw_100⟩ := _q42
          have _cw_100z := _cw_100.size
          have E := E.trans _cw_100
          obtain ⟨Au42_0x1, Cu42_0x1, eu42_0x1⟩ := _q_u42_0x1.val
          subst eu42_0x1
          have lu42_0x1 := _q_u42_0x1.len
          have _hiu42_0x1 := _q_u42_0x1.lt
          obtain ⟨Au42_0x2, Cu42_0x2, eu42_0x2⟩ := _q_u42_0x2.val
          subst eu42_0x2
          have lu42_0x2 := _q_u42_0x2.len
          have _hiu42_0x2 := _q_u42_0x2.lt
          have _S_101 : Ch [] _w_94 _w_100 := ((Ch.refl _ _).trans _cw_100)
          refine ⟨_S_101, ?_⟩
          refine DR_one 3 (by kernel_rfl) ?_
          refine DO_s rfl rfl rfl ?_
          have _f_102 := ((((((_f_67.ch0 _cw_70).ch0 _cw_77).ch0 _cw_83).ch0 _cw_88).ch0 _cw_94).ch0 _cw_100)
          have _f_103 := ((((((_f_68.ch0 _cw_70).ch0 _cw_77).ch0 _cw_83).ch0 _cw_88).ch0 _cw_94).ch0 _cw_100)
          have _f_104 := ((((((_f_69.ch0 _cw_70).ch0 _cw_77).ch0 _cw_83).ch0 _cw_88).ch0 _cw_94).ch0 _cw_100)
          refine Step.call (r_call (xs := [.tmp 40, .tmp 42]) fk13 rfl) (c_laws_eqAutomaton _ _f_102.ls _f_104.ls _f_103.rd _ _q_u42_0x1.ls _q_u42_0x2.ls _od_vs42_0x2.rd ) fun _v43 _w_105 _q43 => ?_
          obtain ⟨rfl, _cw_105⟩ := _q43
          have _cw_105z := _cw_105.size
          have E := E.trans _cw_105
          have _S_106 : Ch [] _w_94 _w_105 := (_S_101.trans _cw_105)
          refine ⟨_S_106, ?_⟩
          refine DR_s 4 rfl (by kernel_rfl) rfl rfl (t_v (fun _ => (r_not rfl)) ?_)
          refine DR_done (by kernel_rfl) ?_
          refine thn_nrm (_hK_93 _ _ ?_)
          clear _hK_93
          refine W_cond rfl (fun _h44 => ?_) (fun _h44 => ?_)
          · have _kb_107 := _h44
            have _h44 := bf_d (bt_n _h44)
            refine W_seq fun _K_108 _hK_108 => ?_
            refine W_region ?_
            refine WL_step rfl rfl (r_assign rfl) ?_
            refine WL_nil ?_
            refine thn_nrm (_hK_108 _ _ ?_)
            clear _hK_108
            refine W_ret (thn_ret ?_)
            clear _hK_92
            exact ret_intro [_] ⟨rfl, trivial⟩ ⟨congrArg Value.bool (by first | rfl | (exfalso; omega) | (exfalso; revert _h44; simp; done) | (exfalso; revert _h44; simp; omega)), E⟩
          · have _kb_107 := _h44
            have _h44 := bt_d (bf_n _h44)
            refine W_skip ?_
            refine thn_nrm (_hK_92 _ _ ?_)
            clear _hK_92
            refine W_seq fun _K_109 _hK_109 => ?_
            refine W_region ?_
            refine WL_step rfl rfl (r_assign rfl) ?_
            refine WL_nil ?_
            refine thn_nrm (_hK_109 _ _ ?_)
            clear _hK_109
            refine W_ret ?_
            exact ret_intro [_] ⟨rfl, trivial⟩ ⟨congrArg Value.bool (by first | rfl | (exfalso; omega) | (exfalso; revert _h44; simp; done) | (exfalso; revert _h44; simp; omega)), E⟩

end Go.Proofs.Ytliecidadhlieaa
