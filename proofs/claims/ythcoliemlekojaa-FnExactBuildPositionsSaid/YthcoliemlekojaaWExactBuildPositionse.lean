/- Walks of functions that FnExactBuildPositions reaches: what each returns, and that it leaves the memory that was there alone. -/
import Derived.Test.YthcoliemlekojaaKF
import Derived.Test.YthcoliemlekojaaKG
import Derived.Test.YthcoliemlekojaaKH
import Derived.Test.YthcoliemlekojaaKI
import Derived.Test.YthcoliemlekojaaKJ
import Derived.Test.YthcoliemlekojaaKM
import Derived.Test.YthcoliemlekojaaKN
import Derived.Test.YthcoliemlekojaaKO
import Derived.Test.YthcoliemlekojaaKP
import Derived.Test.YthcoliemlekojaaKQ
import Derived.Test.YthcoliemlekojaaKR
import Derived.Test.YthcoliemlekojaaKS
import Derived.Test.YthcoliemlekojaaKT
import Derived.Test.YthcoliemlekojaaKU
import Derived.Test.YthcoliemlekojaaKV
import Derived.Test.YthcoliemlekojaaKX
import Derived.Test.YthcoliemlekojaaKY
import Derived.Test.YthcoliemlekojaaKZ
import Derived.Test.YthcoliemlekojaaJA
import Derived.Test.YthcoliemlekojaaJB
import Derived.Test.YthcoliemlekojaaJC
import Derived.Test.YthcoliemlekojaaJD
import Derived.Test.YthcoliemlekojaaJE
import Derived.Test.YthcoliemlekojaaJF
import Derived.Test.YthcoliemlekojaaJG
import Derived.Test.YthcoliemlekojaaJH
import Derived.Test.YthcoliemlekojaaJI
import Derived.Test.YthcoliemlekojaaJK
import Derived.Test.YthcoliemlekojaaJM
import Derived.Test.YthcoliemlekojaaJN
import Derived.Test.YthcoliemlekojaaJO
import Derived.Test.YthcoliemlekojaaJP
import Derived.Test.YthcoliemlekojaaJQ
import Derived.Test.YthcoliemlekojaaJR
import Derived.Test.YthcoliemlekojaaJS
import Derived.Test.YthcoliemlekojaaJT
import Derived.Test.YthcoliemlekojaaJU
import Derived.Test.YthcoliemlekojaaJV
import Derived.Test.YthcoliemlekojaaWExactBuildPositions
import Derived.Test.YthcoliemlekojaaWExactBuildPositionsb
import Derived.Test.YthcoliemlekojaaWExactBuildPositionsc
import Derived.Test.YthcoliemlekojaaWExactBuildPositionsd
import Derived.Test.YthcoliemlekojaaProg
namespace Go.Proofs.Ythcoliemlekojaa
open Go.KLib Go.Shelf
set_option maxHeartbeats 1000000
set_option maxRecDepth 20000
set_option linter.unusedVariables false
set_option linter.unusedSimpArgs false
namespace TExactBuildPositionse
theorem agg24 : aggB Try.prog 24 = some true := by kernel_rfl
theorem agg30 : aggB Try.prog 30 = some true := by kernel_rfl
theorem agg37 : aggB Try.prog 37 = some true := by kernel_rfl
theorem fk10 : fnB Try.prog 10 = true := by kernel_rfl
theorem fk12 : fnB Try.prog 12 = true := by kernel_rfl
theorem fk13 : fnB Try.prog 13 = true := by kernel_rfl
theorem fk14 : fnB Try.prog 14 = true := by kernel_rfl
theorem fk15 : fnB Try.prog 15 = true := by kernel_rfl
theorem fk16 : fnB Try.prog 16 = true := by kernel_rfl
theorem fk17 : fnB Try.prog 17 = true := by kernel_rfl
theorem fk5 : fnB Try.prog 5 = true := by kernel_rfl
theorem fk7 : fnB Try.prog 7 = true := by kernel_rfl
theorem mixed : Try.prog.follows .mixedOrders = true := by kernel_rfl
theorem sz24 : sizeB Try.prog 24 = some 1 := by kernel_rfl
theorem sz30 : sizeB Try.prog 30 = some 1 := by kernel_rfl
theorem sz37 : sizeB Try.prog 37 = some 5 := by kernel_rfl
theorem un4 : Try.prog.underlying 4 = some (.bool) := by kernel_rfl
theorem zr30 : zeroB Try.prog 30 = some (.agg #[.slice none 0 0]) := by kernel_rfl
theorem zr37 : zeroB Try.prog 37 = some (.agg #[.slice none 0 0, .int .i64 0, .int .i64 0, .slice none 0 0, .bool false]) := by kernel_rfl
end TExactBuildPositionse
open TExactBuildPositionse

/-- laws.FnExactBuildPositions -/
theorem c_laws_FnExactBuildPositions {w : World} {LL_e _B_e : Nat} {_v_e : Value} {e : List Token} (_h_e : Ls Token.cs 4 w LL_e _B_e _v_e e) :
    Ctr Try.prog 4 #[(.agg #[_v_e])] w (fun v w' => v = .bool (true) ∧ Ch [] w w') := by
  obtain ⟨_A_e, _C_e, _e1_e⟩ := _h_e.val
  subst _e1_e
  have _l_e := _h_e.len
  have _h_e := _h_e.here (by decide)
  have E := Ch.refl [] w
  have sl := bpE_len e
  refine Ctr_of_W (N := 96) (vs0 := [(.agg #[(.slice _A_e e.length _C_e)])]) Try.func4 rfl rfl rfl ?_
  refine W_seq fun _K_1 _hK_1 => ?_
  refine W_region ?_
  refine WL_s rfl rfl ?_
  refine s_box rfl fun _b1 _w_2 _m1 _cw_2 _e1 => ?_
  have _cw_2z := _cw_2.size
  have E := E.trans _cw_2
  have _z1 := _m1.lt
  replace _m1 : Blk _w_2 _b1 24 [(.slice _A_e e.length _C_e)] := _m1
  refine WL_step rfl rfl (r_assign rfl) ?_
  refine WL_nil ?_
  refine thn_nrm (_hK_1 _ _ ?_)
  clear _hK_1
  refine W_seq fun _K_3 _hK_3 => ?_
  refine W_region ?_
  refine WL_step rfl rfl (r_assign rfl) ?_
  refine WL_nil ?_
  refine thn_nrm (_hK_3 _ _ ?_)
  clear _hK_3
  refine W_seq fun _K_4 _hK_4 => ?_
  refine W_region ?_
  refine WL_step rfl rfl (r_loadAtA0 _m1.at_ agg24 sz24 rfl) ?_
  refine WL_step rfl rfl (r_move rfl) ?_
  refine WL_s rfl rfl ?_
  have _f_5 := (_h_e.ch0 _cw_2)
  refine Step.call (r_call (xs := [.tmp 14, .tmp 15]) fk5 rfl) (c_laws_szExpr _f_5 _ (by omega) (by omega)) fun _v16 _w_6 _q16 => ?_
  obtain ⟨rfl, _cw_6⟩ := _q16
  have _cw_6z := _cw_6.size
  have E := E.trans _cw_6
  refine WL_step rfl rfl (r_assign rfl) ?_
  refine WL_nil ?_
  refine thn_nrm (_hK_4 _ _ ?_)
  clear _hK_4
  refine W_seq fun _K_7 _hK_7 => ?_
  refine W_seq fun _K_8 _hK_8 => ?_
  refine W_region ?_
  refine WL_step rfl rfl (r_move rfl) ?_
  refine WL_step rfl rfl (r_lss rfl rfl) ?_
  refine WL_nil ?_
  refine thn_nrm (_hK_8 _ _ ?_)
  clear _hK_8
  refine W_cond rfl (fun _h18 => ?_) (fun _h18 => ?_)
  · have _kb_9 := _h18
    have _h18 := bt_d _h18
    refine W_seq fun _K_10 _hK_10 => ?_
    refine W_region ?_
    refine WL_step rfl rfl (r_assign rfl) ?_
    refine WL_nil ?_
    refine thn_nrm (_hK_10 _ _ ?_)
    clear _hK_10
    refine W_ret (thn_ret ?_)
    clear _hK_7
    exact ret_intro [_] ⟨rfl, trivial⟩ ⟨congrArg Value.bool (by first | rfl | (exfalso; omega) | (exfalso; revert _h18; simp; done) | (exfalso; revert _h18; simp; omega)), E⟩
  · have _kb_9 := _h18
    have _h18 := bf_d _h18
    refine W_skip ?_
    refine thn_nrm (_hK_7 _ _ ?_)
    clear _hK_7
    refine W_seq fun _K_11 _hK_11 => ?_
    refine W_region ?_
    have _f_12 := (_m1.ch0 _cw_6)
    refine WL_step rfl rfl (r_loadAtA0 _f_12.at_ agg24 sz24 rfl) ?_
    refine WL_s rfl rfl ?_
    have _f_13 := (_f_5.ch0 _cw_6)
    refine Step.call (r_call (xs := [.tmp 20]) fk7 rfl) (c_laws_toExpr _f_13 (by omega)) fun _v21 _w_14 _q21 => ?_
    obtain ⟨_u21, rfl, _q21, _lo21, _cw_14⟩ := _q21
    have _cw_14z := _cw_14.size
    have E := E.trans _cw_14
    obtain ⟨_Au21, _Cu21, _eu21⟩ := _q21.val
    subst _eu21
    have _lu21 := _q21.len
    have _hiu21 := _q21.lt
    refine WL_s rfl rfl ?_
    refine Step.call (r_call (xs := [.tmp 21]) fk12 rfl) (c_spec_BuildPositions _q21.ls (by omega)) fun _v22 _w_15 _q22 => ?_
    obtain ⟨u22_0x0, u22_0x3, rfl, _q_u22_0x0, _lo_u22_0x0, _q_u22_0x3, _lo_u22_0x3, _dj_u22_0x0_u22_0x3, _cw_15⟩ := _q22
    have _cw_15z := _cw_15.size
    have E := E.trans _cw_15
    obtain ⟨Au22_0x0, Cu22_0x0, eu22_0x0⟩ := _q_u22_0x0.val
    subst eu22_0x0
    have lu22_0x0 := _q_u22_0x0.len
    have _hiu22_0x0 := _q_u22_0x0.lt
    obtain ⟨Au22_0x3, Cu22_0x3, eu22_0x3⟩ := _q_u22_0x3.val
    subst eu22_0x3
    have lu22_0x3 := _q_u22_0x3.len
    have _hiu22_0x3 := _q_u22_0x3.lt
    refine WL_step rfl rfl (r_move rfl) ?_
    refine WL_step rfl rfl (r_extract rfl rfl) ?_
    refine WL_step rfl rfl (r_extract rfl rfl) ?_
    refine WL_s rfl rfl ?_
    refine s_alloc zr37 fun _b4 _w_16 _m4 _cw_16 _e4 => ?_
    have _cw_16z := _cw_16.size
    have E := E.trans _cw_16
    have _z4 := _m4.lt
    replace _m4 : Blk _w_16 _b4 37 [(.slice none 0 0), (.int .i64 0), (.int .i64 0), (.slice none 0 0), (.bool false)] := _m4
    refine WL_s rfl rfl ?_
    refine s_storeA (off := 0) 5 _m4 sz37 rfl (us := [(.slice Au22_0x0 ((bpE e).1.L).length Cu22_0x0), (.int .i64 ((bpE e).1.f)), (.int .i64 ((bpE e).1.l)), (.slice Au22_0x3 ((bpE e).1.F).length Cu22_0x3), (.bool ((bpE e).1.n))]) rfl rfl rfl rfl fun _w_17 _m_18 _cw_17 => ?_
    have _cw_17z := _cw_17.size
    have E := E.step _cw_17 (fun i hi => .inl (by have _h1 := List.mem_singleton.1 hi; omega))
    replace _m_18 : Blk _w_17 _b4 37 [(.slice Au22_0x0 ((bpE e).1.L).length Cu22_0x0), (.int .i64 ((bpE e).1.f)), (.int .i64 ((bpE e).1.l)), (.slice Au22_0x3 ((bpE e).1.F).length Cu22_0x3), (.bool ((bpE e).1.n))] := _m_18
    refine WL_step rfl rfl (r_assign rfl) ?_
    refine WL_nil ?_
    refine thn_nrm (_hK_11 _ _ ?_)
    clear _hK_11
    refine W_seq fun _K_19 _hK_19 => ?_
    refine W_region ?_
    have _f_20 := ((((_f_12.ch0 _cw_14).ch0 _cw_15).ch0 _cw_16).ch _cw_17 (fun hm => by have _h1 := List.mem_singleton.1 hm; omega))
    refine WL_step rfl rfl (r_loadAtA0 _f_20.at_ agg24 sz24 rfl) ?_
    refine WL_s rfl rfl ?_
    have _f_21 := ((((_f_13.ch0 _cw_14).ch0 _cw_15).ch0 _cw_16).ch _cw_17 (fun i hi => by have _h1 := List.mem_singleton.1 hi; omega))
    refine Step.call (r_call (xs := [.tmp 25]) fk7 rfl) (c_laws_toExpr _f_21 (by omega)) fun _v26 _w_22 _q26 => ?_
    obtain ⟨_u26, rfl, _q26, _lo26, _cw_22⟩ := _q26
    have _cw_22z := _cw_22.size
    have E := E.trans _cw_22
    obtain ⟨_Au26, _Cu26, _eu26⟩ := _q26.val
    subst _eu26
    have _lu26 := _q26.len
    have _hiu26 := _q26.lt
    refine WL_s rfl rfl ?_
    refine s_alloc zr30 fun _b6 _w_23 _m6 _cw_23 _e6 => ?_
    have _cw_23z := _cw_23.size
    have E := E.trans _cw_23
    have _z6 := _m6.lt
    replace _m6 : Blk _w_23 _b6 30 [(.slice none 0 0)] := _m6
    refine WL_s rfl rfl ?_
    refine s_storeA (off := 0) 1 _m6 sz30 rfl (us := [(.slice _Au26 (e).length _Cu26)]) rfl rfl rfl rfl fun _w_24 _m_25 _cw_24 => ?_
    have _cw_24z := _cw_24.size
    have E := E.step _cw_24 (fun i hi => .inl (by have _h1 := List.mem_singleton.1 hi; omega))
    replace _m_25 : Blk _w_24 _b6 30 [(.slice _Au26 (e).length _Cu26)] := _m_25
    refine WL_nil ?_
    refine thn_nrm (_hK_19 _ _ ?_)
    clear _hK_19
    refine W_seq fun _K_26 _hK_26 => ?_
    refine W_region ?_
    refine WL_step rfl rfl (r_loadAtA0 _m_25.at_ agg30 sz30 rfl) ?_
    refine WL_s rfl rfl ?_
    have _f_27 := ((_q26.ch0 _cw_23).ch _cw_24 (fun g hg hm => by have _h0 := List.mem_singleton.1 hm; have _h2 := _lo26 _ hg; have _h3 := _hiu26 _ hg; omega))
    refine Step.call (r_call (xs := [.tmp 28]) fk13 rfl) (c_impl_BuildPositions _f_27.ls (by omega)) fun _v29 _w_28 _q29 => ?_
    obtain ⟨u29_0x0, u29_0x3, rfl, _q_u29_0x0, _lo_u29_0x0, _q_u29_0x3, _lo_u29_0x3, _dj_u29_0x0_u29_0x3, _cw_28⟩ := _q29
    have _cw_28z := _cw_28.size
    have E := E.trans _cw_28
    obtain ⟨Au29_0x0, Cu29_0x0, eu29_0x0⟩ := _q_u29_0x0.val
    subst eu29_0x0
    have lu29_0x0 := _q_u29_0x0.len
    have _hiu29_0x0 := _q_u29_0x0.lt
    obtain ⟨Au29_0x3, Cu29_0x3, eu29_0x3⟩ := _q_u29_0x3.val
    subst eu29_0x3
    have lu29_0x3 := _q_u29_0x3.len
    have _hiu29_0x3 := _q_u29_0x3.lt
    refine WL_step rfl rfl (r_move rfl) ?_
    refine WL_step rfl rfl (r_extract rfl rfl) ?_
    refine WL_step rfl rfl (r_extract rfl rfl) ?_
    refine WL_s rfl rfl ?_
    refine s_alloc zr37 fun _b7 _w_29 _m7 _cw_29 _e7 => ?_
    have _cw_29z := _cw_29.size
    have E := E.trans _cw_29
    have _z7 := _m7.lt
    replace _m7 : Blk _w_29 _b7 37 [(.slice none 0 0), (.int .i64 0), (.int .i64 0), (.slice none 0 0), (.bool false)] := _m7
    refine WL_s rfl rfl ?_
    refine s_storeA (off := 0) 5 _m7 sz37 rfl (us := [(.slice Au29_0x0 ((bpE e).1.L).length Cu29_0x0), (.int .i64 ((bpE e).1.f)), (.int .i64 ((bpE e).1.l)), (.slice Au29_0x3 ((bpE e).1.F).length Cu29_0x3), (.bool ((bpE e).1.n))]) rfl rfl rfl rfl fun _w_30 _m_31 _cw_30 => ?_
    have _cw_30z := _cw_30.size
    have E := E.step _cw_30 (fun i hi => .inl (by have _h1 := List.mem_singleton.1 hi; omega))
    replace _m_31 : Blk _w_30 _b7 37 [(.slice Au29_0x0 ((bpE e).1.L).length Cu29_0x0), (.int .i64 ((bpE e).1.f)), (.int .i64 ((bpE e).1.l)), (.slice Au29_0x3 ((bpE e).1.F).length Cu29_0x3), (.bool ((bpE e).1.n))] := _m_31
    refine WL_step rfl rfl (r_assign rfl) ?_
    refine WL_nil ?_
    refine thn_nrm (_hK_26 _ _ ?_)
    clear _hK_26
    refine W_seq fun _K_32 _hK_32 => ?_
    refine W_seq fun _K_33 _hK_33 => ?_
    refine W_region ?_
    refine WL_step rfl rfl (r_loadAtA0 _m_31.at_ agg37 sz37 rfl) ?_
    have _f_34 := ((((((_m_18.ch0 _cw_22).ch0 _cw_23).ch _cw_24 (fun hm => by have _h1 := List.mem_singleton.1 hm; omega)).ch0 _cw_28).ch0 _cw_29).ch _cw_30 (fun hm => by have _h1 := List.mem_singleton.1 hm; omega))
    refine WL_step rfl rfl (r_loadAtA0 _f_34.at_ agg37 sz37 rfl) ?_
    refine WL_s rfl rfl ?_
    have _f_35 := ((_q_u29_0x0.ch0 _cw_29).ch _cw_30 (fun g hg hm => by have _h0 := List.mem_singleton.1 hm; have _h2 := _lo_u29_0x0 _ hg; have _h3 := _hiu29_0x0 _ hg; omega))
    have _f_36 := ((_q_u29_0x3.ch0 _cw_29).ch _cw_30 (fun g hg hm => by have _h0 := List.mem_singleton.1 hm; have _h2 := _lo_u29_0x3 _ hg; have _h3 := _hiu29_0x3 _ hg; omega))
    have _f_37 := ((((((((_q_u22_0x0.ch0 _cw_16).ch _cw_17 (fun g hg hm => by have _h0 := List.mem_singleton.1 hm; have _h2 := _lo_u22_0x0 _ hg; have _h3 := _hiu22_0x0 _ hg; omega)).ch0 _cw_22).ch0 _cw_23).ch _cw_24 (fun g hg hm => by have _h0 := List.mem_singleton.1 hm; have _h2 := _lo_u22_0x0 _ hg; have _h3 := _hiu22_0x0 _ hg; omega)).ch0 _cw_28).ch0 _cw_29).ch _cw_30 (fun g hg hm => by have _h0 := List.mem_singleton.1 hm; have _h2 := _lo_u22_0x0 _ hg; have _h3 := _hiu22_0x0 _ hg; omega))
    have _f_38 := ((((((((_q_u22_0x3.ch0 _cw_16).ch _cw_17 (fun g hg hm => by have _h0 := List.mem_singleton.1 hm; have _h2 := _lo_u22_0x3 _ hg; have _h3 := _hiu22_0x3 _ hg; omega)).ch0 _cw_22).ch0 _cw_23).ch _cw_24 (fun g hg hm => by have _h0 := List.mem_singleton.1 hm; have _h2 := _lo_u22_0x3 _ hg; have _h3 := _hiu22_0x3 _ hg; omega)).ch0 _cw_28).ch0 _cw_29).ch _cw_30 (fun g hg hm => by have _h0 := List.mem_singleton.1 hm; have _h2 := _lo_u22_0x3 _ hg; have _h3 := _hiu22_0x3 _ hg; omega))
    refine Step.call (r_call (xs := [.tmp 32, .tmp 33]) fk14 rfl) (c_laws_eqPositions _f_35.ls _ _ _f_36.ls _ _f_37.ls _ _ _f_38.ls _ ) fun _v34 _w_39 _q34 => ?_
    obtain ⟨rfl, _cw_39⟩ := _q34
    have _cw_39z := _cw_39.size
    have E := E.trans _cw_39
    refine WL_step rfl rfl (r_not rfl) ?_
    refine WL_step rfl rfl (r_move rfl) ?_
    refine WL_split (d := 36) rfl (fun _h36 => ?_) (fun _h36 => ?_)
    · have _kb_40 := _h36
      have _h36 := bf_d (bt_n _h36)
      refine WL_skip rfl rfl ?_
      refine WL_skip rfl rfl ?_
      refine WL_skip rfl rfl ?_
      refine WL_step rfl rfl (r_pickT rfl rfl) ?_
      refine WL_nil ?_
      refine thn_nrm (_hK_33 _ _ ?_)
      clear _hK_33
      refine W_condT rfl ?_
      refine W_seq fun _K_41 _hK_41 => ?_
      refine W_region ?_
      refine WL_step rfl rfl (r_assign rfl) ?_
      refine WL_nil ?_
      refine thn_nrm (_hK_41 _ _ ?_)
      clear _hK_41
      refine W_ret (thn_ret ?_)
      clear _hK_32
      exact ret_intro [_] ⟨rfl, trivial⟩ ⟨congrArg Value.bool (by first | rfl | (exfalso; omega) | (exfalso; revert _h36; simp; done) | (exfalso; revert _h36; simp; omega)), E⟩
    · have _kb_40 := _h36
      have _h36 := bt_d (bf_n _h36)
      refine WL_step rfl rfl (r_move rfl) ?_
      refine WL_step rfl rfl (r_move rfl) ?_
      refine WL_step rfl rfl (r_neqB un4 rfl rfl) ?_
      refine WL_step rfl rfl (r_pickF rfl rfl) ?_
      refine WL_nil ?_
      refine thn_nrm (_hK_33 _ _ ?_)
      clear _hK_33
      refine W_cond rfl (fun _h40 => ?_) (fun _h40 => ?_)
      · have _kb_42 := _h40
        have _h40 := bf_e (bt_n _h40)
        refine W_seq fun _K_43 _hK_43 => ?_
        refine W_region ?_
        refine WL_step rfl rfl (r_assign rfl) ?_
        refine WL_nil ?_
        refine thn_nrm (_hK_43 _ _ ?_)
        clear _hK_43
        refine W_ret (thn_ret ?_)
        clear _hK_32
        exact ret_intro [_] ⟨rfl, trivial⟩ ⟨congrArg Value.bool (by first | rfl | (exfalso; omega) | (exfalso; revert _h40; simp; done) | (exfalso; revert _h40; simp; omega)), E⟩
      · have _kb_42 := _h40
        have _h40 := bt_e (bf_n _h40)
        refine W_skip ?_
        refine thn_nrm (_hK_32 _ _ ?_)
        clear _hK_32
        refine W_seq fun _K_44 _hK_44 => ?_
        refine W_seq fun _K_45 _hK_45 => ?_
        refine W_drawC [] 5 mixed rfl fun _w_46 _cw_46 => ?_
        have _cw_46z := _cw_46.size
        have E := E.trans _cw_46
        have _f_47 := (((((_m_25.ch0 _cw_28).ch0 _cw_29).ch _cw_30 (fun hm => by have _h1 := List.mem_singleton.1 hm; omega)).ch0 _cw_39).ch0 _cw_46)
        refine DR_s 0 rfl (by kernel_rfl) rfl rfl (t_loadAtA0 _f_47.at_ (fun i hi => absurd hi List.not_mem_nil) agg30 sz30 rfl ?_)
        have _f_48 := ((((((((_f_20.ch0 _cw_22).ch0 _cw_23).ch _cw_24 (fun hm => by have _h1 := List.mem_singleton.1 hm; omega)).ch0 _cw_28).ch0 _cw_29).ch _cw_30 (fun hm => by have _h1 := List.mem_singleton.1 hm; omega)).ch0 _cw_39).ch0 _cw_46)
        refine DR_s 1 rfl (by kernel_rfl) rfl rfl (t_loadAtA0 _f_48.at_ (fun i hi => absurd hi List.not_mem_nil) agg24 sz24 rfl ?_)
        refine DR_one 2 (by kernel_rfl) ?_
        refine DO_s rfl rfl rfl ?_
        have _f_49 := ((((((((_f_21.ch0 _cw_22).ch0 _cw_23).ch _cw_24 (fun i hi => by have _h1 := List.mem_singleton.1 hi; omega)).ch0 _cw_28).ch0 _cw_29).ch _cw_30 (fun i hi => by have _h1 := List.mem_singleton.1 hi; omega)).ch0 _cw_39).ch0 _cw_46)
        refine Step.call (r_call (xs := [.tmp 42]) fk7 rfl) (c_laws_toExpr _f_49 (by omega)) fun _v43 _w_50 _q43 => ?_
        obtain ⟨_u43, rfl, _q43, _lo43, _cw_50⟩ := _q43
        have _cw_50z := _cw_50.size
        have E := E.trans _cw_50
        obtain ⟨_Au43, _Cu43, _eu43⟩ := _q43.val
        subst _eu43
        have _lu43 := _q43.len
        have _hiu43 := _q43.lt
        have _S_51 : Ch [] _w_46 _w_50 := ((Ch.refl _ _).trans _cw_50)
        refine ⟨_S_51, ?_⟩
        refine DR_one 3 (by kernel_rfl) ?_
        refine DO_s rfl rfl rfl ?_
        have _f_52 := ((((((_f_27.ch0 _cw_28).ch0 _cw_29).ch _cw_30 (fun g hg hm => by have _h0 := List.mem_singleton.1 hm; have _h2 := _lo26 _ hg; have _h3 := _hiu26 _ hg; omega)).ch0 _cw_39).ch0 _cw_46).ch0 _cw_50)
        refine Step.call (r_call (xs := [.tmp 41, .tmp 43]) fk10 rfl) (c_laws_eqExpr _f_52.ls _q43.ls ) fun _v44 _w_53 _q44 => ?_
        obtain ⟨rfl, _cw_53⟩ := _q44
        have _cw_53z := _cw_53.size
        have E := E.trans _cw_53
        have _S_54 : Ch [] _w_46 _w_53 := (_S_51.trans _cw_53)
        refine ⟨_S_54, ?_⟩
        refine DR_s 4 rfl (by kernel_rfl) rfl rfl (t_v (fun _ => (r_not rfl)) ?_)
        refine DR_done (by kernel_rfl) ?_
        refine thn_nrm (_hK_45 _ _ ?_)
        clear _hK_45
        refine W_cond rfl (fun _h45 => ?_) (fun _h45 => ?_)
        · have _kb_55 := _h45
          have _h45 := bf_d (bt_n _h45)
          refine W_seq fun _K_56 _hK_56 => ?_
          refine W_region ?_
          refine WL_step rfl rfl (r_assign rfl) ?_
          refine WL_nil ?_
          refine thn_nrm (_hK_56 _ _ ?_)
          clear _hK_56
          refine W_ret (thn_ret ?_)
          clear _hK_44
          exact ret_intro [_] ⟨rfl, trivial⟩ ⟨congrArg Value.bool (by first | rfl | (exfalso; omega) | (exfalso; revert _h45; simp; done) | (exfalso; revert _h45; simp; omega)), E⟩
        · have _kb_55 := _h45
          have _h45 := bt_d (bf_n _h45)
          refine W_skip ?_
          refine thn_nrm (_hK_44 _ _ ?_)
          clear _hK_44
          refine W_seq fun _K_57 _hK_57 => ?_
          refine W_region ?_
          refine WL_step rfl rfl (r_assign rfl) ?_
          refine WL_nil ?_
          refine thn_nrm (_hK_57 _ _ ?_)
          clear _hK_57
          refine W_seq fun _K_58 _hK_58 => ?_
          refine W_region ?_
          have _f_59 := ((_f_47.ch0 _cw_50).ch0 _cw_53)
          refine WL_step rfl rfl (r_loadAtA0 _f_59.at_ agg30 sz30 rfl) ?_
          refine WL_step rfl rfl (r_move rfl) ?_
          refine WL_s rfl rfl ?_
          have _f_60 := (_f_52.ch0 _cw_53)
          refine Step.call (r_call (xs := [.tmp 46, .tmp 47]) fk15 rfl) (c_laws_markExpr _f_60 _ (by omega) (by first | omega | (simp <;> omega))) fun _v48 _w_61 _q48 => ?_
          obtain ⟨rfl, _q48, _cw_61⟩ := _q48
          have _cw_61z := _cw_61.size
          have E := E.step _cw_61 (fun i hi => .inl (by have _h1 := _lo26 _ hi; omega))
          refine WL_step rfl rfl (r_assign rfl) ?_
          refine WL_nil ?_
          refine thn_nrm (_hK_58 _ _ ?_)
          clear _hK_58
          refine W_seq fun _K_62 _hK_62 => ?_
          refine W_seq fun _K_63 _hK_63 => ?_
          refine W_region ?_
          refine WL_step rfl rfl (r_move rfl) ?_
          refine WL_step rfl rfl (r_lss rfl rfl) ?_
          refine WL_step rfl rfl (r_move rfl) ?_
          refine WL_split (d := 51) rfl (fun _h51 => ?_) (fun _h51 => ?_)
          · have _kb_64 := _h51
            have _h51 := bt_d _h51
            refine WL_skip rfl rfl ?_
            refine WL_skip rfl rfl ?_
            refine WL_skip rfl rfl ?_
            refine WL_skip rfl rfl ?_
            refine WL_step rfl rfl (r_pickT rfl rfl) ?_
            refine WL_step rfl rfl (r_move rfl) ?_
            refine WL_skip rfl rfl ?_
            refine WL_skip rfl rfl ?_
            refine WL_skip rfl rfl ?_
            refine WL_step rfl rfl (r_pickT rfl rfl) ?_
            refine WL_nil ?_
            refine thn_nrm (_hK_63 _ _ ?_)
            clear _hK_63
            refine W_condT rfl ?_
            refine W_seq fun _K_65 _hK_65 => ?_
            refine W_region ?_
            refine WL_step rfl rfl (r_assign rfl) ?_
            refine WL_nil ?_
            refine thn_nrm (_hK_65 _ _ ?_)
            clear _hK_65
            refine W_ret (thn_ret ?_)
            clear _hK_62
            exact ret_intro [_] ⟨rfl, trivial⟩ ⟨congrArg Value.bool (by first | rfl | (exfalso; omega) | (exfalso; revert _h51; simp; done) | (exfalso; revert _h51; simp; omega)), E⟩
          · have _kb_64 := _h51
            have _h51 := bf_d _h51
            have _f_66 := (((((_m_31.ch0 _cw_39).ch0 _cw_46).ch0 _cw_50).ch0 _cw_53).ch _cw_61 (fun hm => by have _h1 := _lo26 _ hm; have _h2 := _hiu26 _ hm; omega))
            refine WL_step rfl rfl (r_loadAtA0 _f_66.at_ agg37 sz37 rfl) ?_
            have _f_67 := (((((_f_34.ch0 _cw_39).ch0 _cw_46).ch0 _cw_50).ch0 _cw_53).ch _cw_61 (fun hm => by have _h1 := _lo26 _ hm; have _h2 := _hiu26 _ hm; omega))
            refine WL_step rfl rfl (r_loadAtA0 _f_67.at_ agg37 sz37 rfl) ?_
            refine WL_s rfl rfl ?_
            have _f_68 := (((((_f_35.ch0 _cw_39).ch0 _cw_46).ch0 _cw_50).ch0 _cw_53).ch _cw_61 (fun g hg hm => by have _h1 := _lo26 _ hm; have _h2 := _hiu26 _ hm; have _h3 := _lo_u29_0x0 _ hg; have _h4 := _hiu29_0x0 _ hg; omega))
            have _f_69 := (((((_f_36.ch0 _cw_39).ch0 _cw_46).ch0 _cw_50).ch0 _cw_53).ch _cw_61 (fun g hg hm => by have _h1 := _lo26 _ hm; have _h2 := _hiu26 _ hm; have _h3 := _lo_u29_0x3 _ hg; have _h4 := _hiu29_0x3 _ hg; omega))
            have _f_70 := (((((_f_37.ch0 _cw_39).ch0 _cw_46).ch0 _cw_50).ch0 _cw_53).ch _cw_61 (fun g hg hm => by have _h1 := _lo26 _ hm; have _h2 := _hiu26 _ hm; have _h3 := _lo_u22_0x0 _ hg; have _h4 := _hiu22_0x0 _ hg; omega))
            have _f_71 := (((((_f_38.ch0 _cw_39).ch0 _cw_46).ch0 _cw_50).ch0 _cw_53).ch _cw_61 (fun g hg hm => by have _h1 := _lo26 _ hm; have _h2 := _hiu26 _ hm; have _h3 := _lo_u22_0x3 _ hg; have _h4 := _hiu22_0x3 _ hg; omega))
            refine Step.call (r_call (xs := [.tmp 52, .tmp 53]) fk14 rfl) (c_laws_eqPositions _f_68.ls _ _ _f_69.ls _ _f_70.ls _ _ _f_71.ls _ ) fun _v54 _w_72 _q54 => ?_
            obtain ⟨rfl, _cw_72⟩ := _q54
            have _cw_72z := _cw_72.size
            have E := E.trans _cw_72
            refine WL_step rfl rfl (r_not rfl) ?_
            refine WL_step rfl rfl (r_pickF rfl rfl) ?_
            refine WL_step rfl rfl (r_move rfl) ?_
            refine WL_splitF (d := 57) rfl _kb_40 ?_
            refine WL_step rfl rfl (r_move rfl) ?_
            refine WL_step rfl rfl (r_move rfl) ?_
            refine WL_step rfl rfl (r_neqB un4 rfl rfl) ?_
            refine WL_step rfl rfl (r_pickF rfl rfl) ?_
            refine WL_nil ?_
            refine thn_nrm (_hK_63 _ _ ?_)
            clear _hK_63
            refine W_condFk rfl _kb_42 ?_
            refine W_skip ?_
            refine thn_nrm (_hK_62 _ _ ?_)
            clear _hK_62
            refine W_seq fun _K_73 _hK_73 => ?_
            refine W_region ?_
            refine WL_step rfl rfl (r_assign rfl) ?_
            refine WL_nil ?_
            refine thn_nrm (_hK_73 _ _ ?_)
            clear _hK_73
            refine W_seq fun _K_74 _hK_74 => ?_
            refine W_region ?_
            have _f_75 := (_f_66.ch0 _cw_72)
            refine WL_step rfl rfl (r_loadAtA0 _f_75.at_ agg37 sz37 rfl) ?_
            refine WL_step rfl rfl (r_move rfl) ?_
            refine WL_s rfl rfl ?_
            have _f_76 := (_f_68.ch0 _cw_72)
            have _f_77 := (_f_69.ch0 _cw_72)
            refine Step.call (r_call (xs := [.tmp 62, .tmp 63]) fk16 rfl) (c_laws_markPositions _f_76 _ _ _f_77 _ (fun g hm hg => by exact _dj_u29_0x0_u29_0x3 _ hm hg) _ (by omega) (by first | omega | (simp <;> omega))) fun _v64 _w_78 _q64 => ?_
            obtain ⟨rfl, _q64, rq64, _cw_78⟩ := _q64
            have _cw_78z := _cw_78.size
            have E := E.step _cw_78 (fun i hm => by rcases List.mem_append.1 hm with hm | hm; (have _h1 := _lo_u29_0x0 _ hm; have _h2 := _hiu29_0x0 _ hm; left; omega); (have _h1 := _lo_u29_0x3 _ hm; have _h2 := _hiu29_0x3 _ hm; left; omega))
            refine WL_step rfl rfl (r_assign rfl) ?_
            refine WL_nil ?_
            refine thn_nrm (_hK_74 _ _ ?_)
            clear _hK_74
            refine W_seq fun _K_79 _hK_79 => ?_
            refine W_region ?_
            refine WL_step rfl rfl (r_assign rfl) ?_
            refine WL_nil ?_
            refine thn_nrm (_hK_79 _ _ ?_)
            clear _hK_79
            refine W_seq fun _K_80 _hK_80 => ?_
            refine W_region ?_
            have _f_81 := (_f_75.ch _cw_78 (fun hm => by rcases List.mem_append.1 hm with hm | hm; (have _h1 := _lo_u29_0x0 _ hm; have _h2 := _hiu29_0x0 _ hm; omega); (have _h1 := _lo_u29_0x3 _ hm; have _h2 := _hiu29_0x3 _ hm; omega)))
            refine WL_step rfl rfl (r_loadAtA0 _f_81.at_ agg37 sz37 rfl) ?_
            refine WL_step rfl rfl (r_move rfl) ?_
            refine WL_s rfl rfl ?_
            refine Step.call (r_call (xs := [.tmp 65, .tmp 66]) fk17 rfl) (c_laws_heldPositions _q64.ls _ _ rq64.ls _ _ (by omega) (by first | omega | (simp <;> omega))) fun _v67 _w_82 _q67 => ?_
            obtain ⟨rfl, _cw_82⟩ := _q67
            have _cw_82z := _cw_82.size
            have E := E.trans _cw_82
            refine WL_step rfl rfl (r_assign rfl) ?_
            refine WL_nil ?_
            refine thn_nrm (_hK_80 _ _ ?_)
            clear _hK_80
            refine W_seq fun _K_83 _hK_83 => ?_
            refine W_seq fun _K_84 _hK_84 => ?_
            refine W_region ?_
            refine WL_step rfl rfl (r_move rfl) ?_
            refine WL_step rfl rfl (r_lss rfl rfl) ?_
            refine WL_nil ?_
            refine thn_nrm (_hK_84 _ _ ?_)
            clear _hK_84
            refine W_cond rfl (fun _h69 => ?_) (fun _h69 => ?_)
            · have _kb_85 := _h69
              have _h69 := bt_d _h69
              refine W_seq fun _K_86 _hK_86 => ?_
              refine W_region ?_
              refine WL_step rfl rfl (r_assign rfl) ?_
              refine WL_nil ?_
              refine thn_nrm (_hK_86 _ _ ?_)
              clear _hK_86
              refine W_ret (thn_ret ?_)
              clear _hK_83
              exact ret_intro [_] ⟨rfl, trivial⟩ ⟨congrArg Value.bool (by first | rfl | (exfalso; omega) | (exfalso; revert _h69; simp; done) | (exfalso; revert _h69; simp; omega)), E⟩
            · have _kb_85 := _h69
              have _h69 := bf_d _h69
              refine W_skip ?_
              refine thn_nrm (_hK_83 _ _ ?_)
              clear _hK_83
              refine W_seq fun _K_87 _hK_87 => ?_
              refine W_seq fun _K_88 _hK_88 => ?_
              refine W_region ?_
              refine WL_step rfl rfl (r_move rfl) ?_
              refine WL_step rfl rfl (r_move rfl) ?_
              refine WL_step rfl rfl (r_neq rfl rfl) ?_
              refine WL_nil ?_
              refine thn_nrm (_hK_88 _ _ ?_)
              clear _hK_88
              refine W_cond rfl (fun _h72 => ?_) (fun _h72 => ?_)
              · have _kb_89 := _h72
                have _h72 := bf_d (bt_n _h72)
                refine W_seq fun _K_90 _hK_90 => ?_
                refine W_region ?_
                refine WL_step rfl rfl (r_assign rfl) ?_
                refine WL_nil ?_
                refine thn_nrm (_hK_90 _ _ ?_)
                clear _hK_90
                refine W_ret (thn_ret ?_)
                clear _hK_87
                exact ret_intro [_] ⟨rfl, trivial⟩ ⟨congrArg Value.bool (by first | rfl | (exfalso; omega) | (exfalso; revert _h72; simp; done) | (exfalso; revert _h72; simp; omega)), E⟩
              · have _kb_89 := _h72
                have _h72 := bt_d (bf_n _h72)
                refine W_skip ?_
                refine thn_nrm (_hK_87 _ _ ?_)
                clear _hK_87
                refine W_seq fun _K_91 _hK_91 => ?_
                refine W_region ?_
                have _f_92 := ((((((_f_48.ch0 _cw_50).ch0 _cw_53).ch _cw_61 (fun hm => by have _h1 := _lo26 _ hm; have _h2 := _hiu26 _ hm; omega)).ch0 _cw_72).ch _cw_78 (fun hm => by rcases List.mem_append.1 hm with hm | hm; (have _h1 := _lo_u29_0x0 _ hm; have _h2 := _hiu29_0x0 _ hm; omega); (have _h1 := _lo_u29_0x3 _ hm; have _h2 := _hiu29_0x3 _ hm; omega))).ch0 _cw_82)
                refine WL_step rfl rfl (r_loadAtA0 _f_92.at_ agg24 sz24 rfl) ?_
                refine WL_s rfl rfl ?_
                have _f_93 := ((((((_f_49.ch0 _cw_50).ch0 _cw_53).ch _cw_61 (fun i hi => by have _h1 := _lo26 _ hi; omega)).ch0 _cw_72).ch _cw_78 (fun i hm => by rcases List.mem_append.1 hm with hm | hm; (have _h1 := _lo_u29_0x0 _ hm; have _h2 := _hiu29_0x0 _ hm; omega); (have _h1 := _lo_u29_0x3 _ hm; have _h2 := _hiu29_0x3 _ hm; omega))).ch0 _cw_82)
                refine Step.call (r_call (xs := [.tmp 74]) fk7 rfl) (c_laws_toExpr _f_93 (by omega)) fun _v75 _w_94 _q75 => ?_
                obtain ⟨_u75, rfl, _q75, _lo75, _cw_94⟩ := _q75
                have _cw_94z := _cw_94.size
                have E := E.trans _cw_94
                obtain ⟨_Au75, _Cu75, _eu75⟩ := _q75.val
                subst _eu75
                have _lu75 := _q75.len
                have _hiu75 := _q75.lt
                refine WL_s rfl rfl ?_
                refine Step.call (r_call (xs := [.tmp 75]) fk13 rfl) (c_impl_BuildPositions _q75.ls (by omega)) fun _v76 _w_95 _q76 => ?_
                obtain ⟨u76_0x0, u76_0x3, rfl, _q_u76_0x0, _lo_u76_0x0, _q_u76_0x3, _lo_u76_0x3, _dj_u76_0x0_u76_0x3, _cw_95⟩ := _q76
                have _cw_95z := _cw_95.size
                have E := E.trans _cw_95
                obtain ⟨Au76_0x0, Cu76_0x0, eu76_0x0⟩ := _q_u76_0x0.val
                subst eu76_0x0
                have lu76_0x0 := _q_u76_0x0.len
                have _hiu76_0x0 := _q_u76_0x0.lt
                obtain ⟨Au76_0x3, Cu76_0x3, eu76_0x3⟩ := _q_u76_0x3.val
                subst eu76_0x3
                have lu76_0x3 := _q_u76_0x3.len
                have _hiu76_0x3 := _q_u76_0x3.lt
                refine WL_step rfl rfl (r_move rfl) ?_
                refine WL_step rfl rfl (r_extract rfl rfl) ?_
                refine WL_step rfl rfl (r_extract rfl rfl) ?_
                refine WL_s rfl rfl ?_
                refine s_alloc zr37 fun _b12 _w_96 _m12 _cw_96 _e12 => ?_
                have _cw_96z := _cw_96.size
                have E := E.trans _cw_96
                have _z12 := _m12.lt
                replace _m12 : Blk _w_96 _b12 37 [(.slice none 0 0), (.int .i64 0), (.int .i64 0), (.slice none 0 0), (.bool false)] := _m12
                refine WL_s rfl rfl ?_
                refine s_storeA (off := 0) 5 _m12 sz37 rfl (us := [(.slice Au76_0x0 ((bpE e).1.L).length Cu76_0x0), (.int .i64 ((bpE e).1.f)), (.int .i64 ((bpE e).1.l)), (.slice Au76_0x3 ((bpE e).1.F).length Cu76_0x3), (.bool ((bpE e).1.n))]) rfl rfl rfl rfl fun _w_97 _m_98 _cw_97 => ?_
                have _cw_97z := _cw_97.size
                have E := E.step _cw_97 (fun i hi => .inl (by have _h1 := List.mem_singleton.1 hi; omega))
                replace _m_98 : Blk _w_97 _b12 37 [(.slice Au76_0x0 ((bpE e).1.L).length Cu76_0x0), (.int .i64 ((bpE e).1.f)), (.int .i64 ((bpE e).1.l)), (.slice Au76_0x3 ((bpE e).1.F).length Cu76_0x3), (.bool ((bpE e).1.n))] := _m_98
                refine WL_step rfl rfl (r_assign rfl) ?_
                refine WL_nil ?_
                refine thn_nrm (_hK_91 _ _ ?_)
                clear _hK_91
                refine W_seq fun _K_99 _hK_99 => ?_
                refine W_seq fun _K_100 _hK_100 => ?_
                refine W_region ?_
                refine WL_step rfl rfl (r_loadAtA0 _m_98.at_ agg37 sz37 rfl) ?_
                have _f_101 := (((((((_f_67.ch0 _cw_72).ch _cw_78 (fun hm => by rcases List.mem_append.1 hm with hm | hm; (have _h1 := _lo_u29_0x0 _ hm; have _h2 := _hiu29_0x0 _ hm; omega); (have _h1 := _lo_u29_0x3 _ hm; have _h2 := _hiu29_0x3 _ hm; omega))).ch0 _cw_82).ch0 _cw_94).ch0 _cw_95).ch0 _cw_96).ch _cw_97 (fun hm => by have _h1 := List.mem_singleton.1 hm; omega))
                refine WL_step rfl rfl (r_loadAtA0 _f_101.at_ agg37 sz37 rfl) ?_
                refine WL_s rfl rfl ?_
                have _f_102 := ((_q_u76_0x0.ch0 _cw_96).ch _cw_97 (fun g hg hm => by have _h0 := List.mem_singleton.1 hm; have _h2 := _lo_u76_0x0 _ hg; have _h3 := _hiu76_0x0 _ hg; omega))
                have _f_103 := ((_q_u76_0x3.ch0 _cw_96).ch _cw_97 (fun g hg hm => by have _h0 := List.mem_singleton.1 hm; have _h2 := _lo_u76_0x3 _ hg; have _h3 := _hiu76_0x3 _ hg; omega))
                have _f_104 := (((((((_f_70.ch0 _cw_72).ch _cw_78 (fun g hg hm => by rcases List.mem_append.1 hm with hm | hm; (have _h1 := _lo_u29_0x0 _ hm; have _h2 := _hiu29_0x0 _ hm; have _h3 := _lo_u22_0x0 _ hg; have _h4 := _hiu22_0x0 _ hg; omega); (have _h1 := _lo_u29_0x3 _ hm; have _h2 := _hiu29_0x3 _ hm; have _h3 := _lo_u22_0x0 _ hg; have _h4 := _hiu22_0x0 _ hg; omega))).ch0 _cw_82).ch0 _cw_94).ch0 _cw_95).ch0 _cw_96).ch _cw_97 (fun g hg hm => by have _h0 := List.mem_singleton.1 hm; have _h2 := _lo_u22_0x0 _ hg; have _h3 := _hiu22_0x0 _ hg; omega))
                have _f_105 := (((((((_f_71.ch0 _cw_72).ch _cw_78 (fun g hg hm => by rcases List.mem_append.1 hm with hm | hm; (have _h1 := _lo_u29_0x0 _ hm; have _h2 := _hiu29_0x0 _ hm; have _h3 := _lo_u22_0x3 _ hg; have _h4 := _hiu22_0x3 _ hg; omega); (have _h1 := _lo_u29_0x3 _ hm; have _h2 := _hiu29_0x3 _ hm; have _h3 := _lo_u22_0x3 _ hg; have _h4 := _hiu22_0x3 _ hg; omega))).ch0 _cw_82).ch0 _cw_94).ch0 _cw_95).ch0 _cw_96).ch _cw_97 (fun g hg hm => by have _h0 := List.mem_singleton.1 hm; have _h2 := _lo_u22_0x3 _ hg; have _h3 := _hiu22_0x3 _ hg; omega))
                refine Step.call (r_call (xs := [.tmp 79, .tmp 80]) fk14 rfl) (c_laws_eqPositions _f_102.ls _ _ _f_103.ls _ _f_104.ls _ _ _f_105.ls _ ) fun _v81 _w_106 _q81 => ?_
                obtain ⟨rfl, _cw_106⟩ := _q81
                have _cw_106z := _cw_106.size
                have E := E.trans _cw_106
                refine WL_step rfl rfl (r_not rfl) ?_
                refine WL_step rfl rfl (r_move rfl) ?_
                refine WL_splitF (d := 83) rfl _kb_40 ?_
                refine WL_step rfl rfl (r_move rfl) ?_
                refine WL_step rfl rfl (r_move rfl) ?_
                refine WL_step rfl rfl (r_neqB un4 rfl rfl) ?_
                refine WL_step rfl rfl (r_pickF rfl rfl) ?_
                refine WL_nil ?_
                refine thn_nrm (_hK_100 _ _ ?_)
                clear _hK_100
                refine W_condFk rfl _kb_42 ?_
                refine W_skip ?_
                refine thn_nrm (_hK_99 _ _ ?_)
                clear _hK_99
                refine W_seq fun _K_107 _hK_107 => ?_
                refine W_region ?_
                refine WL_step rfl rfl (r_assign rfl) ?_
                refine WL_nil ?_
                refine thn_nrm (_hK_107 _ _ ?_)
                clear _hK_107
                refine W_seq fun _K_108 _hK_108 => ?_
                refine W_region ?_
                have _f_109 := ((((((_f_81.ch0 _cw_82).ch0 _cw_94).ch0 _cw_95).ch0 _cw_96).ch _cw_97 (fun hm => by have _h1 := List.mem_singleton.1 hm; omega)).ch0 _cw_106)
                refine WL_step rfl rfl (r_loadAtA0 _f_109.at_ agg37 sz37 rfl) ?_
                refine WL_step rfl rfl (r_move rfl) ?_
                refine WL_s rfl rfl ?_
                have _f_110 := ((((((_q64.ch0 _cw_82).ch0 _cw_94).ch0 _cw_95).ch0 _cw_96).ch _cw_97 (fun g hg hm => by have _h0 := List.mem_singleton.1 hm; have _h2 := _lo_u29_0x0 _ hg; have _h3 := _hiu29_0x0 _ hg; omega)).ch0 _cw_106)
                have _f_111 := ((((((rq64.ch0 _cw_82).ch0 _cw_94).ch0 _cw_95).ch0 _cw_96).ch _cw_97 (fun g hg hm => by have _h0 := List.mem_singleton.1 hm; have _h2 := _lo_u29_0x3 _ hg; have _h3 := _hiu29_0x3 _ hg; omega)).ch0 _cw_106)
                refine Step.call (r_call (xs := [.tmp 88, .tmp 89]) fk17 rfl) (c_laws_heldPositions _f_110.ls _ _ _f_111.ls _ _ (by omega) (by first | omega | (simp <;> omega))) fun _v90 _w_112 _q90 => ?_
                obtain ⟨rfl, _cw_112⟩ := _q90
                have _cw_112z := _cw_112.size
                have E := E.trans _cw_112
                refine WL_step rfl rfl (r_assign rfl) ?_
                refine WL_nil ?_
                refine thn_nrm (_hK_108 _ _ ?_)
                clear _hK_108
                refine W_seq fun _K_113 _hK_113 => ?_
                refine W_seq fun _K_114 _hK_114 => ?_
                refine W_region ?_
                refine WL_step rfl rfl (r_move rfl) ?_
                refine WL_step rfl rfl (r_lss rfl rfl) ?_
                refine WL_nil ?_
                refine thn_nrm (_hK_114 _ _ ?_)
                clear _hK_114
                refine W_condFk rfl _kb_85 ?_
                refine W_skip ?_
                refine thn_nrm (_hK_113 _ _ ?_)
                clear _hK_113
                refine W_seq fun _K_115 _hK_115 => ?_
                refine W_seq fun _K_116 _hK_116 => ?_
                refine W_region ?_
                refine WL_step rfl rfl (r_move rfl) ?_
                refine WL_step rfl rfl (r_move rfl) ?_
                refine WL_step rfl rfl (r_neq rfl rfl) ?_
                refine WL_nil ?_
                refine thn_nrm (_hK_116 _ _ ?_)
                clear _hK_116
                refine W_condFk rfl _kb_89 ?_
                refine W_skip ?_
                refine thn_nrm (_hK_115 _ _ ?_)
                clear _hK_115
                refine W_seq fun _K_117 _hK_117 => ?_
                refine W_region ?_
                refine WL_step rfl rfl (r_assign rfl) ?_
                refine WL_nil ?_
                refine thn_nrm (_hK_117 _ _ ?_)
                clear _hK_117
                refine W_ret ?_
                exact ret_intro [_] ⟨rfl, trivial⟩ ⟨congrArg Value.bool (by first | rfl | (exfalso; omega) | (exfalso; revert _h72; simp; done) | (exfalso; revert _h72; simp; omega)), E⟩

end Go.Proofs.Ythcoliemlekojaa
