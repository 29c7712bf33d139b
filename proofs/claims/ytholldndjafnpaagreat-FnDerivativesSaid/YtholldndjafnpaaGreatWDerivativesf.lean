/- Walks of functions that FnDerivatives reaches: what each returns, and that it leaves the memory that was there alone. -/
import Derived.Test.YtholldndjafnpaaGreatLibA
import Derived.Test.YtholldndjafnpaaGreatLibB
import Derived.Test.YtholldndjafnpaaGreatWDerivatives
import Derived.Test.YtholldndjafnpaaGreatWDerivativesb
import Derived.Test.YtholldndjafnpaaGreatWDerivativesc
import Derived.Test.YtholldndjafnpaaGreatWDerivativesd
import Derived.Test.YtholldndjafnpaaGreatWDerivativese
import Derived.Test.YtholldndjafnpaaGreatProg
namespace Go.Proofs.YtholldndjafnpaaGreat
open Go.KLib Go.Shelf
set_option maxHeartbeats 1000000
set_option maxRecDepth 20000
set_option linter.unusedVariables false
set_option linter.unusedSimpArgs false
namespace TDerivativesf
theorem agg26 : aggB Tryz.prog 26 = some true := by kernel_rfl
theorem el27 : elB Tryz.prog 27 = some 3 := by kernel_rfl
theorem fk10 : fnB Tryz.prog 10 = true := by kernel_rfl
theorem fk11 : fnB Tryz.prog 11 = true := by kernel_rfl
theorem fk12 : fnB Tryz.prog 12 = true := by kernel_rfl
theorem fk13 : fnB Tryz.prog 13 = true := by kernel_rfl
theorem fk14 : fnB Tryz.prog 14 = true := by kernel_rfl
theorem fk15 : fnB Tryz.prog 15 = true := by kernel_rfl
theorem fk16 : fnB Tryz.prog 16 = true := by kernel_rfl
theorem fk17 : fnB Tryz.prog 17 = true := by kernel_rfl
theorem fk18 : fnB Tryz.prog 18 = true := by kernel_rfl
theorem fk19 : fnB Tryz.prog 19 = true := by kernel_rfl
theorem fk4 : fnB Tryz.prog 4 = true := by kernel_rfl
theorem fk5 : fnB Tryz.prog 5 = true := by kernel_rfl
theorem fk6 : fnB Tryz.prog 6 = true := by kernel_rfl
theorem fk7 : fnB Tryz.prog 7 = true := by kernel_rfl
theorem fk8 : fnB Tryz.prog 8 = true := by kernel_rfl
theorem fk9 : fnB Tryz.prog 9 = true := by kernel_rfl
theorem sz26 : sizeB Tryz.prog 26 = some 1 := by kernel_rfl
theorem sz3 : sizeB Tryz.prog 3 = some 1 := by kernel_rfl
theorem un4 : Tryz.prog.underlying 4 = some (.bool) := by kernel_rfl
theorem zr26 : zeroB Tryz.prog 26 = some (.agg #[.slice none 0 0]) := by kernel_rfl
end TDerivativesf
open TDerivativesf

/-- laws.FnDerivatives -/
theorem c_laws_FnDerivatives {w : World} {LL_code _B_code : Nat} {_v_code : Value} {code : List Int} (_h_code : Ls ucs 1 w LL_code _B_code _v_code code) :
    Ctr Tryz.prog 3 #[_v_code] w (fun v w' => v = .bool (true) ∧ Ch [] w w') := by
  obtain ⟨_A_code, _C_code, _e1_code⟩ := _h_code.val
  subst _e1_code
  have _l_code := _h_code.len
  have _h_code := _h_code.here (by decide)
  have E := Ch.refl [] w
  refine Ctr_of_W (N := 112) (vs0 := [(.slice _A_code code.length _C_code)]) Tryz.func3 rfl rfl rfl ?_
  refine W_seq fun _K_1 _hK_1 => ?_
  refine W_region ?_
  refine WL_step rfl rfl (r_assign rfl) ?_
  refine WL_nil ?_
  refine thn_nrm (_hK_1 _ _ ?_)
  clear _hK_1
  refine W_seq fun _K_2 _hK_2 => ?_
  refine W_seq fun _K_3 _hK_3 => ?_
  refine W_region ?_
  refine WL_step rfl rfl (r_move rfl) ?_
  refine WL_s rfl rfl ?_
  refine Step.call (r_call (xs := [.tmp 16]) fk4 rfl) (c_laws_big _h_code ) fun _v17 _w_4 _q17 => ?_
  obtain ⟨rfl, _cw_4⟩ := _q17
  have _cw_4z := _cw_4.size
  have E := E.trans _cw_4
  refine WL_nil ?_
  refine thn_nrm (_hK_3 _ _ ?_)
  clear _hK_3
  refine W_cond rfl (fun _h17 => ?_) (fun _h17 => ?_)
  · have _kb_5 := _h17
    have _h17 := bt_d _h17
    refine W_seq fun _K_6 _hK_6 => ?_
    refine W_region ?_
    refine WL_step rfl rfl (r_assign rfl) ?_
    refine WL_nil ?_
    refine thn_nrm (_hK_6 _ _ ?_)
    clear _hK_6
    refine W_ret (thn_ret ?_)
    clear _hK_2
    exact ret_intro [_] ⟨rfl, trivial⟩ ⟨congrArg Value.bool (by first | rfl | (exfalso; simp_all; done) | (simp_all; done)), E⟩
  · have _kb_5 := _h17
    have _h17 := bf_d _h17
    refine W_skip ?_
    refine thn_nrm (_hK_2 _ _ ?_)
    clear _hK_2
    refine W_seq fun _K_7 _hK_7 => ?_
    refine W_region ?_
    refine WL_step rfl rfl (r_move rfl) ?_
    refine WL_s rfl rfl ?_
    have _f_8 := (_h_code.ch0 _cw_4)
    refine Step.call (r_call (xs := [.tmp 19]) fk5 rfl) (c_spec_DrawMatchesWord _f_8 (by omega)) fun _v20 _w_9 _q20 => ?_
    obtain ⟨x20q0, x20q1, u20d0x0, u20d1, rfl, _q_u20d0x0, _lo_u20d0x0, _q_u20d1, _lo_u20d1, _dj_u20d0x0_u20d1, pt20_0, pt20_1, _cw_9⟩ := _q20
    have _cw_9z := _cw_9.size
    have E := E.trans _cw_9
    obtain ⟨Au20d0x0, Cu20d0x0, eu20d0x0⟩ := _q_u20d0x0.val
    subst eu20d0x0
    have lu20d0x0 := _q_u20d0x0.len
    have _hiu20d0x0 := _q_u20d0x0.lt
    obtain ⟨Au20d1, Cu20d1, eu20d1⟩ := _q_u20d1.val
    subst eu20d1
    have lu20d1 := _q_u20d1.len
    have _hiu20d1 := _q_u20d1.lt
    refine WL_step rfl rfl (r_move rfl) ?_
    refine WL_step rfl rfl (r_extract rfl rfl) ?_
    refine WL_step rfl rfl (r_extract rfl rfl) ?_
    refine WL_s rfl rfl ?_
    refine s_alloc zr26 fun _b3 _w_10 _m3 _cw_10 _e3 => ?_
    have _cw_10z := _cw_10.size
    have E := E.trans _cw_10
    have _z3 := _m3.lt
    replace _m3 : Blk _w_10 _b3 26 [(.slice none 0 0)] := _m3
    refine WL_s rfl rfl ?_
    refine s_storeA (off := 0) 1 _m3 sz26 rfl (us := [(.slice Au20d0x0 (x20q0).length Cu20d0x0)]) rfl rfl rfl rfl fun _w_11 _m_12 _cw_11 => ?_
    have _cw_11z := _cw_11.size
    have E := E.step _cw_11 (fun i hi => .inl (by have _h1 := List.mem_singleton.1 hi; omega))
    replace _m_12 : Blk _w_11 _b3 26 [(.slice Au20d0x0 (x20q0).length Cu20d0x0)] := _m_12
    refine WL_step rfl rfl (r_assign rfl) ?_
    refine WL_nil ?_
    refine thn_nrm (_hK_7 _ _ ?_)
    clear _hK_7
    refine W_seq fun _K_13 _hK_13 => ?_
    refine W_region ?_
    refine WL_step rfl rfl (r_loadAtA0 _m_12.at_ agg26 sz26 rfl) ?_
    refine WL_step rfl rfl (r_move rfl) ?_
    refine WL_s rfl rfl ?_
    have _f_14 := ((_q_u20d0x0.ch0 _cw_10).ch _cw_11 (fun g hg hm => by have _h0 := List.mem_singleton.1 hm; have _h2 := _lo_u20d0x0 _ hg; have _h3 := _hiu20d0x0 _ hg; omega))
    have _f_15 := ((_q_u20d1.ch0 _cw_10).ch _cw_11 (fun g hg hm => by have _h0 := List.mem_singleton.1 hm; have _h2 := _lo_u20d1 _ hg; have _h3 := _hiu20d1 _ hg; omega))
    refine Step.call (r_call (xs := [.tmp 23, .tmp 24]) fk6 rfl) (c_impl_MatchesWord _f_14.ls _f_15.ls (by omega)) fun _v25 _w_16 _q25 => ?_
    obtain ⟨rfl, _cw_16⟩ := _q25
    have _cw_16z := _cw_16.size
    have E := E.trans _cw_16
    refine WL_step rfl rfl (r_assign rfl) ?_
    refine WL_nil ?_
    refine thn_nrm (_hK_13 _ _ ?_)
    clear _hK_13
    refine W_seq fun _K_17 _hK_17 => ?_
    refine W_seq fun _K_18 _hK_18 => ?_
    refine W_region ?_
    refine WL_step rfl rfl (r_move rfl) ?_
    have _f_19 := (_m_12.ch0 _cw_16)
    refine WL_step rfl rfl (r_loadAtA0 _f_19.at_ agg26 sz26 rfl) ?_
    refine WL_step rfl rfl (r_move rfl) ?_
    refine WL_s rfl rfl ?_
    have _f_20 := (_f_14.ch0 _cw_16)
    have _f_21 := (_f_15.ch0 _cw_16)
    refine Step.call (r_call (xs := [.tmp 27, .tmp 28]) fk7 rfl) (c_spec_MatchesWord _f_20.ls _f_21.ls (by omega)) fun _v29 _w_22 _q29 => ?_
    obtain ⟨rfl, _cw_22⟩ := _q29
    have _cw_22z := _cw_22.size
    have E := E.trans _cw_22
    refine WL_step rfl rfl (r_neqB un4 rfl rfl) ?_
    refine WL_nil ?_
    refine thn_nrm (_hK_18 _ _ ?_)
    clear _hK_18
    refine W_cond rfl (fun _h30 => ?_) (fun _h30 => ?_)
    · have _kb_23 := _h30
      have _h30 := bf_e (bt_n _h30)
      refine W_seq fun _K_24 _hK_24 => ?_
      refine W_region ?_
      refine WL_step rfl rfl (r_assign rfl) ?_
      refine WL_nil ?_
      refine thn_nrm (_hK_24 _ _ ?_)
      clear _hK_24
      refine W_ret (thn_ret ?_)
      clear _hK_17
      exact ret_intro [_] ⟨rfl, trivial⟩ ⟨congrArg Value.bool (by first | rfl | (exfalso; simp_all; done) | (simp_all; done)), E⟩
    · have _kb_23 := _h30
      have _h30 := bt_e (bf_n _h30)
      refine W_skip ?_
      refine thn_nrm (_hK_17 _ _ ?_)
      clear _hK_17
      refine W_seq fun _K_25 _hK_25 => ?_
      refine W_region ?_
      have _f_26 := (_f_19.ch0 _cw_22)
      refine WL_step rfl rfl (r_loadAtA0 _f_26.at_ agg26 sz26 rfl) ?_
      refine WL_step rfl rfl (r_move rfl) ?_
      refine WL_s rfl rfl ?_
      have _f_27 := (_f_20.ch0 _cw_22)
      have _f_28 := (_f_21.ch0 _cw_22)
      refine Step.call (r_call (xs := [.tmp 32, .tmp 33]) fk8 rfl) (c_impl_DerivativeWord _f_27.ls _f_28.ls (by omega)) fun _v34 _w_29 _q34 => ?_
      obtain ⟨u34_0x0, rfl, _q_u34_0x0, _lo_u34_0x0, _cw_29⟩ := _q34
      have _cw_29z := _cw_29.size
      have E := E.trans _cw_29
      obtain ⟨Au34_0x0, Cu34_0x0, eu34_0x0⟩ := _q_u34_0x0.val
      subst eu34_0x0
      have lu34_0x0 := _q_u34_0x0.len
      have _hiu34_0x0 := _q_u34_0x0.lt
      have dm9 := dwE_len x20q0 x20q1
      refine WL_step rfl rfl (r_move rfl) ?_
      refine WL_step rfl rfl (r_extract rfl rfl) ?_
      refine WL_step rfl rfl (r_extract rfl rfl) ?_
      refine WL_s rfl rfl ?_
      refine s_alloc zr26 fun _b6 _w_30 _m6 _cw_30 _e6 => ?_
      have _cw_30z := _cw_30.size
      have E := E.trans _cw_30
      have _z6 := _m6.lt
      replace _m6 : Blk _w_30 _b6 26 [(.slice none 0 0)] := _m6
      refine WL_s rfl rfl ?_
      refine s_storeA (off := 0) 1 _m6 sz26 rfl (us := [(.slice Au34_0x0 ((dwE x20q0 x20q1).1).length Cu34_0x0)]) rfl rfl rfl rfl fun _w_31 _m_32 _cw_31 => ?_
      have _cw_31z := _cw_31.size
      have E := E.step _cw_31 (fun i hi => .inl (by have _h1 := List.mem_singleton.1 hi; omega))
      replace _m_32 : Blk _w_31 _b6 26 [(.slice Au34_0x0 ((dwE x20q0 x20q1).1).length Cu34_0x0)] := _m_32
      refine WL_step rfl rfl (r_assign rfl) ?_
      refine WL_nil ?_
      refine thn_nrm (_hK_25 _ _ ?_)
      clear _hK_25
      refine W_seq fun _K_33 _hK_33 => ?_
      refine W_region ?_
      have _f_34 := (((_f_26.ch0 _cw_29).ch0 _cw_30).ch _cw_31 (fun hm => by have _h1 := List.mem_singleton.1 hm; omega))
      refine WL_step rfl rfl (r_loadAtA0 _f_34.at_ agg26 sz26 rfl) ?_
      refine WL_step rfl rfl (r_move rfl) ?_
      refine WL_s rfl rfl ?_
      have _f_35 := (((_f_27.ch0 _cw_29).ch0 _cw_30).ch _cw_31 (fun g hg hm => by have _h0 := List.mem_singleton.1 hm; have _h2 := _lo_u20d0x0 _ hg; have _h3 := _hiu20d0x0 _ hg; omega))
      have _f_36 := (((_f_28.ch0 _cw_29).ch0 _cw_30).ch _cw_31 (fun g hg hm => by have _h0 := List.mem_singleton.1 hm; have _h2 := _lo_u20d1 _ hg; have _h3 := _hiu20d1 _ hg; omega))
      refine Step.call (r_call (xs := [.tmp 38, .tmp 39]) fk9 rfl) (c_spec_DerivativeWord _f_35.ls _f_36.ls (by omega)) fun _v40 _w_37 _q40 => ?_
      obtain ⟨u40_0x0, rfl, _q_u40_0x0, _lo_u40_0x0, _cw_37⟩ := _q40
      have _cw_37z := _cw_37.size
      have E := E.trans _cw_37
      obtain ⟨Au40_0x0, Cu40_0x0, eu40_0x0⟩ := _q_u40_0x0.val
      subst eu40_0x0
      have lu40_0x0 := _q_u40_0x0.len
      have _hiu40_0x0 := _q_u40_0x0.lt
      refine WL_step rfl rfl (r_move rfl) ?_
      refine WL_step rfl rfl (r_extract rfl rfl) ?_
      refine WL_step rfl rfl (r_extract rfl rfl) ?_
      refine WL_s rfl rfl ?_
      refine s_alloc zr26 fun _b8 _w_38 _m8 _cw_38 _e8 => ?_
      have _cw_38z := _cw_38.size
      have E := E.trans _cw_38
      have _z8 := _m8.lt
      replace _m8 : Blk _w_38 _b8 26 [(.slice none 0 0)] := _m8
      refine WL_s rfl rfl ?_
      refine s_storeA (off := 0) 1 _m8 sz26 rfl (us := [(.slice Au40_0x0 ((dwE x20q0 x20q1).1).length Cu40_0x0)]) rfl rfl rfl rfl fun _w_39 _m_40 _cw_39 => ?_
      have _cw_39z := _cw_39.size
      have E := E.step _cw_39 (fun i hi => .inl (by have _h1 := List.mem_singleton.1 hi; omega))
      replace _m_40 : Blk _w_39 _b8 26 [(.slice Au40_0x0 ((dwE x20q0 x20q1).1).length Cu40_0x0)] := _m_40
      refine WL_step rfl rfl (r_assign rfl) ?_
      refine WL_nil ?_
      refine thn_nrm (_hK_33 _ _ ?_)
      clear _hK_33
      refine W_seq fun _K_41 _hK_41 => ?_
      refine W_seq fun _K_42 _hK_42 => ?_
      refine W_region ?_
      refine WL_step rfl rfl (r_move rfl) ?_
      refine WL_step rfl rfl (r_move rfl) ?_
      refine WL_step rfl rfl (r_neqB un4 rfl rfl) ?_
      refine WL_step rfl rfl (r_move rfl) ?_
      refine WL_split (d := 46) rfl (fun _h46 => ?_) (fun _h46 => ?_)
      · have _kb_43 := _h46
        have _h46 := bf_e (bt_n _h46)
        refine WL_skip rfl rfl ?_
        refine WL_skip rfl rfl ?_
        refine WL_skip rfl rfl ?_
        refine WL_skip rfl rfl ?_
        refine WL_step rfl rfl (r_pickT rfl rfl) ?_
        refine WL_nil ?_
        refine thn_nrm (_hK_42 _ _ ?_)
        clear _hK_42
        refine W_condT rfl ?_
        refine W_seq fun _K_44 _hK_44 => ?_
        refine W_region ?_
        refine WL_step rfl rfl (r_assign rfl) ?_
        refine WL_nil ?_
        refine thn_nrm (_hK_44 _ _ ?_)
        clear _hK_44
        refine W_ret (thn_ret ?_)
        clear _hK_41
        exact ret_intro [_] ⟨rfl, trivial⟩ ⟨congrArg Value.bool (by first | rfl | (exfalso; simp_all; done) | (simp_all; done)), E⟩
      · have _kb_43 := _h46
        have _h46 := bt_e (bf_n _h46)
        have _f_45 := (((_m_32.ch0 _cw_37).ch0 _cw_38).ch _cw_39 (fun hm => by have _h1 := List.mem_singleton.1 hm; omega))
        refine WL_step rfl rfl (r_loadAtA0 _f_45.at_ agg26 sz26 rfl) ?_
        refine WL_step rfl rfl (r_loadAtA0 _m_40.at_ agg26 sz26 rfl) ?_
        refine WL_s rfl rfl ?_
        have _f_46 := (((((_q_u34_0x0.ch0 _cw_30).ch _cw_31 (fun g hg hm => by have _h0 := List.mem_singleton.1 hm; have _h2 := _lo_u34_0x0 _ hg; have _h3 := _hiu34_0x0 _ hg; omega)).ch0 _cw_37).ch0 _cw_38).ch _cw_39 (fun g hg hm => by have _h0 := List.mem_singleton.1 hm; have _h2 := _lo_u34_0x0 _ hg; have _h3 := _hiu34_0x0 _ hg; omega))
        have _f_47 := ((_q_u40_0x0.ch0 _cw_38).ch _cw_39 (fun g hg hm => by have _h0 := List.mem_singleton.1 hm; have _h2 := _lo_u40_0x0 _ hg; have _h3 := _hiu40_0x0 _ hg; omega))
        refine Step.call (r_call (xs := [.tmp 47, .tmp 48]) fk10 rfl) (c_spec_EqualExprs _f_46.ls _f_47.ls ) fun _v49 _w_48 _q49 => ?_
        replace _q49 : _v49 = .bool (true) ∧ _ := ⟨_q49.1.trans (congrArg Value.bool (decide_eq_true rfl)), _q49.2⟩
        obtain ⟨rfl, _cw_48⟩ := _q49
        have _cw_48z := _cw_48.size
        have E := E.trans _cw_48
        refine WL_step rfl rfl (r_not rfl) ?_
        refine WL_step rfl rfl (r_pickF rfl rfl) ?_
        refine WL_nil ?_
        refine thn_nrm (_hK_42 _ _ ?_)
        clear _hK_42
        refine W_condF rfl ?_
        refine W_skip ?_
        refine thn_nrm (_hK_41 _ _ ?_)
        clear _hK_41
        refine W_seq fun _K_49 _hK_49 => ?_
        refine W_seq fun _K_50 _hK_50 => ?_
        refine W_region ?_
        refine WL_step rfl rfl (r_move rfl) ?_
        refine WL_step rfl rfl (r_move rfl) ?_
        refine WL_split (d := 53) rfl (fun _h53 => ?_) (fun _h53 => ?_)
        · have _kb_51 := _h53
          have _f_52 := ((((_f_34.ch0 _cw_37).ch0 _cw_38).ch _cw_39 (fun hm => by have _h1 := List.mem_singleton.1 hm; omega)).ch0 _cw_48)
          refine WL_step rfl rfl (r_loadAtA0 _f_52.at_ agg26 sz26 rfl) ?_
          refine WL_s rfl rfl ?_
          have _f_53 := ((((_f_35.ch0 _cw_37).ch0 _cw_38).ch _cw_39 (fun g hg hm => by have _h0 := List.mem_singleton.1 hm; have _h2 := _lo_u20d0x0 _ hg; have _h3 := _hiu20d0x0 _ hg; omega)).ch0 _cw_48)
          refine Step.call (r_call (xs := [.tmp 54]) fk11 rfl) (c_spec_IsValidExpr _f_53.ls ) fun _v55 _w_54 _q55 => ?_
          obtain ⟨rfl, _cw_54⟩ := _q55
          have _cw_54z := _cw_54.size
          have E := E.trans _cw_54
          refine WL_step rfl rfl (r_pickT rfl rfl) ?_
          refine WL_step rfl rfl (r_move rfl) ?_
          refine WL_split (d := 57) rfl (fun _h57 => ?_) (fun _h57 => ?_)
          · have _kb_55 := _h57
            refine WL_step rfl rfl (r_move rfl) ?_
            refine WL_s rfl rfl ?_
            have _f_56 := (((((_f_36.ch0 _cw_37).ch0 _cw_38).ch _cw_39 (fun g hg hm => by have _h0 := List.mem_singleton.1 hm; have _h2 := _lo_u20d1 _ hg; have _h3 := _hiu20d1 _ hg; omega)).ch0 _cw_48).ch0 _cw_54)
            refine Step.call (r_call (xs := [.tmp 58]) fk12 rfl) (c_spec_IsWord _f_56.ls ) fun _v59 _w_57 _q59 => ?_
            obtain ⟨rfl, _cw_57⟩ := _q59
            have _cw_57z := _cw_57.size
            have E := E.trans _cw_57
            refine WL_step rfl rfl (r_pickT rfl rfl) ?_
            refine WL_step rfl rfl (r_move rfl) ?_
            refine WL_split (d := 61) rfl (fun _h61 => ?_) (fun _h61 => ?_)
            · have _kb_58 := _h61
              have _h61 := bt_t _h61
              have _f_59 := (((_f_45.ch0 _cw_48).ch0 _cw_54).ch0 _cw_57)
              refine WL_step rfl rfl (r_loadAtA0 _f_59.at_ agg26 sz26 rfl) ?_
              refine WL_s rfl rfl ?_
              have _f_60 := (((_f_46.ch0 _cw_48).ch0 _cw_54).ch0 _cw_57)
              refine Step.call (r_call (xs := [.tmp 62]) fk13 rfl) (c_impl_Nullable _f_60.ls (by omega)) fun _v63 _w_61 _q63 => ?_
              replace _q63 : _v63 = .bool ((mwE x20q0 x20q1)) ∧ _ := ⟨_q63.1.trans (congrArg Value.bool (dw_law _h53 _h57 _h61)), _q63.2⟩
              obtain ⟨rfl, _cw_61⟩ := _q63
              have _cw_61z := _cw_61.size
              have E := E.trans _cw_61
              refine WL_step rfl rfl (r_move rfl) ?_
              refine WL_step rfl rfl (r_neqB un4 rfl rfl) ?_
              refine WL_step rfl rfl (r_pickT rfl rfl) ?_
              refine WL_nil ?_
              refine thn_nrm (_hK_50 _ _ ?_)
              clear _hK_50
              refine W_condFk rfl _kb_23 ?_
              refine W_skip ?_
              refine thn_nrm (_hK_49 _ _ ?_)
              clear _hK_49
              refine W_seq fun _K_62 _hK_62 => ?_
              refine W_region ?_
              refine WL_step rfl rfl (r_move rfl) ?_
              refine WL_s rfl rfl ?_
              have _f_63 := (((((((((((((((_f_8.ch0 _cw_9).ch0 _cw_10).ch _cw_11 (fun i hi => by have _h1 := List.mem_singleton.1 hi; omega)).ch0 _cw_16).ch0 _cw_22).ch0 _cw_29).ch0 _cw_30).ch _cw_31 (fun i hi => by have _h1 := List.mem_singleton.1 hi; omega)).ch0 _cw_37).ch0 _cw_38).ch _cw_39 (fun i hi => by have _h1 := List.mem_singleton.1 hi; omega)).ch0 _cw_48).ch0 _cw_54).ch0 _cw_57).ch0 _cw_61)
              refine Step.call (r_call (xs := [.tmp 68]) fk14 rfl) (c_spec_DrawDerivative _f_63 (by omega)) fun _v69 _w_64 _q69 => ?_
              obtain ⟨x69q0, x69q1, u69d0x0, rfl, _q_u69d0x0, _lo_u69d0x0, pt69_0, pt69_1, _cw_64⟩ := _q69
              have _cw_64z := _cw_64.size
              have E := E.trans _cw_64
              obtain ⟨Au69d0x0, Cu69d0x0, eu69d0x0⟩ := _q_u69d0x0.val
              subst eu69d0x0
              have lu69d0x0 := _q_u69d0x0.len
              have _hiu69d0x0 := _q_u69d0x0.lt
              refine WL_step rfl rfl (r_move rfl) ?_
              refine WL_step rfl rfl (r_extract rfl rfl) ?_
              refine WL_step rfl rfl (r_extract rfl rfl) ?_
              refine WL_s rfl rfl ?_
              refine s_alloc zr26 fun _b10 _w_65 _m10 _cw_65 _e10 => ?_
              have _cw_65z := _cw_65.size
              have E := E.trans _cw_65
              have _z10 := _m10.lt
              replace _m10 : Blk _w_65 _b10 26 [(.slice none 0 0)] := _m10
              refine WL_s rfl rfl ?_
              refine s_storeA (off := 0) 1 _m10 sz26 rfl (us := [(.slice Au69d0x0 (x69q0).length Cu69d0x0)]) rfl rfl rfl rfl fun _w_66 _m_67 _cw_66 => ?_
              have _cw_66z := _cw_66.size
              have E := E.step _cw_66 (fun i hi => .inl (by have _h1 := List.mem_singleton.1 hi; omega))
              replace _m_67 : Blk _w_66 _b10 26 [(.slice Au69d0x0 (x69q0).length Cu69d0x0)] := _m_67
              refine WL_step rfl rfl (r_assign rfl) ?_
              refine WL_nil ?_
              refine thn_nrm (_hK_62 _ _ ?_)
              clear _hK_62
              refine W_seq fun _K_68 _hK_68 => ?_
              refine W_region ?_
              refine WL_step rfl rfl (r_loadAtA0 _m_67.at_ agg26 sz26 rfl) ?_
              refine WL_step rfl rfl (r_move rfl) ?_
              refine WL_s rfl rfl ?_
              have _f_69 := ((_q_u69d0x0.ch0 _cw_65).ch _cw_66 (fun g hg hm => by have _h0 := List.mem_singleton.1 hm; have _h2 := _lo_u69d0x0 _ hg; have _h3 := _hiu69d0x0 _ hg; omega))
              refine Step.call (r_call (xs := [.tmp 73, .tmp 74]) fk15 rfl) (c_impl_Derivative _f_69.ls _ ) fun _v75 _w_70 _q75 => ?_
              obtain ⟨u75_0x0, rfl, _q_u75_0x0, _lo_u75_0x0, _cw_70⟩ := _q75
              have _cw_70z := _cw_70.size
              have E := E.trans _cw_70
              obtain ⟨Au75_0x0, Cu75_0x0, eu75_0x0⟩ := _q_u75_0x0.val
              subst eu75_0x0
              have lu75_0x0 := _q_u75_0x0.len
              have _hiu75_0x0 := _q_u75_0x0.lt
              have dl9 := derE_len x69q0 x69q1
              refine WL_step rfl rfl (r_move rfl) ?_
              refine WL_step rfl rfl (r_extract rfl rfl) ?_
              refine WL_step rfl rfl (r_extract rfl rfl) ?_
              refine WL_s rfl rfl ?_
              refine s_alloc zr26 fun _b12 _w_71 _m12 _cw_71 _e12 => ?_
              have _cw_71z := _cw_71.size
              have E := E.trans _cw_71
              have _z12 := _m12.lt
              replace _m12 : Blk _w_71 _b12 26 [(.slice none 0 0)] := _m12
              refine WL_s rfl rfl ?_
              refine s_storeA (off := 0) 1 _m12 sz26 rfl (us := [(.slice Au75_0x0 ((derE x69q0 x69q1).1).length Cu75_0x0)]) rfl rfl rfl rfl fun _w_72 _m_73 _cw_72 => ?_
              have _cw_72z := _cw_72.size
              have E := E.step _cw_72 (fun i hi => .inl (by have _h1 := List.mem_singleton.1 hi; omega))
              replace _m_73 : Blk _w_72 _b12 26 [(.slice Au75_0x0 ((derE x69q0 x69q1).1).length Cu75_0x0)] := _m_73
              refine WL_step rfl rfl (r_assign rfl) ?_
              refine WL_nil ?_
              refine thn_nrm (_hK_68 _ _ ?_)
              clear _hK_68
              refine W_seq fun _K_74 _hK_74 => ?_
              refine W_region ?_
              have _f_75 := (((_m_67.ch0 _cw_70).ch0 _cw_71).ch _cw_72 (fun hm => by have _h1 := List.mem_singleton.1 hm; omega))
              refine WL_step rfl rfl (r_loadAtA0 _f_75.at_ agg26 sz26 rfl) ?_
              refine WL_step rfl rfl (r_move rfl) ?_
              refine WL_s rfl rfl ?_
              have _f_76 := (((_f_69.ch0 _cw_70).ch0 _cw_71).ch _cw_72 (fun g hg hm => by have _h0 := List.mem_singleton.1 hm; have _h2 := _lo_u69d0x0 _ hg; have _h3 := _hiu69d0x0 _ hg; omega))
              refine Step.call (r_call (xs := [.tmp 79, .tmp 80]) fk16 rfl) (c_spec_Derivative _f_76.ls _ ) fun _v81 _w_77 _q81 => ?_
              obtain ⟨u81_0x0, rfl, _q_u81_0x0, _lo_u81_0x0, _cw_77⟩ := _q81
              have _cw_77z := _cw_77.size
              have E := E.trans _cw_77
              obtain ⟨Au81_0x0, Cu81_0x0, eu81_0x0⟩ := _q_u81_0x0.val
              subst eu81_0x0
              have lu81_0x0 := _q_u81_0x0.len
              have _hiu81_0x0 := _q_u81_0x0.lt
              refine WL_step rfl rfl (r_move rfl) ?_
              refine WL_step rfl rfl (r_extract rfl rfl) ?_
              refine WL_step rfl rfl (r_extract rfl rfl) ?_
              refine WL_s rfl rfl ?_
              refine s_alloc zr26 fun _b14 _w_78 _m14 _cw_78 _e14 => ?_
              have _cw_78z := _cw_78.size
              have E := E.trans _cw_78
              have _z14 := _m14.lt
              replace _m14 : Blk _w_78 _b14 26 [(.slice none 0 0)] := _m14
              refine WL_s rfl rfl ?_
              refine s_storeA (off := 0) 1 _m14 sz26 rfl (us := [(.slice Au81_0x0 ((derE x69q0 x69q1).1).length Cu81_0x0)]) rfl rfl rfl rfl fun _w_79 _m_80 _cw_79 => ?_
              have _cw_79z := _cw_79.size
              have E := E.step _cw_79 (fun i hi => .inl (by have _h1 := List.mem_singleton.1 hi; omega))
              replace _m_80 : Blk _w_79 _b14 26 [(.slice Au81_0x0 ((derE x69q0 x69q1).1).length Cu81_0x0)] := _m_80
              refine WL_step rfl rfl (r_assign rfl) ?_
              refine WL_nil ?_
              refine thn_nrm (_hK_74 _ _ ?_)
              clear _hK_74
              refine W_seq fun _K_81 _hK_81 => ?_
              refine W_seq fun _K_82 _hK_82 => ?_
              refine W_region ?_
              refine WL_step rfl rfl (r_move rfl) ?_
              refine WL_step rfl rfl (r_move rfl) ?_
              refine WL_step rfl rfl (r_neqB un4 rfl rfl) ?_
              refine WL_step rfl rfl (r_move rfl) ?_
              refine WL_split (d := 87) rfl (fun _h87 => ?_) (fun _h87 => ?_)
              · have _kb_83 := _h87
                have _h87 := bf_e (bt_n _h87)
                refine WL_skip rfl rfl ?_
                refine WL_skip rfl rfl ?_
                refine WL_skip rfl rfl ?_
                refine WL_skip rfl rfl ?_
                refine WL_step rfl rfl (r_pickT rfl rfl) ?_
                refine WL_nil ?_
                refine thn_nrm (_hK_82 _ _ ?_)
                clear _hK_82
                refine W_condT rfl ?_
                refine W_seq fun _K_84 _hK_84 => ?_
                refine W_region ?_
                refine WL_step rfl rfl (r_assign rfl) ?_
                refine WL_nil ?_
                refine thn_nrm (_hK_84 _ _ ?_)
                clear _hK_84
                refine W_ret (thn_ret ?_)
                clear _hK_81
                exact ret_intro [_] ⟨rfl, trivial⟩ ⟨congrArg Value.bool (by first | rfl | (exfalso; simp_all; done) | (simp_all; done)), E⟩
              · have _kb_83 := _h87
                have _h87 := bt_e (bf_n _h87)
                have _f_85 := (((_m_73.ch0 _cw_77).ch0 _cw_78).ch _cw_79 (fun hm => by have _h1 := List.mem_singleton.1 hm; omega))
                refine WL_step rfl rfl (r_loadAtA0 _f_85.at_ agg26 sz26 rfl) ?_
                refine WL_step rfl rfl (r_loadAtA0 _m_80.at_ agg26 sz26 rfl) ?_
                refine WL_s rfl rfl ?_
                have _f_86 := (((((_q_u75_0x0.ch0 _cw_71).ch _cw_72 (fun g hg hm => by have _h0 := List.mem_singleton.1 hm; have _h2 := _lo_u75_0x0 _ hg; have _h3 := _hiu75_0x0 _ hg; omega)).ch0 _cw_77).ch0 _cw_78).ch _cw_79 (fun g hg hm => by have _h0 := List.mem_singleton.1 hm; have _h2 := _lo_u75_0x0 _ hg; have _h3 := _hiu75_0x0 _ hg; omega))
                have _f_87 := ((_q_u81_0x0.ch0 _cw_78).ch _cw_79 (fun g hg hm => by have _h0 := List.mem_singleton.1 hm; have _h2 := _lo_u81_0x0 _ hg; have _h3 := _hiu81_0x0 _ hg; omega))
                refine Step.call (r_call (xs := [.tmp 88, .tmp 89]) fk10 rfl) (c_spec_EqualExprs _f_86.ls _f_87.ls ) fun _v90 _w_88 _q90 => ?_
                replace _q90 : _v90 = .bool (true) ∧ _ := ⟨_q90.1.trans (congrArg Value.bool (decide_eq_true rfl)), _q90.2⟩
                obtain ⟨rfl, _cw_88⟩ := _q90
                have _cw_88z := _cw_88.size
                have E := E.trans _cw_88
                refine WL_step rfl rfl (r_not rfl) ?_
                refine WL_step rfl rfl (r_pickF rfl rfl) ?_
                refine WL_nil ?_
                refine thn_nrm (_hK_82 _ _ ?_)
                clear _hK_82
                refine W_condF rfl ?_
                refine W_skip ?_
                refine thn_nrm (_hK_81 _ _ ?_)
                clear _hK_81
                refine W_seq fun _K_89 _hK_89 => ?_
                refine W_region ?_
                refine WL_step rfl rfl (r_move rfl) ?_
                refine WL_step rfl rfl (r_not rfl) ?_
                refine WL_step rfl rfl (r_move rfl) ?_
                refine WL_split (d := 95) rfl (fun _h95 => ?_) (fun _h95 => ?_)
                · have _kb_90 := _h95
                  have _h95 := bt_n _h95
                  refine WL_skip rfl rfl ?_
                  refine WL_skip rfl rfl ?_
                  refine WL_skip rfl rfl ?_
                  refine WL_skip rfl rfl ?_
                  refine WL_step rfl rfl (r_pickT rfl rfl) ?_
                  refine WL_step rfl rfl (r_move rfl) ?_
                  refine WL_skip rfl rfl ?_
                  refine WL_skip rfl rfl ?_
                  refine WL_skip rfl rfl ?_
                  refine WL_skip rfl rfl ?_
                  refine WL_skip rfl rfl ?_
                  refine WL_skip rfl rfl ?_
                  refine WL_skip rfl rfl ?_
                  refine WL_skip rfl rfl ?_
                  refine WL_skip rfl rfl ?_
                  refine WL_step rfl rfl (r_pickT rfl rfl) ?_
                  refine WL_step rfl rfl (r_assign rfl) ?_
                  refine WL_nil ?_
                  refine thn_nrm (_hK_89 _ _ ?_)
                  clear _hK_89
                  refine W_ret ?_
                  exact ret_intro [_] ⟨rfl, trivial⟩ ⟨congrArg Value.bool (by first | rfl | (exfalso; simp_all; done) | (simp_all; done)), E⟩
                · have _kb_90 := _h95
                  have _h95 := bf_n _h95
                  have _f_91 := ((((_f_75.ch0 _cw_77).ch0 _cw_78).ch _cw_79 (fun hm => by have _h1 := List.mem_singleton.1 hm; omega)).ch0 _cw_88)
                  refine WL_step rfl rfl (r_loadAtA0 _f_91.at_ agg26 sz26 rfl) ?_
                  refine WL_s rfl rfl ?_
                  have _f_92 := ((((_f_76.ch0 _cw_77).ch0 _cw_78).ch _cw_79 (fun g hg hm => by have _h0 := List.mem_singleton.1 hm; have _h2 := _lo_u69d0x0 _ hg; have _h3 := _hiu69d0x0 _ hg; omega)).ch0 _cw_88)
                  refine Step.call (r_call (xs := [.tmp 96]) fk18 rfl) (c_impl_Alphabet _f_92.ls (by omega)) fun _v97 _w_93 _q97 => ?_
                  obtain ⟨_q97, _lo97, _cw_93⟩ := _q97
                  have _cw_93z := _cw_93.size
                  have E := E.trans _cw_93
                  obtain ⟨_Av97, _Cv97, _ev97⟩ := _q97.val
                  subst _ev97
                  have _lv97 := _q97.len
                  have _hiv97 := _q97.lt
                  refine WL_step rfl rfl (r_move rfl) ?_
                  refine WL_s rfl rfl ?_
                  refine Step.call (r_call (xs := [.tmp 97, .tmp 98]) fk17 rfl) (c_laws_has _q97.ls _ ) fun _v99 _w_94 _q99 => ?_
                  obtain ⟨rfl, _cw_94⟩ := _q99
                  have _cw_94z := _cw_94.size
                  have E := E.trans _cw_94
                  refine WL_step rfl rfl (r_pickF rfl rfl) ?_
                  refine WL_step rfl rfl (r_move rfl) ?_
                  refine WL_split (d := 101) rfl (fun _h101 => ?_) (fun _h101 => ?_)
                  · have _kb_95 := _h101
                    have _h101 := bt_d _h101
                    refine WL_skip rfl rfl ?_
                    refine WL_skip rfl rfl ?_
                    refine WL_skip rfl rfl ?_
                    refine WL_skip rfl rfl ?_
                    refine WL_skip rfl rfl ?_
                    refine WL_skip rfl rfl ?_
                    refine WL_skip rfl rfl ?_
                    refine WL_skip rfl rfl ?_
                    refine WL_skip rfl rfl ?_
                    refine WL_step rfl rfl (r_pickT rfl rfl) ?_
                    refine WL_step rfl rfl (r_assign rfl) ?_
                    refine WL_nil ?_
                    refine thn_nrm (_hK_89 _ _ ?_)
                    clear _hK_89
                    refine W_ret ?_
                    exact ret_intro [_] ⟨rfl, trivial⟩ ⟨congrArg Value.bool (by first | rfl | (exfalso; simp_all; done) | (simp_all; done)), E⟩
                  · have _kb_95 := _h101
                    have _h101 := bf_d _h101
                    have _f_96 := (((_f_85.ch0 _cw_88).ch0 _cw_93).ch0 _cw_94)
                    refine WL_step rfl rfl (r_loadAtA0 _f_96.at_ agg26 sz26 rfl) ?_
                    refine WL_s rfl rfl ?_
                    have _f_97 := (((_f_86.ch0 _cw_88).ch0 _cw_93).ch0 _cw_94)
                    refine Step.call (r_call (xs := [.tmp 102]) fk18 rfl) (c_impl_Alphabet _f_97.ls (by omega)) fun _v103 _w_98 _q103 => ?_
                    obtain ⟨_q103, _lo103, _cw_98⟩ := _q103
                    have _cw_98z := _cw_98.size
                    have E := E.trans _cw_98
                    obtain ⟨_Av103, _Cv103, _ev103⟩ := _q103.val
                    subst _ev103
                    have _lv103 := _q103.len
                    have _hiv103 := _q103.lt
                    refine WL_s rfl rfl ?_
                    refine s_buildSlice0 (k := 1) ics el27 sz3 fun _v104 _w_99 _q104 _lo104 _cw_99 => ?_
                    have _cw_99z := _cw_99.size
                    have E := E.trans _cw_99
                    obtain ⟨_Av104, _Cv104, _ev104⟩ := _q104.val
                    subst _ev104
                    have _lv104 := _q104.len
                    have _hiv104 := _q104.lt
                    refine WL_s rfl rfl ?_
                    have _f_100 := (_q103.ch0 _cw_99)
                    refine Step.call (r_call (xs := [.tmp 103, .tmp 104]) fk19 rfl) (c_laws_sameInts _f_100.ls _q104.ls ) fun _v105 _w_101 _q105 => ?_
                    replace _q105 : _v105 = .bool (true) ∧ _ := ⟨_q105.1.trans (congrArg Value.bool (decide_eq_true (der_none _h95 _h101).1)), _q105.2⟩
                    obtain ⟨rfl, _cw_101⟩ := _q105
                    have _cw_101z := _cw_101.size
                    have E := E.trans _cw_101
                    refine WL_step rfl rfl (r_move rfl) ?_
                    have _f_102 := (((_f_96.ch0 _cw_98).ch0 _cw_99).ch0 _cw_101)
                    refine WL_step rfl rfl (r_loadAtA0 _f_102.at_ agg26 sz26 rfl) ?_
                    refine WL_s rfl rfl ?_
                    have _f_103 := (((_f_97.ch0 _cw_98).ch0 _cw_99).ch0 _cw_101)
                    refine Step.call (r_call (xs := [.tmp 107]) fk13 rfl) (c_impl_Nullable _f_103.ls (by omega)) fun _v108 _w_104 _q108 => ?_
                    replace _q108 : _v108 = .bool (false) ∧ _ := ⟨_q108.1.trans (congrArg Value.bool (der_none _h95 _h101).2), _q108.2⟩
                    obtain ⟨rfl, _cw_104⟩ := _q108
                    have _cw_104z := _cw_104.size
                    have E := E.trans _cw_104
                    refine WL_step rfl rfl (r_not rfl) ?_
                    refine WL_step rfl rfl (r_pickT rfl rfl) ?_
                    refine WL_step rfl rfl (r_pickF rfl rfl) ?_
                    refine WL_step rfl rfl (r_assign rfl) ?_
                    refine WL_nil ?_
                    refine thn_nrm (_hK_89 _ _ ?_)
                    clear _hK_89
                    refine W_ret ?_
                    exact ret_intro [_] ⟨rfl, trivial⟩ ⟨congrArg Value.bool (by first | rfl | (exfalso; simp_all; done) | (simp_all; done)), E⟩
            · have _kb_58 := _h61
              have _h61 := bf_t _h61
              refine WL_skip rfl rfl ?_
              refine WL_skip rfl rfl ?_
              refine WL_skip rfl rfl ?_
              refine WL_skip rfl rfl ?_
              refine WL_step rfl rfl (r_pickF rfl rfl) ?_
              refine WL_nil ?_
              refine thn_nrm (_hK_50 _ _ ?_)
              clear _hK_50
              refine W_condF rfl ?_
              refine W_skip ?_
              refine thn_nrm (_hK_49 _ _ ?_)
              clear _hK_49
              refine W_seq fun _K_105 _hK_105 => ?_
              refine W_region ?_
              refine WL_step rfl rfl (r_move rfl) ?_
              refine WL_s rfl rfl ?_
              have _f_106 := ((((((((((((((_f_8.ch0 _cw_9).ch0 _cw_10).ch _cw_11 (fun i hi => by have _h1 := List.mem_singleton.1 hi; omega)).ch0 _cw_16).ch0 _cw_22).ch0 _cw_29).ch0 _cw_30).ch _cw_31 (fun i hi => by have _h1 := List.mem_singleton.1 hi; omega)).ch0 _cw_37).ch0 _cw_38).ch _cw_39 (fun i hi => by have _h1 := List.mem_singleton.1 hi; omega)).ch0 _cw_48).ch0 _cw_54).ch0 _cw_57)
              refine Step.call (r_call (xs := [.tmp 68]) fk14 rfl) (c_spec_DrawDerivative _f_106 (by omega)) fun _v69 _w_107 _q69 => ?_
              obtain ⟨x69q0, x69q1, u69d0x0, rfl, _q_u69d0x0, _lo_u69d0x0, pt69_0, pt69_1, _cw_107⟩ := _q69
              have _cw_107z := _cw_107.size
              have E := E.trans _cw_107
              obtain ⟨Au69d0x0, Cu69d0x0, eu69d0x0⟩ := _q_u69d0x0.val
              subst eu69d0x0
              have lu69d0x0 := _q_u69d0x0.len
              have _hiu69d0x0 := _q_u69d0x0.lt
              refine WL_step rfl rfl (r_move rfl) ?_
              refine WL_step rfl rfl (r_extract rfl rfl) ?_
              refine WL_step rfl rfl (r_extract rfl rfl) ?_
              refine WL_s rfl rfl ?_
              refine s_alloc zr26 fun _b10 _w_108 _m10 _cw_108 _e10 => ?_
              have _cw_108z := _cw_108.size
              have E := E.trans _cw_108
              have _z10 := _m10.lt
              replace _m10 : Blk _w_108 _b10 26 [(.slice none 0 0)] := _m10
              refine WL_s rfl rfl ?_
              refine s_storeA (off := 0) 1 _m10 sz26 rfl (us := [(.slice Au69d0x0 (x69q0).length Cu69d0x0)]) rfl rfl rfl rfl fun _w_109 _m_110 _cw_109 => ?_
              have _cw_109z := _cw_109.size
              have E := E.step _cw_109 (fun i hi => .inl (by have _h1 := List.mem_singleton.1 hi; omega))
              replace _m_110 : Blk _w_109 _b10 26 [(.slice Au69d0x0 (x69q0).length Cu69d0x0)] := _m_110
              refine WL_step rfl rfl (r_assign rfl) ?_
              refine WL_nil ?_
              refine thn_nrm (_hK_105 _ _ ?_)
              clear _hK_105
              refine W_seq fun _K_111 _hK_111 => ?_
              refine W_region ?_
              refine WL_step rfl rfl (r_loadAtA0 _m_110.at_ agg26 sz26 rfl) ?_
              refine WL_step rfl rfl (r_move rfl) ?_
              refine WL_s rfl rfl ?_
              have _f_112 := ((_q_u69d0x0.ch0 _cw_108).ch _cw_109 (fun g hg hm => by have _h0 := List.mem_singleton.1 hm; have _h2 := _lo_u69d0x0 _ hg; have _h3 := _hiu69d0x0 _ hg; omega))
              refine Step.call (r_call (xs := [.tmp 73, .tmp 74]) fk15 rfl) (c_impl_Derivative _f_112.ls _ ) fun _v75 _w_113 _q75 => ?_
              obtain ⟨u75_0x0, rfl, _q_u75_0x0, _lo_u75_0x0, _cw_113⟩ := _q75
              have _cw_113z := _cw_113.size
              have E := E.trans _cw_113
              obtain ⟨Au75_0x0, Cu75_0x0, eu75_0x0⟩ := _q_u75_0x0.val
              subst eu75_0x0
              have lu75_0x0 := _q_u75_0x0.len
              have _hiu75_0x0 := _q_u75_0x0.lt
              have dl9 := derE_len x69q0 x69q1
              refine WL_step rfl rfl (r_move rfl) ?_
              refine WL_step rfl rfl (r_extract rfl rfl) ?_
              refine WL_step rfl rfl (r_extract rfl rfl) ?_
              refine WL_s rfl rfl ?_
              refine s_alloc zr26 fun _b12 _w_114 _m12 _cw_114 _e12 => ?_
              have _cw_114z := _cw_114.size
              have E := E.trans _cw_114
              have _z12 := _m12.lt
              replace _m12 : Blk _w_114 _b12 26 [(.slice none 0 0)] := _m12
              refine WL_s rfl rfl ?_
              refine s_storeA (off := 0) 1 _m12 sz26 rfl (us := [(.slice Au75_0x0 ((derE x69q0 x69q1).1).length Cu75_0x0)]) rfl rfl rfl rfl fun _w_115 _m_116 _cw_115 => ?_
              have _cw_115z := _cw_115.size
              have E := E.step _cw_115 (fun i hi => .inl (by have _h1 := List.mem_singleton.1 hi; omega))
              replace _m_116 : Blk _w_115 _b12 26 [(.slice Au75_0x0 ((derE x69q0 x69q1).1).length Cu75_0x0)] := _m_116
              refine WL_step rfl rfl (r_assign rfl) ?_
              refine WL_nil ?_
              refine thn_nrm (_hK_111 _ _ ?_)
              clear _hK_111
              refine W_seq fun _K_117 _hK_117 => ?_
              refine W_region ?_
              have _f_118 := (((_m_110.ch0 _cw_113).ch0 _cw_114).ch _cw_115 (fun hm => by have _h1 := List.mem_singleton.1 hm; omega))
              refine WL_step rfl rfl (r_loadAtA0 _f_118.at_ agg26 sz26 rfl) ?_
              refine WL_step rfl rfl (r_move rfl) ?_
              refine WL_s rfl rfl ?_
              have _f_119 := (((_f_112.ch0 _cw_113).ch0 _cw_114).ch _cw_115 (fun g hg hm => by have _h0 := List.mem_singleton.1 hm; have _h2 := _lo_u69d0x0 _ hg; have _h3 := _hiu69d0x0 _ hg; omega))
              refine Step.call (r_call (xs := [.tmp 79, .tmp 80]) fk16 rfl) (c_spec_Derivative _f_119.ls _ ) fun _v81 _w_120 _q81 => ?_
              obtain ⟨u81_0x0, rfl, _q_u81_0x0, _lo_u81_0x0, _cw_120⟩ := _q81
              have _cw_120z := _cw_120.size
              have E := E.trans _cw_120
              obtain ⟨Au81_0x0, Cu81_0x0, eu81_0x0⟩ := _q_u81_0x0.val
              subst eu81_0x0
              have lu81_0x0 := _q_u81_0x0.len
              have _hiu81_0x0 := _q_u81_0x0.lt
              refine WL_step rfl rfl (r_move rfl) ?_
              refine WL_step rfl rfl (r_extract rfl rfl) ?_
              refine WL_step rfl rfl (r_extract rfl rfl) ?_
              refine WL_s rfl rfl ?_
              refine s_alloc zr26 fun _b14 _w_121 _m14 _cw_121 _e14 => ?_
              have _cw_121z := _cw_121.size
              have E := E.trans _cw_121
              have _z14 := _m14.lt
              replace _m14 : Blk _w_121 _b14 26 [(.slice none 0 0)] := _m14
              refine WL_s rfl rfl ?_
              refine s_storeA (off := 0) 1 _m14 sz26 rfl (us := [(.slice Au81_0x0 ((derE x69q0 x69q1).1).length Cu81_0x0)]) rfl rfl rfl rfl fun _w_122 _m_123 _cw_122 => ?_
              have _cw_122z := _cw_122.size
              have E := E.step _cw_122 (fun i hi => .inl (by have _h1 := List.mem_singleton.1 hi; omega))
              replace _m_123 : Blk _w_122 _b14 26 [(.slice Au81_0x0 ((derE x69q0 x69q1).1).length Cu81_0x0)] := _m_123
              refine WL_step rfl rfl (r_assign rfl) ?_
              refine WL_nil ?_
              refine thn_nrm (_hK_117 _ _ ?_)
              clear _hK_117
              refine W_seq fun _K_124 _hK_124 => ?_
              refine W_seq fun _K_125 _hK_125 => ?_
              refine W_region ?_
              refine WL_step rfl rfl (r_move rfl) ?_
              refine WL_step rfl rfl (r_move rfl) ?_
              refine WL_step rfl rfl (r_neqB un4 rfl rfl) ?_
              refine WL_step rfl rfl (r_move rfl) ?_
              refine WL_split (d := 87) rfl (fun _h87 => ?_) (fun _h87 => ?_)
              · have _kb_126 := _h87
                have _h87 := bf_e (bt_n _h87)
                refine WL_skip rfl rfl ?_
                refine WL_skip rfl rfl ?_
                refine WL_skip rfl rfl ?_
                refine WL_skip rfl rfl ?_
                refine WL_step rfl rfl (r_pickT rfl rfl) ?_
                refine WL_nil ?_
                refine thn_nrm (_hK_125 _ _ ?_)
                clear _hK_125
                refine W_condT rfl ?_
                refine W_seq fun _K_127 _hK_127 => ?_
                refine W_region ?_
                refine WL_step rfl rfl (r_assign rfl) ?_
                refine WL_nil ?_
                refine thn_nrm (_hK_127 _ _ ?_)
                clear _hK_127
                refine W_ret (thn_ret ?_)
                clear _hK_124
                exact ret_intro [_] ⟨rfl, trivial⟩ ⟨congrArg Value.bool (by first | rfl | (exfalso; simp_all; done) | (simp_all; done)), E⟩
              · have _kb_126 := _h87
                have _h87 := bt_e (bf_n _h87)
                have _f_128 := (((_m_116.ch0 _cw_120).ch0 _cw_121).ch _cw_122 (fun hm => by have _h1 := List.mem_singleton.1 hm; omega))
                refine WL_step rfl rfl (r_loadAtA0 _f_128.at_ agg26 sz26 rfl) ?_
                refine WL_step rfl rfl (r_loadAtA0 _m_123.at_ agg26 sz26 rfl) ?_
                refine WL_s rfl rfl ?_
                have _f_129 := (((((_q_u75_0x0.ch0 _cw_114).ch _cw_115 (fun g hg hm => by have _h0 := List.mem_singleton.1 hm; have _h2 := _lo_u75_0x0 _ hg; have _h3 := _hiu75_0x0 _ hg; omega)).ch0 _cw_120).ch0 _cw_121).ch _cw_122 (fun g hg hm => by have _h0 := List.mem_singleton.1 hm; have _h2 := _lo_u75_0x0 _ hg; have _h3 := _hiu75_0x0 _ hg; omega))
                have _f_130 := ((_q_u81_0x0.ch0 _cw_121).ch _cw_122 (fun g hg hm => by have _h0 := List.mem_singleton.1 hm; have _h2 := _lo_u81_0x0 _ hg; have _h3 := _hiu81_0x0 _ hg; omega))
                refine Step.call (r_call (xs := [.tmp 88, .tmp 89]) fk10 rfl) (c_spec_EqualExprs _f_129.ls _f_130.ls ) fun _v90 _w_131 _q90 => ?_
                replace _q90 : _v90 = .bool (true) ∧ _ := ⟨_q90.1.trans (congrArg Value.bool (decide_eq_true rfl)), _q90.2⟩
                obtain ⟨rfl, _cw_131⟩ := _q90
                have _cw_131z := _cw_131.size
                have E := E.trans _cw_131
                refine WL_step rfl rfl (r_not rfl) ?_
                refine WL_step rfl rfl (r_pickF rfl rfl) ?_
                refine WL_nil ?_
                refine thn_nrm (_hK_125 _ _ ?_)
                clear _hK_125
                refine W_condF rfl ?_
                refine W_skip ?_
                refine thn_nrm (_hK_124 _ _ ?_)
                clear _hK_124
                refine W_seq fun _K_132 _hK_132 => ?_
                refine W_region ?_
                refine WL_step rfl rfl (r_move rfl) ?_
                refine WL_step rfl rfl (r_not rfl) ?_
                refine WL_step rfl rfl (r_move rfl) ?_
                refine WL_split (d := 95) rfl (fun _h95 => ?_) (fun _h95 => ?_)
                · have _kb_133 := _h95
                  have _h95 := bt_n _h95
                  refine WL_skip rfl rfl ?_
                  refine WL_skip rfl rfl ?_
                  refine WL_skip rfl rfl ?_
                  refine WL_skip rfl rfl ?_
                  refine WL_step rfl rfl (r_pickT rfl rfl) ?_
                  refine WL_step rfl rfl (r_move rfl) ?_
                  refine WL_skip rfl rfl ?_
                  refine WL_skip rfl rfl ?_
                  refine WL_skip rfl rfl ?_
                  refine WL_skip rfl rfl ?_
                  refine WL_skip rfl rfl ?_
                  refine WL_skip rfl rfl ?_
                  refine WL_skip rfl rfl ?_
                  refine WL_skip rfl rfl ?_
                  refine WL_skip rfl rfl ?_
                  refine WL_step rfl rfl (r_pickT rfl rfl) ?_
                  refine WL_step rfl rfl (r_assign rfl) ?_
                  refine WL_nil ?_
                  refine thn_nrm (_hK_132 _ _ ?_)
                  clear _hK_132
                  refine W_ret ?_
                  exact ret_intro [_] ⟨rfl, trivial⟩ ⟨congrArg Value.bool (by first | rfl | (exfalso; simp_all; done) | (simp_all; done)), E⟩
                · have _kb_133 := _h95
                  have _h95 := bf_n _h95
                  have _f_134 := ((((_f_118.ch0 _cw_120).ch0 _cw_121).ch _cw_122 (fun hm => by have _h1 := List.mem_singleton.1 hm; omega)).ch0 _cw_131)
                  refine WL_step rfl rfl (r_loadAtA0 _f_134.at_ agg26 sz26 rfl) ?_
                  refine WL_s rfl rfl ?_
                  have _f_135 := ((((_f_119.ch0 _cw_120).ch0 _cw_121).ch _cw_122 (fun g hg hm => by have _h0 := List.mem_singleton.1 hm; have _h2 := _lo_u69d0x0 _ hg; have _h3 := _hiu69d0x0 _ hg; omega)).ch0 _cw_131)
                  refine Step.call (r_call (xs := [.tmp 96]) fk18 rfl) (c_impl_Alphabet _f_135.ls (by omega)) fun _v97 _w_136 _q97 => ?_
                  obtain ⟨_q97, _lo97, _cw_136⟩ := _q97
                  have _cw_136z := _cw_136.size
                  have E := E.trans _cw_136
                  obtain ⟨_Av97, _Cv97, _ev97⟩ := _q97.val
                  subst _ev97
                  have _lv97 := _q97.len
                  have _hiv97 := _q97.lt
                  refine WL_step rfl rfl (r_move rfl) ?_
                  refine WL_s rfl rfl ?_
                  refine Step.call (r_call (xs := [.tmp 97, .tmp 98]) fk17 rfl) (c_laws_has _q97.ls _ ) fun _v99 _w_137 _q99 => ?_
                  obtain ⟨rfl, _cw_137⟩ := _q99
                  have _cw_137z := _cw_137.size
                  have E := E.trans _cw_137
                  refine WL_step rfl rfl (r_pickF rfl rfl) ?_
                  refine WL_step rfl rfl (r_move rfl) ?_
                  refine WL_split (d := 101) rfl (fun _h101 => ?_) (fun _h101 => ?_)
                  · have _kb_138 := _h101
                    have _h101 := bt_d _h101
                    refine WL_skip rfl rfl ?_
                    refine WL_skip rfl rfl ?_
                    refine WL_skip rfl rfl ?_
                    refine WL_skip rfl rfl ?_
                    refine WL_skip rfl rfl ?_
                    refine WL_skip rfl rfl ?_
                    refine WL_skip rfl rfl ?_
                    refine WL_skip rfl rfl ?_
                    refine WL_skip rfl rfl ?_
                    refine WL_step rfl rfl (r_pickT rfl rfl) ?_
                    refine WL_step rfl rfl (r_assign rfl) ?_
                    refine WL_nil ?_
                    refine thn_nrm (_hK_132 _ _ ?_)
                    clear _hK_132
                    refine W_ret ?_
                    exact ret_intro [_] ⟨rfl, trivial⟩ ⟨congrArg Value.bool (by first | rfl | (exfalso; simp_all; done) | (simp_all; done)), E⟩
                  · have _kb_138 := _h101
                    have _h101 := bf_d _h101
                    have _f_139 := (((_f_128.ch0 _cw_131).ch0 _cw_136).ch0 _cw_137)
                    refine WL_step rfl rfl (r_loadAtA0 _f_139.at_ agg26 sz26 rfl) ?_
                    refine WL_s rfl rfl ?_
                    have _f_140 := (((_f_129.ch0 _cw_131).ch0 _cw_136).ch0 _cw_137)
                    refine Step.call (r_call (xs := [.tmp 102]) fk18 rfl) (c_impl_Alphabet _f_140.ls (by omega)) fun _v103 _w_141 _q103 => ?_
                    obtain ⟨_q103, _lo103, _cw_141⟩ := _q103
                    have _cw_141z := _cw_141.size
                    have E := E.trans _cw_141
                    obtain ⟨_Av103, _Cv103, _ev103⟩ := _q103.val
                    subst _ev103
                    have _lv103 := _q103.len
                    have _hiv103 := _q103.lt
                    refine WL_s rfl rfl ?_
                    refine s_buildSlice0 (k := 1) ics el27 sz3 fun _v104 _w_142 _q104 _lo104 _cw_142 => ?_
                    have _cw_142z := _cw_142.size
                    have E := E.trans _cw_142
                    obtain ⟨_Av104, _Cv104, _ev104⟩ := _q104.val
                    subst _ev104
                    have _lv104 := _q104.len
                    have _hiv104 := _q104.lt
                    refine WL_s rfl rfl ?_
                    have _f_143 := (_q103.ch0 _cw_142)
                    refine Step.call (r_call (xs := [.tmp 103, .tmp 104]) fk19 rfl) (c_laws_sameInts _f_143.ls _q104.ls ) fun _v105 _w_144 _q105 => ?_
                    replace _q105 : _v105 = .bool (true) ∧ _ := ⟨_q105.1.trans (congrArg Value.bool (decide_eq_true (der_none _h95 _h101).1)), _q105.2⟩
                    obtain ⟨rfl, _cw_144⟩ := _q105
                    have _cw_144z := _cw_144.size
                    have E := E.trans _cw_144
                    refine WL_step rfl rfl (r_move rfl) ?_
                    have _f_145 := (((_f_139.ch0 _cw_141).ch0 _cw_142).ch0 _cw_144)
                    refine WL_step rfl rfl (r_loadAtA0 _f_145.at_ agg26 sz26 rfl) ?_
                    refine WL_s rfl rfl ?_
                    have _f_146 := (((_f_140.ch0 _cw_141).ch0 _cw_142).ch0 _cw_144)
                    refine Step.call (r_call (xs := [.tmp 107]) fk13 rfl) (c_impl_Nullable _f_146.ls (by omega)) fun _v108 _w_147 _q108 => ?_
                    replace _q108 : _v108 = .bool (false) ∧ _ := ⟨_q108.1.trans (congrArg Value.bool (der_none _h95 _h101).2), _q108.2⟩
                    obtain ⟨rfl, _cw_147⟩ := _q108
                    have _cw_147z := _cw_147.size
                    have E := E.trans _cw_147
                    refine WL_step rfl rfl (r_not rfl) ?_
                    refine WL_step rfl rfl (r_pickT rfl rfl) ?_
                    refine WL_step rfl rfl (r_pickF rfl rfl) ?_
                    refine WL_step rfl rfl (r_assign rfl) ?_
                    refine WL_nil ?_
                    refine thn_nrm (_hK_132 _ _ ?_)
                    clear _hK_132
                    refine W_ret ?_
                    exact ret_intro [_] ⟨rfl, trivial⟩ ⟨congrArg Value.bool (by first | rfl | (exfalso; simp_all; done) | (simp_all; done)), E⟩
          · have _kb_55 := _h57
            refine WL_skip rfl rfl ?_
            refine WL_skip rfl rfl ?_
            refine WL_step rfl rfl (r_pickF rfl rfl) ?_
            refine WL_step rfl rfl (r_move rfl) ?_
            refine WL_skip rfl rfl ?_
            refine WL_skip rfl rfl ?_
            refine WL_skip rfl rfl ?_
            refine WL_skip rfl rfl ?_
            refine WL_step rfl rfl (r_pickF rfl rfl) ?_
            refine WL_nil ?_
            refine thn_nrm (_hK_50 _ _ ?_)
            clear _hK_50
            refine W_condF rfl ?_
            refine W_skip ?_
            refine thn_nrm (_hK_49 _ _ ?_)
            clear _hK_49
            refine W_seq fun _K_148 _hK_148 => ?_
            refine W_region ?_
            refine WL_step rfl rfl (r_move rfl) ?_
            refine WL_s rfl rfl ?_
            have _f_149 := (((((((((((((_f_8.ch0 _cw_9).ch0 _cw_10).ch _cw_11 (fun i hi => by have _h1 := List.mem_singleton.1 hi; omega)).ch0 _cw_16).ch0 _cw_22).ch0 _cw_29).ch0 _cw_30).ch _cw_31 (fun i hi => by have _h1 := List.mem_singleton.1 hi; omega)).ch0 _cw_37).ch0 _cw_38).ch _cw_39 (fun i hi => by have _h1 := List.mem_singleton.1 hi; omega)).ch0 _cw_48).ch0 _cw_54)
            refine Step.call (r_call (xs := [.tmp 68]) fk14 rfl) (c_spec_DrawDerivative _f_149 (by omega)) fun _v69 _w_150 _q69 => ?_
            obtain ⟨x69q0, x69q1, u69d0x0, rfl, _q_u69d0x0, _lo_u69d0x0, pt69_0, pt69_1, _cw_150⟩ := _q69
            have _cw_150z := _cw_150.size
            have E := E.trans _cw_150
            obtain ⟨Au69d0x0, Cu69d0x0, eu69d0x0⟩ := _q_u69d0x0.val
            subst eu69d0x0
            have lu69d0x0 := _q_u69d0x0.len
            have _hiu69d0x0 := _q_u69d0x0.lt
            refine WL_step rfl rfl (r_move rfl) ?_
            refine WL_step rfl rfl (r_extract rfl rfl) ?_
            refine WL_step rfl rfl (r_extract rfl rfl) ?_
            refine WL_s rfl rfl ?_
            refine s_alloc zr26 fun _b10 _w_151 _m10 _cw_151 _e10 => ?_
            have _cw_151z := _cw_151.size
            have E := E.trans _cw_151
            have _z10 := _m10.lt
            replace _m10 : Blk _w_151 _b10 26 [(.slice none 0 0)] := _m10
            refine WL_s rfl rfl ?_
            refine s_storeA (off := 0) 1 _m10 sz26 rfl (us := [(.slice Au69d0x0 (x69q0).length Cu69d0x0)]) rfl rfl rfl rfl fun _w_152 _m_153 _cw_152 => ?_
            have _cw_152z := _cw_152.size
            have E := E.step _cw_152 (fun i hi => .inl (by have _h1 := List.mem_singleton.1 hi; omega))
            replace _m_153 : Blk _w_152 _b10 26 [(.slice Au69d0x0 (x69q0).length Cu69d0x0)] := _m_153
            refine WL_step rfl rfl (r_assign rfl) ?_
            refine WL_nil ?_
            refine thn_nrm (_hK_148 _ _ ?_)
            clear _hK_148
            refine W_seq fun _K_154 _hK_154 => ?_
            refine W_region ?_
            refine WL_step rfl rfl (r_loadAtA0 _m_153.at_ agg26 sz26 rfl) ?_
            refine WL_step rfl rfl (r_move rfl) ?_
            refine WL_s rfl rfl ?_
            have _f_155 := ((_q_u69d0x0.ch0 _cw_151).ch _cw_152 (fun g hg hm => by have _h0 := List.mem_singleton.1 hm; have _h2 := _lo_u69d0x0 _ hg; have _h3 := _hiu69d0x0 _ hg; omega))
            refine Step.call (r_call (xs := [.tmp 73, .tmp 74]) fk15 rfl) (c_impl_Derivative _f_155.ls _ ) fun _v75 _w_156 _q75 => ?_
            obtain ⟨u75_0x0, rfl, _q_u75_0x0, _lo_u75_0x0, _cw_156⟩ := _q75
            have _cw_156z := _cw_156.size
            have E := E.trans _cw_156
            obtain ⟨Au75_0x0, Cu75_0x0, eu75_0x0⟩ := _q_u75_0x0.val
            subst eu75_0x0
            have lu75_0x0 := _q_u75_0x0.len
            have _hiu75_0x0 := _q_u75_0x0.lt
            have dl9 := derE_len x69q0 x69q1
            refine WL_step rfl rfl (r_move rfl) ?_
            refine WL_step rfl rfl (r_extract rfl rfl) ?_
            refine WL_step rfl rfl (r_extract rfl rfl) ?_
            refine WL_s rfl rfl ?_
            refine s_alloc zr26 fun _b12 _w_157 _m12 _cw_157 _e12 => ?_
            have _cw_157z := _cw_157.size
            have E := E.trans _cw_157
            have _z12 := _m12.lt
            replace _m12 : Blk _w_157 _b12 26 [(.slice none 0 0)] := _m12
            refine WL_s rfl rfl ?_
            refine s_storeA (off := 0) 1 _m12 sz26 rfl (us := [(.slice Au75_0x0 ((derE x69q0 x69q1).1).length Cu75_0x0)]) rfl rfl rfl rfl fun _w_158 _m_159 _cw_158 => ?_
            have _cw_158z := _cw_158.size
            have E := E.step _cw_158 (fun i hi => .inl (by have _h1 := List.mem_singleton.1 hi; omega))
            replace _m_159 : Blk _w_158 _b12 26 [(.slice Au75_0x0 ((derE x69q0 x69q1).1).length Cu75_0x0)] := _m_159
            refine WL_step rfl rfl (r_assign rfl) ?_
            refine WL_nil ?_
            refine thn_nrm (_hK_154 _ _ ?_)
            clear _hK_154
            refine W_seq fun _K_160 _hK_160 => ?_
            refine W_region ?_
            have _f_161 := (((_m_153.ch0 _cw_156).ch0 _cw_157).ch _cw_158 (fun hm => by have _h1 := List.mem_singleton.1 hm; omega))
            refine WL_step rfl rfl (r_loadAtA0 _f_161.at_ agg26 sz26 rfl) ?_
            refine WL_step rfl rfl (r_move rfl) ?_
            refine WL_s rfl rfl ?_
            have _f_162 := (((_f_155.ch0 _cw_156).ch0 _cw_157).ch _cw_158 (fun g hg hm => by have _h0 := List.mem_singleton.1 hm; have _h2 := _lo_u69d0x0 _ hg; have _h3 := _hiu69d0x0 _ hg; omega))
            refine Step.call (r_call (xs := [.tmp 79, .tmp 80]) fk16 rfl) (c_spec_Derivative _f_162.ls _ ) fun _v81 _w_163 _q81 => ?_
            obtain ⟨u81_0x0, rfl, _q_u81_0x0, _lo_u81_0x0, _cw_163⟩ := _q81
            have _cw_163z := _cw_163.size
            have E := E.trans _cw_163
            obtain ⟨Au81_0x0, Cu81_0x0, eu81_0x0⟩ := _q_u81_0x0.val
            subst eu81_0x0
            have lu81_0x0 := _q_u81_0x0.len
            have _hiu81_0x0 := _q_u81_0x0.lt
            refine WL_step rfl rfl (r_move rfl) ?_
            refine WL_step rfl rfl (r_extract rfl rfl) ?_
            refine WL_step rfl rfl (r_extract rfl rfl) ?_
            refine WL_s rfl rfl ?_
            refine s_alloc zr26 fun _b14 _w_164 _m14 _cw_164 _e14 => ?_
            have _cw_164z := _cw_164.size
            have E := E.trans _cw_164
            have _z14 := _m14.lt
            replace _m14 : Blk _w_164 _b14 26 [(.slice none 0 0)] := _m14
            refine WL_s rfl rfl ?_
            refine s_storeA (off := 0) 1 _m14 sz26 rfl (us := [(.slice Au81_0x0 ((derE x69q0 x69q1).1).length Cu81_0x0)]) rfl rfl rfl rfl fun _w_165 _m_166 _cw_165 => ?_
            have _cw_165z := _cw_165.size
            have E := E.step _cw_165 (fun i hi => .inl (by have _h1 := List.mem_singleton.1 hi; omega))
            replace _m_166 : Blk _w_165 _b14 26 [(.slice Au81_0x0 ((derE x69q0 x69q1).1).length Cu81_0x0)] := _m_166
            refine WL_step rfl rfl (r_assign rfl) ?_
            refine WL_nil ?_
            refine thn_nrm (_hK_160 _ _ ?_)
            clear _hK_160
            refine W_seq fun _K_167 _hK_167 => ?_
            refine W_seq fun _K_168 _hK_168 => ?_
            refine W_region ?_
            refine WL_step rfl rfl (r_move rfl) ?_
            refine WL_step rfl rfl (r_move rfl) ?_
            refine WL_step rfl rfl (r_neqB un4 rfl rfl) ?_
            refine WL_step rfl rfl (r_move rfl) ?_
            refine WL_split (d := 87) rfl (fun _h87 => ?_) (fun _h87 => ?_)
            · have _kb_169 := _h87
              have _h87 := bf_e (bt_n _h87)
              refine WL_skip rfl rfl ?_
              refine WL_skip rfl rfl ?_
              refine WL_skip rfl rfl ?_
              refine WL_skip rfl rfl ?_
              refine WL_step rfl rfl (r_pickT rfl rfl) ?_
              refine WL_nil ?_
              refine thn_nrm (_hK_168 _ _ ?_)
              clear _hK_168
              refine W_condT rfl ?_
              refine W_seq fun _K_170 _hK_170 => ?_
              refine W_region ?_
              refine WL_step rfl rfl (r_assign rfl) ?_
              refine WL_nil ?_
              refine thn_nrm (_hK_170 _ _ ?_)
              clear _hK_170
              refine W_ret (thn_ret ?_)
              clear _hK_167
              exact ret_intro [_] ⟨rfl, trivial⟩ ⟨congrArg Value.bool (by first | rfl | (exfalso; simp_all; done) | (simp_all; done)), E⟩
            · have _kb_169 := _h87
              have _h87 := bt_e (bf_n _h87)
              have _f_171 := (((_m_159.ch0 _cw_163).ch0 _cw_164).ch _cw_165 (fun hm => by have _h1 := List.mem_singleton.1 hm; omega))
              refine WL_step rfl rfl (r_loadAtA0 _f_171.at_ agg26 sz26 rfl) ?_
              refine WL_step rfl rfl (r_loadAtA0 _m_166.at_ agg26 sz26 rfl) ?_
              refine WL_s rfl rfl ?_
              have _f_172 := (((((_q_u75_0x0.ch0 _cw_157).ch _cw_158 (fun g hg hm => by have _h0 := List.mem_singleton.1 hm; have _h2 := _lo_u75_0x0 _ hg; have _h3 := _hiu75_0x0 _ hg; omega)).ch0 _cw_163).ch0 _cw_164).ch _cw_165 (fun g hg hm => by have _h0 := List.mem_singleton.1 hm; have _h2 := _lo_u75_0x0 _ hg; have _h3 := _hiu75_0x0 _ hg; omega))
              have _f_173 := ((_q_u81_0x0.ch0 _cw_164).ch _cw_165 (fun g hg hm => by have _h0 := List.mem_singleton.1 hm; have _h2 := _lo_u81_0x0 _ hg; have _h3 := _hiu81_0x0 _ hg; omega))
              refine Step.call (r_call (xs := [.tmp 88, .tmp 89]) fk10 rfl) (c_spec_EqualExprs _f_172.ls _f_173.ls ) fun _v90 _w_174 _q90 => ?_
              replace _q90 : _v90 = .bool (true) ∧ _ := ⟨_q90.1.trans (congrArg Value.bool (decide_eq_true rfl)), _q90.2⟩
              obtain ⟨rfl, _cw_174⟩ := _q90
              have _cw_174z := _cw_174.size
              have E := E.trans _cw_174
              refine WL_step rfl rfl (r_not rfl) ?_
              refine WL_step rfl rfl (r_pickF rfl rfl) ?_
              refine WL_nil ?_
              refine thn_nrm (_hK_168 _ _ ?_)
              clear _hK_168
              refine W_condF rfl ?_
              refine W_skip ?_
              refine thn_nrm (_hK_167 _ _ ?_)
              clear _hK_167
              refine W_seq fun _K_175 _hK_175 => ?_
              refine W_region ?_
              refine WL_step rfl rfl (r_move rfl) ?_
              refine WL_step rfl rfl (r_not rfl) ?_
              refine WL_step rfl rfl (r_move rfl) ?_
              refine WL_split (d := 95) rfl (fun _h95 => ?_) (fun _h95 => ?_)
              · have _kb_176 := _h95
                have _h95 := bt_n _h95
                refine WL_skip rfl rfl ?_
                refine WL_skip rfl rfl ?_
                refine WL_skip rfl rfl ?_
                refine WL_skip rfl rfl ?_
                refine WL_step rfl rfl (r_pickT rfl rfl) ?_
                refine WL_step rfl rfl (r_move rfl) ?_
                refine WL_skip rfl rfl ?_
                refine WL_skip rfl rfl ?_
                refine WL_skip rfl rfl ?_
                refine WL_skip rfl rfl ?_
                refine WL_skip rfl rfl ?_
                refine WL_skip rfl rfl ?_
                refine WL_skip rfl rfl ?_
                refine WL_skip rfl rfl ?_
                refine WL_skip rfl rfl ?_
                refine WL_step rfl rfl (r_pickT rfl rfl) ?_
                refine WL_step rfl rfl (r_assign rfl) ?_
                refine WL_nil ?_
                refine thn_nrm (_hK_175 _ _ ?_)
                clear _hK_175
                refine W_ret ?_
                exact ret_intro [_] ⟨rfl, trivial⟩ ⟨congrArg Value.bool (by first | rfl | (exfalso; simp_all; done) | (simp_all; done)), E⟩
              · have _kb_176 := _h95
                have _h95 := bf_n _h95
                have _f_177 := ((((_f_161.ch0 _cw_163).ch0 _cw_164).ch _cw_165 (fun hm => by have _h1 := List.mem_singleton.1 hm; omega)).ch0 _cw_174)
                refine WL_step rfl rfl (r_loadAtA0 _f_177.at_ agg26 sz26 rfl) ?_
                refine WL_s rfl rfl ?_
                have _f_178 := ((((_f_162.ch0 _cw_163).ch0 _cw_164).ch _cw_165 (fun g hg hm => by have _h0 := List.mem_singleton.1 hm; have _h2 := _lo_u69d0x0 _ hg; have _h3 := _hiu69d0x0 _ hg; omega)).ch0 _cw_174)
                refine Step.call (r_call (xs := [.tmp 96]) fk18 rfl) (c_impl_Alphabet _f_178.ls (by omega)) fun _v97 _w_179 _q97 => ?_
                obtain ⟨_q97, _lo97, _cw_179⟩ := _q97
                have _cw_179z := _cw_179.size
                have E := E.trans _cw_179
                obtain ⟨_Av97, _Cv97, _ev97⟩ := _q97.val
                subst _ev97
                have _lv97 := _q97.len
                have _hiv97 := _q97.lt
                refine WL_step rfl rfl (r_move rfl) ?_
                refine WL_s rfl rfl ?_
                refine Step.call (r_call (xs := [.tmp 97, .tmp 98]) fk17 rfl) (c_laws_has _q97.ls _ ) fun _v99 _w_180 _q99 => ?_
                obtain ⟨rfl, _cw_180⟩ := _q99
                have _cw_180z := _cw_180.size
                have E := E.trans _cw_180
                refine WL_step rfl rfl (r_pickF rfl rfl) ?_
                refine WL_step rfl rfl (r_move rfl) ?_
                refine WL_split (d := 101) rfl (fun _h101 => ?_) (fun _h101 => ?_)
                · have _kb_181 := _h101
                  have _h101 := bt_d _h101
                  refine WL_skip rfl rfl ?_
                  refine WL_skip rfl rfl ?_
                  refine WL_skip rfl rfl ?_
                  refine WL_skip rfl rfl ?_
                  refine WL_skip rfl rfl ?_
                  refine WL_skip rfl rfl ?_
                  refine WL_skip rfl rfl ?_
                  refine WL_skip rfl rfl ?_
                  refine WL_skip rfl rfl ?_
                  refine WL_step rfl rfl (r_pickT rfl rfl) ?_
                  refine WL_step rfl rfl (r_assign rfl) ?_
                  refine WL_nil ?_
                  refine thn_nrm (_hK_175 _ _ ?_)
                  clear _hK_175
                  refine W_ret ?_
                  exact ret_intro [_] ⟨rfl, trivial⟩ ⟨congrArg Value.bool (by first | rfl | (exfalso; simp_all; done) | (simp_all; done)), E⟩
                · have _kb_181 := _h101
                  have _h101 := bf_d _h101
                  have _f_182 := (((_f_171.ch0 _cw_174).ch0 _cw_179).ch0 _cw_180)
                  refine WL_step rfl rfl (r_loadAtA0 _f_182.at_ agg26 sz26 rfl) ?_
                  refine WL_s rfl rfl ?_
                  have _f_183 := (((_f_172.ch0 _cw_174).ch0 _cw_179).ch0 _cw_180)
                  refine Step.call (r_call (xs := [.tmp 102]) fk18 rfl) (c_impl_Alphabet _f_183.ls (by omega)) fun _v103 _w_184 _q103 => ?_
                  obtain ⟨_q103, _lo103, _cw_184⟩ := _q103
                  have _cw_184z := _cw_184.size
                  have E := E.trans _cw_184
                  obtain ⟨_Av103, _Cv103, _ev103⟩ := _q103.val
                  subst _ev103
                  have _lv103 := _q103.len
                  have _hiv103 := _q103.lt
                  refine WL_s rfl rfl ?_
                  refine s_buildSlice0 (k := 1) ics el27 sz3 fun _v104 _w_185 _q104 _lo104 _cw_185 => ?_
                  have _cw_185z := _cw_185.size
                  have E := E.trans _cw_185
                  obtain ⟨_Av104, _Cv104, _ev104⟩ := _q104.val
                  subst _ev104
                  have _lv104 := _q104.len
                  have _hiv104 := _q104.lt
                  refine WL_s rfl rfl ?_
                  have _f_186 := (_q103.ch0 _cw_185)
                  refine Step.call (r_call (xs := [.tmp 103, .tmp 104]) fk19 rfl) (c_laws_sameInts _f_186.ls _q104.ls ) fun _v105 _w_187 _q105 => ?_
                  replace _q105 : _v105 = .bool (true) ∧ _ := ⟨_q105.1.trans (congrArg Value.bool (decide_eq_true (der_none _h95 _h101).1)), _q105.2⟩
                  obtain ⟨rfl, _cw_187⟩ := _q105
                  have _cw_187z := _cw_187.size
                  have E := E.trans _cw_187
                  refine WL_step rfl rfl (r_move rfl) ?_
                  have _f_188 := (((_f_182.ch0 _cw_184).ch0 _cw_185).ch0 _cw_187)
                  refine WL_step rfl rfl (r_loadAtA0 _f_188.at_ agg26 sz26 rfl) ?_
                  refine WL_s rfl rfl ?_
                  have _f_189 := (((_f_183.ch0 _cw_184).ch0 _cw_185).ch0 _cw_187)
                  refine Step.call (r_call (xs := [.tmp 107]) fk13 rfl) (c_impl_Nullable _f_189.ls (by omega)) fun _v108 _w_190 _q108 => ?_
                  replace _q108 : _v108 = .bool (false) ∧ _ := ⟨_q108.1.trans (congrArg Value.bool (der_none _h95 _h101).2), _q108.2⟩
                  obtain ⟨rfl, _cw_190⟩ := _q108
                  have _cw_190z := _cw_190.size
                  have E := E.trans _cw_190
                  refine WL_step rfl rfl (r_not rfl) ?_
                  refine WL_step rfl rfl (r_pickT rfl rfl) ?_
                  refine WL_step rfl rfl (r_pickF rfl rfl) ?_
                  refine WL_step rfl rfl (r_assign rfl) ?_
                  refine WL_nil ?_
                  refine thn_nrm (_hK_175 _ _ ?_)
                  clear _hK_175
                  refine W_ret ?_
                  exact ret_intro [_] ⟨rfl, trivial⟩ ⟨congrArg Value.bool (by first | rfl | (exfalso; simp_all; done) | (simp_all; done)), E⟩
        · have _kb_51 := _h53
          refine WL_skip rfl rfl ?_
          refine WL_skip rfl rfl ?_
          refine WL_step rfl rfl (r_pickF rfl rfl) ?_
          refine WL_step rfl rfl (r_move rfl) ?_
          refine WL_skip rfl rfl ?_
          refine WL_skip rfl rfl ?_
          refine WL_step rfl rfl (r_pickF rfl rfl) ?_
          refine WL_step rfl rfl (r_move rfl) ?_
          refine WL_skip rfl rfl ?_
          refine WL_skip rfl rfl ?_
          refine WL_skip rfl rfl ?_
          refine WL_skip rfl rfl ?_
          refine WL_step rfl rfl (r_pickF rfl rfl) ?_
          refine WL_nil ?_
          refine thn_nrm (_hK_50 _ _ ?_)
          clear _hK_50
          refine W_condF rfl ?_
          refine W_skip ?_
          refine thn_nrm (_hK_49 _ _ ?_)
          clear _hK_49
          refine W_seq fun _K_191 _hK_191 => ?_
          refine W_region ?_
          refine WL_step rfl rfl (r_move rfl) ?_
          refine WL_s rfl rfl ?_
          have _f_192 := ((((((((((((_f_8.ch0 _cw_9).ch0 _cw_10).ch _cw_11 (fun i hi => by have _h1 := List.mem_singleton.1 hi; omega)).ch0 _cw_16).ch0 _cw_22).ch0 _cw_29).ch0 _cw_30).ch _cw_31 (fun i hi => by have _h1 := List.mem_singleton.1 hi; omega)).ch0 _cw_37).ch0 _cw_38).ch _cw_39 (fun i hi => by have _h1 := List.mem_singleton.1 hi; omega)).ch0 _cw_48)
          refine Step.call (r_call (xs := [.tmp 68]) fk14 rfl) (c_spec_DrawDerivative _f_192 (by omega)) fun _v69 _w_193 _q69 => ?_
          obtain ⟨x69q0, x69q1, u69d0x0, rfl, _q_u69d0x0, _lo_u69d0x0, pt69_0, pt69_1, _cw_193⟩ := _q69
          have _cw_193z := _cw_193.size
          have E := E.trans _cw_193
          obtain ⟨Au69d0x0, Cu69d0x0, eu69d0x0⟩ := _q_u69d0x0.val
          subst eu69d0x0
          have lu69d0x0 := _q_u69d0x0.len
          have _hiu69d0x0 := _q_u69d0x0.lt
          refine WL_step rfl rfl (r_move rfl) ?_
          refine WL_step rfl rfl (r_extract rfl rfl) ?_
          refine WL_step rfl rfl (r_extract rfl rfl) ?_
          refine WL_s rfl rfl ?_
          refine s_alloc zr26 fun _b10 _w_194 _m10 _cw_194 _e10 => ?_
          have _cw_194z := _cw_194.size
          have E := E.trans _cw_194
          have _z10 := _m10.lt
          replace _m10 : Blk _w_194 _b10 26 [(.slice none 0 0)] := _m10
          refine WL_s rfl rfl ?_
          refine s_storeA (off := 0) 1 _m10 sz26 rfl (us := [(.slice Au69d0x0 (x69q0).length Cu69d0x0)]) rfl rfl rfl rfl fun _w_195 _m_196 _cw_195 => ?_
          have _cw_195z := _cw_195.size
          have E := E.step _cw_195 (fun i hi => .inl (by have _h1 := List.mem_singleton.1 hi; omega))
          replace _m_196 : Blk _w_195 _b10 26 [(.slice Au69d0x0 (x69q0).length Cu69d0x0)] := _m_196
          refine WL_step rfl rfl (r_assign rfl) ?_
          refine WL_nil ?_
          refine thn_nrm (_hK_191 _ _ ?_)
          clear _hK_191
          refine W_seq fun _K_197 _hK_197 => ?_
          refine W_region ?_
          refine WL_step rfl rfl (r_loadAtA0 _m_196.at_ agg26 sz26 rfl) ?_
          refine WL_step rfl rfl (r_move rfl) ?_
          refine WL_s rfl rfl ?_
          have _f_198 := ((_q_u69d0x0.ch0 _cw_194).ch _cw_195 (fun g hg hm => by have _h0 := List.mem_singleton.1 hm; have _h2 := _lo_u69d0x0 _ hg; have _h3 := _hiu69d0x0 _ hg; omega))
          refine Step.call (r_call (xs := [.tmp 73, .tmp 74]) fk15 rfl) (c_impl_Derivative _f_198.ls _ ) fun _v75 _w_199 _q75 => ?_
          obtain ⟨u75_0x0, rfl, _q_u75_0x0, _lo_u75_0x0, _cw_199⟩ := _q75
          have _cw_199z := _cw_199.size
          have E := E.trans _cw_199
          obtain ⟨Au75_0x0, Cu75_0x0, eu75_0x0⟩ := _q_u75_0x0.val
          subst eu75_0x0
          have lu75_0x0 := _q_u75_0x0.len
          have _hiu75_0x0 := _q_u75_0x0.lt
          have dl9 := derE_len x69q0 x69q1
          refine WL_step rfl rfl (r_move rfl) ?_
          refine WL_step rfl rfl (r_extract rfl rfl) ?_
          refine WL_step rfl rfl (r_extract rfl rfl) ?_
          refine WL_s rfl rfl ?_
          refine s_alloc zr26 fun _b12 _w_200 _m12 _cw_200 _e12 => ?_
          have _cw_200z := _cw_200.size
          have E := E.trans _cw_200
          have _z12 := _m12.lt
          replace _m12 : Blk _w_200 _b12 26 [(.slice none 0 0)] := _m12
          refine WL_s rfl rfl ?_
          refine s_storeA (off := 0) 1 _m12 sz26 rfl (us := [(.slice Au75_0x0 ((derE x69q0 x69q1).1).length Cu75_0x0)]) rfl rfl rfl rfl fun _w_201 _m_202 _cw_201 => ?_
          have _cw_201z := _cw_201.size
          have E := E.step _cw_201 (fun i hi => .inl (by have _h1 := List.mem_singleton.1 hi; omega))
          replace _m_202 : Blk _w_201 _b12 26 [(.slice Au75_0x0 ((derE x69q0 x69q1).1).length Cu75_0x0)] := _m_202
          refine WL_step rfl rfl (r_assign rfl) ?_
          refine WL_nil ?_
          refine thn_nrm (_hK_197 _ _ ?_)
          clear _hK_197
          refine W_seq fun _K_203 _hK_203 => ?_
          refine W_region ?_
          have _f_204 := (((_m_196.ch0 _cw_199).ch0 _cw_200).ch _cw_201 (fun hm => by have _h1 := List.mem_singleton.1 hm; omega))
          refine WL_step rfl rfl (r_loadAtA0 _f_204.at_ agg26 sz26 rfl) ?_
          refine WL_step rfl rfl (r_move rfl) ?_
          refine WL_s rfl rfl ?_
          have _f_205 := (((_f_198.ch0 _cw_199).ch0 _cw_200).ch _cw_201 (fun g hg hm => by have _h0 := List.mem_singleton.1 hm; have _h2 := _lo_u69d0x0 _ hg; have _h3 := _hiu69d0x0 _ hg; omega))
          refine Step.call (r_call (xs := [.tmp 79, .tmp 80]) fk16 rfl) (c_spec_Derivative _f_205.ls _ ) fun _v81 _w_206 _q81 => ?_
          obtain ⟨u81_0x0, rfl, _q_u81_0x0, _lo_u81_0x0, _cw_206⟩ := _q81
          have _cw_206z := _cw_206.size
          have E := E.trans _cw_206
          obtain ⟨Au81_0x0, Cu81_0x0, eu81_0x0⟩ := _q_u81_0x0.val
          subst eu81_0x0
          have lu81_0x0 := _q_u81_0x0.len
          have _hiu81_0x0 := _q_u81_0x0.lt
          refine WL_step rfl rfl (r_move rfl) ?_
          refine WL_step rfl rfl (r_extract rfl rfl) ?_
          refine WL_step rfl rfl (r_extract rfl rfl) ?_
          refine WL_s rfl rfl ?_
          refine s_alloc zr26 fun _b14 _w_207 _m14 _cw_207 _e14 => ?_
          have _cw_207z := _cw_207.size
          have E := E.trans _cw_207
          have _z14 := _m14.lt
          replace _m14 : Blk _w_207 _b14 26 [(.slice none 0 0)] := _m14
          refine WL_s rfl rfl ?_
          refine s_storeA (off := 0) 1 _m14 sz26 rfl (us := [(.slice Au81_0x0 ((derE x69q0 x69q1).1).length Cu81_0x0)]) rfl rfl rfl rfl fun _w_208 _m_209 _cw_208 => ?_
          have _cw_208z := _cw_208.size
          have E := E.step _cw_208 (fun i hi => .inl (by have _h1 := List.mem_singleton.1 hi; omega))
          replace _m_209 : Blk _w_208 _b14 26 [(.slice Au81_0x0 ((derE x69q0 x69q1).1).length Cu81_0x0)] := _m_209
          refine WL_step rfl rfl (r_assign rfl) ?_
          refine WL_nil ?_
          refine thn_nrm (_hK_203 _ _ ?_)
          clear _hK_203
          refine W_seq fun _K_210 _hK_210 => ?_
          refine W_seq fun _K_211 _hK_211 => ?_
          refine W_region ?_
          refine WL_step rfl rfl (r_move rfl) ?_
          refine WL_step rfl rfl (r_move rfl) ?_
          refine WL_step rfl rfl (r_neqB un4 rfl rfl) ?_
          refine WL_step rfl rfl (r_move rfl) ?_
          refine WL_split (d := 87) rfl (fun _h87 => ?_) (fun _h87 => ?_)
          · have _kb_212 := _h87
            have _h87 := bf_e (bt_n _h87)
            refine WL_skip rfl rfl ?_
            refine WL_skip rfl rfl ?_
            refine WL_skip rfl rfl ?_
            refine WL_skip rfl rfl ?_
            refine WL_step rfl rfl (r_pickT rfl rfl) ?_
            refine WL_nil ?_
            refine thn_nrm (_hK_211 _ _ ?_)
            clear _hK_211
            refine W_condT rfl ?_
            refine W_seq fun _K_213 _hK_213 => ?_
            refine W_region ?_
            refine WL_step rfl rfl (r_assign rfl) ?_
            refine WL_nil ?_
            refine thn_nrm (_hK_213 _ _ ?_)
            clear _hK_213
            refine W_ret (thn_ret ?_)
            clear _hK_210
            exact ret_intro [_] ⟨rfl, trivial⟩ ⟨congrArg Value.bool (by first | rfl | (exfalso; simp_all; done) | (simp_all; done)), E⟩
          · have _kb_212 := _h87
            have _h87 := bt_e (bf_n _h87)
            have _f_214 := (((_m_202.ch0 _cw_206).ch0 _cw_207).ch _cw_208 (fun hm => by have _h1 := List.mem_singleton.1 hm; omega))
            refine WL_step rfl rfl (r_loadAtA0 _f_214.at_ agg26 sz26 rfl) ?_
            refine WL_step rfl rfl (r_loadAtA0 _m_209.at_ agg26 sz26 rfl) ?_
            refine WL_s rfl rfl ?_
            have _f_215 := (((((_q_u75_0x0.ch0 _cw_200).ch _cw_201 (fun g hg hm => by have _h0 := List.mem_singleton.1 hm; have _h2 := _lo_u75_0x0 _ hg; have _h3 := _hiu75_0x0 _ hg; omega)).ch0 _cw_206).ch0 _cw_207).ch _cw_208 (fun g hg hm => by have _h0 := List.mem_singleton.1 hm; have _h2 := _lo_u75_0x0 _ hg; have _h3 := _hiu75_0x0 _ hg; omega))
            have _f_216 := ((_q_u81_0x0.ch0 _cw_207).ch _cw_208 (fun g hg hm => by have _h0 := List.mem_singleton.1 hm; have _h2 := _lo_u81_0x0 _ hg; have _h3 := _hiu81_0x0 _ hg; omega))
            refine Step.call (r_call (xs := [.tmp 88, .tmp 89]) fk10 rfl) (c_spec_EqualExprs _f_215.ls _f_216.ls ) fun _v90 _w_217 _q90 => ?_
            replace _q90 : _v90 = .bool (true) ∧ _ := ⟨_q90.1.trans (congrArg Value.bool (decide_eq_true rfl)), _q90.2⟩
            obtain ⟨rfl, _cw_217⟩ := _q90
            have _cw_217z := _cw_217.size
            have E := E.trans _cw_217
            refine WL_step rfl rfl (r_not rfl) ?_
            refine WL_step rfl rfl (r_pickF rfl rfl) ?_
            refine WL_nil ?_
            refine thn_nrm (_hK_211 _ _ ?_)
            clear _hK_211
            refine W_condF rfl ?_
            refine W_skip ?_
            refine thn_nrm (_hK_210 _ _ ?_)
            clear _hK_210
            refine W_seq fun _K_218 _hK_218 => ?_
            refine W_region ?_
            refine WL_step rfl rfl (r_move rfl) ?_
            refine WL_step rfl rfl (r_not rfl) ?_
            refine WL_step rfl rfl (r_move rfl) ?_
            refine WL_split (d := 95) rfl (fun _h95 => ?_) (fun _h95 => ?_)
            · have _kb_219 := _h95
              have _h95 := bt_n _h95
              refine WL_skip rfl rfl ?_
              refine WL_skip rfl rfl ?_
              refine WL_skip rfl rfl ?_
              refine WL_skip rfl rfl ?_
              refine WL_step rfl rfl (r_pickT rfl rfl) ?_
              refine WL_step rfl rfl (r_move rfl) ?_
              refine WL_skip rfl rfl ?_
              refine WL_skip rfl rfl ?_
              refine WL_skip rfl rfl ?_
              refine WL_skip rfl rfl ?_
              refine WL_skip rfl rfl ?_
              refine WL_skip rfl rfl ?_
              refine WL_skip rfl rfl ?_
              refine WL_skip rfl rfl ?_
              refine WL_skip rfl rfl ?_
              refine WL_step rfl rfl (r_pickT rfl rfl) ?_
              refine WL_step rfl rfl (r_assign rfl) ?_
              refine WL_nil ?_
              refine thn_nrm (_hK_218 _ _ ?_)
              clear _hK_218
              refine W_ret ?_
              exact ret_intro [_] ⟨rfl, trivial⟩ ⟨congrArg Value.bool (by first | rfl | (exfalso; simp_all; done) | (simp_all; done)), E⟩
            · have _kb_219 := _h95
              have _h95 := bf_n _h95
              have _f_220 := ((((_f_204.ch0 _cw_206).ch0 _cw_207).ch _cw_208 (fun hm => by have _h1 := List.mem_singleton.1 hm; omega)).ch0 _cw_217)
              refine WL_step rfl rfl (r_loadAtA0 _f_220.at_ agg26 sz26 rfl) ?_
              refine WL_s rfl rfl ?_
              have _f_221 := ((((_f_205.ch0 _cw_206).ch0 _cw_207).ch _cw_208 (fun g hg hm => by have _h0 := List.mem_singleton.1 hm; have _h2 := _lo_u69d0x0 _ hg; have _h3 := _hiu69d0x0 _ hg; omega)).ch0 _cw_217)
              refine Step.call (r_call (xs := [.tmp 96]) fk18 rfl) (c_impl_Alphabet _f_221.ls (by omega)) fun _v97 _w_222 _q97 => ?_
              obtain ⟨_q97, _lo97, _cw_222⟩ := _q97
              have _cw_222z := _cw_222.size
              have E := E.trans _cw_222
              obtain ⟨_Av97, _Cv97, _ev97⟩ := _q97.val
              subst _ev97
              have _lv97 := _q97.len
              have _hiv97 := _q97.lt
              refine WL_step rfl rfl (r_move rfl) ?_
              refine WL_s rfl rfl ?_
              refine Step.call (r_call (xs := [.tmp 97, .tmp 98]) fk17 rfl) (c_laws_has _q97.ls _ ) fun _v99 _w_223 _q99 => ?_
              obtain ⟨rfl, _cw_223⟩ := _q99
              have _cw_223z := _cw_223.size
              have E := E.trans _cw_223
              refine WL_step rfl rfl (r_pickF rfl rfl) ?_
              refine WL_step rfl rfl (r_move rfl) ?_
              refine WL_split (d := 101) rfl (fun _h101 => ?_) (fun _h101 => ?_)
              · have _kb_224 := _h101
                have _h101 := bt_d _h101
                refine WL_skip rfl rfl ?_
                refine WL_skip rfl rfl ?_
                refine WL_skip rfl rfl ?_
                refine WL_skip rfl rfl ?_
                refine WL_skip rfl rfl ?_
                refine WL_skip rfl rfl ?_
                refine WL_skip rfl rfl ?_
                refine WL_skip rfl rfl ?_
                refine WL_skip rfl rfl ?_
                refine WL_step rfl rfl (r_pickT rfl rfl) ?_
                refine WL_step rfl rfl (r_assign rfl) ?_
                refine WL_nil ?_
                refine thn_nrm (_hK_218 _ _ ?_)
                clear _hK_218
                refine W_ret ?_
                exact ret_intro [_] ⟨rfl, trivial⟩ ⟨congrArg Value.bool (by first | rfl | (exfalso; simp_all; done) | (simp_all; done)), E⟩
              · have _kb_224 := _h101
                have _h101 := bf_d _h101
                have _f_225 := (((_f_214.ch0 _cw_217).ch0 _cw_222).ch0 _cw_223)
                refine WL_step rfl rfl (r_loadAtA0 _f_225.at_ agg26 sz26 rfl) ?_
                refine WL_s rfl rfl ?_
                have _f_226 := (((_f_215.ch0 _cw_217).ch0 _cw_222).ch0 _cw_223)
                refine Step.call (r_call (xs := [.tmp 102]) fk18 rfl) (c_impl_Alphabet _f_226.ls (by omega)) fun _v103 _w_227 _q103 => ?_
                obtain ⟨_q103, _lo103, _cw_227⟩ := _q103
                have _cw_227z := _cw_227.size
                have E := E.trans _cw_227
                obtain ⟨_Av103, _Cv103, _ev103⟩ := _q103.val
                subst _ev103
                have _lv103 := _q103.len
                have _hiv103 := _q103.lt
                refine WL_s rfl rfl ?_
                refine s_buildSlice0 (k := 1) ics el27 sz3 fun _v104 _w_228 _q104 _lo104 _cw_228 => ?_
                have _cw_228z := _cw_228.size
                have E := E.trans _cw_228
                obtain ⟨_Av104, _Cv104, _ev104⟩ := _q104.val
                subst _ev104
                have _lv104 := _q104.len
                have _hiv104 := _q104.lt
                refine WL_s rfl rfl ?_
                have _f_229 := (_q103.ch0 _cw_228)
                refine Step.call (r_call (xs := [.tmp 103, .tmp 104]) fk19 rfl) (c_laws_sameInts _f_229.ls _q104.ls ) fun _v105 _w_230 _q105 => ?_
                replace _q105 : _v105 = .bool (true) ∧ _ := ⟨_q105.1.trans (congrArg Value.bool (decide_eq_true (der_none _h95 _h101).1)), _q105.2⟩
                obtain ⟨rfl, _cw_230⟩ := _q105
                have _cw_230z := _cw_230.size
                have E := E.trans _cw_230
                refine WL_step rfl rfl (r_move rfl) ?_
                have _f_231 := (((_f_225.ch0 _cw_227).ch0 _cw_228).ch0 _cw_230)
                refine WL_step rfl rfl (r_loadAtA0 _f_231.at_ agg26 sz26 rfl) ?_
                refine WL_s rfl rfl ?_
                have _f_232 := (((_f_226.ch0 _cw_227).ch0 _cw_228).ch0 _cw_230)
                refine Step.call (r_call (xs := [.tmp 107]) fk13 rfl) (c_impl_Nullable _f_232.ls (by omega)) fun _v108 _w_233 _q108 => ?_
                replace _q108 : _v108 = .bool (false) ∧ _ := ⟨_q108.1.trans (congrArg Value.bool (der_none _h95 _h101).2), _q108.2⟩
                obtain ⟨rfl, _cw_233⟩ := _q108
                have _cw_233z := _cw_233.size
                have E := E.trans _cw_233
                refine WL_step rfl rfl (r_not rfl) ?_
                refine WL_step rfl rfl (r_pickT rfl rfl) ?_
                refine WL_step rfl rfl (r_pickF rfl rfl) ?_
                refine WL_step rfl rfl (r_assign rfl) ?_
                refine WL_nil ?_
                refine thn_nrm (_hK_218 _ _ ?_)
                clear _hK_218
                refine W_ret ?_
                exact ret_intro [_] ⟨rfl, trivial⟩ ⟨congrArg Value.bool (by first | rfl | (exfalso; simp_all; done) | (simp_all; done)), E⟩

end Go.Proofs.YtholldndjafnpaaGreat
