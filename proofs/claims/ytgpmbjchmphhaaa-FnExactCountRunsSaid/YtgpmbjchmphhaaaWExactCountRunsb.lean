/- Walks of functions that FnExactCountRuns reaches: what each returns, and that it leaves the memory that was there alone. -/
import Derived.Test.YtgpmbjchmphhaaaKF
import Derived.Test.YtgpmbjchmphhaaaKG
import Derived.Test.YtgpmbjchmphhaaaKH
import Derived.Test.YtgpmbjchmphhaaaKI
import Derived.Test.YtgpmbjchmphhaaaKJ
import Derived.Test.YtgpmbjchmphhaaaKM
import Derived.Test.YtgpmbjchmphhaaaKN
import Derived.Test.YtgpmbjchmphhaaaKO
import Derived.Test.YtgpmbjchmphhaaaKP
import Derived.Test.YtgpmbjchmphhaaaKQ
import Derived.Test.YtgpmbjchmphhaaaKR
import Derived.Test.YtgpmbjchmphhaaaKS
import Derived.Test.YtgpmbjchmphhaaaKT
import Derived.Test.YtgpmbjchmphhaaaKU
import Derived.Test.YtgpmbjchmphhaaaKV
import Derived.Test.YtgpmbjchmphhaaaKX
import Derived.Test.YtgpmbjchmphhaaaKY
import Derived.Test.YtgpmbjchmphhaaaKZ
import Derived.Test.YtgpmbjchmphhaaaJA
import Derived.Test.YtgpmbjchmphhaaaJB
import Derived.Test.YtgpmbjchmphhaaaJC
import Derived.Test.YtgpmbjchmphhaaaWExactUsefulStates
import Derived.Test.YtgpmbjchmphhaaaWExactTestClosure
import Derived.Test.YtgpmbjchmphhaaaWExactCountRuns
import Derived.Test.YtgpmbjchmphhaaaProg
namespace Go.Proofs.Ytgpmbjchmphhaaa
open Go.KLib
set_option maxRecDepth 20000
set_option linter.unusedVariables false
set_option linter.unusedSimpArgs false
namespace TExactCountRunsb
theorem agg34 : aggB Try.prog 34 = some true := by kernel_rfl
theorem agg37 : aggB Try.prog 37 = some true := by kernel_rfl
theorem el32 : elB Try.prog 32 = some 3 := by kernel_rfl
theorem fk19 : fnB Try.prog 19 = true := by kernel_rfl
theorem fk20 : fnB Try.prog 20 = true := by kernel_rfl
theorem fk21 : fnB Try.prog 21 = true := by kernel_rfl
theorem fk22 : fnB Try.prog 22 = true := by kernel_rfl
theorem fk23 : fnB Try.prog 23 = true := by kernel_rfl
theorem fk24 : fnB Try.prog 24 = true := by kernel_rfl
theorem fk25 : fnB Try.prog 25 = true := by kernel_rfl
theorem mixed : Try.prog.follows .mixedOrders = true := by kernel_rfl
theorem sz34 : sizeB Try.prog 34 = some 5 := by kernel_rfl
theorem sz37 : sizeB Try.prog 37 = some 5 := by kernel_rfl
theorem zr37 : zeroB Try.prog 37 = some (.agg #[.slice none 0 0, .int .i64 0, .int .i64 0, .slice none 0 0, .bool false]) := by kernel_rfl
end TExactCountRunsb
open TExactCountRunsb

/-- laws.FnExactCountRuns -/
theorem c_laws_FnExactCountRuns {w : World} {LL_pL _B_pL : Nat} {_v_pL : Value} {pL : List Int} (_h_pL : Ls ics 1 w LL_pL _B_pL _v_pL pL) (pfirst : Int) (plast : Int) {LL_pF _B_pF : Nat} {_v_pF : Value} {pF : List Int} (_h_pF : Ls ics 1 w LL_pF _B_pF _v_pF pF) (pnull : Bool) {LL_wd _B_wd : Nat} {_v_wd : Value} {wd : List Int} (_h_wd : Ls ics 1 w LL_wd _B_wd _v_wd wd) :
    Ctr Try.prog 4 #[(.agg #[_v_pL, (.int .i64 pfirst), (.int .i64 plast), _v_pF, (.bool pnull)]), _v_wd] w (fun v w' => v = .bool (true) ∧ Ch [] w w') := by
  obtain ⟨_A_pL, _C_pL, _e1_pL⟩ := _h_pL.val
  subst _e1_pL
  have _l_pL := _h_pL.len
  have _h_pL := _h_pL.here (by decide)
  obtain ⟨_A_pF, _C_pF, _e1_pF⟩ := _h_pF.val
  subst _e1_pF
  have _l_pF := _h_pF.len
  have _h_pF := _h_pF.here (by decide)
  obtain ⟨_A_wd, _C_wd, _e1_wd⟩ := _h_wd.val
  subst _e1_wd
  have _l_wd := _h_wd.len
  have _h_wd := _h_wd.here (by decide)
  have E := Ch.refl [] w
  refine Ctr_of_W (N := 43) (vs0 := [(.agg #[(.slice _A_pL pL.length _C_pL), (.int .i64 pfirst), (.int .i64 plast), (.slice _A_pF pF.length _C_pF), (.bool pnull)]), (.slice _A_wd wd.length _C_wd)]) Try.func4 rfl rfl rfl ?_
  refine W_seq fun _K_1 _hK_1 => ?_
  refine W_region ?_
  refine WL_s rfl rfl ?_
  refine s_box rfl fun _b2 _w_2 _m2 _cw_2 _e2 => ?_
  have _cw_2z := _cw_2.size
  have E := E.trans _cw_2
  have _z2 := _m2.lt
  replace _m2 : Blk _w_2 _b2 34 [(.slice _A_pL pL.length _C_pL), (.int .i64 pfirst), (.int .i64 plast), (.slice _A_pF pF.length _C_pF), (.bool pnull)] := _m2
  refine WL_step rfl rfl (r_assign rfl) ?_
  refine WL_nil ?_
  refine thn_nrm (_hK_1 _ _ ?_)
  clear _hK_1
  refine W_seq fun _K_3 _hK_3 => ?_
  refine W_seq fun _K_4 _hK_4 => ?_
  refine W_region ?_
  refine WL_step rfl rfl (r_move rfl) ?_
  refine WL_step rfl rfl (r_len (by rw [el32]; rfl) rfl) ?_
  refine WL_step rfl rfl (r_gtr rfl rfl) ?_
  refine WL_nil ?_
  refine thn_nrm (_hK_4 _ _ ?_)
  clear _hK_4
  refine W_cond rfl (fun _h12 => ?_) (fun _h12 => ?_)
  · have _kb_5 := _h12
    have _h12 := bt_d _h12
    refine W_seq fun _K_6 _hK_6 => ?_
    refine W_region ?_
    refine WL_step rfl rfl (r_assign rfl) ?_
    refine WL_nil ?_
    refine thn_nrm (_hK_6 _ _ ?_)
    clear _hK_6
    refine W_ret (thn_ret ?_)
    clear _hK_3
    exact ret_intro [_] ⟨rfl, trivial⟩ ⟨congrArg Value.bool (by first | rfl | (exfalso; omega) | (exfalso; revert _h12; simp; done) | (exfalso; revert _h12; simp; omega)), E⟩
  · have _kb_5 := _h12
    have _h12 := bf_d _h12
    refine W_skip ?_
    refine thn_nrm (_hK_3 _ _ ?_)
    clear _hK_3
    refine W_seq fun _K_7 _hK_7 => ?_
    refine W_region ?_
    refine WL_step rfl rfl (r_assign rfl) ?_
    refine WL_nil ?_
    refine thn_nrm (_hK_7 _ _ ?_)
    clear _hK_7
    refine W_seq fun _K_8 _hK_8 => ?_
    refine W_region ?_
    refine WL_step rfl rfl (r_loadAtA0 _m2.at_ agg34 sz34 rfl) ?_
    refine WL_step rfl rfl (r_move rfl) ?_
    refine WL_s rfl rfl ?_
    have _f_9 := (_h_pL.ch0 _cw_2)
    have _f_10 := (_h_pF.ch0 _cw_2)
    refine Step.call (r_call (xs := [.tmp 13, .tmp 14]) fk19 rfl) (c_laws_szPositions _f_9 _ _ _f_10 _ _ (by omega) (by omega)) fun _v15 _w_11 _q15 => ?_
    obtain ⟨rfl, _cw_11⟩ := _q15
    have _cw_11z := _cw_11.size
    have E := E.trans _cw_11
    refine WL_step rfl rfl (r_assign rfl) ?_
    refine WL_nil ?_
    refine thn_nrm (_hK_8 _ _ ?_)
    clear _hK_8
    refine W_seq fun _K_12 _hK_12 => ?_
    refine W_seq fun _K_13 _hK_13 => ?_
    refine W_region ?_
    refine WL_step rfl rfl (r_move rfl) ?_
    refine WL_step rfl rfl (r_lss rfl rfl) ?_
    refine WL_nil ?_
    refine thn_nrm (_hK_13 _ _ ?_)
    clear _hK_13
    refine W_cond rfl (fun _h17 => ?_) (fun _h17 => ?_)
    · have _kb_14 := _h17
      have _h17 := bt_d _h17
      refine W_seq fun _K_15 _hK_15 => ?_
      refine W_region ?_
      refine WL_step rfl rfl (r_assign rfl) ?_
      refine WL_nil ?_
      refine thn_nrm (_hK_15 _ _ ?_)
      clear _hK_15
      refine W_ret (thn_ret ?_)
      clear _hK_12
      exact ret_intro [_] ⟨rfl, trivial⟩ ⟨congrArg Value.bool (by first | rfl | (exfalso; omega) | (exfalso; revert _h17; simp; done) | (exfalso; revert _h17; simp; omega)), E⟩
    · have _kb_14 := _h17
      have _h17 := bf_d _h17
      refine W_skip ?_
      refine thn_nrm (_hK_12 _ _ ?_)
      clear _hK_12
      refine W_seq fun _K_16 _hK_16 => ?_
      refine W_region ?_
      have _f_17 := (_m2.ch0 _cw_11)
      refine WL_step rfl rfl (r_loadAtA0 _f_17.at_ agg34 sz34 rfl) ?_
      refine WL_s rfl rfl ?_
      have _f_18 := (_f_9.ch0 _cw_11)
      have _f_19 := (_f_10.ch0 _cw_11)
      refine Step.call (r_call (xs := [.tmp 18]) fk21 rfl) (c_laws_toPositions _f_18 _ _ _f_19 _ (by omega)) fun _v19 _w_20 _q19 => ?_
      obtain ⟨_u19, _t19, rfl, _q19, _lo19, _q219, _lo219, _cw_20⟩ := _q19
      have _cw_20z := _cw_20.size
      have E := E.trans _cw_20
      obtain ⟨_Au19, _Cu19, _eu19⟩ := _q19.val
      subst _eu19
      have _lu19 := _q19.len
      have _hiu19 := _q19.lt
      obtain ⟨_At19, _Ct19, _et19⟩ := _q219.val
      subst _et19
      have _lt19 := _q219.len
      have _hit19 := _q219.lt
      refine WL_step rfl rfl (r_move rfl) ?_
      refine WL_s rfl rfl ?_
      have _f_21 := (((_h_wd.ch0 _cw_2).ch0 _cw_11).ch0 _cw_20)
      refine Step.call (r_call (xs := [.tmp 20]) fk22 rfl) (c_laws_toIntS _f_21 (by omega)) fun _v21 _w_22 _q21 => ?_
      obtain ⟨_q21, _lo21, _cw_22⟩ := _q21
      have _cw_22z := _cw_22.size
      have E := E.trans _cw_22
      obtain ⟨_Av21, _Cv21, _ev21⟩ := _q21.val
      subst _ev21
      have _lv21 := _q21.len
      have _hiv21 := _q21.lt
      refine WL_s rfl rfl ?_
      have _f_23 := (_q19.ch0 _cw_22)
      have _f_24 := (_q219.ch0 _cw_22)
      refine Step.call (r_call (xs := [.tmp 19, .tmp 21]) fk20 rfl) (c_spec_CountRuns _f_23.ls _ _ _f_24.ls _ _q21.ls ) fun _v22 _w_25 _q22 => ?_
      obtain ⟨rfl, _cw_25⟩ := _q22
      have _cw_25z := _cw_25.size
      have E := E.trans _cw_25
      refine WL_step rfl rfl (r_assign rfl) ?_
      refine WL_nil ?_
      refine thn_nrm (_hK_16 _ _ ?_)
      clear _hK_16
      refine W_seq fun _K_26 _hK_26 => ?_
      refine W_region ?_
      have _f_27 := (((_f_17.ch0 _cw_20).ch0 _cw_22).ch0 _cw_25)
      refine WL_step rfl rfl (r_loadAtA0 _f_27.at_ agg34 sz34 rfl) ?_
      refine WL_s rfl rfl ?_
      have _f_28 := (((_f_18.ch0 _cw_20).ch0 _cw_22).ch0 _cw_25)
      have _f_29 := (((_f_19.ch0 _cw_20).ch0 _cw_22).ch0 _cw_25)
      refine Step.call (r_call (xs := [.tmp 23]) fk21 rfl) (c_laws_toPositions _f_28 _ _ _f_29 _ (by omega)) fun _v24 _w_30 _q24 => ?_
      obtain ⟨_u24, _t24, rfl, _q24, _lo24, _q224, _lo224, _cw_30⟩ := _q24
      have _cw_30z := _cw_30.size
      have E := E.trans _cw_30
      obtain ⟨_Au24, _Cu24, _eu24⟩ := _q24.val
      subst _eu24
      have _lu24 := _q24.len
      have _hiu24 := _q24.lt
      obtain ⟨_At24, _Ct24, _et24⟩ := _q224.val
      subst _et24
      have _lt24 := _q224.len
      have _hit24 := _q224.lt
      refine WL_s rfl rfl ?_
      refine s_alloc zr37 fun _b7 _w_31 _m7 _cw_31 _e7 => ?_
      have _cw_31z := _cw_31.size
      have E := E.trans _cw_31
      have _z7 := _m7.lt
      replace _m7 : Blk _w_31 _b7 37 [(.slice none 0 0), (.int .i64 0), (.int .i64 0), (.slice none 0 0), (.bool false)] := _m7
      refine WL_s rfl rfl ?_
      refine s_storeA (off := 0) 5 _m7 sz37 rfl (us := [(.slice _Au24 (pL).length _Cu24), (.int .i64 pfirst), (.int .i64 plast), (.slice _At24 (pF).length _Ct24), (.bool pnull)]) rfl rfl rfl rfl fun _w_32 _m_33 _cw_32 => ?_
      have _cw_32z := _cw_32.size
      have E := E.step _cw_32 (fun i hi => .inl (by have _h1 := List.mem_singleton.1 hi; omega))
      replace _m_33 : Blk _w_32 _b7 37 [(.slice _Au24 (pL).length _Cu24), (.int .i64 pfirst), (.int .i64 plast), (.slice _At24 (pF).length _Ct24), (.bool pnull)] := _m_33
      refine WL_nil ?_
      refine thn_nrm (_hK_26 _ _ ?_)
      clear _hK_26
      refine W_seq fun _K_34 _hK_34 => ?_
      refine W_region ?_
      refine WL_step rfl rfl (r_move rfl) ?_
      refine WL_s rfl rfl ?_
      have _f_35 := (((((_f_21.ch0 _cw_22).ch0 _cw_25).ch0 _cw_30).ch0 _cw_31).ch _cw_32 (fun i hi => by have _h1 := List.mem_singleton.1 hi; omega))
      refine Step.call (r_call (xs := [.tmp 25]) fk22 rfl) (c_laws_toIntS _f_35 (by omega)) fun _v26 _w_36 _q26 => ?_
      obtain ⟨_q26, _lo26, _cw_36⟩ := _q26
      have _cw_36z := _cw_36.size
      have E := E.trans _cw_36
      obtain ⟨_Av26, _Cv26, _ev26⟩ := _q26.val
      subst _ev26
      have _lv26 := _q26.len
      have _hiv26 := _q26.lt
      refine WL_step rfl rfl (r_assign rfl) ?_
      refine WL_nil ?_
      refine thn_nrm (_hK_34 _ _ ?_)
      clear _hK_34
      refine W_seq fun _K_37 _hK_37 => ?_
      refine W_region ?_
      have _f_38 := (_m_33.ch0 _cw_36)
      refine WL_step rfl rfl (r_loadAtA0 _f_38.at_ agg37 sz37 rfl) ?_
      refine WL_step rfl rfl (r_move rfl) ?_
      refine WL_s rfl rfl ?_
      have _f_39 := (((_q24.ch0 _cw_31).ch _cw_32 (fun g hg hm => by have _h0 := List.mem_singleton.1 hm; have _h2 := _lo24 _ hg; have _h3 := _hiu24 _ hg; omega)).ch0 _cw_36)
      have _f_40 := (((_q224.ch0 _cw_31).ch _cw_32 (fun g hg hm => by have _h0 := List.mem_singleton.1 hm; have _h2 := _lo224 _ hg; have _h3 := _hit24 _ hg; omega)).ch0 _cw_36)
      refine Step.call (r_call (xs := [.tmp 27, .tmp 28]) fk23 rfl) (c_impl_CountRuns _f_39.ls _ _ _f_40.ls _ _q26.ls ) fun _v29 _w_41 _q29 => ?_
      obtain ⟨rfl, _cw_41⟩ := _q29
      have _cw_41z := _cw_41.size
      have E := E.trans _cw_41
      refine WL_step rfl rfl (r_assign rfl) ?_
      refine WL_nil ?_
      refine thn_nrm (_hK_37 _ _ ?_)
      clear _hK_37
      refine W_seq fun _K_42 _hK_42 => ?_
      refine W_seq fun _K_43 _hK_43 => ?_
      refine W_region ?_
      refine WL_step rfl rfl (r_move rfl) ?_
      refine WL_step rfl rfl (r_move rfl) ?_
      refine WL_step rfl rfl (r_neq rfl rfl) ?_
      refine WL_nil ?_
      refine thn_nrm (_hK_43 _ _ ?_)
      clear _hK_43
      refine W_cond rfl (fun _h32 => ?_) (fun _h32 => ?_)
      · have _kb_44 := _h32
        have _h32 := bf_d (bt_n _h32)
        refine W_seq fun _K_45 _hK_45 => ?_
        refine W_region ?_
        refine WL_step rfl rfl (r_assign rfl) ?_
        refine WL_nil ?_
        refine thn_nrm (_hK_45 _ _ ?_)
        clear _hK_45
        refine W_ret (thn_ret ?_)
        clear _hK_42
        exact ret_intro [_] ⟨rfl, trivial⟩ ⟨congrArg Value.bool (by first | rfl | (exfalso; omega) | (exfalso; revert _h32; simp; done) | (exfalso; revert _h32; simp; omega)), E⟩
      · have _kb_44 := _h32
        have _h32 := bt_d (bf_n _h32)
        refine W_skip ?_
        refine thn_nrm (_hK_42 _ _ ?_)
        clear _hK_42
        refine W_seq fun _K_46 _hK_46 => ?_
        refine W_seq fun _K_47 _hK_47 => ?_
        refine W_drawC [] 5 mixed rfl fun _w_48 _cw_48 => ?_
        have _cw_48z := _cw_48.size
        have E := E.trans _cw_48
        have _f_49 := ((_f_38.ch0 _cw_41).ch0 _cw_48)
        refine DR_s 0 rfl (by kernel_rfl) rfl rfl (t_loadAtA0 _f_49.at_ (fun i hi => absurd hi List.not_mem_nil) agg37 sz37 rfl ?_)
        have _f_50 := ((((((_f_27.ch0 _cw_30).ch0 _cw_31).ch _cw_32 (fun hm => by have _h1 := List.mem_singleton.1 hm; omega)).ch0 _cw_36).ch0 _cw_41).ch0 _cw_48)
        refine DR_s 1 rfl (by kernel_rfl) rfl rfl (t_loadAtA0 _f_50.at_ (fun i hi => absurd hi List.not_mem_nil) agg34 sz34 rfl ?_)
        refine DR_one 2 (by kernel_rfl) ?_
        refine DO_s rfl rfl rfl ?_
        have _f_51 := ((((((_f_28.ch0 _cw_30).ch0 _cw_31).ch _cw_32 (fun i hi => by have _h1 := List.mem_singleton.1 hi; omega)).ch0 _cw_36).ch0 _cw_41).ch0 _cw_48)
        have _f_52 := ((((((_f_29.ch0 _cw_30).ch0 _cw_31).ch _cw_32 (fun i hi => by have _h1 := List.mem_singleton.1 hi; omega)).ch0 _cw_36).ch0 _cw_41).ch0 _cw_48)
        refine Step.call (r_call (xs := [.tmp 34]) fk21 rfl) (c_laws_toPositions _f_51 _ _ _f_52 _ (by omega)) fun _v35 _w_53 _q35 => ?_
        obtain ⟨_u35, _t35, rfl, _q35, _lo35, _q235, _lo235, _cw_53⟩ := _q35
        have _cw_53z := _cw_53.size
        have E := E.trans _cw_53
        obtain ⟨_Au35, _Cu35, _eu35⟩ := _q35.val
        subst _eu35
        have _lu35 := _q35.len
        have _hiu35 := _q35.lt
        obtain ⟨_At35, _Ct35, _et35⟩ := _q235.val
        subst _et35
        have _lt35 := _q235.len
        have _hit35 := _q235.lt
        have _S_54 : Ch [] _w_48 _w_53 := ((Ch.refl _ _).trans _cw_53)
        refine ⟨_S_54, ?_⟩
        refine DR_one 3 (by kernel_rfl) ?_
        refine DO_s rfl rfl rfl ?_
        have _f_55 := (((_f_39.ch0 _cw_41).ch0 _cw_48).ch0 _cw_53)
        have _f_56 := (((_f_40.ch0 _cw_41).ch0 _cw_48).ch0 _cw_53)
        refine Step.call (r_call (xs := [.tmp 33, .tmp 35]) fk24 rfl) (c_laws_eqPositions _f_55.ls _ _ _f_56.ls _ _q35.ls _ _ _q235.ls _ ) fun _v36 _w_57 _q36 => ?_
        obtain ⟨rfl, _cw_57⟩ := _q36
        have _cw_57z := _cw_57.size
        have E := E.trans _cw_57
        have _S_58 : Ch [] _w_48 _w_57 := (_S_54.trans _cw_57)
        refine ⟨_S_58, ?_⟩
        refine DR_s 4 rfl (by kernel_rfl) rfl rfl (t_v (fun _ => (r_not rfl)) ?_)
        refine DR_done (by kernel_rfl) ?_
        refine thn_nrm (_hK_47 _ _ ?_)
        clear _hK_47
        refine W_cond rfl (fun _h37 => ?_) (fun _h37 => ?_)
        · have _kb_59 := _h37
          have _h37 := bf_t (bt_n _h37)
          refine W_seq fun _K_60 _hK_60 => ?_
          refine W_region ?_
          refine WL_step rfl rfl (r_assign rfl) ?_
          refine WL_nil ?_
          refine thn_nrm (_hK_60 _ _ ?_)
          clear _hK_60
          refine W_ret (thn_ret ?_)
          clear _hK_46
          exact ret_intro [_] ⟨rfl, trivial⟩ ⟨congrArg Value.bool (by first | rfl | (exfalso; omega) | (exfalso; revert _h37; simp; done) | (exfalso; revert _h37; simp; omega)), E⟩
        · have _kb_59 := _h37
          have _h37 := bt_t (bf_n _h37)
          refine W_skip ?_
          refine thn_nrm (_hK_46 _ _ ?_)
          clear _hK_46
          refine W_seq fun _K_61 _hK_61 => ?_
          refine W_seq fun _K_62 _hK_62 => ?_
          refine W_region ?_
          refine WL_step rfl rfl (r_move rfl) ?_
          refine WL_step rfl rfl (r_move rfl) ?_
          refine WL_s rfl rfl ?_
          have _f_63 := (((((_f_35.ch0 _cw_36).ch0 _cw_41).ch0 _cw_48).ch0 _cw_53).ch0 _cw_57)
          refine Step.call (r_call (xs := [.tmp 39]) fk22 rfl) (c_laws_toIntS _f_63 (by omega)) fun _v40 _w_64 _q40 => ?_
          obtain ⟨_q40, _lo40, _cw_64⟩ := _q40
          have _cw_64z := _cw_64.size
          have E := E.trans _cw_64
          obtain ⟨_Av40, _Cv40, _ev40⟩ := _q40.val
          subst _ev40
          have _lv40 := _q40.len
          have _hiv40 := _q40.lt
          refine WL_s rfl rfl ?_
          have _f_65 := (((((_q26.ch0 _cw_41).ch0 _cw_48).ch0 _cw_53).ch0 _cw_57).ch0 _cw_64)
          refine Step.call (r_call (xs := [.tmp 38, .tmp 40]) fk25 rfl) (c_laws_eqIntS _f_65.ls _q40.ls ) fun _v41 _w_66 _q41 => ?_
          obtain ⟨rfl, _cw_66⟩ := _q41
          have _cw_66z := _cw_66.size
          have E := E.trans _cw_66
          refine WL_step rfl rfl (r_not rfl) ?_
          refine WL_nil ?_
          refine thn_nrm (_hK_62 _ _ ?_)
          clear _hK_62
          refine W_cond rfl (fun _h42 => ?_) (fun _h42 => ?_)
          · have _kb_67 := _h42
            have _h42 := bf_d (bt_n _h42)
            refine W_seq fun _K_68 _hK_68 => ?_
            refine W_region ?_
            refine WL_step rfl rfl (r_assign rfl) ?_
            refine WL_nil ?_
            refine thn_nrm (_hK_68 _ _ ?_)
            clear _hK_68
            refine W_ret (thn_ret ?_)
            clear _hK_61
            exact ret_intro [_] ⟨rfl, trivial⟩ ⟨congrArg Value.bool (by first | rfl | (exfalso; omega) | (exfalso; revert _h42; simp; done) | (exfalso; revert _h42; simp; omega)), E⟩
          · have _kb_67 := _h42
            have _h42 := bt_d (bf_n _h42)
            refine W_skip ?_
            refine thn_nrm (_hK_61 _ _ ?_)
            clear _hK_61
            refine W_seq fun _K_69 _hK_69 => ?_
            refine W_region ?_
            refine WL_step rfl rfl (r_assign rfl) ?_
            refine WL_nil ?_
            refine thn_nrm (_hK_69 _ _ ?_)
            clear _hK_69
            refine W_ret ?_
            exact ret_intro [_] ⟨rfl, trivial⟩ ⟨congrArg Value.bool (by first | rfl | (exfalso; omega) | (exfalso; revert _h42; simp; done) | (exfalso; revert _h42; simp; omega)), E⟩

end Go.Proofs.Ytgpmbjchmphhaaa
