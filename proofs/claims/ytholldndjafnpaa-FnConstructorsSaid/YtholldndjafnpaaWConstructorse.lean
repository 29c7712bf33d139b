/- Walks of functions that FnConstructors reaches: what each returns, and that it leaves the memory that was there alone. -/
import Derived.Test.YtholldndjafnpaaLibA
import Derived.Test.YtholldndjafnpaaLibB
import Derived.Test.YtholldndjafnpaaWConstructors
import Derived.Test.YtholldndjafnpaaWConstructorsb
import Derived.Test.YtholldndjafnpaaWConstructorsc
import Derived.Test.YtholldndjafnpaaWConstructorsd
import Derived.Test.YtholldndjafnpaaProg
namespace Go.Proofs.Ytholldndjafnpaa
open Go.KLib Go.Shelf
set_option maxHeartbeats 1000000
set_option maxRecDepth 20000
set_option linter.unusedVariables false
set_option linter.unusedSimpArgs false
namespace TConstructorse
theorem agg65 : aggB Try.prog 65 = some false := by kernel_rfl
theorem agg67 : aggB Try.prog 67 = some true := by kernel_rfl
theorem el65 : elB Try.prog 65 = some 126 := by kernel_rfl
theorem fa67_0 : faB Try.prog 67 0 = some 0 := by kernel_rfl
theorem fk44 : fnB Try.prog 44 = true := by kernel_rfl
theorem fk45 : fnB Try.prog 45 = true := by kernel_rfl
theorem fk46 : fnB Try.prog 46 = true := by kernel_rfl
theorem fk47 : fnB Try.prog 47 = true := by kernel_rfl
theorem fk48 : fnB Try.prog 48 = true := by kernel_rfl
theorem fk49 : fnB Try.prog 49 = true := by kernel_rfl
theorem fk50 : fnB Try.prog 50 = true := by kernel_rfl
theorem fk51 : fnB Try.prog 51 = true := by kernel_rfl
theorem fk52 : fnB Try.prog 52 = true := by kernel_rfl
theorem fk53 : fnB Try.prog 53 = true := by kernel_rfl
theorem fk54 : fnB Try.prog 54 = true := by kernel_rfl
theorem fk55 : fnB Try.prog 55 = true := by kernel_rfl
theorem fk56 : fnB Try.prog 56 = true := by kernel_rfl
theorem fk57 : fnB Try.prog 57 = true := by kernel_rfl
theorem fk58 : fnB Try.prog 58 = true := by kernel_rfl
theorem fk59 : fnB Try.prog 59 = true := by kernel_rfl
theorem fk9 : fnB Try.prog 9 = true := by kernel_rfl
theorem mixed : Try.prog.follows .mixedOrders = true := by kernel_rfl
theorem sz67 : sizeB Try.prog 67 = some 1 := by kernel_rfl
theorem un4 : Try.prog.underlying 4 = some (.bool) := by kernel_rfl
theorem zr67 : zeroB Try.prog 67 = some (.agg #[.slice none 0 0]) := by kernel_rfl
end TConstructorse
open TConstructorse

/-- laws.FnConstructors -/
theorem c_laws_FnConstructors {w : World} {LL_code _B_code : Nat} {_v_code : Value} {code : List Int} (_h_code : Ls ucs 1 w LL_code _B_code _v_code code) :
    Ctr Try.prog 6 #[_v_code] w (fun v w' => v = .bool (true) ∧ Ch [] w w') := by
  obtain ⟨_A_code, _C_code, _e1_code⟩ := _h_code.val
  subst _e1_code
  have _l_code := _h_code.len
  have _h_code := _h_code.here (by decide)
  have E := Ch.refl [] w
  refine Ctr_of_W (N := 145) (vs0 := [(.slice _A_code code.length _C_code)]) Try.func6 rfl rfl rfl ?_
  refine W_seq fun _K_1 _hK_1 => ?_
  refine W_region ?_
  refine WL_step rfl rfl (r_assign rfl) ?_
  refine WL_nil ?_
  refine thn_nrm (_hK_1 _ _ ?_)
  clear _hK_1
  refine W_seq fun _K_2 _hK_2 => ?_
  refine W_seq fun _K_3 _hK_3 => ?_
  refine W_region ?_
  refine WL_step rfl rfl (r_move rfl) ?_
  refine WL_s rfl rfl ?_
  refine Step.call (r_call (xs := [.tmp 10]) fk9 rfl) (c_laws_big _h_code ) fun _v11 _w_4 _q11 => ?_
  obtain ⟨rfl, _cw_4⟩ := _q11
  have _cw_4z := _cw_4.size
  have E := E.trans _cw_4
  refine WL_nil ?_
  refine thn_nrm (_hK_3 _ _ ?_)
  clear _hK_3
  refine W_cond rfl (fun _h11 => ?_) (fun _h11 => ?_)
  · have _kb_5 := _h11
    have _h11 := bt_d _h11
    refine W_seq fun _K_6 _hK_6 => ?_
    refine W_region ?_
    refine WL_step rfl rfl (r_assign rfl) ?_
    refine WL_nil ?_
    refine thn_nrm (_hK_6 _ _ ?_)
    clear _hK_6
    refine W_ret (thn_ret ?_)
    clear _hK_2
    exact ret_intro [_] ⟨rfl, trivial⟩ ⟨congrArg Value.bool (by first | rfl | (exfalso; omega) | (exfalso; simp_all; done) | (simp_all; done)), E⟩
  · have _kb_5 := _h11
    have _h11 := bf_d _h11
    refine W_skip ?_
    refine thn_nrm (_hK_2 _ _ ?_)
    clear _hK_2
    refine W_seq fun _K_7 _hK_7 => ?_
    refine W_region ?_
    refine WL_step rfl rfl (r_move rfl) ?_
    refine WL_s rfl rfl ?_
    have _f_8 := (_h_code.ch0 _cw_4)
    refine Step.call (r_call (xs := [.tmp 13]) fk44 rfl) (c_spec_DrawConcatExpr _f_8 (by omega)) fun _v14 _w_9 _q14 => ?_
    obtain ⟨x14q0, x14q1, u14d0x0, u14d1x0, rfl, _q_u14d0x0, _lo_u14d0x0, _q_u14d1x0, _lo_u14d1x0, _dj_u14d0x0_u14d1x0, pt14_0, pt14_1, _cw_9⟩ := _q14
    have _cw_9z := _cw_9.size
    have E := E.trans _cw_9
    obtain ⟨Au14d0x0, Cu14d0x0, eu14d0x0⟩ := _q_u14d0x0.val
    subst eu14d0x0
    have lu14d0x0 := _q_u14d0x0.len
    have _hiu14d0x0 := _q_u14d0x0.lt
    obtain ⟨Au14d1x0, Cu14d1x0, eu14d1x0⟩ := _q_u14d1x0.val
    subst eu14d1x0
    have lu14d1x0 := _q_u14d1x0.len
    have _hiu14d1x0 := _q_u14d1x0.lt
    refine WL_step rfl rfl (r_move rfl) ?_
    refine WL_step rfl rfl (r_extract rfl rfl) ?_
    refine WL_step rfl rfl (r_extract rfl rfl) ?_
    refine WL_s rfl rfl ?_
    refine s_alloc zr67 fun _b3 _w_10 _m3 _cw_10 _e3 => ?_
    have _cw_10z := _cw_10.size
    have E := E.trans _cw_10
    have _z3 := _m3.lt
    replace _m3 : Blk _w_10 _b3 67 [(.slice none 0 0)] := _m3
    refine WL_s rfl rfl ?_
    refine s_alloc zr67 fun _b4 _w_11 _m4 _cw_11 _e4 => ?_
    have _cw_11z := _cw_11.size
    have E := E.trans _cw_11
    have _z4 := _m4.lt
    replace _m4 : Blk _w_11 _b4 67 [(.slice none 0 0)] := _m4
    refine WL_s rfl rfl ?_
    have _f_12 := (_m3.ch0 _cw_11)
    refine s_storeA (off := 0) 1 _f_12 sz67 rfl (us := [(.slice Au14d0x0 (x14q0).length Cu14d0x0)]) rfl rfl rfl rfl fun _w_13 _m_14 _cw_13 => ?_
    have _cw_13z := _cw_13.size
    have E := E.step _cw_13 (fun i hi => .inl (by have _h1 := List.mem_singleton.1 hi; omega))
    replace _m_14 : Blk _w_13 _b3 67 [(.slice Au14d0x0 (x14q0).length Cu14d0x0)] := _m_14
    refine WL_s rfl rfl ?_
    have _f_15 := (_m4.ch _cw_13 (fun hm => by have _h1 := List.mem_singleton.1 hm; omega))
    refine s_storeA (off := 0) 1 _f_15 sz67 rfl (us := [(.slice Au14d1x0 (x14q1).length Cu14d1x0)]) rfl rfl rfl rfl fun _w_16 _m_17 _cw_16 => ?_
    have _cw_16z := _cw_16.size
    have E := E.step _cw_16 (fun i hi => .inl (by have _h1 := List.mem_singleton.1 hi; omega))
    replace _m_17 : Blk _w_16 _b4 67 [(.slice Au14d1x0 (x14q1).length Cu14d1x0)] := _m_17
    refine WL_nil ?_
    refine thn_nrm (_hK_7 _ _ ?_)
    clear _hK_7
    refine W_seq fun _K_18 _hK_18 => ?_
    refine W_region ?_
    have _f_19 := (_m_14.ch _cw_16 (fun hm => by have _h1 := List.mem_singleton.1 hm; omega))
    refine WL_step rfl rfl (r_loadAtA0 _f_19.at_ agg67 sz67 rfl) ?_
    refine WL_step rfl rfl (r_loadAtA0 _m_17.at_ agg67 sz67 rfl) ?_
    refine WL_s rfl rfl ?_
    have _f_20 := ((((_q_u14d0x0.ch0 _cw_10).ch0 _cw_11).ch _cw_13 (fun g hg hm => by have _h0 := List.mem_singleton.1 hm; have _h2 := _lo_u14d0x0 _ hg; have _h3 := _hiu14d0x0 _ hg; omega)).ch _cw_16 (fun g hg hm => by have _h0 := List.mem_singleton.1 hm; have _h2 := _lo_u14d0x0 _ hg; have _h3 := _hiu14d0x0 _ hg; omega))
    have _f_21 := ((((_q_u14d1x0.ch0 _cw_10).ch0 _cw_11).ch _cw_13 (fun g hg hm => by have _h0 := List.mem_singleton.1 hm; have _h2 := _lo_u14d1x0 _ hg; have _h3 := _hiu14d1x0 _ hg; omega)).ch _cw_16 (fun g hg hm => by have _h0 := List.mem_singleton.1 hm; have _h2 := _lo_u14d1x0 _ hg; have _h3 := _hiu14d1x0 _ hg; omega))
    refine Step.call (r_call (xs := [.tmp 17, .tmp 18]) fk45 rfl) (c_impl_ConcatExpr _f_20.ls _f_21.ls (by omega)) fun _v19 _w_22 _q19 => ?_
    obtain ⟨_u19, rfl, _q19, _lo19, _cw_22⟩ := _q19
    have _cw_22z := _cw_22.size
    have E := E.trans _cw_22
    obtain ⟨_Au19, _Cu19, _eu19⟩ := _q19.val
    subst _eu19
    have _lu19 := _q19.len
    have _hiu19 := _q19.lt
    have cl9 := catE_len x14q0 x14q1
    refine WL_s rfl rfl ?_
    refine s_alloc zr67 fun _b5 _w_23 _m5 _cw_23 _e5 => ?_
    have _cw_23z := _cw_23.size
    have E := E.trans _cw_23
    have _z5 := _m5.lt
    replace _m5 : Blk _w_23 _b5 67 [(.slice none 0 0)] := _m5
    refine WL_s rfl rfl ?_
    refine s_storeA (off := 0) 1 _m5 sz67 rfl (us := [(.slice _Au19 (catE x14q0 x14q1).length _Cu19)]) rfl rfl rfl rfl fun _w_24 _m_25 _cw_24 => ?_
    have _cw_24z := _cw_24.size
    have E := E.step _cw_24 (fun i hi => .inl (by have _h1 := List.mem_singleton.1 hi; omega))
    replace _m_25 : Blk _w_24 _b5 67 [(.slice _Au19 (catE x14q0 x14q1).length _Cu19)] := _m_25
    refine WL_nil ?_
    refine thn_nrm (_hK_18 _ _ ?_)
    clear _hK_18
    refine W_seq fun _K_26 _hK_26 => ?_
    refine W_region ?_
    have _f_27 := (((_f_19.ch0 _cw_22).ch0 _cw_23).ch _cw_24 (fun hm => by have _h1 := List.mem_singleton.1 hm; omega))
    refine WL_step rfl rfl (r_loadAtA0 _f_27.at_ agg67 sz67 rfl) ?_
    have _f_28 := (((_m_17.ch0 _cw_22).ch0 _cw_23).ch _cw_24 (fun hm => by have _h1 := List.mem_singleton.1 hm; omega))
    refine WL_step rfl rfl (r_loadAtA0 _f_28.at_ agg67 sz67 rfl) ?_
    refine WL_s rfl rfl ?_
    have _f_29 := (((_f_20.ch0 _cw_22).ch0 _cw_23).ch _cw_24 (fun g hg hm => by have _h0 := List.mem_singleton.1 hm; have _h2 := _lo_u14d0x0 _ hg; have _h3 := _hiu14d0x0 _ hg; omega))
    have _f_30 := (((_f_21.ch0 _cw_22).ch0 _cw_23).ch _cw_24 (fun g hg hm => by have _h0 := List.mem_singleton.1 hm; have _h2 := _lo_u14d1x0 _ hg; have _h3 := _hiu14d1x0 _ hg; omega))
    refine Step.call (r_call (xs := [.tmp 20, .tmp 21]) fk46 rfl) (c_impl_UnionExpr _f_29.ls _f_30.ls (by omega)) fun _v22 _w_31 _q22 => ?_
    obtain ⟨_u22, rfl, _q22, _lo22, _cw_31⟩ := _q22
    have _cw_31z := _cw_31.size
    have E := E.trans _cw_31
    obtain ⟨_Au22, _Cu22, _eu22⟩ := _q22.val
    subst _eu22
    have _lu22 := _q22.len
    have _hiu22 := _q22.lt
    have cu9 := uniE_len x14q0 x14q1
    refine WL_s rfl rfl ?_
    refine s_alloc zr67 fun _b6 _w_32 _m6 _cw_32 _e6 => ?_
    have _cw_32z := _cw_32.size
    have E := E.trans _cw_32
    have _z6 := _m6.lt
    replace _m6 : Blk _w_32 _b6 67 [(.slice none 0 0)] := _m6
    refine WL_s rfl rfl ?_
    refine s_storeA (off := 0) 1 _m6 sz67 rfl (us := [(.slice _Au22 (uniE x14q0 x14q1).length _Cu22)]) rfl rfl rfl rfl fun _w_33 _m_34 _cw_33 => ?_
    have _cw_33z := _cw_33.size
    have E := E.step _cw_33 (fun i hi => .inl (by have _h1 := List.mem_singleton.1 hi; omega))
    replace _m_34 : Blk _w_33 _b6 67 [(.slice _Au22 (uniE x14q0 x14q1).length _Cu22)] := _m_34
    refine WL_nil ?_
    refine thn_nrm (_hK_26 _ _ ?_)
    clear _hK_26
    refine W_seq fun _K_35 _hK_35 => ?_
    refine W_region ?_
    have _f_36 := (((_f_27.ch0 _cw_31).ch0 _cw_32).ch _cw_33 (fun hm => by have _h1 := List.mem_singleton.1 hm; omega))
    refine WL_step rfl rfl (r_loadAtA0 _f_36.at_ agg67 sz67 rfl) ?_
    refine WL_s rfl rfl ?_
    have _f_37 := (((_f_29.ch0 _cw_31).ch0 _cw_32).ch _cw_33 (fun g hg hm => by have _h0 := List.mem_singleton.1 hm; have _h2 := _lo_u14d0x0 _ hg; have _h3 := _hiu14d0x0 _ hg; omega))
    refine Step.call (r_call (xs := [.tmp 23]) fk47 rfl) (c_impl_StarExpr _f_37.ls (by omega)) fun _v24 _w_38 _q24 => ?_
    obtain ⟨_u24, rfl, _q24, _lo24, _cw_38⟩ := _q24
    have _cw_38z := _cw_38.size
    have E := E.trans _cw_38
    obtain ⟨_Au24, _Cu24, _eu24⟩ := _q24.val
    subst _eu24
    have _lu24 := _q24.len
    have _hiu24 := _q24.lt
    have cs9 := starE_len x14q0
    refine WL_s rfl rfl ?_
    refine s_alloc zr67 fun _b7 _w_39 _m7 _cw_39 _e7 => ?_
    have _cw_39z := _cw_39.size
    have E := E.trans _cw_39
    have _z7 := _m7.lt
    replace _m7 : Blk _w_39 _b7 67 [(.slice none 0 0)] := _m7
    refine WL_s rfl rfl ?_
    refine s_storeA (off := 0) 1 _m7 sz67 rfl (us := [(.slice _Au24 (starE x14q0).length _Cu24)]) rfl rfl rfl rfl fun _w_40 _m_41 _cw_40 => ?_
    have _cw_40z := _cw_40.size
    have E := E.step _cw_40 (fun i hi => .inl (by have _h1 := List.mem_singleton.1 hi; omega))
    replace _m_41 : Blk _w_40 _b7 67 [(.slice _Au24 (starE x14q0).length _Cu24)] := _m_41
    refine WL_nil ?_
    refine thn_nrm (_hK_35 _ _ ?_)
    clear _hK_35
    refine W_seq fun _K_42 _hK_42 => ?_
    refine W_seq fun _K_43 _hK_43 => ?_
    refine W_drawC [] 21 mixed rfl fun _w_44 _cw_44 => ?_
    have _cw_44z := _cw_44.size
    have E := E.trans _cw_44
    have _f_45 := (((((((_m_25.ch0 _cw_31).ch0 _cw_32).ch _cw_33 (fun hm => by have _h1 := List.mem_singleton.1 hm; omega)).ch0 _cw_38).ch0 _cw_39).ch _cw_40 (fun hm => by have _h1 := List.mem_singleton.1 hm; omega)).ch0 _cw_44)
    refine DR_s 0 rfl (by kernel_rfl) rfl rfl (t_loadAtA0 _f_45.at_ (fun i hi => absurd hi List.not_mem_nil) agg67 sz67 rfl ?_)
    have _f_46 := ((((_f_36.ch0 _cw_38).ch0 _cw_39).ch _cw_40 (fun hm => by have _h1 := List.mem_singleton.1 hm; omega)).ch0 _cw_44)
    refine DR_s 1 rfl (by kernel_rfl) rfl rfl (t_loadAtA0 _f_46.at_ (fun i hi => absurd hi List.not_mem_nil) agg67 sz67 rfl ?_)
    have _f_47 := (((((((_f_28.ch0 _cw_31).ch0 _cw_32).ch _cw_33 (fun hm => by have _h1 := List.mem_singleton.1 hm; omega)).ch0 _cw_38).ch0 _cw_39).ch _cw_40 (fun hm => by have _h1 := List.mem_singleton.1 hm; omega)).ch0 _cw_44)
    refine DR_s 2 rfl (by kernel_rfl) rfl rfl (t_loadAtA0 _f_47.at_ (fun i hi => absurd hi List.not_mem_nil) agg67 sz67 rfl ?_)
    refine DR_one 3 (by kernel_rfl) ?_
    refine DO_s rfl rfl rfl ?_
    have _f_48 := ((((_f_37.ch0 _cw_38).ch0 _cw_39).ch _cw_40 (fun g hg hm => by have _h0 := List.mem_singleton.1 hm; have _h2 := _lo_u14d0x0 _ hg; have _h3 := _hiu14d0x0 _ hg; omega)).ch0 _cw_44)
    have _f_49 := (((((((_f_30.ch0 _cw_31).ch0 _cw_32).ch _cw_33 (fun g hg hm => by have _h0 := List.mem_singleton.1 hm; have _h2 := _lo_u14d1x0 _ hg; have _h3 := _hiu14d1x0 _ hg; omega)).ch0 _cw_38).ch0 _cw_39).ch _cw_40 (fun g hg hm => by have _h0 := List.mem_singleton.1 hm; have _h2 := _lo_u14d1x0 _ hg; have _h3 := _hiu14d1x0 _ hg; omega)).ch0 _cw_44)
    refine Step.call (r_call (xs := [.tmp 26, .tmp 27]) fk49 rfl) (c_spec_ConcatExpr _f_48.ls _f_49.ls (by omega)) fun _v28 _w_50 _q28 => ?_
    obtain ⟨_u28, rfl, _q28, _lo28, _cw_50⟩ := _q28
    have _cw_50z := _cw_50.size
    have E := E.trans _cw_50
    obtain ⟨_Au28, _Cu28, _eu28⟩ := _q28.val
    subst _eu28
    have _lu28 := _q28.len
    have _hiu28 := _q28.lt
    have _S_51 : Ch [] _w_44 _w_50 := ((Ch.refl _ _).trans _cw_50)
    refine ⟨_S_51, ?_⟩
    refine DR_one 4 (by kernel_rfl) ?_
    refine DO_s rfl rfl rfl ?_
    have _f_52 := ((((((((((_q19.ch0 _cw_23).ch _cw_24 (fun g hg hm => by have _h0 := List.mem_singleton.1 hm; have _h2 := _lo19 _ hg; have _h3 := _hiu19 _ hg; omega)).ch0 _cw_31).ch0 _cw_32).ch _cw_33 (fun g hg hm => by have _h0 := List.mem_singleton.1 hm; have _h2 := _lo19 _ hg; have _h3 := _hiu19 _ hg; omega)).ch0 _cw_38).ch0 _cw_39).ch _cw_40 (fun g hg hm => by have _h0 := List.mem_singleton.1 hm; have _h2 := _lo19 _ hg; have _h3 := _hiu19 _ hg; omega)).ch0 _cw_44).ch0 _cw_50)
    refine Step.call (r_call (xs := [.tmp 25, .tmp 28]) fk48 rfl) (c_spec_EqualExprs _f_52.ls _q28.ls ) fun _v29 _w_53 _q29 => ?_
    replace _q29 : _v29 = .bool (true) ∧ _ := ⟨_q29.1.trans (congrArg Value.bool (decide_eq_true rfl)), _q29.2⟩
    obtain ⟨rfl, _cw_53⟩ := _q29
    have _cw_53z := _cw_53.size
    have E := E.trans _cw_53
    have _S_54 : Ch [] _w_44 _w_53 := (_S_51.trans _cw_53)
    refine ⟨_S_54, ?_⟩
    refine DR_s 5 rfl (by kernel_rfl) rfl rfl (t_v (fun _ => (r_not rfl)) ?_)
    refine DR_s 6 rfl (by kernel_rfl) rfl rfl (t_v (fun _ => (r_move rfl)) ?_)
    have _f_55 := ((((_m_34.ch0 _cw_38).ch0 _cw_39).ch _cw_40 (fun hm => by have _h1 := List.mem_singleton.1 hm; omega)).ch0 _cw_44)
    refine DR_s 7 rfl (by kernel_rfl) rfl rfl (t_loadAtA0 _f_55.at_ (fun i hi => absurd hi List.not_mem_nil) agg67 sz67 rfl ?_)
    refine DR_s 8 rfl (by kernel_rfl) rfl rfl (t_loadAtA0 _f_46.at_ (fun i hi => absurd hi List.not_mem_nil) agg67 sz67 rfl ?_)
    refine DR_s 9 rfl (by kernel_rfl) rfl rfl (t_loadAtA0 _f_47.at_ (fun i hi => absurd hi List.not_mem_nil) agg67 sz67 rfl ?_)
    refine DR_one 10 (by kernel_rfl) ?_
    refine DO_s rfl rfl rfl ?_
    have _f_56 := ((_f_48.ch0 _cw_50).ch0 _cw_53)
    have _f_57 := ((_f_49.ch0 _cw_50).ch0 _cw_53)
    refine Step.call (r_call (xs := [.tmp 33, .tmp 34]) fk50 rfl) (c_spec_UnionExpr _f_56.ls _f_57.ls (by omega)) fun _v35 _w_58 _q35 => ?_
    obtain ⟨_u35, rfl, _q35, _lo35, _cw_58⟩ := _q35
    have _cw_58z := _cw_58.size
    have E := E.trans _cw_58
    obtain ⟨_Au35, _Cu35, _eu35⟩ := _q35.val
    subst _eu35
    have _lu35 := _q35.len
    have _hiu35 := _q35.lt
    have _S_59 : Ch [] _w_44 _w_58 := (_S_54.trans _cw_58)
    refine ⟨_S_59, ?_⟩
    refine DR_one 11 (by kernel_rfl) ?_
    refine DO_s rfl rfl rfl ?_
    have _f_60 := (((((((((_q22.ch0 _cw_32).ch _cw_33 (fun g hg hm => by have _h0 := List.mem_singleton.1 hm; have _h2 := _lo22 _ hg; have _h3 := _hiu22 _ hg; omega)).ch0 _cw_38).ch0 _cw_39).ch _cw_40 (fun g hg hm => by have _h0 := List.mem_singleton.1 hm; have _h2 := _lo22 _ hg; have _h3 := _hiu22 _ hg; omega)).ch0 _cw_44).ch0 _cw_50).ch0 _cw_53).ch0 _cw_58)
    refine Step.call (r_call (xs := [.tmp 32, .tmp 35]) fk48 rfl) (c_spec_EqualExprs _f_60.ls _q35.ls ) fun _v36 _w_61 _q36 => ?_
    replace _q36 : _v36 = .bool (true) ∧ _ := ⟨_q36.1.trans (congrArg Value.bool (decide_eq_true rfl)), _q36.2⟩
    obtain ⟨rfl, _cw_61⟩ := _q36
    have _cw_61z := _cw_61.size
    have E := E.trans _cw_61
    have _S_62 : Ch [] _w_44 _w_61 := (_S_59.trans _cw_61)
    refine ⟨_S_62, ?_⟩
    refine DR_s 12 rfl (by kernel_rfl) rfl rfl (t_v (fun _ => (r_not rfl)) ?_)
    refine DR_s 13 rfl (by kernel_rfl) rfl rfl (t_v (fun _ => (r_pickF rfl rfl)) ?_)
    refine DR_s 14 rfl (by kernel_rfl) rfl rfl (t_v (fun _ => (r_move rfl)) ?_)
    have _f_63 := (_m_41.ch0 _cw_44)
    refine DR_s 15 rfl (by kernel_rfl) rfl rfl (t_loadAtA0 _f_63.at_ (fun i hi => absurd hi List.not_mem_nil) agg67 sz67 rfl ?_)
    refine DR_s 16 rfl (by kernel_rfl) rfl rfl (t_loadAtA0 _f_46.at_ (fun i hi => absurd hi List.not_mem_nil) agg67 sz67 rfl ?_)
    refine DR_one 17 (by kernel_rfl) ?_
    refine DO_s rfl rfl rfl ?_
    have _f_64 := ((_f_56.ch0 _cw_58).ch0 _cw_61)
    refine Step.call (r_call (xs := [.tmp 41]) fk51 rfl) (c_spec_StarExpr _f_64.ls (by omega)) fun _v42 _w_65 _q42 => ?_
    obtain ⟨_u42, rfl, _q42, _lo42, _cw_65⟩ := _q42
    have _cw_65z := _cw_65.size
    have E := E.trans _cw_65
    obtain ⟨_Au42, _Cu42, _eu42⟩ := _q42.val
    subst _eu42
    have _lu42 := _q42.len
    have _hiu42 := _q42.lt
    have _S_66 : Ch [] _w_44 _w_65 := (_S_62.trans _cw_65)
    refine ⟨_S_66, ?_⟩
    refine DR_one 18 (by kernel_rfl) ?_
    refine DO_s rfl rfl rfl ?_
    have _f_67 := ((((((((_q24.ch0 _cw_39).ch _cw_40 (fun g hg hm => by have _h0 := List.mem_singleton.1 hm; have _h2 := _lo24 _ hg; have _h3 := _hiu24 _ hg; omega)).ch0 _cw_44).ch0 _cw_50).ch0 _cw_53).ch0 _cw_58).ch0 _cw_61).ch0 _cw_65)
    refine Step.call (r_call (xs := [.tmp 40, .tmp 42]) fk48 rfl) (c_spec_EqualExprs _f_67.ls _q42.ls ) fun _v43 _w_68 _q43 => ?_
    replace _q43 : _v43 = .bool (true) ∧ _ := ⟨_q43.1.trans (congrArg Value.bool (decide_eq_true rfl)), _q43.2⟩
    obtain ⟨rfl, _cw_68⟩ := _q43
    have _cw_68z := _cw_68.size
    have E := E.trans _cw_68
    have _S_69 : Ch [] _w_44 _w_68 := (_S_66.trans _cw_68)
    refine ⟨_S_69, ?_⟩
    refine DR_s 19 rfl (by kernel_rfl) rfl rfl (t_v (fun _ => (r_not rfl)) ?_)
    refine DR_s 20 rfl (by kernel_rfl) rfl rfl (t_v (fun _ => (r_pickF rfl rfl)) ?_)
    refine DR_done (by kernel_rfl) ?_
    refine thn_nrm (_hK_43 _ _ ?_)
    clear _hK_43
    refine W_condF rfl ?_
    refine W_skip ?_
    refine thn_nrm (_hK_42 _ _ ?_)
    clear _hK_42
    refine W_seq fun _K_70 _hK_70 => ?_
    refine W_seq fun _K_71 _hK_71 => ?_
    refine W_region ?_
    have _f_72 := ((((((_f_46.ch0 _cw_50).ch0 _cw_53).ch0 _cw_58).ch0 _cw_61).ch0 _cw_65).ch0 _cw_68)
    refine WL_step rfl rfl (r_loadAtA0 _f_72.at_ agg67 sz67 rfl) ?_
    refine WL_s rfl rfl ?_
    have _f_73 := ((_f_64.ch0 _cw_65).ch0 _cw_68)
    refine Step.call (r_call (xs := [.tmp 46]) fk52 rfl) (c_spec_IsValidExpr _f_73.ls ) fun _v47 _w_74 _q47 => ?_
    obtain ⟨rfl, _cw_74⟩ := _q47
    have _cw_74z := _cw_74.size
    have E := E.trans _cw_74
    refine WL_step rfl rfl (r_not rfl) ?_
    refine WL_step rfl rfl (r_move rfl) ?_
    refine WL_split (d := 49) rfl (fun _h49 => ?_) (fun _h49 => ?_)
    · have _kb_75 := _h49
      have _h49 := bt_n _h49
      refine WL_skip rfl rfl ?_
      refine WL_skip rfl rfl ?_
      refine WL_skip rfl rfl ?_
      refine WL_step rfl rfl (r_pickT rfl rfl) ?_
      refine WL_nil ?_
      refine thn_nrm (_hK_71 _ _ ?_)
      clear _hK_71
      refine W_condT rfl ?_
      refine W_seq fun _K_76 _hK_76 => ?_
      refine W_region ?_
      refine WL_step rfl rfl (r_assign rfl) ?_
      refine WL_nil ?_
      refine thn_nrm (_hK_76 _ _ ?_)
      clear _hK_76
      refine W_ret (thn_ret ?_)
      clear _hK_70
      exact ret_intro [_] ⟨rfl, trivial⟩ ⟨congrArg Value.bool (by first | rfl | (exfalso; omega) | (exfalso; simp_all; done) | (simp_all; done)), E⟩
    · have _kb_75 := _h49
      have _h49 := bf_n _h49
      have _f_77 := (((((((_f_47.ch0 _cw_50).ch0 _cw_53).ch0 _cw_58).ch0 _cw_61).ch0 _cw_65).ch0 _cw_68).ch0 _cw_74)
      refine WL_step rfl rfl (r_loadAtA0 _f_77.at_ agg67 sz67 rfl) ?_
      refine WL_s rfl rfl ?_
      have _f_78 := (((((_f_57.ch0 _cw_58).ch0 _cw_61).ch0 _cw_65).ch0 _cw_68).ch0 _cw_74)
      refine Step.call (r_call (xs := [.tmp 50]) fk52 rfl) (c_spec_IsValidExpr _f_78.ls ) fun _v51 _w_79 _q51 => ?_
      obtain ⟨rfl, _cw_79⟩ := _q51
      have _cw_79z := _cw_79.size
      have E := E.trans _cw_79
      refine WL_step rfl rfl (r_not rfl) ?_
      refine WL_step rfl rfl (r_pickF rfl rfl) ?_
      refine WL_nil ?_
      refine thn_nrm (_hK_71 _ _ ?_)
      clear _hK_71
      refine W_cond rfl (fun _h53 => ?_) (fun _h53 => ?_)
      · have _kb_80 := _h53
        have _h53 := bt_n _h53
        refine W_seq fun _K_81 _hK_81 => ?_
        refine W_region ?_
        refine WL_step rfl rfl (r_assign rfl) ?_
        refine WL_nil ?_
        refine thn_nrm (_hK_81 _ _ ?_)
        clear _hK_81
        refine W_ret (thn_ret ?_)
        clear _hK_70
        exact ret_intro [_] ⟨rfl, trivial⟩ ⟨congrArg Value.bool (by first | rfl | (exfalso; omega) | (exfalso; simp_all; done) | (simp_all; done)), E⟩
      · have _kb_80 := _h53
        have _h53 := bf_n _h53
        refine W_skip ?_
        refine thn_nrm (_hK_70 _ _ ?_)
        clear _hK_70
        refine W_seq fun _K_82 _hK_82 => ?_
        refine W_seq fun _K_83 _hK_83 => ?_
        refine W_region ?_
        refine WL_step rfl rfl (r_fieldAddr fa67_0 rfl) ?_
        have _f_84 := ((((((((_f_45.ch0 _cw_50).ch0 _cw_53).ch0 _cw_58).ch0 _cw_61).ch0 _cw_65).ch0 _cw_68).ch0 _cw_74).ch0 _cw_79)
        refine WL_step rfl rfl (r_loadAt _f_84.at_ agg65 rfl rfl) ?_
        refine WL_step rfl rfl (r_len (by rw [el65]; rfl) rfl) ?_
        refine WL_step rfl rfl (r_fieldAddr fa67_0 rfl) ?_
        have _f_85 := ((_f_72.ch0 _cw_74).ch0 _cw_79)
        refine WL_step rfl rfl (r_loadAt _f_85.at_ agg65 rfl rfl) ?_
        refine WL_step rfl rfl (r_len (by rw [el65]; rfl) rfl) ?_
        refine WL_step rfl rfl (r_fieldAddr fa67_0 rfl) ?_
        have _f_86 := (_f_77.ch0 _cw_79)
        refine WL_step rfl rfl (r_loadAt _f_86.at_ agg65 rfl rfl) ?_
        refine WL_step rfl rfl (r_len (by rw [el65]; rfl) rfl) ?_
        refine WL_step rfl rfl (r_add (by omega) rfl rfl) ?_
        refine WL_step rfl rfl (r_add (by omega) rfl rfl) ?_
        refine WL_step rfl rfl (r_gtr rfl rfl) ?_
        refine WL_step rfl rfl (r_move rfl) ?_
        refine WL_split (d := 66) rfl (fun _h66 => ?_) (fun _h66 => ?_)
        · have _kb_87 := _h66
          have _h66 := bt_d _h66
          refine WL_skip rfl rfl ?_
          refine WL_skip rfl rfl ?_
          refine WL_skip rfl rfl ?_
          refine WL_skip rfl rfl ?_
          refine WL_skip rfl rfl ?_
          refine WL_skip rfl rfl ?_
          refine WL_skip rfl rfl ?_
          refine WL_skip rfl rfl ?_
          refine WL_skip rfl rfl ?_
          refine WL_skip rfl rfl ?_
          refine WL_skip rfl rfl ?_
          refine WL_skip rfl rfl ?_
          refine WL_step rfl rfl (r_pickT rfl rfl) ?_
          refine WL_step rfl rfl (r_move rfl) ?_
          refine WL_skip rfl rfl ?_
          refine WL_skip rfl rfl ?_
          refine WL_skip rfl rfl ?_
          refine WL_step rfl rfl (r_pickT rfl rfl) ?_
          refine WL_step rfl rfl (r_move rfl) ?_
          refine WL_skip rfl rfl ?_
          refine WL_skip rfl rfl ?_
          refine WL_skip rfl rfl ?_
          refine WL_step rfl rfl (r_pickT rfl rfl) ?_
          refine WL_step rfl rfl (r_move rfl) ?_
          refine WL_skip rfl rfl ?_
          refine WL_skip rfl rfl ?_
          refine WL_skip rfl rfl ?_
          refine WL_step rfl rfl (r_pickT rfl rfl) ?_
          refine WL_nil ?_
          refine thn_nrm (_hK_83 _ _ ?_)
          clear _hK_83
          refine W_condT rfl ?_
          refine W_seq fun _K_88 _hK_88 => ?_
          refine W_region ?_
          refine WL_step rfl rfl (r_assign rfl) ?_
          refine WL_nil ?_
          refine thn_nrm (_hK_88 _ _ ?_)
          clear _hK_88
          refine W_ret (thn_ret ?_)
          clear _hK_82
          exact ret_intro [_] ⟨rfl, trivial⟩ ⟨congrArg Value.bool (by first | rfl | (exfalso; omega) | (exfalso; simp_all; done) | (simp_all; done)), E⟩
        · have _kb_87 := _h66
          have _h66 := bf_d _h66
          refine WL_step rfl rfl (r_fieldAddr fa67_0 rfl) ?_
          have _f_89 := ((((((((_f_55.ch0 _cw_50).ch0 _cw_53).ch0 _cw_58).ch0 _cw_61).ch0 _cw_65).ch0 _cw_68).ch0 _cw_74).ch0 _cw_79)
          refine WL_step rfl rfl (r_loadAt _f_89.at_ agg65 rfl rfl) ?_
          refine WL_step rfl rfl (r_len (by rw [el65]; rfl) rfl) ?_
          refine WL_step rfl rfl (r_fieldAddr fa67_0 rfl) ?_
          refine WL_step rfl rfl (r_loadAt _f_85.at_ agg65 rfl rfl) ?_
          refine WL_step rfl rfl (r_len (by rw [el65]; rfl) rfl) ?_
          refine WL_step rfl rfl (r_fieldAddr fa67_0 rfl) ?_
          refine WL_step rfl rfl (r_loadAt _f_86.at_ agg65 rfl rfl) ?_
          refine WL_step rfl rfl (r_len (by rw [el65]; rfl) rfl) ?_
          refine WL_step rfl rfl (r_add (by omega) rfl rfl) ?_
          refine WL_step rfl rfl (r_add (by omega) rfl rfl) ?_
          refine WL_step rfl rfl (r_gtr rfl rfl) ?_
          refine WL_step rfl rfl (r_pickF rfl rfl) ?_
          refine WL_step rfl rfl (r_move rfl) ?_
          refine WL_split (d := 80) rfl (fun _h80 => ?_) (fun _h80 => ?_)
          · have _kb_90 := _h80
            have _h80 := bt_d _h80
            refine WL_skip rfl rfl ?_
            refine WL_skip rfl rfl ?_
            refine WL_skip rfl rfl ?_
            refine WL_step rfl rfl (r_pickT rfl rfl) ?_
            refine WL_step rfl rfl (r_move rfl) ?_
            refine WL_skip rfl rfl ?_
            refine WL_skip rfl rfl ?_
            refine WL_skip rfl rfl ?_
            refine WL_step rfl rfl (r_pickT rfl rfl) ?_
            refine WL_step rfl rfl (r_move rfl) ?_
            refine WL_skip rfl rfl ?_
            refine WL_skip rfl rfl ?_
            refine WL_skip rfl rfl ?_
            refine WL_step rfl rfl (r_pickT rfl rfl) ?_
            refine WL_nil ?_
            refine thn_nrm (_hK_83 _ _ ?_)
            clear _hK_83
            refine W_condT rfl ?_
            refine W_seq fun _K_91 _hK_91 => ?_
            refine W_region ?_
            refine WL_step rfl rfl (r_assign rfl) ?_
            refine WL_nil ?_
            refine thn_nrm (_hK_91 _ _ ?_)
            clear _hK_91
            refine W_ret (thn_ret ?_)
            clear _hK_82
            exact ret_intro [_] ⟨rfl, trivial⟩ ⟨congrArg Value.bool (by first | rfl | (exfalso; omega) | (exfalso; simp_all; done) | (simp_all; done)), E⟩
          · have _kb_90 := _h80
            have _h80 := bf_d _h80
            refine WL_step rfl rfl (r_loadAtA0 _f_84.at_ agg67 sz67 rfl) ?_
            refine WL_s rfl rfl ?_
            have _f_92 := (((((((_f_52.ch0 _cw_53).ch0 _cw_58).ch0 _cw_61).ch0 _cw_65).ch0 _cw_68).ch0 _cw_74).ch0 _cw_79)
            refine Step.call (r_call (xs := [.tmp 81]) fk53 rfl) (c_impl_IsExpr _f_92.ls (by omega)) fun _v82 _w_93 _q82 => ?_
            replace _q82 : _v82 = .bool (true) ∧ _ := ⟨_q82.1.trans (congrArg Value.bool (cat_isE _h49 _h53)), _q82.2⟩
            obtain ⟨rfl, _cw_93⟩ := _q82
            have _cw_93z := _cw_93.size
            have E := E.trans _cw_93
            refine WL_step rfl rfl (r_not rfl) ?_
            refine WL_step rfl rfl (r_pickF rfl rfl) ?_
            refine WL_step rfl rfl (r_move rfl) ?_
            have _f_94 := (_f_89.ch0 _cw_93)
            refine WL_step rfl rfl (r_loadAtA0 _f_94.at_ agg67 sz67 rfl) ?_
            refine WL_s rfl rfl ?_
            have _f_95 := ((((((_f_60.ch0 _cw_61).ch0 _cw_65).ch0 _cw_68).ch0 _cw_74).ch0 _cw_79).ch0 _cw_93)
            refine Step.call (r_call (xs := [.tmp 86]) fk53 rfl) (c_impl_IsExpr _f_95.ls (by omega)) fun _v87 _w_96 _q87 => ?_
            replace _q87 : _v87 = .bool (true) ∧ _ := ⟨_q87.1.trans (congrArg Value.bool (uni_isE _h49 _h53)), _q87.2⟩
            obtain ⟨rfl, _cw_96⟩ := _q87
            have _cw_96z := _cw_96.size
            have E := E.trans _cw_96
            refine WL_step rfl rfl (r_not rfl) ?_
            refine WL_step rfl rfl (r_pickF rfl rfl) ?_
            refine WL_step rfl rfl (r_move rfl) ?_
            have _f_97 := ((((((((((_f_63.ch0 _cw_50).ch0 _cw_53).ch0 _cw_58).ch0 _cw_61).ch0 _cw_65).ch0 _cw_68).ch0 _cw_74).ch0 _cw_79).ch0 _cw_93).ch0 _cw_96)
            refine WL_step rfl rfl (r_loadAtA0 _f_97.at_ agg67 sz67 rfl) ?_
            refine WL_s rfl rfl ?_
            have _f_98 := (((((_f_67.ch0 _cw_68).ch0 _cw_74).ch0 _cw_79).ch0 _cw_93).ch0 _cw_96)
            refine Step.call (r_call (xs := [.tmp 91]) fk53 rfl) (c_impl_IsExpr _f_98.ls (by omega)) fun _v92 _w_99 _q92 => ?_
            replace _q92 : _v92 = .bool (true) ∧ _ := ⟨_q92.1.trans (congrArg Value.bool (star_isE _h49)), _q92.2⟩
            obtain ⟨rfl, _cw_99⟩ := _q92
            have _cw_99z := _cw_99.size
            have E := E.trans _cw_99
            refine WL_step rfl rfl (r_not rfl) ?_
            refine WL_step rfl rfl (r_pickF rfl rfl) ?_
            refine WL_nil ?_
            refine thn_nrm (_hK_83 _ _ ?_)
            clear _hK_83
            refine W_condF rfl ?_
            refine W_skip ?_
            refine thn_nrm (_hK_82 _ _ ?_)
            clear _hK_82
            refine W_seq fun _K_100 _hK_100 => ?_
            refine W_seq fun _K_101 _hK_101 => ?_
            refine W_drawC [] 25 mixed rfl fun _w_102 _cw_102 => ?_
            have _cw_102z := _cw_102.size
            have E := E.trans _cw_102
            have _f_103 := ((((_f_84.ch0 _cw_93).ch0 _cw_96).ch0 _cw_99).ch0 _cw_102)
            refine DR_s 0 rfl (by kernel_rfl) rfl rfl (t_loadAtA0 _f_103.at_ (fun i hi => absurd hi List.not_mem_nil) agg67 sz67 rfl ?_)
            have _f_104 := ((((_f_85.ch0 _cw_93).ch0 _cw_96).ch0 _cw_99).ch0 _cw_102)
            refine DR_s 2 rfl (by kernel_rfl) rfl rfl (t_loadAtA0 _f_104.at_ (fun i hi => absurd hi List.not_mem_nil) agg67 sz67 rfl ?_)
            refine DR_one 1 (by kernel_rfl) ?_
            refine DO_s rfl rfl rfl ?_
            have _f_105 := ((((_f_92.ch0 _cw_93).ch0 _cw_96).ch0 _cw_99).ch0 _cw_102)
            refine Step.call (r_call (xs := [.tmp 95]) fk54 rfl) (c_impl_Nullable _f_105.ls (by omega)) fun _v96 _w_106 _q96 => ?_
            replace _q96 : _v96 = .bool ((nullE x14q0 && nullE x14q1)) ∧ _ := ⟨_q96.1.trans (congrArg Value.bool (cat_null _h49 _h53)), _q96.2⟩
            obtain ⟨rfl, _cw_106⟩ := _q96
            have _cw_106z := _cw_106.size
            have E := E.trans _cw_106
            have _S_107 : Ch [] _w_102 _w_106 := ((Ch.refl _ _).trans _cw_106)
            refine ⟨_S_107, ?_⟩
            refine DR_one 3 (by kernel_rfl) ?_
            refine DO_s rfl rfl rfl ?_
            have _f_108 := (((((((_f_73.ch0 _cw_74).ch0 _cw_79).ch0 _cw_93).ch0 _cw_96).ch0 _cw_99).ch0 _cw_102).ch0 _cw_106)
            refine Step.call (r_call (xs := [.tmp 97]) fk55 rfl) (c_spec_Nullable _f_108.ls ) fun _v98 _w_109 _q98 => ?_
            obtain ⟨rfl, _cw_109⟩ := _q98
            have _cw_109z := _cw_109.size
            have E := E.trans _cw_109
            have _S_110 : Ch [] _w_102 _w_109 := (_S_107.trans _cw_109)
            refine ⟨_S_110, ?_⟩
            refine DR_s 4 rfl (by kernel_rfl) rfl rfl (t_v (fun _ => (r_move rfl)) ?_)
            refine DR_split (d := 99) rfl (fun _h99 => ?_) (fun _h99 => ?_)
            · have _kb_111 := _h99
              have _f_112 := ((((_f_86.ch0 _cw_93).ch0 _cw_96).ch0 _cw_99).ch0 _cw_102)
              refine DR_s 5 rfl (by kernel_rfl) rfl rfl (t_loadAtA0 _f_112.at_ (fun i hi => absurd hi List.not_mem_nil) agg67 sz67 rfl ?_)
              refine DR_one 6 (by kernel_rfl) ?_
              refine DO_s rfl rfl rfl ?_
              have _f_113 := (((((((_f_78.ch0 _cw_79).ch0 _cw_93).ch0 _cw_96).ch0 _cw_99).ch0 _cw_102).ch0 _cw_106).ch0 _cw_109)
              refine Step.call (r_call (xs := [.tmp 100]) fk55 rfl) (c_spec_Nullable _f_113.ls ) fun _v101 _w_114 _q101 => ?_
              obtain ⟨rfl, _cw_114⟩ := _q101
              have _cw_114z := _cw_114.size
              have E := E.trans _cw_114
              have _S_115 : Ch [] _w_102 _w_114 := (_S_110.trans _cw_114)
              refine ⟨_S_115, ?_⟩
              refine DR_s 7 rfl (by kernel_rfl) rfl rfl (t_v (fun _ => (r_pickT rfl rfl)) ?_)
              refine DR_s 8 rfl (by kernel_rfl) rfl rfl (t_v (fun _ => (r_neqB un4 rfl rfl)) ?_)
              refine DR_s 9 rfl (by kernel_rfl) rfl rfl (t_v (fun _ => (r_move rfl)) ?_)
              refine DR_split (d := 104) rfl (fun _h104 => ?_) (fun _h104 => ?_)
              · have _kb_116 := _h104
                have _h104 := bf_e (bt_n _h104)
                refine DR_skip 10 rfl (by kernel_rfl) rfl rfl ?_
                refine DR_skip 11 rfl (by kernel_rfl) rfl rfl ?_
                refine DR_skip 12 rfl (by kernel_rfl) rfl rfl ?_
                refine DR_skip 13 rfl (by kernel_rfl) rfl rfl ?_
                refine DR_skip 14 rfl (by kernel_rfl) rfl rfl ?_
                refine DR_skip 15 rfl (by kernel_rfl) rfl rfl ?_
                refine DR_skip 16 rfl (by kernel_rfl) rfl rfl ?_
                refine DR_skip 17 rfl (by kernel_rfl) rfl rfl ?_
                refine DR_skip 18 rfl (by kernel_rfl) rfl rfl ?_
                refine DR_s 19 rfl (by kernel_rfl) rfl rfl (t_v (fun _ => (r_pickT rfl rfl)) ?_)
                refine DR_s 20 rfl (by kernel_rfl) rfl rfl (t_v (fun _ => (r_move rfl)) ?_)
                refine DR_skip 21 rfl (by kernel_rfl) rfl rfl ?_
                refine DR_skip 22 rfl (by kernel_rfl) rfl rfl ?_
                refine DR_skip 23 rfl (by kernel_rfl) rfl rfl ?_
                refine DR_s 24 rfl (by kernel_rfl) rfl rfl (t_v (fun _ => (r_pickT rfl rfl)) ?_)
                refine DR_done (by kernel_rfl) ?_
                refine thn_nrm (_hK_101 _ _ ?_)
                clear _hK_101
                refine W_condT rfl ?_
                refine W_seq fun _K_117 _hK_117 => ?_
                refine W_region ?_
                refine WL_step rfl rfl (r_assign rfl) ?_
                refine WL_nil ?_
                refine thn_nrm (_hK_117 _ _ ?_)
                clear _hK_117
                refine W_ret (thn_ret ?_)
                clear _hK_100
                exact ret_intro [_] ⟨rfl, trivial⟩ ⟨congrArg Value.bool (by first | rfl | (exfalso; omega) | (exfalso; simp_all; done) | (simp_all; done)), E⟩
              · have _kb_116 := _h104
                have _h104 := bt_e (bf_n _h104)
                have _f_118 := (((_f_94.ch0 _cw_96).ch0 _cw_99).ch0 _cw_102)
                refine DR_s 10 rfl (by kernel_rfl) rfl rfl (t_loadAtA0 _f_118.at_ (fun i hi => absurd hi List.not_mem_nil) agg67 sz67 rfl ?_)
                refine DR_s 12 rfl (by kernel_rfl) rfl rfl (t_loadAtA0 _f_104.at_ (fun i hi => absurd hi List.not_mem_nil) agg67 sz67 rfl ?_)
                refine DR_one 11 (by kernel_rfl) ?_
                refine DO_s rfl rfl rfl ?_
                have _f_119 := ((((((_f_95.ch0 _cw_96).ch0 _cw_99).ch0 _cw_102).ch0 _cw_106).ch0 _cw_109).ch0 _cw_114)
                refine Step.call (r_call (xs := [.tmp 105]) fk54 rfl) (c_impl_Nullable _f_119.ls (by omega)) fun _v106 _w_120 _q106 => ?_
                replace _q106 : _v106 = .bool ((nullE x14q0 || nullE x14q1)) ∧ _ := ⟨_q106.1.trans (congrArg Value.bool (uni_null _h49 _h53)), _q106.2⟩
                obtain ⟨rfl, _cw_120⟩ := _q106
                have _cw_120z := _cw_120.size
                have E := E.trans _cw_120
                have _S_121 : Ch [] _w_102 _w_120 := (_S_115.trans _cw_120)
                refine ⟨_S_121, ?_⟩
                refine DR_one 13 (by kernel_rfl) ?_
                refine DO_s rfl rfl rfl ?_
                have _f_122 := (((_f_108.ch0 _cw_109).ch0 _cw_114).ch0 _cw_120)
                refine Step.call (r_call (xs := [.tmp 107]) fk55 rfl) (c_spec_Nullable _f_122.ls ) fun _v108 _w_123 _q108 => ?_
                obtain ⟨rfl, _cw_123⟩ := _q108
                have _cw_123z := _cw_123.size
                have E := E.trans _cw_123
                have _S_124 : Ch [] _w_102 _w_123 := (_S_121.trans _cw_123)
                refine ⟨_S_124, ?_⟩
                refine DR_s 14 rfl (by kernel_rfl) rfl rfl (t_v (fun _ => (r_move rfl)) ?_)
                refine DR_splitT (d := 109) rfl _kb_111 ?_
                refine DR_skip 15 rfl (by kernel_rfl) rfl rfl ?_
                refine DR_skip 16 rfl (by kernel_rfl) rfl rfl ?_
                refine DR_s 17 rfl (by kernel_rfl) rfl rfl (t_v (fun _ => (r_pickT rfl rfl)) ?_)
                refine DR_s 18 rfl (by kernel_rfl) rfl rfl (t_v (fun _ => (r_neqB un4 rfl rfl)) ?_)
                refine DR_s 19 rfl (by kernel_rfl) rfl rfl (t_v (fun _ => (r_pickF rfl rfl)) ?_)
                refine DR_s 20 rfl (by kernel_rfl) rfl rfl (t_v (fun _ => (r_move rfl)) ?_)
                refine DR_split (d := 115) rfl (fun _h115 => ?_) (fun _h115 => ?_)
                · have _kb_125 := _h115
                  have _h115 := bf_e (bt_n _h115)
                  refine DR_skip 21 rfl (by kernel_rfl) rfl rfl ?_
                  refine DR_skip 22 rfl (by kernel_rfl) rfl rfl ?_
                  refine DR_skip 23 rfl (by kernel_rfl) rfl rfl ?_
                  refine DR_s 24 rfl (by kernel_rfl) rfl rfl (t_v (fun _ => (r_pickT rfl rfl)) ?_)
                  refine DR_done (by kernel_rfl) ?_
                  refine thn_nrm (_hK_101 _ _ ?_)
                  clear _hK_101
                  refine W_condT rfl ?_
                  refine W_seq fun _K_126 _hK_126 => ?_
                  refine W_region ?_
                  refine WL_step rfl rfl (r_assign rfl) ?_
                  refine WL_nil ?_
                  refine thn_nrm (_hK_126 _ _ ?_)
                  clear _hK_126
                  refine W_ret (thn_ret ?_)
                  clear _hK_100
                  exact ret_intro [_] ⟨rfl, trivial⟩ ⟨congrArg Value.bool (by first | rfl | (exfalso; omega) | (exfalso; simp_all; done) | (simp_all; done)), E⟩
                · have _kb_125 := _h115
                  have _h115 := bt_e (bf_n _h115)
                  have _f_127 := ((_f_97.ch0 _cw_99).ch0 _cw_102)
                  refine DR_s 21 rfl (by kernel_rfl) rfl rfl (t_loadAtA0 _f_127.at_ (fun i hi => absurd hi List.not_mem_nil) agg67 sz67 rfl ?_)
                  refine DR_one 22 (by kernel_rfl) ?_
                  refine DO_s rfl rfl rfl ?_
                  have _f_128 := (((((((_f_98.ch0 _cw_99).ch0 _cw_102).ch0 _cw_106).ch0 _cw_109).ch0 _cw_114).ch0 _cw_120).ch0 _cw_123)
                  refine Step.call (r_call (xs := [.tmp 116]) fk54 rfl) (c_impl_Nullable _f_128.ls (by omega)) fun _v117 _w_129 _q117 => ?_
                  replace _q117 : _v117 = .bool (true) ∧ _ := ⟨_q117.1.trans (congrArg Value.bool (star_null _h49)), _q117.2⟩
                  obtain ⟨rfl, _cw_129⟩ := _q117
                  have _cw_129z := _cw_129.size
                  have E := E.trans _cw_129
                  have _S_130 : Ch [] _w_102 _w_129 := (_S_124.trans _cw_129)
                  refine ⟨_S_130, ?_⟩
                  refine DR_s 23 rfl (by kernel_rfl) rfl rfl (t_v (fun _ => (r_not rfl)) ?_)
                  refine DR_s 24 rfl (by kernel_rfl) rfl rfl (t_v (fun _ => (r_pickF rfl rfl)) ?_)
                  refine DR_done (by kernel_rfl) ?_
                  refine thn_nrm (_hK_101 _ _ ?_)
                  clear _hK_101
                  refine W_condF rfl ?_
                  refine W_skip ?_
                  refine thn_nrm (_hK_100 _ _ ?_)
                  clear _hK_100
                  refine W_seq fun _K_131 _hK_131 => ?_
                  refine W_region ?_
                  refine WL_step rfl rfl (r_move rfl) ?_
                  refine WL_s rfl rfl ?_
                  have _f_132 := (((((((((((((((((((((((((((((((((_f_8.ch0 _cw_9).ch0 _cw_10).ch0 _cw_11).ch _cw_13 (fun i hi => by have _h1 := List.mem_singleton.1 hi; omega)).ch _cw_16 (fun i hi => by have _h1 := List.mem_singleton.1 hi; omega)).ch0 _cw_22).ch0 _cw_23).ch _cw_24 (fun i hi => by have _h1 := List.mem_singleton.1 hi; omega)).ch0 _cw_31).ch0 _cw_32).ch _cw_33 (fun i hi => by have _h1 := List.mem_singleton.1 hi; omega)).ch0 _cw_38).ch0 _cw_39).ch _cw_40 (fun i hi => by have _h1 := List.mem_singleton.1 hi; omega)).ch0 _cw_44).ch0 _cw_50).ch0 _cw_53).ch0 _cw_58).ch0 _cw_61).ch0 _cw_65).ch0 _cw_68).ch0 _cw_74).ch0 _cw_79).ch0 _cw_93).ch0 _cw_96).ch0 _cw_99).ch0 _cw_102).ch0 _cw_106).ch0 _cw_109).ch0 _cw_114).ch0 _cw_120).ch0 _cw_123).ch0 _cw_129)
                  refine Step.call (r_call (xs := [.tmp 121]) fk56 rfl) (c_spec_DrawMatchesWord _f_132 (by omega)) fun _v122 _w_133 _q122 => ?_
                  obtain ⟨x122q0, x122q1, u122d0x0, u122d1, rfl, _q_u122d0x0, _lo_u122d0x0, _q_u122d1, _lo_u122d1, _dj_u122d0x0_u122d1, pt122_0, pt122_1, _cw_133⟩ := _q122
                  have _cw_133z := _cw_133.size
                  have E := E.trans _cw_133
                  obtain ⟨Au122d0x0, Cu122d0x0, eu122d0x0⟩ := _q_u122d0x0.val
                  subst eu122d0x0
                  have lu122d0x0 := _q_u122d0x0.len
                  have _hiu122d0x0 := _q_u122d0x0.lt
                  obtain ⟨Au122d1, Cu122d1, eu122d1⟩ := _q_u122d1.val
                  subst eu122d1
                  have lu122d1 := _q_u122d1.len
                  have _hiu122d1 := _q_u122d1.lt
                  refine WL_step rfl rfl (r_move rfl) ?_
                  refine WL_step rfl rfl (r_extract rfl rfl) ?_
                  refine WL_step rfl rfl (r_extract rfl rfl) ?_
                  refine WL_s rfl rfl ?_
                  refine s_alloc zr67 fun _b8 _w_134 _m8 _cw_134 _e8 => ?_
                  have _cw_134z := _cw_134.size
                  have E := E.trans _cw_134
                  have _z8 := _m8.lt
                  replace _m8 : Blk _w_134 _b8 67 [(.slice none 0 0)] := _m8
                  refine WL_s rfl rfl ?_
                  refine s_storeA (off := 0) 1 _m8 sz67 rfl (us := [(.slice Au122d0x0 (x122q0).length Cu122d0x0)]) rfl rfl rfl rfl fun _w_135 _m_136 _cw_135 => ?_
                  have _cw_135z := _cw_135.size
                  have E := E.step _cw_135 (fun i hi => .inl (by have _h1 := List.mem_singleton.1 hi; omega))
                  replace _m_136 : Blk _w_135 _b8 67 [(.slice Au122d0x0 (x122q0).length Cu122d0x0)] := _m_136
                  refine WL_step rfl rfl (r_assign rfl) ?_
                  refine WL_nil ?_
                  refine thn_nrm (_hK_131 _ _ ?_)
                  clear _hK_131
                  refine W_seq fun _K_137 _hK_137 => ?_
                  refine W_seq fun _K_138 _hK_138 => ?_
                  refine W_region ?_
                  refine WL_step rfl rfl (r_move rfl) ?_
                  refine WL_s rfl rfl ?_
                  have _f_139 := ((_q_u122d1.ch0 _cw_134).ch _cw_135 (fun g hg hm => by have _h0 := List.mem_singleton.1 hm; have _h2 := _lo_u122d1 _ hg; have _h3 := _hiu122d1 _ hg; omega))
                  refine Step.call (r_call (xs := [.tmp 125]) fk57 rfl) (c_spec_IsWord _f_139.ls ) fun _v126 _w_140 _q126 => ?_
                  obtain ⟨rfl, _cw_140⟩ := _q126
                  have _cw_140z := _cw_140.size
                  have E := E.trans _cw_140
                  refine WL_step rfl rfl (r_not rfl) ?_
                  refine WL_step rfl rfl (r_move rfl) ?_
                  refine WL_split (d := 128) rfl (fun _h128 => ?_) (fun _h128 => ?_)
                  · have _kb_141 := _h128
                    have _h128 := bf_t (bt_n _h128)
                    refine WL_skip rfl rfl ?_
                    refine WL_skip rfl rfl ?_
                    refine WL_skip rfl rfl ?_
                    refine WL_step rfl rfl (r_pickT rfl rfl) ?_
                    refine WL_nil ?_
                    refine thn_nrm (_hK_138 _ _ ?_)
                    clear _hK_138
                    refine W_condT rfl ?_
                    refine W_seq fun _K_142 _hK_142 => ?_
                    refine W_region ?_
                    refine WL_step rfl rfl (r_assign rfl) ?_
                    refine WL_nil ?_
                    refine thn_nrm (_hK_142 _ _ ?_)
                    clear _hK_142
                    refine W_ret (thn_ret ?_)
                    clear _hK_137
                    exact ret_intro [_] ⟨rfl, trivial⟩ ⟨congrArg Value.bool (by first | rfl | (exfalso; omega) | (exfalso; simp_all; done) | (simp_all; done)), E⟩
                  · have _kb_141 := _h128
                    have _h128 := bt_t (bf_n _h128)
                    have _f_143 := ((((((((((_f_118.ch0 _cw_106).ch0 _cw_109).ch0 _cw_114).ch0 _cw_120).ch0 _cw_123).ch0 _cw_129).ch0 _cw_133).ch0 _cw_134).ch _cw_135 (fun hm => by have _h1 := List.mem_singleton.1 hm; omega)).ch0 _cw_140)
                    refine WL_step rfl rfl (r_loadAtA0 _f_143.at_ agg67 sz67 rfl) ?_
                    refine WL_s rfl rfl ?_
                    have _f_144 := (((((((_f_119.ch0 _cw_120).ch0 _cw_123).ch0 _cw_129).ch0 _cw_133).ch0 _cw_134).ch _cw_135 (fun g hg hm => by have _h0 := List.mem_singleton.1 hm; have _h2 := _lo22 _ hg; have _h3 := _hiu22 _ hg; omega)).ch0 _cw_140)
                    refine Step.call (r_call (xs := [.tmp 129]) fk52 rfl) (c_spec_IsValidExpr _f_144.ls ) fun _v130 _w_145 _q130 => ?_
                    obtain ⟨rfl, _cw_145⟩ := _q130
                    have _cw_145z := _cw_145.size
                    have E := E.trans _cw_145
                    refine WL_step rfl rfl (r_not rfl) ?_
                    refine WL_step rfl rfl (r_pickF rfl rfl) ?_
                    refine WL_nil ?_
                    refine thn_nrm (_hK_138 _ _ ?_)
                    clear _hK_138
                    refine W_cond rfl (fun _h132 => ?_) (fun _h132 => ?_)
                    · have _kb_146 := _h132
                      have _h132 := bt_n _h132
                      refine W_seq fun _K_147 _hK_147 => ?_
                      refine W_region ?_
                      refine WL_step rfl rfl (r_assign rfl) ?_
                      refine WL_nil ?_
                      refine thn_nrm (_hK_147 _ _ ?_)
                      clear _hK_147
                      refine W_ret (thn_ret ?_)
                      clear _hK_137
                      exact ret_intro [_] ⟨rfl, trivial⟩ ⟨congrArg Value.bool (by first | rfl | (exfalso; omega) | (exfalso; simp_all; done) | (simp_all; done)), E⟩
                    · have _kb_146 := _h132
                      have _h132 := bf_n _h132
                      refine W_skip ?_
                      refine thn_nrm (_hK_137 _ _ ?_)
                      clear _hK_137
                      refine W_seq fun _K_148 _hK_148 => ?_
                      refine W_drawC [] 13 mixed rfl fun _w_149 _cw_149 => ?_
                      have _cw_149z := _cw_149.size
                      have E := E.trans _cw_149
                      have _f_150 := ((_f_143.ch0 _cw_145).ch0 _cw_149)
                      refine DR_s 0 rfl (by kernel_rfl) rfl rfl (t_loadAtA0 _f_150.at_ (fun i hi => absurd hi List.not_mem_nil) agg67 sz67 rfl ?_)
                      refine DR_s 1 rfl (by kernel_rfl) rfl rfl (t_v (fun _ => (r_move rfl)) ?_)
                      have _f_151 := ((((((((((((_f_104.ch0 _cw_106).ch0 _cw_109).ch0 _cw_114).ch0 _cw_120).ch0 _cw_123).ch0 _cw_129).ch0 _cw_133).ch0 _cw_134).ch _cw_135 (fun hm => by have _h1 := List.mem_singleton.1 hm; omega)).ch0 _cw_140).ch0 _cw_145).ch0 _cw_149)
                      refine DR_s 3 rfl (by kernel_rfl) rfl rfl (t_loadAtA0 _f_151.at_ (fun i hi => absurd hi List.not_mem_nil) agg67 sz67 rfl ?_)
                      refine DR_s 4 rfl (by kernel_rfl) rfl rfl (t_v (fun _ => (r_move rfl)) ?_)
                      refine DR_one 2 (by kernel_rfl) ?_
                      refine DO_s rfl rfl rfl ?_
                      have _f_152 := ((_f_144.ch0 _cw_145).ch0 _cw_149)
                      have _f_153 := (((_f_139.ch0 _cw_140).ch0 _cw_145).ch0 _cw_149)
                      refine Step.call (r_call (xs := [.tmp 133, .tmp 134]) fk58 rfl) (c_impl_MatchesWord _f_152.ls _f_153.ls (by omega)) fun _v135 _w_154 _q135 => ?_
                      replace _q135 : _v135 = .bool ((mwE x14q0 x122q1 || mwE x14q1 x122q1)) ∧ _ := ⟨_q135.1.trans (congrArg Value.bool (uni_mw _h49 _h53 _h132 _h128)), _q135.2⟩
                      obtain ⟨rfl, _cw_154⟩ := _q135
                      have _cw_154z := _cw_154.size
                      have E := E.trans _cw_154
                      have _S_155 : Ch [] _w_149 _w_154 := ((Ch.refl _ _).trans _cw_154)
                      refine ⟨_S_155, ?_⟩
                      refine DR_one 5 (by kernel_rfl) ?_
                      refine DO_s rfl rfl rfl ?_
                      have _f_156 := (((((((((_f_122.ch0 _cw_123).ch0 _cw_129).ch0 _cw_133).ch0 _cw_134).ch _cw_135 (fun g hg hm => by have _h0 := List.mem_singleton.1 hm; have _h2 := _lo_u14d0x0 _ hg; have _h3 := _hiu14d0x0 _ hg; omega)).ch0 _cw_140).ch0 _cw_145).ch0 _cw_149).ch0 _cw_154)
                      have _f_157 := (_f_153.ch0 _cw_154)
                      refine Step.call (r_call (xs := [.tmp 136, .tmp 137]) fk59 rfl) (c_spec_MatchesWord _f_156.ls _f_157.ls (by omega)) fun _v138 _w_158 _q138 => ?_
                      obtain ⟨rfl, _cw_158⟩ := _q138
                      have _cw_158z := _cw_158.size
                      have E := E.trans _cw_158
                      have _S_159 : Ch [] _w_149 _w_158 := (_S_155.trans _cw_158)
                      refine ⟨_S_159, ?_⟩
                      refine DR_s 6 rfl (by kernel_rfl) rfl rfl (t_v (fun _ => (r_move rfl)) ?_)
                      refine DR_split (d := 139) rfl (fun _h139 => ?_) (fun _h139 => ?_)
                      · have _kb_160 := _h139
                        refine DR_skip 7 rfl (by kernel_rfl) rfl rfl ?_
                        refine DR_skip 8 rfl (by kernel_rfl) rfl rfl ?_
                        refine DR_skip 9 rfl (by kernel_rfl) rfl rfl ?_
                        refine DR_s 10 rfl (by kernel_rfl) rfl rfl (t_v (fun _ => (r_pickT rfl rfl)) ?_)
                        refine DR_s 11 rfl (by kernel_rfl) rfl rfl (t_v (fun _ => (r_eqlB un4 rfl rfl)) ?_)
                        refine DR_s 12 rfl (by kernel_rfl) rfl rfl (t_v (fun _ => (r_assign rfl)) ?_)
                        refine DR_done (by kernel_rfl) ?_
                        refine thn_nrm (_hK_148 _ _ ?_)
                        clear _hK_148
                        refine W_ret ?_
                        exact ret_intro [_] ⟨rfl, trivial⟩ ⟨congrArg Value.bool (by first | rfl | (exfalso; omega) | (exfalso; simp_all; done) | (simp_all; done)), E⟩
                      · have _kb_160 := _h139
                        have _f_161 := ((((((((((((_f_112.ch0 _cw_106).ch0 _cw_109).ch0 _cw_114).ch0 _cw_120).ch0 _cw_123).ch0 _cw_129).ch0 _cw_133).ch0 _cw_134).ch _cw_135 (fun hm => by have _h1 := List.mem_singleton.1 hm; omega)).ch0 _cw_140).ch0 _cw_145).ch0 _cw_149)
                        refine DR_s 7 rfl (by kernel_rfl) rfl rfl (t_loadAtA0 _f_161.at_ (fun i hi => absurd hi List.not_mem_nil) agg67 sz67 rfl ?_)
                        refine DR_s 8 rfl (by kernel_rfl) rfl rfl (t_v (fun _ => (r_move rfl)) ?_)
                        refine DR_one 9 (by kernel_rfl) ?_
                        refine DO_s rfl rfl rfl ?_
                        have _f_162 := ((((((((((((_f_113.ch0 _cw_114).ch0 _cw_120).ch0 _cw_123).ch0 _cw_129).ch0 _cw_133).ch0 _cw_134).ch _cw_135 (fun g hg hm => by have _h0 := List.mem_singleton.1 hm; have _h2 := _lo_u14d1x0 _ hg; have _h3 := _hiu14d1x0 _ hg; omega)).ch0 _cw_140).ch0 _cw_145).ch0 _cw_149).ch0 _cw_154).ch0 _cw_158)
                        have _f_163 := (_f_157.ch0 _cw_158)
                        refine Step.call (r_call (xs := [.tmp 140, .tmp 141]) fk59 rfl) (c_spec_MatchesWord _f_162.ls _f_163.ls (by omega)) fun _v142 _w_164 _q142 => ?_
                        obtain ⟨rfl, _cw_164⟩ := _q142
                        have _cw_164z := _cw_164.size
                        have E := E.trans _cw_164
                        have _S_165 : Ch [] _w_149 _w_164 := (_S_159.trans _cw_164)
                        refine ⟨_S_165, ?_⟩
                        refine DR_s 10 rfl (by kernel_rfl) rfl rfl (t_v (fun _ => (r_pickF rfl rfl)) ?_)
                        refine DR_s 11 rfl (by kernel_rfl) rfl rfl (t_v (fun _ => (r_eqlB un4 rfl rfl)) ?_)
                        refine DR_s 12 rfl (by kernel_rfl) rfl rfl (t_v (fun _ => (r_assign rfl)) ?_)
                        refine DR_done (by kernel_rfl) ?_
                        refine thn_nrm (_hK_148 _ _ ?_)
                        clear _hK_148
                        refine W_ret ?_
                        exact ret_intro [_] ⟨rfl, trivial⟩ ⟨congrArg Value.bool (by first | rfl | (exfalso; omega) | (exfalso; simp_all; done) | (simp_all; done)), E⟩
            · have _kb_111 := _h99
              refine DR_skip 5 rfl (by kernel_rfl) rfl rfl ?_
              refine DR_skip 6 rfl (by kernel_rfl) rfl rfl ?_
              refine DR_s 7 rfl (by kernel_rfl) rfl rfl (t_v (fun _ => (r_pickF rfl rfl)) ?_)
              refine DR_s 8 rfl (by kernel_rfl) rfl rfl (t_v (fun _ => (r_neqB un4 rfl rfl)) ?_)
              refine DR_s 9 rfl (by kernel_rfl) rfl rfl (t_v (fun _ => (r_move rfl)) ?_)
              refine DR_split (d := 104) rfl (fun _h104 => ?_) (fun _h104 => ?_)
              · have _kb_166 := _h104
                have _h104 := bf_e (bt_n _h104)
                refine DR_skip 10 rfl (by kernel_rfl) rfl rfl ?_
                refine DR_skip 11 rfl (by kernel_rfl) rfl rfl ?_
                refine DR_skip 12 rfl (by kernel_rfl) rfl rfl ?_
                refine DR_skip 13 rfl (by kernel_rfl) rfl rfl ?_
                refine DR_skip 14 rfl (by kernel_rfl) rfl rfl ?_
                refine DR_skip 15 rfl (by kernel_rfl) rfl rfl ?_
                refine DR_skip 16 rfl (by kernel_rfl) rfl rfl ?_
                refine DR_skip 17 rfl (by kernel_rfl) rfl rfl ?_
                refine DR_skip 18 rfl (by kernel_rfl) rfl rfl ?_
                refine DR_s 19 rfl (by kernel_rfl) rfl rfl (t_v (fun _ => (r_pickT rfl rfl)) ?_)
                refine DR_s 20 rfl (by kernel_rfl) rfl rfl (t_v (fun _ => (r_move rfl)) ?_)
                refine DR_skip 21 rfl (by kernel_rfl) rfl rfl ?_
                refine DR_skip 22 rfl (by kernel_rfl) rfl rfl ?_
                refine DR_skip 23 rfl (by kernel_rfl) rfl rfl ?_
                refine DR_s 24 rfl (by kernel_rfl) rfl rfl (t_v (fun _ => (r_pickT rfl rfl)) ?_)
                refine DR_done (by kernel_rfl) ?_
                refine thn_nrm (_hK_101 _ _ ?_)
                clear _hK_101
                refine W_condT rfl ?_
                refine W_seq fun _K_167 _hK_167 => ?_
                refine W_region ?_
                refine WL_step rfl rfl (r_assign rfl) ?_
                refine WL_nil ?_
                refine thn_nrm (_hK_167 _ _ ?_)
                clear _hK_167
                refine W_ret (thn_ret ?_)
                clear _hK_100
                exact ret_intro [_] ⟨rfl, trivial⟩ ⟨congrArg Value.bool (by first | rfl | (exfalso; omega) | (exfalso; simp_all; done) | (simp_all; done)), E⟩
              · have _kb_166 := _h104
                have _h104 := bt_e (bf_n _h104)
                have _f_168 := (((_f_94.ch0 _cw_96).ch0 _cw_99).ch0 _cw_102)
                refine DR_s 10 rfl (by kernel_rfl) rfl rfl (t_loadAtA0 _f_168.at_ (fun i hi => absurd hi List.not_mem_nil) agg67 sz67 rfl ?_)
                refine DR_s 12 rfl (by kernel_rfl) rfl rfl (t_loadAtA0 _f_104.at_ (fun i hi => absurd hi List.not_mem_nil) agg67 sz67 rfl ?_)
                refine DR_one 11 (by kernel_rfl) ?_
                refine DO_s rfl rfl rfl ?_
                have _f_169 := (((((_f_95.ch0 _cw_96).ch0 _cw_99).ch0 _cw_102).ch0 _cw_106).ch0 _cw_109)
                refine Step.call (r_call (xs := [.tmp 105]) fk54 rfl) (c_impl_Nullable _f_169.ls (by omega)) fun _v106 _w_170 _q106 => ?_
                replace _q106 : _v106 = .bool ((nullE x14q0 || nullE x14q1)) ∧ _ := ⟨_q106.1.trans (congrArg Value.bool (uni_null _h49 _h53)), _q106.2⟩
                obtain ⟨rfl, _cw_170⟩ := _q106
                have _cw_170z := _cw_170.size
                have E := E.trans _cw_170
                have _S_171 : Ch [] _w_102 _w_170 := (_S_110.trans _cw_170)
                refine ⟨_S_171, ?_⟩
                refine DR_one 13 (by kernel_rfl) ?_
                refine DO_s rfl rfl rfl ?_
                have _f_172 := ((_f_108.ch0 _cw_109).ch0 _cw_170)
                refine Step.call (r_call (xs := [.tmp 107]) fk55 rfl) (c_spec_Nullable _f_172.ls ) fun _v108 _w_173 _q108 => ?_
                obtain ⟨rfl, _cw_173⟩ := _q108
                have _cw_173z := _cw_173.size
                have E := E.trans _cw_173
                have _S_174 : Ch [] _w_102 _w_173 := (_S_171.trans _cw_173)
                refine ⟨_S_174, ?_⟩
                refine DR_s 14 rfl (by kernel_rfl) rfl rfl (t_v (fun _ => (r_move rfl)) ?_)
                refine DR_splitF (d := 109) rfl _kb_111 ?_
                have _f_175 := ((((_f_86.ch0 _cw_93).ch0 _cw_96).ch0 _cw_99).ch0 _cw_102)
                refine DR_s 15 rfl (by kernel_rfl) rfl rfl (t_loadAtA0 _f_175.at_ (fun i hi => absurd hi List.not_mem_nil) agg67 sz67 rfl ?_)
                refine DR_one 16 (by kernel_rfl) ?_
                refine DO_s rfl rfl rfl ?_
                have _f_176 := (((((((((_f_78.ch0 _cw_79).ch0 _cw_93).ch0 _cw_96).ch0 _cw_99).ch0 _cw_102).ch0 _cw_106).ch0 _cw_109).ch0 _cw_170).ch0 _cw_173)
                refine Step.call (r_call (xs := [.tmp 110]) fk55 rfl) (c_spec_Nullable _f_176.ls ) fun _v111 _w_177 _q111 => ?_
                obtain ⟨rfl, _cw_177⟩ := _q111
                have _cw_177z := _cw_177.size
                have E := E.trans _cw_177
                have _S_178 : Ch [] _w_102 _w_177 := (_S_174.trans _cw_177)
                refine ⟨_S_178, ?_⟩
                refine DR_s 17 rfl (by kernel_rfl) rfl rfl (t_v (fun _ => (r_pickF rfl rfl)) ?_)
                refine DR_s 18 rfl (by kernel_rfl) rfl rfl (t_v (fun _ => (r_neqB un4 rfl rfl)) ?_)
                refine DR_s 19 rfl (by kernel_rfl) rfl rfl (t_v (fun _ => (r_pickF rfl rfl)) ?_)
                refine DR_s 20 rfl (by kernel_rfl) rfl rfl (t_v (fun _ => (r_move rfl)) ?_)
                refine DR_split (d := 115) rfl (fun _h115 => ?_) (fun _h115 => ?_)
                · have _kb_179 := _h115
                  have _h115 := bf_e (bt_n _h115)
                  refine DR_skip 21 rfl (by kernel_rfl) rfl rfl ?_
                  refine DR_skip 22 rfl (by kernel_rfl) rfl rfl ?_
                  refine DR_skip 23 rfl (by kernel_rfl) rfl rfl ?_
                  refine DR_s 24 rfl (by kernel_rfl) rfl rfl (t_v (fun _ => (r_pickT rfl rfl)) ?_)
                  refine DR_done (by kernel_rfl) ?_
                  refine thn_nrm (_hK_101 _ _ ?_)
                  clear _hK_101
                  refine W_condT rfl ?_
                  refine W_seq fun _K_180 _hK_180 => ?_
                  refine W_region ?_
                  refine WL_step rfl rfl (r_assign rfl) ?_
                  refine WL_nil ?_
                  refine thn_nrm (_hK_180 _ _ ?_)
                  clear _hK_180
                  refine W_ret (thn_ret ?_)
                  clear _hK_100
                  exact ret_intro [_] ⟨rfl, trivial⟩ ⟨congrArg Value.bool (by first | rfl | (exfalso; omega) | (exfalso; simp_all; done) | (simp_all; done)), E⟩
                · have _kb_179 := _h115
                  have _h115 := bt_e (bf_n _h115)
                  have _f_181 := ((_f_97.ch0 _cw_99).ch0 _cw_102)
                  refine DR_s 21 rfl (by kernel_rfl) rfl rfl (t_loadAtA0 _f_181.at_ (fun i hi => absurd hi List.not_mem_nil) agg67 sz67 rfl ?_)
                  refine DR_one 22 (by kernel_rfl) ?_
                  refine DO_s rfl rfl rfl ?_
                  have _f_182 := (((((((_f_98.ch0 _cw_99).ch0 _cw_102).ch0 _cw_106).ch0 _cw_109).ch0 _cw_170).ch0 _cw_173).ch0 _cw_177)
                  refine Step.call (r_call (xs := [.tmp 116]) fk54 rfl) (c_impl_Nullable _f_182.ls (by omega)) fun _v117 _w_183 _q117 => ?_
                  replace _q117 : _v117 = .bool (true) ∧ _ := ⟨_q117.1.trans (congrArg Value.bool (star_null _h49)), _q117.2⟩
                  obtain ⟨rfl, _cw_183⟩ := _q117
                  have _cw_183z := _cw_183.size
                  have E := E.trans _cw_183
                  have _S_184 : Ch [] _w_102 _w_183 := (_S_178.trans _cw_183)
                  refine ⟨_S_184, ?_⟩
                  refine DR_s 23 rfl (by kernel_rfl) rfl rfl (t_v (fun _ => (r_not rfl)) ?_)
                  refine DR_s 24 rfl (by kernel_rfl) rfl rfl (t_v (fun _ => (r_pickF rfl rfl)) ?_)
                  refine DR_done (by kernel_rfl) ?_
                  refine thn_nrm (_hK_101 _ _ ?_)
                  clear _hK_101
                  refine W_condF rfl ?_
                  refine W_skip ?_
                  refine thn_nrm (_hK_100 _ _ ?_)
                  clear _hK_100
                  refine W_seq fun _K_185 _hK_185 => ?_
                  refine W_region ?_
                  refine WL_step rfl rfl (r_move rfl) ?_
                  refine WL_s rfl rfl ?_
                  have _f_186 := (((((((((((((((((((((((((((((((((_f_8.ch0 _cw_9).ch0 _cw_10).ch0 _cw_11).ch _cw_13 (fun i hi => by have _h1 := List.mem_singleton.1 hi; omega)).ch _cw_16 (fun i hi => by have _h1 := List.mem_singleton.1 hi; omega)).ch0 _cw_22).ch0 _cw_23).ch _cw_24 (fun i hi => by have _h1 := List.mem_singleton.1 hi; omega)).ch0 _cw_31).ch0 _cw_32).ch _cw_33 (fun i hi => by have _h1 := List.mem_singleton.1 hi; omega)).ch0 _cw_38).ch0 _cw_39).ch _cw_40 (fun i hi => by have _h1 := List.mem_singleton.1 hi; omega)).ch0 _cw_44).ch0 _cw_50).ch0 _cw_53).ch0 _cw_58).ch0 _cw_61).ch0 _cw_65).ch0 _cw_68).ch0 _cw_74).ch0 _cw_79).ch0 _cw_93).ch0 _cw_96).ch0 _cw_99).ch0 _cw_102).ch0 _cw_106).ch0 _cw_109).ch0 _cw_170).ch0 _cw_173).ch0 _cw_177).ch0 _cw_183)
                  refine Step.call (r_call (xs := [.tmp 121]) fk56 rfl) (c_spec_DrawMatchesWord _f_186 (by omega)) fun _v122 _w_187 _q122 => ?_
                  obtain ⟨x122q0, x122q1, u122d0x0, u122d1, rfl, _q_u122d0x0, _lo_u122d0x0, _q_u122d1, _lo_u122d1, _dj_u122d0x0_u122d1, pt122_0, pt122_1, _cw_187⟩ := _q122
                  have _cw_187z := _cw_187.size
                  have E := E.trans _cw_187
                  obtain ⟨Au122d0x0, Cu122d0x0, eu122d0x0⟩ := _q_u122d0x0.val
                  subst eu122d0x0
                  have lu122d0x0 := _q_u122d0x0.len
                  have _hiu122d0x0 := _q_u122d0x0.lt
                  obtain ⟨Au122d1, Cu122d1, eu122d1⟩ := _q_u122d1.val
                  subst eu122d1
                  have lu122d1 := _q_u122d1.len
                  have _hiu122d1 := _q_u122d1.lt
                  refine WL_step rfl rfl (r_move rfl) ?_
                  refine WL_step rfl rfl (r_extract rfl rfl) ?_
                  refine WL_step rfl rfl (r_extract rfl rfl) ?_
                  refine WL_s rfl rfl ?_
                  refine s_alloc zr67 fun _b8 _w_188 _m8 _cw_188 _e8 => ?_
                  have _cw_188z := _cw_188.size
                  have E := E.trans _cw_188
                  have _z8 := _m8.lt
                  replace _m8 : Blk _w_188 _b8 67 [(.slice none 0 0)] := _m8
                  refine WL_s rfl rfl ?_
                  refine s_storeA (off := 0) 1 _m8 sz67 rfl (us := [(.slice Au122d0x0 (x122q0).length Cu122d0x0)]) rfl rfl rfl rfl fun _w_189 _m_190 _cw_189 => ?_
                  have _cw_189z := _cw_189.size
                  have E := E.step _cw_189 (fun i hi => .inl (by have _h1 := List.mem_singleton.1 hi; omega))
                  replace _m_190 : Blk _w_189 _b8 67 [(.slice Au122d0x0 (x122q0).length Cu122d0x0)] := _m_190
                  refine WL_step rfl rfl (r_assign rfl) ?_
                  refine WL_nil ?_
                  refine thn_nrm (_hK_185 _ _ ?_)
                  clear _hK_185
                  refine W_seq fun _K_191 _hK_191 => ?_
                  refine W_seq fun _K_192 _hK_192 => ?_
                  refine W_region ?_
                  refine WL_step rfl rfl (r_move rfl) ?_
                  refine WL_s rfl rfl ?_
                  have _f_193 := ((_q_u122d1.ch0 _cw_188).ch _cw_189 (fun g hg hm => by have _h0 := List.mem_singleton.1 hm; have _h2 := _lo_u122d1 _ hg; have _h3 := _hiu122d1 _ hg; omega))
                  refine Step.call (r_call (xs := [.tmp 125]) fk57 rfl) (c_spec_IsWord _f_193.ls ) fun _v126 _w_194 _q126 => ?_
                  obtain ⟨rfl, _cw_194⟩ := _q126
                  have _cw_194z := _cw_194.size
                  have E := E.trans _cw_194
                  refine WL_step rfl rfl (r_not rfl) ?_
                  refine WL_step rfl rfl (r_move rfl) ?_
                  refine WL_split (d := 128) rfl (fun _h128 => ?_) (fun _h128 => ?_)
                  · have _kb_195 := _h128
                    have _h128 := bf_t (bt_n _h128)
                    refine WL_skip rfl rfl ?_
                    refine WL_skip rfl rfl ?_
                    refine WL_skip rfl rfl ?_
                    refine WL_step rfl rfl (r_pickT rfl rfl) ?_
                    refine WL_nil ?_
                    refine thn_nrm (_hK_192 _ _ ?_)
                    clear _hK_192
                    refine W_condT rfl ?_
                    refine W_seq fun _K_196 _hK_196 => ?_
                    refine W_region ?_
                    refine WL_step rfl rfl (r_assign rfl) ?_
                    refine WL_nil ?_
                    refine thn_nrm (_hK_196 _ _ ?_)
                    clear _hK_196
                    refine W_ret (thn_ret ?_)
                    clear _hK_191
                    exact ret_intro [_] ⟨rfl, trivial⟩ ⟨congrArg Value.bool (by first | rfl | (exfalso; omega) | (exfalso; simp_all; done) | (simp_all; done)), E⟩
                  · have _kb_195 := _h128
                    have _h128 := bt_t (bf_n _h128)
                    have _f_197 := ((((((((((_f_168.ch0 _cw_106).ch0 _cw_109).ch0 _cw_170).ch0 _cw_173).ch0 _cw_177).ch0 _cw_183).ch0 _cw_187).ch0 _cw_188).ch _cw_189 (fun hm => by have _h1 := List.mem_singleton.1 hm; omega)).ch0 _cw_194)
                    refine WL_step rfl rfl (r_loadAtA0 _f_197.at_ agg67 sz67 rfl) ?_
                    refine WL_s rfl rfl ?_
                    have _f_198 := ((((((((_f_169.ch0 _cw_170).ch0 _cw_173).ch0 _cw_177).ch0 _cw_183).ch0 _cw_187).ch0 _cw_188).ch _cw_189 (fun g hg hm => by have _h0 := List.mem_singleton.1 hm; have _h2 := _lo22 _ hg; have _h3 := _hiu22 _ hg; omega)).ch0 _cw_194)
                    refine Step.call (r_call (xs := [.tmp 129]) fk52 rfl) (c_spec_IsValidExpr _f_198.ls ) fun _v130 _w_199 _q130 => ?_
                    obtain ⟨rfl, _cw_199⟩ := _q130
                    have _cw_199z := _cw_199.size
                    have E := E.trans _cw_199
                    refine WL_step rfl rfl (r_not rfl) ?_
                    refine WL_step rfl rfl (r_pickF rfl rfl) ?_
                    refine WL_nil ?_
                    refine thn_nrm (_hK_192 _ _ ?_)
                    clear _hK_192
                    refine W_cond rfl (fun _h132 => ?_) (fun _h132 => ?_)
                    · have _kb_200 := _h132
                      have _h132 := bt_n _h132
                      refine W_seq fun _K_201 _hK_201 => ?_
                      refine W_region ?_
                      refine WL_step rfl rfl (r_assign rfl) ?_
                      refine WL_nil ?_
                      refine thn_nrm (_hK_201 _ _ ?_)
                      clear _hK_201
                      refine W_ret (thn_ret ?_)
                      clear _hK_191
                      exact ret_intro [_] ⟨rfl, trivial⟩ ⟨congrArg Value.bool (by first | rfl | (exfalso; omega) | (exfalso; simp_all; done) | (simp_all; done)), E⟩
                    · have _kb_200 := _h132
                      have _h132 := bf_n _h132
                      refine W_skip ?_
                      refine thn_nrm (_hK_191 _ _ ?_)
                      clear _hK_191
                      refine W_seq fun _K_202 _hK_202 => ?_
                      refine W_drawC [] 13 mixed rfl fun _w_203 _cw_203 => ?_
                      have _cw_203z := _cw_203.size
                      have E := E.trans _cw_203
                      have _f_204 := ((_f_197.ch0 _cw_199).ch0 _cw_203)
                      refine DR_s 0 rfl (by kernel_rfl) rfl rfl (t_loadAtA0 _f_204.at_ (fun i hi => absurd hi List.not_mem_nil) agg67 sz67 rfl ?_)
                      refine DR_s 1 rfl (by kernel_rfl) rfl rfl (t_v (fun _ => (r_move rfl)) ?_)
                      have _f_205 := ((((((((((((_f_104.ch0 _cw_106).ch0 _cw_109).ch0 _cw_170).ch0 _cw_173).ch0 _cw_177).ch0 _cw_183).ch0 _cw_187).ch0 _cw_188).ch _cw_189 (fun hm => by have _h1 := List.mem_singleton.1 hm; omega)).ch0 _cw_194).ch0 _cw_199).ch0 _cw_203)
                      refine DR_s 3 rfl (by kernel_rfl) rfl rfl (t_loadAtA0 _f_205.at_ (fun i hi => absurd hi List.not_mem_nil) agg67 sz67 rfl ?_)
                      refine DR_s 4 rfl (by kernel_rfl) rfl rfl (t_v (fun _ => (r_move rfl)) ?_)
                      refine DR_one 2 (by kernel_rfl) ?_
                      refine DO_s rfl rfl rfl ?_
                      have _f_206 := ((_f_198.ch0 _cw_199).ch0 _cw_203)
                      have _f_207 := (((_f_193.ch0 _cw_194).ch0 _cw_199).ch0 _cw_203)
                      refine Step.call (r_call (xs := [.tmp 133, .tmp 134]) fk58 rfl) (c_impl_MatchesWord _f_206.ls _f_207.ls (by omega)) fun _v135 _w_208 _q135 => ?_
                      replace _q135 : _v135 = .bool ((mwE x14q0 x122q1 || mwE x14q1 x122q1)) ∧ _ := ⟨_q135.1.trans (congrArg Value.bool (uni_mw _h49 _h53 _h132 _h128)), _q135.2⟩
                      obtain ⟨rfl, _cw_208⟩ := _q135
                      have _cw_208z := _cw_208.size
                      have E := E.trans _cw_208
                      have _S_209 : Ch [] _w_203 _w_208 := ((Ch.refl _ _).trans _cw_208)
                      refine ⟨_S_209, ?_⟩
                      refine DR_one 5 (by kernel_rfl) ?_
                      refine DO_s rfl rfl rfl ?_
                      have _f_210 := ((((((((((_f_172.ch0 _cw_173).ch0 _cw_177).ch0 _cw_183).ch0 _cw_187).ch0 _cw_188).ch _cw_189 (fun g hg hm => by have _h0 := List.mem_singleton.1 hm; have _h2 := _lo_u14d0x0 _ hg; have _h3 := _hiu14d0x0 _ hg; omega)).ch0 _cw_194).ch0 _cw_199).ch0 _cw_203).ch0 _cw_208)
                      have _f_211 := (_f_207.ch0 _cw_208)
                      refine Step.call (r_call (xs := [.tmp 136, .tmp 137]) fk59 rfl) (c_spec_MatchesWord _f_210.ls _f_211.ls (by omega)) fun _v138 _w_212 _q138 => ?_
                      obtain ⟨rfl, _cw_212⟩ := _q138
                      have _cw_212z := _cw_212.size
                      have E := E.trans _cw_212
                      have _S_213 : Ch [] _w_203 _w_212 := (_S_209.trans _cw_212)
                      refine ⟨_S_213, ?_⟩
                      refine DR_s 6 rfl (by kernel_rfl) rfl rfl (t_v (fun _ => (r_move rfl)) ?_)
                      refine DR_split (d := 139) rfl (fun _h139 => ?_) (fun _h139 => ?_)
                      · have _kb_214 := _h139
                        refine DR_skip 7 rfl (by kernel_rfl) rfl rfl ?_
                        refine DR_skip 8 rfl (by kernel_rfl) rfl rfl ?_
                        refine DR_skip 9 rfl (by kernel_rfl) rfl rfl ?_
                        refine DR_s 10 rfl (by kernel_rfl) rfl rfl (t_v (fun _ => (r_pickT rfl rfl)) ?_)
                        refine DR_s 11 rfl (by kernel_rfl) rfl rfl (t_v (fun _ => (r_eqlB un4 rfl rfl)) ?_)
                        refine DR_s 12 rfl (by kernel_rfl) rfl rfl (t_v (fun _ => (r_assign rfl)) ?_)
                        refine DR_done (by kernel_rfl) ?_
                        refine thn_nrm (_hK_202 _ _ ?_)
                        clear _hK_202
                        refine W_ret ?_
                        exact ret_intro [_] ⟨rfl, trivial⟩ ⟨congrArg Value.bool (by first | rfl | (exfalso; omega) | (exfalso; simp_all; done) | (simp_all; done)), E⟩
                      · have _kb_214 := _h139
                        have _f_215 := ((((((((((((_f_175.ch0 _cw_106).ch0 _cw_109).ch0 _cw_170).ch0 _cw_173).ch0 _cw_177).ch0 _cw_183).ch0 _cw_187).ch0 _cw_188).ch _cw_189 (fun hm => by have _h1 := List.mem_singleton.1 hm; omega)).ch0 _cw_194).ch0 _cw_199).ch0 _cw_203)
                        refine DR_s 7 rfl (by kernel_rfl) rfl rfl (t_loadAtA0 _f_215.at_ (fun i hi => absurd hi List.not_mem_nil) agg67 sz67 rfl ?_)
                        refine DR_s 8 rfl (by kernel_rfl) rfl rfl (t_v (fun _ => (r_move rfl)) ?_)
                        refine DR_one 9 (by kernel_rfl) ?_
                        refine DO_s rfl rfl rfl ?_
                        have _f_216 := ((((((((((_f_176.ch0 _cw_177).ch0 _cw_183).ch0 _cw_187).ch0 _cw_188).ch _cw_189 (fun g hg hm => by have _h0 := List.mem_singleton.1 hm; have _h2 := _lo_u14d1x0 _ hg; have _h3 := _hiu14d1x0 _ hg; omega)).ch0 _cw_194).ch0 _cw_199).ch0 _cw_203).ch0 _cw_208).ch0 _cw_212)
                        have _f_217 := (_f_211.ch0 _cw_212)
                        refine Step.call (r_call (xs := [.tmp 140, .tmp 141]) fk59 rfl) (c_spec_MatchesWord _f_216.ls _f_217.ls (by omega)) fun _v142 _w_218 _q142 => ?_
                        obtain ⟨rfl, _cw_218⟩ := _q142
                        have _cw_218z := _cw_218.size
                        have E := E.trans _cw_218
                        have _S_219 : Ch [] _w_203 _w_218 := (_S_213.trans _cw_218)
                        refine ⟨_S_219, ?_⟩
                        refine DR_s 10 rfl (by kernel_rfl) rfl rfl (t_v (fun _ => (r_pickF rfl rfl)) ?_)
                        refine DR_s 11 rfl (by kernel_rfl) rfl rfl (t_v (fun _ => (r_eqlB un4 rfl rfl)) ?_)
                        refine DR_s 12 rfl (by kernel_rfl) rfl rfl (t_v (fun _ => (r_assign rfl)) ?_)
                        refine DR_done (by kernel_rfl) ?_
                        refine thn_nrm (_hK_202 _ _ ?_)
                        clear _hK_202
                        refine W_ret ?_
                        exact ret_intro [_] ⟨rfl, trivial⟩ ⟨congrArg Value.bool (by first | rfl | (exfalso; omega) | (exfalso; simp_all; done) | (simp_all; done)), E⟩

end Go.Proofs.Ytholldndjafnpaa
