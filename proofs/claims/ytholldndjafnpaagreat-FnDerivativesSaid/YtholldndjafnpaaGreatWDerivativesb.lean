/- Walks of functions that FnDerivatives reaches: what each returns, and that it leaves the memory that was there alone. -/
import Derived.Test.YtholldndjafnpaaGreatLibA
import Derived.Test.YtholldndjafnpaaGreatLibB
import Derived.Test.YtholldndjafnpaaGreatWDerivatives
import Derived.Test.YtholldndjafnpaaGreatProg
namespace Go.Proofs.YtholldndjafnpaaGreat
open Go.KLib Go.Shelf
set_option maxHeartbeats 1000000
set_option maxRecDepth 20000
set_option linter.unusedVariables false
set_option linter.unusedSimpArgs false
namespace TDerivativesb
theorem agg24 : aggB Tryz.prog 24 = some false := by kernel_rfl
theorem agg26 : aggB Tryz.prog 26 = some true := by kernel_rfl
theorem agg3 : aggB Tryz.prog 3 = some false := by kernel_rfl
theorem agg4 : aggB Tryz.prog 4 = some false := by kernel_rfl
theorem agg46 : aggB Tryz.prog 46 = some false := by kernel_rfl
theorem agg63 : aggB Tryz.prog 63 = some false := by kernel_rfl
theorem agg68 : aggB Tryz.prog 68 = some false := by kernel_rfl
theorem by4 : bytesB Tryz.prog 4 = some 1 := by kernel_rfl
theorem by68 : bytesB Tryz.prog 68 = some 24 := by kernel_rfl
theorem el22 : elB Tryz.prog 22 = some 5 := by kernel_rfl
theorem el24 : elB Tryz.prog 24 = some 52 := by kernel_rfl
theorem el27 : elB Tryz.prog 27 = some 3 := by kernel_rfl
theorem el63 : elB Tryz.prog 63 = some 46 := by kernel_rfl
theorem el68 : elB Tryz.prog 68 = some 4 := by kernel_rfl
theorem el69 : elB Tryz.prog 69 = some 68 := by kernel_rfl
theorem fa26_0 : faB Tryz.prog 26 0 = some 0 := by kernel_rfl
theorem fa52_0 : faB Tryz.prog 52 0 = some 0 := by kernel_rfl
theorem fa52_1 : faB Tryz.prog 52 1 = some 1 := by kernel_rfl
theorem fa52_2 : faB Tryz.prog 52 2 = some 2 := by kernel_rfl
theorem fa52_3 : faB Tryz.prog 52 3 = some 3 := by kernel_rfl
theorem fa67_0 : faB Tryz.prog 67 0 = some 0 := by kernel_rfl
theorem fa67_1 : faB Tryz.prog 67 1 = some 4 := by kernel_rfl
theorem fk15 : fnB Tryz.prog 15 = true := by kernel_rfl
theorem fk23 : fnB Tryz.prog 23 = true := by kernel_rfl
theorem fk24 : fnB Tryz.prog 24 = true := by kernel_rfl
theorem fk25 : fnB Tryz.prog 25 = true := by kernel_rfl
theorem fk26 : fnB Tryz.prog 26 = true := by kernel_rfl
theorem fk28 : fnB Tryz.prog 28 = true := by kernel_rfl
theorem fk29 : fnB Tryz.prog 29 = true := by kernel_rfl
theorem fk33 : fnB Tryz.prog 33 = true := by kernel_rfl
theorem fk35 : fnB Tryz.prog 35 = true := by kernel_rfl
theorem fk36 : fnB Tryz.prog 36 = true := by kernel_rfl
theorem fk45 : fnB Tryz.prog 45 = true := by kernel_rfl
theorem fk51 : fnB Tryz.prog 51 = true := by kernel_rfl
theorem fk54 : fnB Tryz.prog 54 = true := by kernel_rfl
theorem fk55 : fnB Tryz.prog 55 = true := by kernel_rfl
theorem fk56 : fnB Tryz.prog 56 = true := by kernel_rfl
theorem fk57 : fnB Tryz.prog 57 = true := by kernel_rfl
theorem fk58 : fnB Tryz.prog 58 = true := by kernel_rfl
theorem fk72 : fnB Tryz.prog 72 = true := by kernel_rfl
theorem fk73 : fnB Tryz.prog 73 = true := by kernel_rfl
theorem fk74 : fnB Tryz.prog 74 = true := by kernel_rfl
theorem mixed : Tryz.prog.follows .mixedOrders = true := by kernel_rfl
theorem pl26 : placesB Tryz.prog 26 = some [(0, 1)] := by kernel_rfl
theorem ptr46 : ptrB Tryz.prog 46 = true := by kernel_rfl
theorem sz26 : sizeB Tryz.prog 26 = some 1 := by kernel_rfl
theorem sz3 : sizeB Tryz.prog 3 = some 1 := by kernel_rfl
theorem sz4 : sizeB Tryz.prog 4 = some 1 := by kernel_rfl
theorem sz46 : sizeB Tryz.prog 46 = some 1 := by kernel_rfl
theorem sz68 : sizeB Tryz.prog 68 = some 1 := by kernel_rfl
theorem zr26 : zeroB Tryz.prog 26 = some (.agg #[.slice none 0 0]) := by kernel_rfl
theorem zr4 : zeroB Tryz.prog 4 = some (.bool false) := by kernel_rfl
theorem zr68 : zeroB Tryz.prog 68 = some (.slice none 0 0) := by kernel_rfl
end TDerivativesb
open TDerivativesb

/-- impl.tree).derive -/
theorem c_impl_tree_derive_n : ∀ (n : Nat) {w : World} {LT_x _B_x : Nat} {p_x : Addr} {x : Tr} (_h_x : TrAt w LT_x _B_x p_x x) (letter : Int) (hok : Okd x) (hb : x.sz ≤ 400) (hsz : x.sz < n),
    Ctr Tryz.prog 36 #[(.pointer (some p_x)), (.int .i64 letter)] w (fun v w' => ∃ u, v = .agg #[u] ∧ Ol Token.cs 52 4 w' u (derT letter x) ∧ Lo w.heap.size u ∧ Ch [] w w') := by
  intro n
  induction n with
  | zero => intros; omega
  | succ n ih =>
  intro w LT_x _B_x p_x x _h_x letter hok hb hsz
  have _h_x := _h_x.here
  obtain ⟨_A_x, _C_x, _ps_x, _hc_x, _hk_x, _kd_x⟩ := _h_x.open
  have _kl_x := _kd_x.1
  have E := Ch.refl [] w
  have k2 := hok.len; have xl := x.flat_len
  refine Ctr_of_W (N := 118) (vs0 := [(.pointer (some p_x)), (.int .i64 letter)]) Tryz.func36 rfl rfl rfl ?_
  refine W_seq fun _K_1 _hK_1 => ?_
  refine W_region ?_
  refine WL_s rfl rfl ?_
  refine s_alloc zr26 fun _b4 _w_2 _m4 _cw_2 _e4 => ?_
  have _cw_2z := _cw_2.size
  have E := E.trans _cw_2
  have _z4 := _m4.lt
  replace _m4 : Blk _w_2 _b4 26 [(.slice none 0 0)] := _m4
  refine WL_nil ?_
  refine thn_nrm (_hK_1 _ _ ?_)
  clear _hK_1
  refine W_seq fun _K_3 _hK_3 => ?_
  refine W_seq fun _K_4 _hK_4 => ?_
  refine W_region ?_
  refine WL_step rfl rfl (r_move rfl) ?_
  refine WL_step rfl rfl (r_nilCheck rfl) ?_
  refine WL_step rfl rfl (r_fieldAddr fa67_0 rfl) ?_
  refine WL_step rfl rfl (r_fieldAddrN (n := 0) fa52_0 rfl rfl) ?_
  have _f_5 := (_hc_x.ch0 _cw_2)
  refine WL_step rfl rfl (r_loadAt _f_5 agg3 rfl rfl) ?_
  refine WL_nil ?_
  refine thn_nrm (_hK_4 _ _ ?_)
  clear _hK_4
  refine W_block ?_
  refine W_seq fun _K_6 _hK_6 => ?_
  refine W_region ?_
  refine WL_step rfl rfl (r_eql rfl rfl) ?_
  refine WL_step rfl rfl (r_assign rfl) ?_
  refine WL_nil ?_
  refine thn_nrm (_hK_6 _ _ ?_)
  clear _hK_6
  refine W_cond rfl (fun _h14 => ?_) (fun _h14 => ?_)
  · have _kb_7 := _h14
    have _h14 := bt_d _h14
    refine W_seq fun _K_8 _hK_8 => ?_
    refine W_region ?_
    refine WL_step rfl rfl (r_move rfl) ?_
    refine WL_step rfl rfl (r_nilCheck rfl) ?_
    refine WL_step rfl rfl (r_fieldAddr fa67_0 rfl) ?_
    refine WL_step rfl rfl (r_fieldAddrN (n := 1) fa52_1 rfl rfl) ?_
    refine WL_step rfl rfl (r_loadAt _f_5 agg3 rfl rfl) ?_
    refine WL_step rfl rfl (r_move rfl) ?_
    refine WL_step rfl rfl (r_eql rfl rfl) ?_
    refine WL_nil ?_
    refine thn_nrm (_hK_8 _ _ ?_)
    clear _hK_8
    refine W_cond rfl (fun _h22 => ?_) (fun _h22 => ?_)
    · have _kb_9 := _h22
      have _h22 := bt_d _h22
      refine W_seq fun _K_10 _hK_10 => ?_
      refine W_region ?_
      refine WL_s rfl rfl ?_
      refine Step.call (r_call (xs := [.const (Go.Value.int Go.IntKind.i64 2)]) fk54 rfl) (c_impl_single _ ) fun _v23 _w_11 _q23 => ?_
      obtain ⟨_u23, rfl, _q23, _lo23, _cw_11⟩ := _q23
      have _cw_11z := _cw_11.size
      have E := E.trans _cw_11
      obtain ⟨_Au23, _Cu23, _eu23⟩ := _q23.val
      subst _eu23
      have _lu23 := _q23.len
      have _hiu23 := _q23.lt
      refine WL_s rfl rfl ?_
      have _f_12 := (_m4.ch0 _cw_11)
      refine s_storeA (off := 0) 1 _f_12 sz26 rfl (us := [(.slice _Au23 ([(⟨2, 0, 0, 0⟩ : Token)]).length _Cu23)]) rfl rfl rfl rfl fun _w_13 _m_14 _cw_13 => ?_
      have _cw_13z := _cw_13.size
      have E := E.step _cw_13 (fun i hi => .inl (by have _h1 := List.mem_singleton.1 hi; omega))
      replace _m_14 : Blk _w_13 _b4 26 [(.slice _Au23 ([(⟨2, 0, 0, 0⟩ : Token)]).length _Cu23)] := _m_14
      refine WL_nil ?_
      refine thn_nrm (_hK_10 _ _ ?_)
      clear _hK_10
      refine W_ret (inB_ret (thn_ret ?_))
      clear _hK_3
      have _f_16 := (_q23.ch _cw_13 (fun g hg hm => by have _h0 := List.mem_singleton.1 hm; have _h2 := _lo23 _ hg; have _h3 := _hiu23 _ hg; omega))
      have _o_15 : Ol Token.cs 52 4 _w_13 (.slice _Au23 ([(⟨2, 0, 0, 0⟩ : Token)]).length _Cu23) (derT letter x) := by
        have hx := _f_16
        exact hx.eq (by first | exact der3 hok (by omega) (by omega) | exact der0 hok (by omega) (by omega) | exact der4t hok (by omega) _hk0 _hk1 _h45 | exact der4f hok (by omega) _hk0 _hk1 _h45 | exact der5 hok (by omega) _hk0 _hk1 | exact der6 hok (by omega) _hk0 | exact der7 hok (by omega) _hk0)
      exact ret_intro [_] (resOf_loadA _m_14 rfl agg26 sz26 trivial) ⟨_, rfl, _o_15, Lo.down _lo23 (by omega), E⟩
    · have _kb_9 := _h22
      have _h22 := bf_d _h22
      refine W_skip ?_
      refine inB_nrm ?_
      refine thn_nrm (_hK_3 _ _ ?_)
      clear _hK_3
      refine W_seq fun _K_17 _hK_17 => ?_
      refine W_region ?_
      refine WL_s rfl rfl ?_
      refine Step.call (r_call (xs := [.const (Go.Value.int Go.IntKind.i64 1)]) fk54 rfl) (c_impl_single _ ) fun _v117 _w_18 _q117 => ?_
      obtain ⟨_u117, rfl, _q117, _lo117, _cw_18⟩ := _q117
      have _cw_18z := _cw_18.size
      have E := E.trans _cw_18
      obtain ⟨_Au117, _Cu117, _eu117⟩ := _q117.val
      subst _eu117
      have _lu117 := _q117.len
      have _hiu117 := _q117.lt
      refine WL_s rfl rfl ?_
      have _f_19 := (_m4.ch0 _cw_18)
      refine s_storeA (off := 0) 1 _f_19 sz26 rfl (us := [(.slice _Au117 ([(⟨1, 0, 0, 0⟩ : Token)]).length _Cu117)]) rfl rfl rfl rfl fun _w_20 _m_21 _cw_20 => ?_
      have _cw_20z := _cw_20.size
      have E := E.step _cw_20 (fun i hi => .inl (by have _h1 := List.mem_singleton.1 hi; omega))
      replace _m_21 : Blk _w_20 _b4 26 [(.slice _Au117 ([(⟨1, 0, 0, 0⟩ : Token)]).length _Cu117)] := _m_21
      refine WL_nil ?_
      refine thn_nrm (_hK_17 _ _ ?_)
      clear _hK_17
      refine W_ret ?_
      have _f_23 := (_q117.ch _cw_20 (fun g hg hm => by have _h0 := List.mem_singleton.1 hm; have _h2 := _lo117 _ hg; have _h3 := _hiu117 _ hg; omega))
      have _o_22 : Ol Token.cs 52 4 _w_20 (.slice _Au117 ([(⟨1, 0, 0, 0⟩ : Token)]).length _Cu117) (derT letter x) := by
        have hx := _f_23
        exact hx.eq (by first | exact der3 hok (by omega) (by omega) | exact der0 hok (by omega) (by omega) | exact der4t hok (by omega) _hk0 _hk1 _h45 | exact der4f hok (by omega) _hk0 _hk1 _h45 | exact der5 hok (by omega) _hk0 _hk1 | exact der6 hok (by omega) _hk0 | exact der7 hok (by omega) _hk0)
      exact ret_intro [_] (resOf_loadA _m_21 rfl agg26 sz26 trivial) ⟨_, rfl, _o_22, Lo.down _lo117 (by omega), E⟩
  · have _kb_7 := _h14
    have _h14 := bf_d _h14
    refine W_seq fun _K_24 _hK_24 => ?_
    refine W_region ?_
    refine WL_step rfl rfl (r_eql rfl rfl) ?_
    refine WL_step rfl rfl (r_assign rfl) ?_
    refine WL_nil ?_
    refine thn_nrm (_hK_24 _ _ ?_)
    clear _hK_24
    refine W_cond rfl (fun _h24 => ?_) (fun _h24 => ?_)
    · have _kb_25 := _h24
      have _h24 := bt_d _h24
      obtain ⟨ta, tb, _hk0, _hk1, oa, ob, sab, ga, gb⟩ := hok.kk2 (by omega)
      have da := derT_le letter ta (by omega)
      have db := derT_le letter tb (by omega)
      refine W_seq fun _K_26 _hK_26 => ?_
      refine W_drawC [] 14 mixed rfl fun _w_27 _cw_27 => ?_
      have _cw_27z := _cw_27.size
      have E := E.trans _cw_27
      refine DR_s 0 rfl (by kernel_rfl) rfl rfl (t_v (fun _ => (r_move rfl)) ?_)
      refine DR_s 1 rfl (by kernel_rfl) rfl rfl (t_v (fun _ => (r_nilCheck rfl)) ?_)
      refine DR_s 2 rfl (by kernel_rfl) rfl rfl (t_v (fun _ => (r_fieldAddr fa67_1 rfl)) ?_)
      have _f_28 := (_f_5.ch0 _cw_27)
      refine DR_s 3 rfl (by kernel_rfl) rfl rfl (t_loadAt _f_28 (fun i hi => absurd hi List.not_mem_nil) agg63 rfl rfl ?_)
      have _f_29 := ((_hk_x.ch0 _cw_2).ch0 _cw_27)
      have _f_30 := ((_kd_x.ch0 _cw_2).ch0 _cw_27)
      refine DR_s 4 rfl (by kernel_rfl) rfl rfl (t_index (j := 0) _f_29 acs_len el63 sz46 rfl rfl rfl (by omega) fun _p30 _y30 _hy30 _a30 => ?_)
      have ht30 := _hk0
      have _tr30 := _f_30.2 _ _ _ _hy30 _hk0
      obtain ⟨_A_30, _C_30, _ps_30, _hc_30, _hk_30, _kd_30⟩ := _tr30.open
      have _kl_30 := _kd_30.1
      replace _a30 : At _w_27 LT_x w.heap.size _p30 ([(.pointer (some _y30))]) := _a30
      refine DR_s 5 rfl (by kernel_rfl) rfl rfl (t_loadAt0 _a30 (fun i hi => absurd hi List.not_mem_nil) agg46 rfl rfl ?_)
      refine DR_s 6 rfl (by kernel_rfl) rfl rfl (t_v (fun _ => (r_move rfl)) ?_)
      refine DR_s 7 rfl (by kernel_rfl) rfl rfl (t_v (fun _ => (r_nilCheck rfl)) ?_)
      refine DR_s 8 rfl (by kernel_rfl) rfl rfl (t_v (fun _ => (r_fieldAddr fa67_1 rfl)) ?_)
      refine DR_s 9 rfl (by kernel_rfl) rfl rfl (t_loadAt _f_28 (fun i hi => absurd hi List.not_mem_nil) agg63 rfl rfl ?_)
      refine DR_s 10 rfl (by kernel_rfl) rfl rfl (t_index (j := 1) _f_29 acs_len el63 sz46 rfl rfl rfl (by omega) fun _p36 _y36 _hy36 _a36 => ?_)
      have ht36 := _hk1
      have _tr36 := _f_30.2 _ _ _ _hy36 _hk1
      obtain ⟨_A_36, _C_36, _ps_36, _hc_36, _hk_36, _kd_36⟩ := _tr36.open
      have _kl_36 := _kd_36.1
      replace _a36 : At _w_27 LT_x w.heap.size _p36 ([(.pointer (some _y36))]) := _a36
      refine DR_s 11 rfl (by kernel_rfl) rfl rfl (t_loadAt0 _a36 (fun i hi => absurd hi List.not_mem_nil) agg46 rfl rfl ?_)
      refine DR_s 12 rfl (by kernel_rfl) rfl rfl (t_v (fun _ => (r_assign rfl)) ?_)
      refine DR_s 13 rfl (by kernel_rfl) rfl rfl (t_v (fun _ => (r_assign rfl)) ?_)
      refine DR_done (by kernel_rfl) ?_
      refine thn_nrm (_hK_26 _ _ ?_)
      clear _hK_26
      refine W_seq fun _K_31 _hK_31 => ?_
      refine W_region ?_
      refine WL_step rfl rfl (r_move rfl) ?_
      refine WL_step rfl rfl (r_move rfl) ?_
      refine WL_s rfl rfl ?_
      refine Step.call (r_call (xs := [.tmp 38, .tmp 39]) fk36 rfl) (ih _tr30 _ oa (by omega) (by omega)) fun _v40 _w_32 _q40 => ?_
      obtain ⟨_u40, rfl, _q40, _lo40, _cw_32⟩ := _q40
      have _cw_32z := _cw_32.size
      have E := E.trans _cw_32
      obtain ⟨_Au40, _Cu40, _eu40⟩ := _q40.val
      subst _eu40
      have _lu40 := _q40.len
      have _hiu40 := _q40.lt
      refine WL_step rfl rfl (r_move rfl) ?_
      refine WL_s rfl rfl ?_
      have _f_33 := (_tr36.ch0 _cw_32)
      refine Step.call (r_call (xs := [.tmp 41]) fk56 rfl) (c_impl_tree_expr _f_33 (by omega)) fun _v42 _w_34 _q42 => ?_
      obtain ⟨_u42, rfl, _q42, _lo42, _cw_34⟩ := _q42
      have _cw_34z := _cw_34.size
      have E := E.trans _cw_34
      obtain ⟨_Au42, _Cu42, _eu42⟩ := _q42.val
      subst _eu42
      have _lu42 := _q42.len
      have _hiu42 := _q42.lt
      refine WL_s rfl rfl ?_
      have _f_35 := (_q40.ch0 _cw_34)
      refine Step.call (r_call (xs := [.tmp 40, .tmp 42]) fk55 rfl) (c_impl_ConcatExpr _f_35.ls _q42.ls (by omega)) fun _v43 _w_36 _q43 => ?_
      obtain ⟨_u43, rfl, _q43, _lo43, _cw_36⟩ := _q43
      have _cw_36z := _cw_36.size
      have E := E.trans _cw_36
      obtain ⟨_Au43, _Cu43, _eu43⟩ := _q43.val
      subst _eu43
      have _lu43 := _q43.len
      have _hiu43 := _q43.lt
      refine WL_s rfl rfl ?_
      refine s_alloc zr26 fun _b7 _w_37 _m7 _cw_37 _e7 => ?_
      have _cw_37z := _cw_37.size
      have E := E.trans _cw_37
      have _z7 := _m7.lt
      replace _m7 : Blk _w_37 _b7 26 [(.slice none 0 0)] := _m7
      refine WL_s rfl rfl ?_
      refine s_storeA (off := 0) 1 _m7 sz26 rfl (us := [(.slice _Au43 (catE (derT letter ta) tb.flat).length _Cu43)]) rfl rfl rfl rfl fun _w_38 _m_39 _cw_38 => ?_
      have _cw_38z := _cw_38.size
      have E := E.step _cw_38 (fun i hi => .inl (by have _h1 := List.mem_singleton.1 hi; omega))
      replace _m_39 : Blk _w_38 _b7 26 [(.slice _Au43 (catE (derT letter ta) tb.flat).length _Cu43)] := _m_39
      refine WL_nil ?_
      refine thn_nrm (_hK_31 _ _ ?_)
      clear _hK_31
      refine W_seq fun _K_40 _hK_40 => ?_
      refine W_seq fun _K_41 _hK_41 => ?_
      refine W_region ?_
      refine WL_step rfl rfl (r_move rfl) ?_
      refine WL_s rfl rfl ?_
      have _f_42 := (((((_tr30.ch0 _cw_32).ch0 _cw_34).ch0 _cw_36).ch0 _cw_37).ch _cw_38 (fun i hi => by have _h1 := List.mem_singleton.1 hi; omega))
      refine Step.call (r_call (xs := [.tmp 44]) fk33 rfl) (c_impl_tree_nullable _f_42 oa) fun _v45 _w_43 _q45 => ?_
      obtain ⟨rfl, _cw_43⟩ := _q45
      have _cw_43z := _cw_43.size
      have E := E.trans _cw_43
      refine WL_nil ?_
      refine thn_nrm (_hK_41 _ _ ?_)
      clear _hK_41
      refine W_cond rfl (fun _h45 => ?_) (fun _h45 => ?_)
      · have _kb_44 := _h45
        refine W_seq fun _K_45 _hK_45 => ?_
        refine W_drawC [_b4] 6 mixed rfl fun _w_46 _cw_46 => ?_
        have _cw_46z := _cw_46.size
        have E := E.trans _cw_46
        have _f_47 := ((_m_39.ch0 _cw_43).ch0 _cw_46)
        refine DR_s 0 rfl (by kernel_rfl) rfl rfl (t_loadAtA0 _f_47.at_ (fun i hm => by have _h1 := List.mem_singleton.1 hm; omega) agg26 sz26 rfl ?_)
        refine DR_s 1 rfl (by kernel_rfl) rfl rfl (t_v (fun _ => (r_move rfl)) ?_)
        refine DR_s 2 rfl (by kernel_rfl) rfl rfl (t_v (fun _ => (r_move rfl)) ?_)
        refine DR_one 3 (by kernel_rfl) ?_
        refine DO_s rfl rfl rfl ?_
        have _f_48 := ((((((_f_33.ch0 _cw_34).ch0 _cw_36).ch0 _cw_37).ch _cw_38 (fun i hi => by have _h1 := List.mem_singleton.1 hi; omega)).ch0 _cw_43).ch0 _cw_46)
        refine Step.call (r_call (xs := [.tmp 47, .tmp 48]) fk36 rfl) (ih _f_48 _ ob (by omega) (by omega)) fun _v49 _w_49 _q49 => ?_
        obtain ⟨_u49, rfl, _q49, _lo49, _cw_49⟩ := _q49
        have _cw_49z := _cw_49.size
        have E := E.trans _cw_49
        obtain ⟨_Au49, _Cu49, _eu49⟩ := _q49.val
        subst _eu49
        have _lu49 := _q49.len
        have _hiu49 := _q49.lt
        have _S_50 : Ch [_b4] _w_46 _w_49 := ((Ch.refl _ _).trans _cw_49.of_nil)
        refine ⟨_S_50, ?_⟩
        refine DR_one 4 (by kernel_rfl) ?_
        refine DO_s rfl rfl rfl ?_
        have _f_51 := (((((_q43.ch0 _cw_37).ch _cw_38 (fun g hg hm => by have _h0 := List.mem_singleton.1 hm; have _h2 := _lo43 _ hg; have _h3 := _hiu43 _ hg; omega)).ch0 _cw_43).ch0 _cw_46).ch0 _cw_49)
        refine Step.call (r_call (xs := [.tmp 46, .tmp 49]) fk57 rfl) (c_impl_UnionExpr _f_51.ls _q49.ls (by have _h49 := catE_len (derT letter ta) tb.flat; omega)) fun _v50 _w_52 _q50 => ?_
        obtain ⟨_u50, rfl, _q50, _lo50, _cw_52⟩ := _q50
        have _cw_52z := _cw_52.size
        have E := E.trans _cw_52
        obtain ⟨_Au50, _Cu50, _eu50⟩ := _q50.val
        subst _eu50
        have _lu50 := _q50.len
        have _hiu50 := _q50.lt
        have _S_53 : Ch [_b4] _w_46 _w_52 := (_S_50.trans _cw_52.of_nil)
        refine ⟨_S_53, ?_⟩
        refine DR_one 5 (by kernel_rfl) ?_
        refine DO_s rfl rfl rfl ?_
        have _f_54 := ((((((((((_m4.ch0 _cw_27).ch0 _cw_32).ch0 _cw_34).ch0 _cw_36).ch0 _cw_37).ch _cw_38 (fun hm => by have _h1 := List.mem_singleton.1 hm; omega)).ch0 _cw_43).ch0 _cw_46).ch0 _cw_49).ch0 _cw_52)
        refine s_storeA (off := 0) 1 _f_54 sz26 rfl (us := [(.slice _Au50 (uniE (catE (derT letter ta) tb.flat) (derT letter tb)).length _Cu50)]) rfl rfl rfl rfl fun _w_55 _m_56 _cw_55 => ?_
        have _cw_55z := _cw_55.size
        have E := E.step _cw_55 (fun i hi => .inl (by have _h1 := List.mem_singleton.1 hi; omega))
        replace _m_56 : Blk _w_55 _b4 26 [(.slice _Au50 (uniE (catE (derT letter ta) tb.flat) (derT letter tb)).length _Cu50)] := _m_56
        have _S_57 : Ch [_b4] _w_46 _w_55 := (_S_53.step _cw_55 (fun i hm => by have _h0 := List.mem_singleton.1 hm; exact .inr (by rw [_h0]; exact (List.mem_singleton.2 rfl))))
        refine ⟨_S_57, ?_⟩
        refine DR_done (by kernel_rfl) ?_
        refine thn_nrm (_hK_45 _ _ ?_)
        clear _hK_45
        refine W_ret (thn_ret (inB_ret (thn_ret ?_)))
        clear _hK_3 _hK_40
        have _f_59 := (_q50.ch _cw_55 (fun g hg hm => by have _h0 := List.mem_singleton.1 hm; have _h2 := _lo50 _ hg; have _h3 := _hiu50 _ hg; omega))
        have _o_58 : Ol Token.cs 52 4 _w_55 (.slice _Au50 (uniE (catE (derT letter ta) tb.flat) (derT letter tb)).length _Cu50) (derT letter x) := by
          have hx := _f_59
          exact hx.eq (by first | exact der3 hok (by omega) (by omega) | exact der0 hok (by omega) (by omega) | exact der4t hok (by omega) _hk0 _hk1 _h45 | exact der4f hok (by omega) _hk0 _hk1 _h45 | exact der5 hok (by omega) _hk0 _hk1 | exact der6 hok (by omega) _hk0 | exact der7 hok (by omega) _hk0)
        exact ret_intro [_] (resOf_loadA _m_56 rfl agg26 sz26 trivial) ⟨_, rfl, _o_58, Lo.down _lo50 (by omega), E⟩
      · have _kb_44 := _h45
        refine W_skip ?_
        refine thn_nrm (_hK_40 _ _ ?_)
        clear _hK_40
        refine W_seq fun _K_60 _hK_60 => ?_
        refine W_region ?_
        have _f_61 := (_m_39.ch0 _cw_43)
        refine WL_step rfl rfl (r_loadAtA0 _f_61.at_ agg26 sz26 rfl) ?_
        refine WL_s rfl rfl ?_
        have _f_62 := (((((((_m4.ch0 _cw_27).ch0 _cw_32).ch0 _cw_34).ch0 _cw_36).ch0 _cw_37).ch _cw_38 (fun hm => by have _h1 := List.mem_singleton.1 hm; omega)).ch0 _cw_43)
        refine s_storeA (off := 0) 1 _f_62 sz26 rfl (us := [(.slice _Au43 (catE (derT letter ta) tb.flat).length _Cu43)]) rfl rfl rfl rfl fun _w_63 _m_64 _cw_63 => ?_
        have _cw_63z := _cw_63.size
        have E := E.step _cw_63 (fun i hi => .inl (by have _h1 := List.mem_singleton.1 hi; omega))
        replace _m_64 : Blk _w_63 _b4 26 [(.slice _Au43 (catE (derT letter ta) tb.flat).length _Cu43)] := _m_64
        refine WL_nil ?_
        refine thn_nrm (_hK_60 _ _ ?_)
        clear _hK_60
        refine W_ret (inB_ret (thn_ret ?_))
        clear _hK_3
        have _f_66 := ((((_q43.ch0 _cw_37).ch _cw_38 (fun g hg hm => by have _h0 := List.mem_singleton.1 hm; have _h2 := _lo43 _ hg; have _h3 := _hiu43 _ hg; omega)).ch0 _cw_43).ch _cw_63 (fun g hg hm => by have _h0 := List.mem_singleton.1 hm; have _h2 := _lo43 _ hg; have _h3 := _hiu43 _ hg; omega))
        have _o_65 : Ol Token.cs 52 4 _w_63 (.slice _Au43 (catE (derT letter ta) tb.flat).length _Cu43) (derT letter x) := by
          have hx := _f_66
          exact hx.eq (by first | exact der3 hok (by omega) (by omega) | exact der0 hok (by omega) (by omega) | exact der4t hok (by omega) _hk0 _hk1 _h45 | exact der4f hok (by omega) _hk0 _hk1 _h45 | exact der5 hok (by omega) _hk0 _hk1 | exact der6 hok (by omega) _hk0 | exact der7 hok (by omega) _hk0)
        exact ret_intro [_] (resOf_loadA _m_64 rfl agg26 sz26 trivial) ⟨_, rfl, _o_65, Lo.down _lo43 (by omega), E⟩
    · have _kb_25 := _h24
      have _h24 := bf_d _h24
      refine W_seq fun _K_67 _hK_67 => ?_
      refine W_region ?_
      refine WL_step rfl rfl (r_eql rfl rfl) ?_
      refine WL_step rfl rfl (r_assign rfl) ?_
      refine WL_nil ?_
      refine thn_nrm (_hK_67 _ _ ?_)
      clear _hK_67
      refine W_cond rfl (fun _h52 => ?_) (fun _h52 => ?_)
      · have _kb_68 := _h52
        have _h52 := bt_d _h52
        obtain ⟨ta, tb, _hk0, _hk1, oa, ob, sab, ga, gb⟩ := hok.kk2 (by omega)
        have da := derT_le letter ta (by omega)
        have db := derT_le letter tb (by omega)
        refine W_seq fun _K_69 _hK_69 => ?_
        refine W_drawC [_b4] 18 mixed rfl fun _w_70 _cw_70 => ?_
        have _cw_70z := _cw_70.size
        have E := E.trans _cw_70
        refine DR_s 0 rfl (by kernel_rfl) rfl rfl (t_v (fun _ => (r_move rfl)) ?_)
        refine DR_s 1 rfl (by kernel_rfl) rfl rfl (t_v (fun _ => (r_nilCheck rfl)) ?_)
        refine DR_s 2 rfl (by kernel_rfl) rfl rfl (t_v (fun _ => (r_fieldAddr fa67_1 rfl)) ?_)
        have _f_71 := (_f_5.ch0 _cw_70)
        refine DR_s 3 rfl (by kernel_rfl) rfl rfl (t_loadAt _f_71 (fun i hm => by have _h1 := List.mem_singleton.1 hm; omega) agg63 rfl rfl ?_)
        have _f_72 := ((_hk_x.ch0 _cw_2).ch0 _cw_70)
        have _f_73 := ((_kd_x.ch0 _cw_2).ch0 _cw_70)
        refine DR_s 4 rfl (by kernel_rfl) rfl rfl (t_index (j := 0) _f_72 acs_len el63 sz46 rfl rfl rfl (by omega) fun _p58 _y58 _hy58 _a58 => ?_)
        have ht58 := _hk0
        have _tr58 := _f_73.2 _ _ _ _hy58 _hk0
        obtain ⟨_A_58, _C_58, _ps_58, _hc_58, _hk_58, _kd_58⟩ := _tr58.open
        have _kl_58 := _kd_58.1
        replace _a58 : At _w_70 LT_x w.heap.size _p58 ([(.pointer (some _y58))]) := _a58
        refine DR_s 5 rfl (by kernel_rfl) rfl rfl (t_loadAt0 _a58 (fun i hm => by have _h1 := List.mem_singleton.1 hm; omega) agg46 rfl rfl ?_)
        refine DR_s 6 rfl (by kernel_rfl) rfl rfl (t_v (fun _ => (r_move rfl)) ?_)
        refine DR_s 8 rfl (by kernel_rfl) rfl rfl (t_v (fun _ => (r_move rfl)) ?_)
        refine DR_s 9 rfl (by kernel_rfl) rfl rfl (t_v (fun _ => (r_nilCheck rfl)) ?_)
        refine DR_s 10 rfl (by kernel_rfl) rfl rfl (t_v (fun _ => (r_fieldAddr fa67_1 rfl)) ?_)
        refine DR_s 11 rfl (by kernel_rfl) rfl rfl (t_loadAt _f_71 (fun i hm => by have _h1 := List.mem_singleton.1 hm; omega) agg63 rfl rfl ?_)
        refine DR_s 12 rfl (by kernel_rfl) rfl rfl (t_index (j := 1) _f_72 acs_len el63 sz46 rfl rfl rfl (by omega) fun _p66 _y66 _hy66 _a66 => ?_)
        have ht66 := _hk1
        have _tr66 := _f_73.2 _ _ _ _hy66 _hk1
        obtain ⟨_A_66, _C_66, _ps_66, _hc_66, _hk_66, _kd_66⟩ := _tr66.open
        have _kl_66 := _kd_66.1
        replace _a66 : At _w_70 LT_x w.heap.size _p66 ([(.pointer (some _y66))]) := _a66
        refine DR_s 13 rfl (by kernel_rfl) rfl rfl (t_loadAt0 _a66 (fun i hm => by have _h1 := List.mem_singleton.1 hm; omega) agg46 rfl rfl ?_)
        refine DR_s 14 rfl (by kernel_rfl) rfl rfl (t_v (fun _ => (r_move rfl)) ?_)
        refine DR_one 7 (by kernel_rfl) ?_
        refine DO_s rfl rfl rfl ?_
        refine Step.call (r_call (xs := [.tmp 59, .tmp 60]) fk36 rfl) (ih _tr58 _ oa (by omega) (by omega)) fun _v61 _w_74 _q61 => ?_
        obtain ⟨_u61, rfl, _q61, _lo61, _cw_74⟩ := _q61
        have _cw_74z := _cw_74.size
        have E := E.trans _cw_74
        obtain ⟨_Au61, _Cu61, _eu61⟩ := _q61.val
        subst _eu61
        have _lu61 := _q61.len
        have _hiu61 := _q61.lt
        have _S_75 : Ch [_b4] _w_70 _w_74 := ((Ch.refl _ _).trans _cw_74.of_nil)
        refine ⟨_S_75, ?_⟩
        refine DR_one 15 (by kernel_rfl) ?_
        refine DO_s rfl rfl rfl ?_
        have _f_76 := (_tr66.ch0 _cw_74)
        refine Step.call (r_call (xs := [.tmp 67, .tmp 68]) fk36 rfl) (ih _f_76 _ ob (by omega) (by omega)) fun _v69 _w_77 _q69 => ?_
        obtain ⟨_u69, rfl, _q69, _lo69, _cw_77⟩ := _q69
        have _cw_77z := _cw_77.size
        have E := E.trans _cw_77
        obtain ⟨_Au69, _Cu69, _eu69⟩ := _q69.val
        subst _eu69
        have _lu69 := _q69.len
        have _hiu69 := _q69.lt
        have _S_78 : Ch [_b4] _w_70 _w_77 := (_S_75.trans _cw_77.of_nil)
        refine ⟨_S_78, ?_⟩
        refine DR_one 16 (by kernel_rfl) ?_
        refine DO_s rfl rfl rfl ?_
        have _f_79 := (_q61.ch0 _cw_77)
        refine Step.call (r_call (xs := [.tmp 61, .tmp 69]) fk57 rfl) (c_impl_UnionExpr _f_79.ls _q69.ls (by omega)) fun _v70 _w_80 _q70 => ?_
        obtain ⟨_u70, rfl, _q70, _lo70, _cw_80⟩ := _q70
        have _cw_80z := _cw_80.size
        have E := E.trans _cw_80
        obtain ⟨_Au70, _Cu70, _eu70⟩ := _q70.val
        subst _eu70
        have _lu70 := _q70.len
        have _hiu70 := _q70.lt
        have _S_81 : Ch [_b4] _w_70 _w_80 := (_S_78.trans _cw_80.of_nil)
        refine ⟨_S_81, ?_⟩
        refine DR_one 17 (by kernel_rfl) ?_
        refine DO_s rfl rfl rfl ?_
        have _f_82 := ((((_m4.ch0 _cw_70).ch0 _cw_74).ch0 _cw_77).ch0 _cw_80)
        refine s_storeA (off := 0) 1 _f_82 sz26 rfl (us := [(.slice _Au70 (uniE (derT letter ta) (derT letter tb)).length _Cu70)]) rfl rfl rfl rfl fun _w_83 _m_84 _cw_83 => ?_
        have _cw_83z := _cw_83.size
        have E := E.step _cw_83 (fun i hi => .inl (by have _h1 := List.mem_singleton.1 hi; omega))
        replace _m_84 : Blk _w_83 _b4 26 [(.slice _Au70 (uniE (derT letter ta) (derT letter tb)).length _Cu70)] := _m_84
        have _S_85 : Ch [_b4] _w_70 _w_83 := (_S_81.step _cw_83 (fun i hm => by have _h0 := List.mem_singleton.1 hm; exact .inr (by rw [_h0]; exact (List.mem_singleton.2 rfl))))
        refine ⟨_S_85, ?_⟩
        refine DR_done (by kernel_rfl) ?_
        refine thn_nrm (_hK_69 _ _ ?_)
        clear _hK_69
        refine W_ret (inB_ret (thn_ret ?_))
        clear _hK_3
        have _f_87 := (_q70.ch _cw_83 (fun g hg hm => by have _h0 := List.mem_singleton.1 hm; have _h2 := _lo70 _ hg; have _h3 := _hiu70 _ hg; omega))
        have _o_86 : Ol Token.cs 52 4 _w_83 (.slice _Au70 (uniE (derT letter ta) (derT letter tb)).length _Cu70) (derT letter x) := by
          have hx := _f_87
          exact hx.eq (by first | exact der3 hok (by omega) (by omega) | exact der0 hok (by omega) (by omega) | exact der4t hok (by omega) _hk0 _hk1 _h45 | exact der4f hok (by omega) _hk0 _hk1 _h45 | exact der5 hok (by omega) _hk0 _hk1 | exact der6 hok (by omega) _hk0 | exact der7 hok (by omega) _hk0)
        exact ret_intro [_] (resOf_loadA _m_84 rfl agg26 sz26 trivial) ⟨_, rfl, _o_86, Lo.down _lo70 (by omega), E⟩
      · have _kb_68 := _h52
        have _h52 := bf_d _h52
        refine W_seq fun _K_88 _hK_88 => ?_
        refine W_region ?_
        refine WL_step rfl rfl (r_eql rfl rfl) ?_
        refine WL_step rfl rfl (r_assign rfl) ?_
        refine WL_nil ?_
        refine thn_nrm (_hK_88 _ _ ?_)
        clear _hK_88
        refine W_cond rfl (fun _h71 => ?_) (fun _h71 => ?_)
        · have _kb_89 := _h71
          have _h71 := bt_d _h71
          obtain ⟨ta, _hk0, oa, sab, ga⟩ := hok.kk1 (by omega)
          have da := derT_le letter ta (by omega)
          refine W_seq fun _K_90 _hK_90 => ?_
          refine W_region ?_
          refine WL_step rfl rfl (r_move rfl) ?_
          refine WL_step rfl rfl (r_nilCheck rfl) ?_
          refine WL_step rfl rfl (r_fieldAddr fa67_1 rfl) ?_
          refine WL_step rfl rfl (r_loadAt _f_5 agg63 rfl rfl) ?_
          refine WL_s rfl rfl ?_
          have _f_91 := (_hk_x.ch0 _cw_2)
          refine (s_index (j := 0) _f_91 acs_len el63 sz46 rfl rfl rfl (by omega) fun _p77 _y77 _hy77 _a77 => ?_)
          have _f_92 := (_kd_x.ch0 _cw_2)
          have ht77 := _hk0
          have _tr77 := _f_92.2 _ _ _ _hy77 _hk0
          obtain ⟨_A_77, _C_77, _ps_77, _hc_77, _hk_77, _kd_77⟩ := _tr77.open
          have _kl_77 := _kd_77.1
          replace _a77 : At _w_2 LT_x w.heap.size _p77 ([(.pointer (some _y77))]) := _a77
          refine WL_step rfl rfl (r_loadAt0 _a77 agg46 rfl rfl) ?_
          refine WL_step rfl rfl (r_move rfl) ?_
          refine WL_s rfl rfl ?_
          refine Step.call (r_call (xs := [.tmp 78, .tmp 79]) fk36 rfl) (ih _tr77 _ oa (by omega) (by omega)) fun _v80 _w_93 _q80 => ?_
          obtain ⟨_u80, rfl, _q80, _lo80, _cw_93⟩ := _q80
          have _cw_93z := _cw_93.size
          have E := E.trans _cw_93
          obtain ⟨_Au80, _Cu80, _eu80⟩ := _q80.val
          subst _eu80
          have _lu80 := _q80.len
          have _hiu80 := _q80.lt
          refine WL_step rfl rfl (r_move rfl) ?_
          refine WL_s rfl rfl ?_
          have _f_94 := ((_h_x.ch0 _cw_2).ch0 _cw_93)
          refine Step.call (r_call (xs := [.tmp 81]) fk56 rfl) (c_impl_tree_expr _f_94 (by omega)) fun _v82 _w_95 _q82 => ?_
          obtain ⟨_u82, rfl, _q82, _lo82, _cw_95⟩ := _q82
          have _cw_95z := _cw_95.size
          have E := E.trans _cw_95
          obtain ⟨_Au82, _Cu82, _eu82⟩ := _q82.val
          subst _eu82
          have _lu82 := _q82.len
          have _hiu82 := _q82.lt
          refine WL_s rfl rfl ?_
          have _f_96 := (_q80.ch0 _cw_95)
          refine Step.call (r_call (xs := [.tmp 80, .tmp 82]) fk55 rfl) (c_impl_ConcatExpr _f_96.ls _q82.ls (by omega)) fun _v83 _w_97 _q83 => ?_
          obtain ⟨_u83, rfl, _q83, _lo83, _cw_97⟩ := _q83
          have _cw_97z := _cw_97.size
          have E := E.trans _cw_97
          obtain ⟨_Au83, _Cu83, _eu83⟩ := _q83.val
          subst _eu83
          have _lu83 := _q83.len
          have _hiu83 := _q83.lt
          refine WL_s rfl rfl ?_
          have _f_98 := (((_m4.ch0 _cw_93).ch0 _cw_95).ch0 _cw_97)
          refine s_storeA (off := 0) 1 _f_98 sz26 rfl (us := [(.slice _Au83 (catE (derT letter ta) x.flat).length _Cu83)]) rfl rfl rfl rfl fun _w_99 _m_100 _cw_99 => ?_
          have _cw_99z := _cw_99.size
          have E := E.step _cw_99 (fun i hi => .inl (by have _h1 := List.mem_singleton.1 hi; omega))
          replace _m_100 : Blk _w_99 _b4 26 [(.slice _Au83 (catE (derT letter ta) x.flat).length _Cu83)] := _m_100
          refine WL_nil ?_
          refine thn_nrm (_hK_90 _ _ ?_)
          clear _hK_90
          refine W_ret (inB_ret (thn_ret ?_))
          clear _hK_3
          have _f_102 := (_q83.ch _cw_99 (fun g hg hm => by have _h0 := List.mem_singleton.1 hm; have _h2 := _lo83 _ hg; have _h3 := _hiu83 _ hg; omega))
          have _o_101 : Ol Token.cs 52 4 _w_99 (.slice _Au83 (catE (derT letter ta) x.flat).length _Cu83) (derT letter x) := by
            have hx := _f_102
            exact hx.eq (by first | exact der3 hok (by omega) (by omega) | exact der0 hok (by omega) (by omega) | exact der4t hok (by omega) _hk0 _hk1 _h45 | exact der4f hok (by omega) _hk0 _hk1 _h45 | exact der5 hok (by omega) _hk0 _hk1 | exact der6 hok (by omega) _hk0 | exact der7 hok (by omega) _hk0)
          exact ret_intro [_] (resOf_loadA _m_100 rfl agg26 sz26 trivial) ⟨_, rfl, _o_101, Lo.down _lo83 (by omega), E⟩
        · have _kb_89 := _h71
          have _h71 := bf_d _h71
          refine W_seq fun _K_103 _hK_103 => ?_
          refine W_region ?_
          refine WL_step rfl rfl (r_eql rfl rfl) ?_
          refine WL_step rfl rfl (r_assign rfl) ?_
          refine WL_nil ?_
          refine thn_nrm (_hK_103 _ _ ?_)
          clear _hK_103
          refine W_cond rfl (fun _h84 => ?_) (fun _h84 => ?_)
          · have _kb_104 := _h84
            have _h84 := bt_d _h84
            obtain ⟨ta, _hk0, oa, sab, ga⟩ := hok.kk1 (by omega)
            have da := derT_le letter ta (by omega)
            have r7 := hok.r7 (by omega)
            refine W_seq fun _K_105 _hK_105 => ?_
            have _J_107 : ∀ (lj : KL) (_wj_106 : World) (jb8 : Nat) (ju8_0 : Value), Go.KLib.Sub [(0, (.pointer (some p_x))), (1, (.int .i64 letter)), (4, (.pointer (some ⟨_b4, 0, none⟩))), (8, (.pointer (some ⟨jb8, 0, none⟩)))] lj → Ch [] _w_2 _wj_106 → Ol Token.cs 52 4 _wj_106 ju8_0 (repE ta.flat (if (x.tok.low - 1) > 0 then (x.tok.low - 1) else 0) (x.tok.high - 1)) → Lo _w_2.heap.size ju8_0 → Blk _wj_106 jb8 26 [ju8_0] → _w_2.heap.size ≤ jb8 → jb8 ∉ bl ju8_0 → _K_105 lj _wj_106 := by
              intro lj _wj_106 jb8 ju8_0 _jsub _cjK_105 _qju8_0 _loju8_0 _mjb8 _ejb8 _nbjb8ju8_0
              refine _hK_105 _ _ (W_sub _jsub ?_)
              clear _hK_105
              have _cjK_105z := _cjK_105.size
              have E := E.trans _cjK_105
              obtain ⟨_Aju8_0, _Cju8_0, _eju8_0⟩ := _qju8_0.val
              subst _eju8_0
              have _lju8_0 := _qju8_0.len
              have _hiju8_0 := _qju8_0.lt
              have _zjb8 := _mjb8.lt
              refine W_seq fun _K_108 _hK_108 => ?_
              refine W_drawC [_b4] 11 mixed rfl fun _w_109 _cw_109 => ?_
              have _cw_109z := _cw_109.size
              have E := E.trans _cw_109
              refine DR_s 0 rfl (by kernel_rfl) rfl rfl (t_v (fun _ => (r_move rfl)) ?_)
              refine DR_s 1 rfl (by kernel_rfl) rfl rfl (t_v (fun _ => (r_nilCheck rfl)) ?_)
              refine DR_s 2 rfl (by kernel_rfl) rfl rfl (t_v (fun _ => (r_fieldAddr fa67_1 rfl)) ?_)
              have _f_110 := ((_f_5.ch0 _cjK_105).ch0 _cw_109)
              refine DR_s 3 rfl (by kernel_rfl) rfl rfl (t_loadAt _f_110 (fun i hm => by have _h1 := List.mem_singleton.1 hm; omega) agg63 rfl rfl ?_)
              have _f_111 := (((_hk_x.ch0 _cw_2).ch0 _cjK_105).ch0 _cw_109)
              have _f_112 := (((_kd_x.ch0 _cw_2).ch0 _cjK_105).ch0 _cw_109)
              refine DR_s 4 rfl (by kernel_rfl) rfl rfl (t_index (j := 0) _f_111 acs_len el63 sz46 rfl rfl rfl (by omega) fun _p111 _y111 _hy111 _a111 => ?_)
              have ht111 := _hk0
              have _tr111 := _f_112.2 _ _ _ _hy111 _hk0
              obtain ⟨_A_111, _C_111, _ps_111, _hc_111, _hk_111, _kd_111⟩ := _tr111.open
              have _kl_111 := _kd_111.1
              replace _a111 : At _w_109 LT_x w.heap.size _p111 ([(.pointer (some _y111))]) := _a111
              refine DR_s 5 rfl (by kernel_rfl) rfl rfl (t_loadAt0 _a111 (fun i hm => by have _h1 := List.mem_singleton.1 hm; omega) agg46 rfl rfl ?_)
              refine DR_s 6 rfl (by kernel_rfl) rfl rfl (t_v (fun _ => (r_move rfl)) ?_)
              have _f_113 := (_mjb8.ch0 _cw_109)
              refine DR_s 8 rfl (by kernel_rfl) rfl rfl (t_loadAtA0 _f_113.at_ (fun i hm => by have _h1 := List.mem_singleton.1 hm; omega) agg26 sz26 rfl ?_)
              refine DR_one 7 (by kernel_rfl) ?_
              refine DO_s rfl rfl rfl ?_
              refine Step.call (r_call (xs := [.tmp 112, .tmp 113]) fk36 rfl) (ih _tr111 _ oa (by omega) (by omega)) fun _v114 _w_114 _q114 => ?_
              obtain ⟨_u114, rfl, _q114, _lo114, _cw_114⟩ := _q114
              have _cw_114z := _cw_114.size
              have E := E.trans _cw_114
              obtain ⟨_Au114, _Cu114, _eu114⟩ := _q114.val
              subst _eu114
              have _lu114 := _q114.len
              have _hiu114 := _q114.lt
              have _S_115 : Ch [_b4] _w_109 _w_114 := ((Ch.refl _ _).trans _cw_114.of_nil)
              refine ⟨_S_115, ?_⟩
              refine DR_one 9 (by kernel_rfl) ?_
              refine DO_s rfl rfl rfl ?_
              have _f_116 := ((_qju8_0.ch0 _cw_109).ch0 _cw_114)
              refine Step.call (r_call (xs := [.tmp 114, .tmp 115]) fk55 rfl) (c_impl_ConcatExpr _q114.ls _f_116.ls (by have _h89 := repE_len ta.flat (if (x.tok.low - 1) > 0 then (x.tok.low - 1) else 0) (x.tok.high - 1); omega)) fun _v116 _w_117 _q116 => ?_
              obtain ⟨_u116, rfl, _q116, _lo116, _cw_117⟩ := _q116
              have _cw_117z := _cw_117.size
              have E := E.trans _cw_117
              obtain ⟨_Au116, _Cu116, _eu116⟩ := _q116.val
              subst _eu116
              have _lu116 := _q116.len
              have _hiu116 := _q116.lt
              have _S_118 : Ch [_b4] _w_109 _w_117 := (_S_115.trans _cw_117.of_nil)
              refine ⟨_S_118, ?_⟩
              refine DR_one 10 (by kernel_rfl) ?_
              refine DO_s rfl rfl rfl ?_
              have _f_119 := ((((_m4.ch0 _cjK_105).ch0 _cw_109).ch0 _cw_114).ch0 _cw_117)
              refine s_storeA (off := 0) 1 _f_119 sz26 rfl (us := [(.slice _Au116 (catE (derT letter ta) (repE ta.flat (if (x.tok.low - 1) > 0 then (x.tok.low - 1) else 0) (x.tok.high - 1))).length _Cu116)]) rfl rfl rfl rfl fun _w_120 _m_121 _cw_120 => ?_
              have _cw_120z := _cw_120.size
              have E := E.step _cw_120 (fun i hi => .inl (by have _h1 := List.mem_singleton.1 hi; omega))
              replace _m_121 : Blk _w_120 _b4 26 [(.slice _Au116 (catE (derT letter ta) (repE ta.flat (if (x.tok.low - 1) > 0 then (x.tok.low - 1) else 0) (x.tok.high - 1))).length _Cu116)] := _m_121
              have _S_122 : Ch [_b4] _w_109 _w_120 := (_S_118.step _cw_120 (fun i hm => by have _h0 := List.mem_singleton.1 hm; exact .inr (by rw [_h0]; exact (List.mem_singleton.2 rfl))))
              refine ⟨_S_122, ?_⟩
              refine DR_done (by kernel_rfl) ?_
              refine thn_nrm (_hK_108 _ _ ?_)
              clear _hK_108
              refine W_ret (inB_ret (thn_ret ?_))
              clear _hK_3
              have _f_124 := (_q116.ch _cw_120 (fun g hg hm => by have _h0 := List.mem_singleton.1 hm; have _h2 := _lo116 _ hg; have _h3 := _hiu116 _ hg; omega))
              have _o_123 : Ol Token.cs 52 4 _w_120 (.slice _Au116 (catE (derT letter ta) (repE ta.flat (if (x.tok.low - 1) > 0 then (x.tok.low - 1) else 0) (x.tok.high - 1))).length _Cu116) (derT letter x) := by
                have hx := _f_124
                exact hx.eq (by first | exact der3 hok (by omega) (by omega) | exact der0 hok (by omega) (by omega) | exact der4t hok (by omega) _hk0 _hk1 _h45 | exact der4f hok (by omega) _hk0 _hk1 _h45 | exact der5 hok (by omega) _hk0 _hk1 | exact der6 hok (by omega) _hk0 | exact der7 hok (by omega) _hk0)
              exact ret_intro [_] (resOf_loadA _m_121 rfl agg26 sz26 trivial) ⟨_, rfl, _o_123, Lo.down _lo116 (by omega), E⟩
            clear _hK_105
            refine W_drawC [] 23 mixed rfl fun _w_125 _cw_125 => ?_
            have _cw_125z := _cw_125.size
            have E := E.trans _cw_125
            refine DR_s 0 rfl (by kernel_rfl) rfl rfl (t_v (fun _ => (r_move rfl)) ?_)
            refine DR_s 1 rfl (by kernel_rfl) rfl rfl (t_v (fun _ => (r_nilCheck rfl)) ?_)
            refine DR_s 2 rfl (by kernel_rfl) rfl rfl (t_v (fun _ => (r_fieldAddr fa67_1 rfl)) ?_)
            have _f_126 := (_f_5.ch0 _cw_125)
            refine DR_s 3 rfl (by kernel_rfl) rfl rfl (t_loadAt _f_126 (fun i hi => absurd hi List.not_mem_nil) agg63 rfl rfl ?_)
            have _f_127 := ((_hk_x.ch0 _cw_2).ch0 _cw_125)
            have _f_128 := ((_kd_x.ch0 _cw_2).ch0 _cw_125)
            refine DR_s 4 rfl (by kernel_rfl) rfl rfl (t_index (j := 0) _f_127 acs_len el63 sz46 rfl rfl rfl (by omega) fun _p90 _y90 _hy90 _a90 => ?_)
            have ht90 := _hk0
            have _tr90 := _f_128.2 _ _ _ _hy90 _hk0
            obtain ⟨_A_90, _C_90, _ps_90, _hc_90, _hk_90, _kd_90⟩ := _tr90.open
            have _kl_90 := _kd_90.1
            replace _a90 : At _w_125 LT_x w.heap.size _p90 ([(.pointer (some _y90))]) := _a90
            refine DR_s 5 rfl (by kernel_rfl) rfl rfl (t_loadAt0 _a90 (fun i hi => absurd hi List.not_mem_nil) agg46 rfl rfl ?_)
            refine DR_s 7 rfl (by kernel_rfl) rfl rfl (t_v (fun _ => (r_move rfl)) ?_)
            refine DR_s 8 rfl (by kernel_rfl) rfl rfl (t_v (fun _ => (r_nilCheck rfl)) ?_)
            refine DR_s 9 rfl (by kernel_rfl) rfl rfl (t_v (fun _ => (r_fieldAddr fa67_0 rfl)) ?_)
            refine DR_s 10 rfl (by kernel_rfl) rfl rfl (t_v (fun _ => (r_fieldAddrN (n := 2) fa52_2 rfl rfl)) ?_)
            refine DR_s 11 rfl (by kernel_rfl) rfl rfl (t_loadAt _f_126 (fun i hi => absurd hi List.not_mem_nil) agg3 rfl rfl ?_)
            refine DR_s 12 rfl (by kernel_rfl) rfl rfl (t_v (fun _ => (r_sub (by omega) rfl rfl)) ?_)
            refine DR_s 13 rfl (by kernel_rfl) rfl rfl (t_v (fun _ => (r_max rfl rfl)) ?_)
            refine DR_s 14 rfl (by kernel_rfl) rfl rfl (t_v (fun _ => (r_move rfl)) ?_)
            refine DR_s 15 rfl (by kernel_rfl) rfl rfl (t_v (fun _ => (r_nilCheck rfl)) ?_)
            refine DR_s 16 rfl (by kernel_rfl) rfl rfl (t_v (fun _ => (r_fieldAddr fa67_0 rfl)) ?_)
            refine DR_s 17 rfl (by kernel_rfl) rfl rfl (t_v (fun _ => (r_fieldAddrN (n := 3) fa52_3 rfl rfl)) ?_)
            refine DR_s 18 rfl (by kernel_rfl) rfl rfl (t_loadAt _f_126 (fun i hi => absurd hi List.not_mem_nil) agg3 rfl rfl ?_)
            refine DR_s 19 rfl (by kernel_rfl) rfl rfl (t_v (fun _ => (r_sub (by omega) rfl rfl)) ?_)
            refine DR_two 6 21 (by kernel_rfl) ?_ ?_
            · refine DO_s rfl rfl rfl ?_
              refine Step.call (r_call (xs := [.tmp 91]) fk56 rfl) (c_impl_tree_expr _tr90 (by omega)) fun _v92 _w_129 _q92 => ?_
              obtain ⟨_u92, rfl, _q92, _lo92, _cw_129⟩ := _q92
              have _cw_129z := _cw_129.size
              have E := E.trans _cw_129
              obtain ⟨_Au92, _Cu92, _eu92⟩ := _q92.val
              subst _eu92
              have _lu92 := _q92.len
              have _hiu92 := _q92.lt
              have _S_130 : Ch [] _w_125 _w_129 := ((Ch.refl _ _).trans _cw_129)
              refine ⟨_S_130, ?_⟩
              refine DR_two 20 21 (by kernel_rfl) ?_ ?_
              · refine DO_s rfl rfl rfl ?_
                refine Step.call (r_call (xs := [.tmp 92, .tmp 99, .tmp 105]) fk58 rfl) (c_impl_RepeatExpr _q92.ls _ _ (by omega)) fun _v106 _w_131 _q106 => ?_
                obtain ⟨_u106, rfl, _q106, _lo106, _cw_131⟩ := _q106
                have _cw_131z := _cw_131.size
                have E := E.trans _cw_131
                obtain ⟨_Au106, _Cu106, _eu106⟩ := _q106.val
                subst _eu106
                have _lu106 := _q106.len
                have _hiu106 := _q106.lt
                have _S_132 : Ch [] _w_125 _w_131 := (_S_130.trans _cw_131)
                refine ⟨_S_132, ?_⟩
                refine DR_one 21 (by kernel_rfl) ?_
                refine DO_s rfl rfl rfl ?_
                refine s_alloc zr26 fun _b8 _w_133 _m8 _cw_133 _e8 => ?_
                have _cw_133z := _cw_133.size
                have E := E.trans _cw_133
                have _z8 := _m8.lt
                replace _m8 : Blk _w_133 _b8 26 [(.slice none 0 0)] := _m8
                have _S_134 : Ch [] _w_125 _w_133 := (_S_132.trans _cw_133)
                refine ⟨_S_134, ?_⟩
                refine DR_one 22 (by kernel_rfl) ?_
                refine DO_s rfl rfl rfl ?_
                refine s_storeA (off := 0) 1 _m8 sz26 rfl (us := [(.slice _Au106 (repE ta.flat (if (x.tok.low - 1) > 0 then (x.tok.low - 1) else 0) (x.tok.high - 1)).length _Cu106)]) rfl rfl rfl rfl fun _w_135 _m_136 _cw_135 => ?_
                have _cw_135z := _cw_135.size
                have E := E.step _cw_135 (fun i hi => .inl (by have _h1 := List.mem_singleton.1 hi; omega))
                replace _m_136 : Blk _w_135 _b8 26 [(.slice _Au106 (repE ta.flat (if (x.tok.low - 1) > 0 then (x.tok.low - 1) else 0) (x.tok.high - 1)).length _Cu106)] := _m_136
                have _S_137 : Ch [] _w_125 _w_135 := (_S_134.step _cw_135 (fun i hm => by have _h0 := List.mem_singleton.1 hm; left; omega))
                refine ⟨_S_137, ?_⟩
                refine DR_done (by kernel_rfl) ?_
                refine thn_nrm ?_
                have _f_138 := ((_q106.ch0 _cw_133).ch _cw_135 (fun g hg hm => by have _h0 := List.mem_singleton.1 hm; have _h2 := _lo106 _ hg; have _h3 := _hiu106 _ hg; omega))
                exact _J_107 _ _ _b8 (.slice _Au106 (repE ta.flat (if (x.tok.low - 1) > 0 then (x.tok.low - 1) else 0) (x.tok.high - 1)).length _Cu106) (Sub.cons rfl (Sub.cons rfl (Sub.cons rfl (Sub.cons rfl (Sub.nil _))))) ((((((Ch.refl [] _w_2).trans _cw_125).trans _cw_129).trans _cw_131).trans _cw_133).step _cw_135 (fun i hi => .inl (by have _h1 := List.mem_singleton.1 hi; omega))) _f_138 (Lo.down _lo106 (by omega)) _m_136 (by omega) (fun hm => by have _h1 := _lo106 _ hm; have _h2 := _hiu106 _ hm; omega)
              · refine DO_s rfl rfl rfl ?_
                refine s_alloc zr26 fun _b8 _w_139 _m8 _cw_139 _e8 => ?_
                have _cw_139z := _cw_139.size
                have E := E.trans _cw_139
                have _z8 := _m8.lt
                replace _m8 : Blk _w_139 _b8 26 [(.slice none 0 0)] := _m8
                have _S_140 : Ch [] _w_125 _w_139 := (_S_130.trans _cw_139)
                refine ⟨_S_140, ?_⟩
                refine DR_one 20 (by kernel_rfl) ?_
                refine DO_s rfl rfl rfl ?_
                have _f_141 := (_q92.ch0 _cw_139)
                refine Step.call (r_call (xs := [.tmp 92, .tmp 99, .tmp 105]) fk58 rfl) (c_impl_RepeatExpr _f_141.ls _ _ (by omega)) fun _v106 _w_142 _q106 => ?_
                obtain ⟨_u106, rfl, _q106, _lo106, _cw_142⟩ := _q106
                have _cw_142z := _cw_142.size
                have E := E.trans _cw_142
                obtain ⟨_Au106, _Cu106, _eu106⟩ := _q106.val
                subst _eu106
                have _lu106 := _q106.len
                have _hiu106 := _q106.lt
                have _S_143 : Ch [] _w_125 _w_142 := (_S_140.trans _cw_142)
                refine ⟨_S_143, ?_⟩
                refine DR_one 22 (by kernel_rfl) ?_
                refine DO_s rfl rfl rfl ?_
                have _f_144 := (_m8.ch0 _cw_142)
                refine s_storeA (off := 0) 1 _f_144 sz26 rfl (us := [(.slice _Au106 (repE ta.flat (if (x.tok.low - 1) > 0 then (x.tok.low - 1) else 0) (x.tok.high - 1)).length _Cu106)]) rfl rfl rfl rfl fun _w_145 _m_146 _cw_145 => ?_
                have _cw_145z := _cw_145.size
                have E := E.step _cw_145 (fun i hi => .inl (by have _h1 := List.mem_singleton.1 hi; omega))
                replace _m_146 : Blk _w_145 _b8 26 [(.slice _Au106 (repE ta.flat (if (x.tok.low - 1) > 0 then (x.tok.low - 1) else 0) (x.tok.high - 1)).length _Cu106)] := _m_146
                have _S_147 : Ch [] _w_125 _w_145 := (_S_143.step _cw_145 (fun i hm => by have _h0 := List.mem_singleton.1 hm; left; omega))
                refine ⟨_S_147, ?_⟩
                refine DR_done (by kernel_rfl) ?_
                refine thn_nrm ?_
                have _f_148 := (_q106.ch _cw_145 (fun g hg hm => by have _h0 := List.mem_singleton.1 hm; have _h2 := _lo106 _ hg; have _h3 := _hiu106 _ hg; omega))
                exact _J_107 _ _ _b8 (.slice _Au106 (repE ta.flat (if (x.tok.low - 1) > 0 then (x.tok.low - 1) else 0) (x.tok.high - 1)).length _Cu106) (Sub.cons rfl (Sub.cons rfl (Sub.cons rfl (Sub.cons rfl (Sub.nil _))))) ((((((Ch.refl [] _w_2).trans _cw_125).trans _cw_129).trans _cw_139).trans _cw_142).step _cw_145 (fun i hi => .inl (by have _h1 := List.mem_singleton.1 hi; omega))) _f_148 (Lo.down _lo106 (by omega)) _m_146 (by omega) (fun hm => by have _h1 := _lo106 _ hm; have _h2 := _hiu106 _ hm; omega)
            · refine DO_s rfl rfl rfl ?_
              refine s_alloc zr26 fun _b8 _w_149 _m8 _cw_149 _e8 => ?_
              have _cw_149z := _cw_149.size
              have E := E.trans _cw_149
              have _z8 := _m8.lt
              replace _m8 : Blk _w_149 _b8 26 [(.slice none 0 0)] := _m8
              have _S_150 : Ch [] _w_125 _w_149 := ((Ch.refl _ _).trans _cw_149)
              refine ⟨_S_150, ?_⟩
              refine DR_one 6 (by kernel_rfl) ?_
              refine DO_s rfl rfl rfl ?_
              have _f_151 := (_tr90.ch0 _cw_149)
              refine Step.call (r_call (xs := [.tmp 91]) fk56 rfl) (c_impl_tree_expr _f_151 (by omega)) fun _v92 _w_152 _q92 => ?_
              obtain ⟨_u92, rfl, _q92, _lo92, _cw_152⟩ := _q92
              have _cw_152z := _cw_152.size
              have E := E.trans _cw_152
              obtain ⟨_Au92, _Cu92, _eu92⟩ := _q92.val
              subst _eu92
              have _lu92 := _q92.len
              have _hiu92 := _q92.lt
              have _S_153 : Ch [] _w_125 _w_152 := (_S_150.trans _cw_152)
              refine ⟨_S_153, ?_⟩
              refine DR_one 20 (by kernel_rfl) ?_
              refine DO_s rfl rfl rfl ?_
              refine Step.call (r_call (xs := [.tmp 92, .tmp 99, .tmp 105]) fk58 rfl) (c_impl_RepeatExpr _q92.ls _ _ (by omega)) fun _v106 _w_154 _q106 => ?_
              obtain ⟨_u106, rfl, _q106, _lo106, _cw_154⟩ := _q106
              have _cw_154z := _cw_154.size
              have E := E.trans _cw_154
              obtain ⟨_Au106, _Cu106, _eu106⟩ := _q106.val
              subst _eu106
              have _lu106 := _q106.len
              have _hiu106 := _q106.lt
              have _S_155 : Ch [] _w_125 _w_154 := (_S_153.trans _cw_154)
              refine ⟨_S_155, ?_⟩
              refine DR_one 22 (by kernel_rfl) ?_
              refine DO_s rfl rfl rfl ?_
              have _f_156 := ((_m8.ch0 _cw_152).ch0 _cw_154)
              refine s_storeA (off := 0) 1 _f_156 sz26 rfl (us := [(.slice _Au106 (repE ta.flat (if (x.tok.low - 1) > 0 then (x.tok.low - 1) else 0) (x.tok.high - 1)).length _Cu106)]) rfl rfl rfl rfl fun _w_157 _m_158 _cw_157 => ?_
              have _cw_157z := _cw_157.size
              have E := E.step _cw_157 (fun i hi => .inl (by have _h1 := List.mem_singleton.1 hi; omega))
              replace _m_158 : Blk _w_157 _b8 26 [(.slice _Au106 (repE ta.flat (if (x.tok.low - 1) > 0 then (x.tok.low - 1) else 0) (x.tok.high - 1)).length _Cu106)] := _m_158
              have _S_159 : Ch [] _w_125 _w_157 := (_S_155.step _cw_157 (fun i hm => by have _h0 := List.mem_singleton.1 hm; left; omega))
              refine ⟨_S_159, ?_⟩
              refine DR_done (by kernel_rfl) ?_
              refine thn_nrm ?_
              have _f_160 := (_q106.ch _cw_157 (fun g hg hm => by have _h0 := List.mem_singleton.1 hm; have _h2 := _lo106 _ hg; have _h3 := _hiu106 _ hg; omega))
              exact _J_107 _ _ _b8 (.slice _Au106 (repE ta.flat (if (x.tok.low - 1) > 0 then (x.tok.low - 1) else 0) (x.tok.high - 1)).length _Cu106) (Sub.cons rfl (Sub.cons rfl (Sub.cons rfl (Sub.cons rfl (Sub.nil _))))) ((((((Ch.refl [] _w_2).trans _cw_125).trans _cw_149).trans _cw_152).trans _cw_154).step _cw_157 (fun i hi => .inl (by have _h1 := List.mem_singleton.1 hi; omega))) _f_160 (Lo.down _lo106 (by omega)) _m_158 (by omega) (fun hm => by have _h1 := _lo106 _ hm; have _h2 := _hiu106 _ hm; omega)
          · have _kb_104 := _h84
            have _h84 := bf_d _h84
            refine W_skip ?_
            refine inB_nrm ?_
            refine thn_nrm (_hK_3 _ _ ?_)
            clear _hK_3
            refine W_seq fun _K_161 _hK_161 => ?_
            refine W_region ?_
            refine WL_s rfl rfl ?_
            refine Step.call (r_call (xs := [.const (Go.Value.int Go.IntKind.i64 1)]) fk54 rfl) (c_impl_single _ ) fun _v117 _w_162 _q117 => ?_
            obtain ⟨_u117, rfl, _q117, _lo117, _cw_162⟩ := _q117
            have _cw_162z := _cw_162.size
            have E := E.trans _cw_162
            obtain ⟨_Au117, _Cu117, _eu117⟩ := _q117.val
            subst _eu117
            have _lu117 := _q117.len
            have _hiu117 := _q117.lt
            refine WL_s rfl rfl ?_
            have _f_163 := (_m4.ch0 _cw_162)
            refine s_storeA (off := 0) 1 _f_163 sz26 rfl (us := [(.slice _Au117 ([(⟨1, 0, 0, 0⟩ : Token)]).length _Cu117)]) rfl rfl rfl rfl fun _w_164 _m_165 _cw_164 => ?_
            have _cw_164z := _cw_164.size
            have E := E.step _cw_164 (fun i hi => .inl (by have _h1 := List.mem_singleton.1 hi; omega))
            replace _m_165 : Blk _w_164 _b4 26 [(.slice _Au117 ([(⟨1, 0, 0, 0⟩ : Token)]).length _Cu117)] := _m_165
            refine WL_nil ?_
            refine thn_nrm (_hK_161 _ _ ?_)
            clear _hK_161
            refine W_ret ?_
            have _f_167 := (_q117.ch _cw_164 (fun g hg hm => by have _h0 := List.mem_singleton.1 hm; have _h2 := _lo117 _ hg; have _h3 := _hiu117 _ hg; omega))
            have _o_166 : Ol Token.cs 52 4 _w_164 (.slice _Au117 ([(⟨1, 0, 0, 0⟩ : Token)]).length _Cu117) (derT letter x) := by
              have hx := _f_167
              exact hx.eq (by first | exact der3 hok (by omega) (by omega) | exact der0 hok (by omega) (by omega) | exact der4t hok (by omega) _hk0 _hk1 _h45 | exact der4f hok (by omega) _hk0 _hk1 _h45 | exact der5 hok (by omega) _hk0 _hk1 | exact der6 hok (by omega) _hk0 | exact der7 hok (by omega) _hk0)
            exact ret_intro [_] (resOf_loadA _m_165 rfl agg26 sz26 trivial) ⟨_, rfl, _o_166, Lo.down _lo117 (by omega), E⟩
theorem c_impl_tree_derive {w : World} {LT_x _B_x : Nat} {p_x : Addr} {x : Tr} (_h_x : TrAt w LT_x _B_x p_x x) (letter : Int) (hok : Okd x) (hb : x.sz ≤ 400) :
    Ctr Tryz.prog 36 #[(.pointer (some p_x)), (.int .i64 letter)] w (fun v w' => ∃ u, v = .agg #[u] ∧ Ol Token.cs 52 4 w' u (derT letter x) ∧ Lo w.heap.size u ∧ Ch [] w w') := c_impl_tree_derive_n _ _h_x letter hok hb (Nat.lt_succ_self _)

/-- impl.Derivative -/
theorem c_impl_Derivative {w : World} {LL_e _B_e : Nat} {_v_e : Value} {e : List Token} (_h_e : Ls Token.cs 4 w LL_e _B_e _v_e e) (letter : Int) :
    Ctr Tryz.prog 15 #[(.agg #[_v_e]), (.int .i64 letter)] w (fun v w' => ∃ (u0x0 : Value), v = .tuple #[.agg #[u0x0], .bool ((derE e letter).2)] ∧ Ol Token.cs 52 4 w' u0x0 ((derE e letter).1) ∧ Lo w.heap.size u0x0 ∧ Ch [] w w') := by
  obtain ⟨_A_e, _C_e, _e1_e⟩ := _h_e.val
  subst _e1_e
  have _l_e := _h_e.len
  have _h_e := _h_e.here (by decide)
  have E := Ch.refl [] w
  refine Ctr_of_W (N := 32) (vs0 := [(.agg #[(.slice _A_e e.length _C_e)]), (.int .i64 letter)]) Tryz.func15 rfl rfl rfl ?_
  refine W_seq fun _K_1 _hK_1 => ?_
  refine W_region ?_
  refine WL_s rfl rfl ?_
  refine s_box rfl fun _b2 _w_2 _m2 _cw_2 _e2 => ?_
  have _cw_2z := _cw_2.size
  have E := E.trans _cw_2
  have _z2 := _m2.lt
  replace _m2 : Blk _w_2 _b2 26 [(.slice _A_e e.length _C_e)] := _m2
  refine WL_s rfl rfl ?_
  refine s_alloc zr26 fun _b4 _w_3 _m4 _cw_3 _e4 => ?_
  have _cw_3z := _cw_3.size
  have E := E.trans _cw_3
  have _z4 := _m4.lt
  replace _m4 : Blk _w_3 _b4 26 [(.slice none 0 0)] := _m4
  refine WL_step rfl rfl (r_assign rfl) ?_
  refine WL_nil ?_
  refine thn_nrm (_hK_1 _ _ ?_)
  clear _hK_1
  refine W_seq fun _K_4 _hK_4 => ?_
  refine W_seq fun _K_5 _hK_5 => ?_
  refine W_region ?_
  refine WL_step rfl rfl (r_fieldAddr fa26_0 rfl) ?_
  have _f_6 := (_m2.ch0 _cw_3)
  refine WL_step rfl rfl (r_loadAt _f_6.at_ agg24 rfl rfl) ?_
  refine WL_step rfl rfl (r_len (by rw [el24]; rfl) rfl) ?_
  refine WL_step rfl rfl (r_gtr rfl rfl) ?_
  refine WL_step rfl rfl (r_move rfl) ?_
  refine WL_split (d := 12) rfl (fun _h12 => ?_) (fun _h12 => ?_)
  · have _kb_7 := _h12
    have _h12 := bt_d _h12
    refine WL_skip rfl rfl ?_
    refine WL_skip rfl rfl ?_
    refine WL_skip rfl rfl ?_
    refine WL_step rfl rfl (r_pickT rfl rfl) ?_
    refine WL_nil ?_
    refine thn_nrm (_hK_5 _ _ ?_)
    clear _hK_5
    refine W_condT rfl ?_
    refine W_seq fun _K_8 _hK_8 => ?_
    refine W_region ?_
    refine WL_step rfl rfl (r_build (parts := []) (cells := [(.slice none 0 0)]) zr26 pl26 rfl rfl) ?_
    refine WL_s rfl rfl ?_
    refine s_storeA (off := 0) 1 _m4 sz26 rfl (us := [(.slice none 0 0)]) rfl rfl rfl rfl fun _w_9 _m_10 _cw_9 => ?_
    have _cw_9z := _cw_9.size
    have E := E.step _cw_9 (fun i hi => .inl (by have _h1 := List.mem_singleton.1 hi; omega))
    replace _m_10 : Blk _w_9 _b4 26 [(.slice none 0 0)] := _m_10
    refine WL_step rfl rfl (r_assign rfl) ?_
    refine WL_nil ?_
    refine thn_nrm (_hK_8 _ _ ?_)
    clear _hK_8
    refine W_ret (thn_ret ?_)
    clear _hK_4
    have _o_11 : Ol Token.cs 52 4 _w_9 (.slice none 0 0) ((derE e letter).1) := by
      have hx := (Ol.nil (cs := Token.cs) (e := 52) (k := 4) _w_9)
      first | (rw [derE_n1 _e19]; exact hx) | (rw [derE_n2 (by omega)]; exact hx) | (rw [derE_n3 _e19 (by omega)]; exact hx) | (rw [derE_y _e19 (by omega) (by omega) (by omega)]; exact hx)
    exact ret_intro [_, _] (resOf_loadA _m_10 rfl agg26 sz26 ⟨rfl, trivial⟩) ⟨(.slice none 0 0), (congrArg (fun zq => (Value.tuple #[.agg #[(.slice none 0 0)], .bool zq])) (by first | (rw [derE_n1 _e19]; done) | (rw [derE_n2 (by omega)]; done) | (rw [derE_n3 _e19 (by omega)]; done) | (rw [derE_y _e19 (by omega) (by omega) (by omega)]; done))), _o_11, (Lo.nil _), E⟩
  · have _kb_7 := _h12
    have _h12 := bf_d _h12
    refine WL_step rfl rfl (r_move rfl) ?_
    refine WL_s rfl rfl ?_
    refine Step.call (r_call (xs := [.tmp 13]) fk35 rfl) (c_impl_isLetter _ ) fun _v14 _w_12 _q14 => ?_
    obtain ⟨rfl, _cw_12⟩ := _q14
    have _cw_12z := _cw_12.size
    have E := E.trans _cw_12
    refine WL_step rfl rfl (r_not rfl) ?_
    refine WL_step rfl rfl (r_pickF rfl rfl) ?_
    refine WL_nil ?_
    refine thn_nrm (_hK_5 _ _ ?_)
    clear _hK_5
    refine W_cond rfl (fun _h16 => ?_) (fun _h16 => ?_)
    · have _kb_13 := _h16
      have _h16 := bf_d (bt_n _h16)
      refine W_seq fun _K_14 _hK_14 => ?_
      refine W_region ?_
      refine WL_step rfl rfl (r_build (parts := []) (cells := [(.slice none 0 0)]) zr26 pl26 rfl rfl) ?_
      refine WL_s rfl rfl ?_
      have _f_15 := (_m4.ch0 _cw_12)
      refine s_storeA (off := 0) 1 _f_15 sz26 rfl (us := [(.slice none 0 0)]) rfl rfl rfl rfl fun _w_16 _m_17 _cw_16 => ?_
      have _cw_16z := _cw_16.size
      have E := E.step _cw_16 (fun i hi => .inl (by have _h1 := List.mem_singleton.1 hi; omega))
      replace _m_17 : Blk _w_16 _b4 26 [(.slice none 0 0)] := _m_17
      refine WL_step rfl rfl (r_assign rfl) ?_
      refine WL_nil ?_
      refine thn_nrm (_hK_14 _ _ ?_)
      clear _hK_14
      refine W_ret (thn_ret ?_)
      clear _hK_4
      have _o_18 : Ol Token.cs 52 4 _w_16 (.slice none 0 0) ((derE e letter).1) := by
        have hx := (Ol.nil (cs := Token.cs) (e := 52) (k := 4) _w_16)
        first | (rw [derE_n1 _e19]; exact hx) | (rw [derE_n2 (by omega)]; exact hx) | (rw [derE_n3 _e19 (by omega)]; exact hx) | (rw [derE_y _e19 (by omega) (by omega) (by omega)]; exact hx)
      exact ret_intro [_, _] (resOf_loadA _m_17 rfl agg26 sz26 ⟨rfl, trivial⟩) ⟨(.slice none 0 0), (congrArg (fun zq => (Value.tuple #[.agg #[(.slice none 0 0)], .bool zq])) (by first | (rw [derE_n1 _e19]; done) | (rw [derE_n2 (by omega)]; done) | (rw [derE_n3 _e19 (by omega)]; done) | (rw [derE_y _e19 (by omega) (by omega) (by omega)]; done))), _o_18, (Lo.nil _), E⟩
    · have _kb_13 := _h16
      have _h16 := bt_d (bf_n _h16)
      refine W_skip ?_
      refine thn_nrm (_hK_4 _ _ ?_)
      clear _hK_4
      refine W_seq fun _K_19 _hK_19 => ?_
      refine W_region ?_
      have _f_20 := (_f_6.ch0 _cw_12)
      refine WL_step rfl rfl (r_loadAtA0 _f_20.at_ agg26 sz26 rfl) ?_
      refine WL_s rfl rfl ?_
      have _f_21 := (((_h_e.ch0 _cw_2).ch0 _cw_3).ch0 _cw_12)
      refine Step.call (r_call (xs := [.tmp 18]) fk25 rfl) (c_impl_treeOf _f_21 (by omega)) fun _v19 _w_22 _q19 => ?_
      obtain ⟨_q19, _cw_22⟩ := _q19
      have _cw_22z := _cw_22.size
      have E := E.trans _cw_22
      rcases _q19 with ⟨_e19, rfl⟩ | ⟨tt19, _p19, _e19, rfl, _tr19⟩
      · first | have _z6 := treeL_sz _e19 | skip
        refine WL_step rfl rfl (r_assign rfl) ?_
        refine WL_nil ?_
        refine thn_nrm (_hK_19 _ _ ?_)
        clear _hK_19
        refine W_seq fun _K_23 _hK_23 => ?_
        refine W_seq fun _K_24 _hK_24 => ?_
        refine W_region ?_
        refine WL_step rfl rfl (r_move rfl) ?_
        refine WL_step rfl rfl (r_eqPN ptr46 rfl rfl) ?_
        refine WL_nil ?_
        refine thn_nrm (_hK_24 _ _ ?_)
        clear _hK_24
        refine W_condT rfl ?_
        refine W_seq fun _K_25 _hK_25 => ?_
        refine W_region ?_
        refine WL_step rfl rfl (r_build (parts := []) (cells := [(.slice none 0 0)]) zr26 pl26 rfl rfl) ?_
        refine WL_s rfl rfl ?_
        have _f_26 := ((_m4.ch0 _cw_12).ch0 _cw_22)
        refine s_storeA (off := 0) 1 _f_26 sz26 rfl (us := [(.slice none 0 0)]) rfl rfl rfl rfl fun _w_27 _m_28 _cw_27 => ?_
        have _cw_27z := _cw_27.size
        have E := E.step _cw_27 (fun i hi => .inl (by have _h1 := List.mem_singleton.1 hi; omega))
        replace _m_28 : Blk _w_27 _b4 26 [(.slice none 0 0)] := _m_28
        refine WL_step rfl rfl (r_assign rfl) ?_
        refine WL_nil ?_
        refine thn_nrm (_hK_25 _ _ ?_)
        clear _hK_25
        refine W_ret (thn_ret ?_)
        clear _hK_23
        have _o_29 : Ol Token.cs 52 4 _w_27 (.slice none 0 0) ((derE e letter).1) := by
          have hx := (Ol.nil (cs := Token.cs) (e := 52) (k := 4) _w_27)
          first | (rw [derE_n1 _e19]; exact hx) | (rw [derE_n2 (by omega)]; exact hx) | (rw [derE_n3 _e19 (by omega)]; exact hx) | (rw [derE_y _e19 (by omega) (by omega) (by omega)]; exact hx)
        exact ret_intro [_, _] (resOf_loadA _m_28 rfl agg26 sz26 ⟨rfl, trivial⟩) ⟨(.slice none 0 0), (congrArg (fun zq => (Value.tuple #[.agg #[(.slice none 0 0)], .bool zq])) (by first | (rw [derE_n1 _e19]; done) | (rw [derE_n2 (by omega)]; done) | (rw [derE_n3 _e19 (by omega)]; done) | (rw [derE_y _e19 (by omega) (by omega) (by omega)]; done))), _o_29, (Lo.nil _), E⟩
      · replace _tr19 : TrAt _w_22 _w_12.heap.size _w_22.heap.size _p19 tt19 := _tr19
        obtain ⟨_A_19, _C_19, _ps_19, _hc_19, _hk_19, _kd_19⟩ := _tr19.open
        have _kl_19 := _kd_19.1
        first | have _z6 := treeL_sz _e19 | skip
        refine WL_step rfl rfl (r_assign rfl) ?_
        refine WL_nil ?_
        refine thn_nrm (_hK_19 _ _ ?_)
        clear _hK_19
        refine W_seq fun _K_30 _hK_30 => ?_
        refine W_seq fun _K_31 _hK_31 => ?_
        refine W_region ?_
        refine WL_step rfl rfl (r_move rfl) ?_
        refine WL_step rfl rfl (r_eqPN ptr46 rfl rfl) ?_
        refine WL_nil ?_
        refine thn_nrm (_hK_31 _ _ ?_)
        clear _hK_31
        refine W_condF rfl ?_
        refine W_skip ?_
        refine thn_nrm (_hK_30 _ _ ?_)
        clear _hK_30
        refine W_seq fun _K_32 _hK_32 => ?_
        refine W_region ?_
        refine WL_step rfl rfl (r_move rfl) ?_
        refine WL_step rfl rfl (r_move rfl) ?_
        refine WL_s rfl rfl ?_
        refine Step.call (r_call (xs := [.tmp 23, .tmp 24]) fk36 rfl) (c_impl_tree_derive _tr19 _ (treeL_ok _e19).1 (by omega)) fun _v25 _w_33 _q25 => ?_
        obtain ⟨_u25, rfl, _q25, _lo25, _cw_33⟩ := _q25
        have _cw_33z := _cw_33.size
        have E := E.trans _cw_33
        obtain ⟨_Au25, _Cu25, _eu25⟩ := _q25.val
        subst _eu25
        have _lu25 := _q25.len
        have _hiu25 := _q25.lt
        refine WL_s rfl rfl ?_
        refine s_alloc zr26 fun _b7 _w_34 _m7 _cw_34 _e7 => ?_
        have _cw_34z := _cw_34.size
        have E := E.trans _cw_34
        have _z7 := _m7.lt
        replace _m7 : Blk _w_34 _b7 26 [(.slice none 0 0)] := _m7
        refine WL_s rfl rfl ?_
        refine s_storeA (off := 0) 1 _m7 sz26 rfl (us := [(.slice _Au25 (derT letter tt19).length _Cu25)]) rfl rfl rfl rfl fun _w_35 _m_36 _cw_35 => ?_
        have _cw_35z := _cw_35.size
        have E := E.step _cw_35 (fun i hi => .inl (by have _h1 := List.mem_singleton.1 hi; omega))
        replace _m_36 : Blk _w_35 _b7 26 [(.slice _Au25 (derT letter tt19).length _Cu25)] := _m_36
        refine WL_nil ?_
        refine thn_nrm (_hK_32 _ _ ?_)
        clear _hK_32
        refine W_seq fun _K_37 _hK_37 => ?_
        refine W_seq fun _K_38 _hK_38 => ?_
        refine W_region ?_
        refine WL_step rfl rfl (r_fieldAddr fa26_0 rfl) ?_
        refine WL_step rfl rfl (r_loadAt _m_36.at_ agg24 rfl rfl) ?_
        refine WL_step rfl rfl (r_len (by rw [el24]; rfl) rfl) ?_
        refine WL_step rfl rfl (r_gtr rfl rfl) ?_
        refine WL_nil ?_
        refine thn_nrm (_hK_38 _ _ ?_)
        clear _hK_38
        refine W_cond rfl (fun _h29 => ?_) (fun _h29 => ?_)
        · have _kb_39 := _h29
          have _h29 := bt_d _h29
          refine W_seq fun _K_40 _hK_40 => ?_
          refine W_region ?_
          refine WL_step rfl rfl (r_build (parts := []) (cells := [(.slice none 0 0)]) zr26 pl26 rfl rfl) ?_
          refine WL_s rfl rfl ?_
          have _f_41 := (((((_m4.ch0 _cw_12).ch0 _cw_22).ch0 _cw_33).ch0 _cw_34).ch _cw_35 (fun hm => by have _h1 := List.mem_singleton.1 hm; omega))
          refine s_storeA (off := 0) 1 _f_41 sz26 rfl (us := [(.slice none 0 0)]) rfl rfl rfl rfl fun _w_42 _m_43 _cw_42 => ?_
          have _cw_42z := _cw_42.size
          have E := E.step _cw_42 (fun i hi => .inl (by have _h1 := List.mem_singleton.1 hi; omega))
          replace _m_43 : Blk _w_42 _b4 26 [(.slice none 0 0)] := _m_43
          refine WL_step rfl rfl (r_assign rfl) ?_
          refine WL_nil ?_
          refine thn_nrm (_hK_40 _ _ ?_)
          clear _hK_40
          refine W_ret (thn_ret ?_)
          clear _hK_37
          have _o_44 : Ol Token.cs 52 4 _w_42 (.slice none 0 0) ((derE e letter).1) := by
            have hx := (Ol.nil (cs := Token.cs) (e := 52) (k := 4) _w_42)
            first | (rw [derE_n1 _e19]; exact hx) | (rw [derE_n2 (by omega)]; exact hx) | (rw [derE_n3 _e19 (by omega)]; exact hx) | (rw [derE_y _e19 (by omega) (by omega) (by omega)]; exact hx)
          exact ret_intro [_, _] (resOf_loadA _m_43 rfl agg26 sz26 ⟨rfl, trivial⟩) ⟨(.slice none 0 0), (congrArg (fun zq => (Value.tuple #[.agg #[(.slice none 0 0)], .bool zq])) (by first | (rw [derE_n1 _e19]; done) | (rw [derE_n2 (by omega)]; done) | (rw [derE_n3 _e19 (by omega)]; done) | (rw [derE_y _e19 (by omega) (by omega) (by omega)]; done))), _o_44, (Lo.nil _), E⟩
        · have _kb_39 := _h29
          have _h29 := bf_d _h29
          refine W_skip ?_
          refine thn_nrm (_hK_37 _ _ ?_)
          clear _hK_37
          refine W_seq fun _K_45 _hK_45 => ?_
          refine W_region ?_
          refine WL_step rfl rfl (r_loadAtA0 _m_36.at_ agg26 sz26 rfl) ?_
          refine WL_s rfl rfl ?_
          have _f_46 := (((((_m4.ch0 _cw_12).ch0 _cw_22).ch0 _cw_33).ch0 _cw_34).ch _cw_35 (fun hm => by have _h1 := List.mem_singleton.1 hm; omega))
          refine s_storeA (off := 0) 1 _f_46 sz26 rfl (us := [(.slice _Au25 (derT letter tt19).length _Cu25)]) rfl rfl rfl rfl fun _w_47 _m_48 _cw_47 => ?_
          have _cw_47z := _cw_47.size
          have E := E.step _cw_47 (fun i hi => .inl (by have _h1 := List.mem_singleton.1 hi; omega))
          replace _m_48 : Blk _w_47 _b4 26 [(.slice _Au25 (derT letter tt19).length _Cu25)] := _m_48
          refine WL_step rfl rfl (r_assign rfl) ?_
          refine WL_nil ?_
          refine thn_nrm (_hK_45 _ _ ?_)
          clear _hK_45
          refine W_ret ?_
          have _f_49 := (((_q25.ch0 _cw_34).ch _cw_35 (fun g hg hm => by have _h0 := List.mem_singleton.1 hm; have _h2 := _lo25 _ hg; have _h3 := _hiu25 _ hg; omega)).ch _cw_47 (fun g hg hm => by have _h0 := List.mem_singleton.1 hm; have _h2 := _lo25 _ hg; have _h3 := _hiu25 _ hg; omega))
          have _o_50 : Ol Token.cs 52 4 _w_47 (.slice _Au25 (derT letter tt19).length _Cu25) ((derE e letter).1) := by
            have hx := _f_49
            first | (rw [derE_n1 _e19]; exact hx) | (rw [derE_n2 (by omega)]; exact hx) | (rw [derE_n3 _e19 (by omega)]; exact hx) | (rw [derE_y _e19 (by omega) (by omega) (by omega)]; exact hx)
          exact ret_intro [_, _] (resOf_loadA _m_48 rfl agg26 sz26 ⟨rfl, trivial⟩) ⟨(.slice _Au25 (derT letter tt19).length _Cu25), (congrArg (fun zq => (Value.tuple #[.agg #[(.slice _Au25 (derT letter tt19).length _Cu25)], .bool zq])) (by first | (rw [derE_n1 _e19]; done) | (rw [derE_n2 (by omega)]; done) | (rw [derE_n3 _e19 (by omega)]; done) | (rw [derE_y _e19 (by omega) (by omega) (by omega)]; done))), _o_50, (Lo.down _lo25 (by omega)), E⟩

/-- impl.DerivativeWord -/
theorem c_impl_DerivativeWord {w : World} {LL_e _B_e : Nat} {_v_e : Value} {e : List Token} (_h_e : Ls Token.cs 4 w LL_e _B_e _v_e e) {LL_w9 _B_w9 : Nat} {_v_w9 : Value} {w9 : List Int} (_h_w9 : Ls ics 1 w LL_w9 _B_w9 _v_w9 w9) (hb : e.length ≤ 1048576) :
    Ctr Tryz.prog 8 #[(.agg #[_v_e]), _v_w9] w (fun v w' => ∃ (u0x0 : Value), v = .tuple #[.agg #[u0x0], .bool ((dwE e w9).2)] ∧ Ol Token.cs 52 4 w' u0x0 ((dwE e w9).1) ∧ Lo w.heap.size u0x0 ∧ Ch [] w w') := by
  obtain ⟨_A_e, _C_e, _e1_e⟩ := _h_e.val
  subst _e1_e
  have _l_e := _h_e.len
  have _h_e := _h_e.here (by decide)
  obtain ⟨_A_w9, _C_w9, _e1_w9⟩ := _h_w9.val
  subst _e1_w9
  have _l_w9 := _h_w9.len
  have _h_w9 := _h_w9.here (by decide)
  have E := Ch.refl [] w
  refine Ctr_of_W (N := 41) (vs0 := [(.agg #[(.slice _A_e e.length _C_e)]), (.slice _A_w9 w9.length _C_w9)]) Tryz.func8 rfl rfl rfl ?_
  refine W_seq fun _K_1 _hK_1 => ?_
  refine W_region ?_
  refine WL_s rfl rfl ?_
  refine s_box rfl fun _b2 _w_2 _m2 _cw_2 _e2 => ?_
  have _cw_2z := _cw_2.size
  have E := E.trans _cw_2
  have _z2 := _m2.lt
  replace _m2 : Blk _w_2 _b2 26 [(.slice _A_e e.length _C_e)] := _m2
  refine WL_s rfl rfl ?_
  refine s_alloc zr26 fun _b4 _w_3 _m4 _cw_3 _e4 => ?_
  have _cw_3z := _cw_3.size
  have E := E.trans _cw_3
  have _z4 := _m4.lt
  replace _m4 : Blk _w_3 _b4 26 [(.slice none 0 0)] := _m4
  refine WL_step rfl rfl (r_assign rfl) ?_
  refine WL_nil ?_
  refine thn_nrm (_hK_1 _ _ ?_)
  clear _hK_1
  refine W_seq fun _K_4 _hK_4 => ?_
  refine W_seq fun _K_5 _hK_5 => ?_
  refine W_region ?_
  have _f_6 := (_m2.ch0 _cw_3)
  refine WL_step rfl rfl (r_loadAtA0 _f_6.at_ agg26 sz26 rfl) ?_
  refine WL_s rfl rfl ?_
  have _f_7 := ((_h_e.ch0 _cw_2).ch0 _cw_3)
  refine Step.call (r_call (xs := [.tmp 11]) fk28 rfl) (c_impl_IsExpr _f_7 (by omega)) fun _v12 _w_8 _q12 => ?_
  obtain ⟨rfl, _cw_8⟩ := _q12
  have _cw_8z := _cw_8.size
  have E := E.trans _cw_8
  refine WL_step rfl rfl (r_not rfl) ?_
  refine WL_step rfl rfl (r_move rfl) ?_
  refine WL_split (d := 14) rfl (fun _h14 => ?_) (fun _h14 => ?_)
  · have _kb_9 := _h14
    have _h14 := bt_n _h14
    refine WL_skip rfl rfl ?_
    refine WL_skip rfl rfl ?_
    refine WL_skip rfl rfl ?_
    refine WL_skip rfl rfl ?_
    refine WL_step rfl rfl (r_pickT rfl rfl) ?_
    refine WL_nil ?_
    refine thn_nrm (_hK_5 _ _ ?_)
    clear _hK_5
    refine W_condT rfl ?_
    refine W_seq fun _K_10 _hK_10 => ?_
    refine W_region ?_
    refine WL_step rfl rfl (r_build (parts := []) (cells := [(.slice none 0 0)]) zr26 pl26 rfl rfl) ?_
    refine WL_s rfl rfl ?_
    have _f_11 := (_m4.ch0 _cw_8)
    refine s_storeA (off := 0) 1 _f_11 sz26 rfl (us := [(.slice none 0 0)]) rfl rfl rfl rfl fun _w_12 _m_13 _cw_12 => ?_
    have _cw_12z := _cw_12.size
    have E := E.step _cw_12 (fun i hi => .inl (by have _h1 := List.mem_singleton.1 hi; omega))
    replace _m_13 : Blk _w_12 _b4 26 [(.slice none 0 0)] := _m_13
    refine WL_step rfl rfl (r_assign rfl) ?_
    refine WL_nil ?_
    refine thn_nrm (_hK_10 _ _ ?_)
    clear _hK_10
    refine W_ret (thn_ret ?_)
    clear _hK_4
    have _o_14 : Ol Token.cs 52 4 _w_12 (.slice none 0 0) ((dwE e w9).1) := by
      have hx := (Ol.nil (cs := Token.cs) (e := 52) (k := 4) _w_12)
      first | (rw [dwE_n1 (fun c => by first | exact Bool.noConfusion (c.1.symm.trans _h14) | (have c2 := c.2; omega))]; exact hx) | (rw [dwE_n2 _h14 (by omega) (derW_none hw _hy27 _h36)]; exact hx) | (rw [dwE_y _h14 (by omega) (derW_end hw (by omega))]; exact hx)
    exact ret_intro [_, _] (resOf_loadA _m_13 rfl agg26 sz26 ⟨rfl, trivial⟩) ⟨(.slice none 0 0), (congrArg (fun zq => (Value.tuple #[.agg #[(.slice none 0 0)], .bool zq])) (by first | (rw [dwE_n1 (fun c => by first | exact Bool.noConfusion (c.1.symm.trans _h14) | (have c2 := c.2; omega))]; done) | (rw [dwE_n2 _h14 (by omega) (derW_none hw _hy27 _h36)]; done) | (rw [dwE_y _h14 (by omega) (derW_end hw (by omega))]; done))), _o_14, (Lo.nil _), E⟩
  · have _kb_9 := _h14
    have _h14 := bf_n _h14
    refine WL_step rfl rfl (r_fieldAddr fa26_0 rfl) ?_
    have _f_15 := (_f_6.ch0 _cw_8)
    refine WL_step rfl rfl (r_loadAt _f_15.at_ agg24 rfl rfl) ?_
    refine WL_step rfl rfl (r_len (by rw [el24]; rfl) rfl) ?_
    refine WL_step rfl rfl (r_gtr rfl rfl) ?_
    refine WL_step rfl rfl (r_pickF rfl rfl) ?_
    refine WL_nil ?_
    refine thn_nrm (_hK_5 _ _ ?_)
    clear _hK_5
    refine W_cond rfl (fun _h19 => ?_) (fun _h19 => ?_)
    · have _kb_16 := _h19
      have _h19 := bt_d _h19
      refine W_seq fun _K_17 _hK_17 => ?_
      refine W_region ?_
      refine WL_step rfl rfl (r_build (parts := []) (cells := [(.slice none 0 0)]) zr26 pl26 rfl rfl) ?_
      refine WL_s rfl rfl ?_
      have _f_18 := (_m4.ch0 _cw_8)
      refine s_storeA (off := 0) 1 _f_18 sz26 rfl (us := [(.slice none 0 0)]) rfl rfl rfl rfl fun _w_19 _m_20 _cw_19 => ?_
      have _cw_19z := _cw_19.size
      have E := E.step _cw_19 (fun i hi => .inl (by have _h1 := List.mem_singleton.1 hi; omega))
      replace _m_20 : Blk _w_19 _b4 26 [(.slice none 0 0)] := _m_20
      refine WL_step rfl rfl (r_assign rfl) ?_
      refine WL_nil ?_
      refine thn_nrm (_hK_17 _ _ ?_)
      clear _hK_17
      refine W_ret (thn_ret ?_)
      clear _hK_4
      have _o_21 : Ol Token.cs 52 4 _w_19 (.slice none 0 0) ((dwE e w9).1) := by
        have hx := (Ol.nil (cs := Token.cs) (e := 52) (k := 4) _w_19)
        first | (rw [dwE_n1 (fun c => by first | exact Bool.noConfusion (c.1.symm.trans _h14) | (have c2 := c.2; omega))]; exact hx) | (rw [dwE_n2 _h14 (by omega) (derW_none hw _hy27 _h36)]; exact hx) | (rw [dwE_y _h14 (by omega) (derW_end hw (by omega))]; exact hx)
      exact ret_intro [_, _] (resOf_loadA _m_20 rfl agg26 sz26 ⟨rfl, trivial⟩) ⟨(.slice none 0 0), (congrArg (fun zq => (Value.tuple #[.agg #[(.slice none 0 0)], .bool zq])) (by first | (rw [dwE_n1 (fun c => by first | exact Bool.noConfusion (c.1.symm.trans _h14) | (have c2 := c.2; omega))]; done) | (rw [dwE_n2 _h14 (by omega) (derW_none hw _hy27 _h36)]; done) | (rw [dwE_y _h14 (by omega) (derW_end hw (by omega))]; done))), _o_21, (Lo.nil _), E⟩
    · have _kb_16 := _h19
      have _h19 := bf_d _h19
      refine W_skip ?_
      refine thn_nrm (_hK_4 _ _ ?_)
      clear _hK_4
      refine W_seq fun _K_22 _hK_22 => ?_
      refine W_region ?_
      refine WL_step rfl rfl (r_loadAtA0 _f_15.at_ agg26 sz26 rfl) ?_
      refine WL_s rfl rfl ?_
      have _f_23 := (_f_7.ch0 _cw_8)
      refine Step.call (r_call (xs := [.tmp 21]) fk29 rfl) (c_impl_copyExpr _f_23 (by omega)) fun _v22 _w_24 _q22 => ?_
      obtain ⟨_u22, rfl, _q22, _lo22, _cw_24⟩ := _q22
      have _cw_24z := _cw_24.size
      have E := E.trans _cw_24
      obtain ⟨_Au22, _Cu22, _eu22⟩ := _q22.val
      subst _eu22
      have _lu22 := _q22.len
      have _hiu22 := _q22.lt
      refine WL_s rfl rfl ?_
      refine s_alloc zr26 fun _b6 _w_25 _m6 _cw_25 _e6 => ?_
      have _cw_25z := _cw_25.size
      have E := E.trans _cw_25
      have _z6 := _m6.lt
      replace _m6 : Blk _w_25 _b6 26 [(.slice none 0 0)] := _m6
      refine WL_s rfl rfl ?_
      refine s_storeA (off := 0) 1 _m6 sz26 rfl (us := [(.slice _Au22 (e).length _Cu22)]) rfl rfl rfl rfl fun _w_26 _m_27 _cw_26 => ?_
      have _cw_26z := _cw_26.size
      have E := E.step _cw_26 (fun i hi => .inl (by have _h1 := List.mem_singleton.1 hi; omega))
      replace _m_27 : Blk _w_26 _b6 26 [(.slice _Au22 (e).length _Cu22)] := _m_27
      refine WL_nil ?_
      refine thn_nrm (_hK_22 _ _ ?_)
      clear _hK_22
      refine W_seq fun _K_28 _hK_28 => ?_
      refine W_seq fun _K_29 _hK_29 => ?_
      refine W_region ?_
      refine WL_step rfl rfl (r_move rfl) ?_
      refine WL_step rfl rfl (r_len (by rw [el27]; rfl) rfl) ?_
      refine WL_step rfl rfl (r_move rfl) ?_
      refine WL_nil ?_
      refine thn_nrm (_hK_29 _ _ ?_)
      clear _hK_29
      refine W_block ?_
      have _f_30 := ((_q22.ch0 _cw_25).ch _cw_26 (fun g hg hm => by have _h0 := List.mem_singleton.1 hm; have _h2 := _lo22 _ hg; have _h3 := _hiu22 _ hg; omega))
      have _oi_31 : Ol Token.cs 52 4 _w_26 (.slice _Au22 (e).length _Cu22) (e) := by
        have hx := _f_30
        exact hx
      have _f_32 := ((((_m4.ch0 _cw_8).ch0 _cw_24).ch0 _cw_25).ch _cw_26 (fun hm => by have _h1 := List.mem_singleton.1 hm; omega))
      refine W_loop (σ := Nat × List Token × Value) (fun ⟨k, r, sv⟩ => [(4, (.pointer (some ⟨_b4, 0, none⟩))), (6, (.pointer (some ⟨_b6, 0, none⟩))), (23, (.slice _A_w9 w9.length _C_w9)), (24, (.int .i64 ((w9.length : Nat) : Int))), (25, (.int .i64 ((k : Nat) : Int)))]) (fun ⟨k, r, sv⟩ wx => Ch [] w wx ∧ _w_26.heap.size ≤ wx.heap.size ∧ (k ≤ w9.length) ∧ (derW e (w9.take k) = some r) ∧ Blk wx _b4 26 [(.slice none 0 0)] ∧ Ol Token.cs 52 4 wx sv r ∧ Lo _w_8.heap.size sv ∧ Blk wx _b6 26 [sv] ∧ (_b6 ∉ bl sv)) (fun ⟨k, r, sv⟩ => w9.length - k) (0, e, (.slice _Au22 (e).length _Cu22)) (Sub.cons rfl (Sub.cons rfl (Sub.cons rfl (Sub.cons rfl (Sub.cons rfl (Sub.nil _)))))) ⟨E, (Nat.le_refl _), (by omega), rfl, _f_32, _oi_31, _lo22, _m_27, (fun hm => by have _h1 := _lo22 _ hm; have _h2 := _hiu22 _ hm; omega)⟩ ?_
      rintro ⟨k, r, sv⟩ _wr_33 ⟨E, _zz0, _hk, hw, _F0_0, _o0_6, _lo0_6, _m0_6, _nb0_6⟩
      have _E0h := E
      have _E0hz := _E0h.size
      have _F0_0z := _F0_0.lt
      obtain ⟨Asv, Csv, esv⟩ := _o0_6.val
      subst esv
      have lsv := _o0_6.len
      have hisv := _o0_6.lt
      refine W_seq fun _K_34 _hK_34 => ?_
      refine W_region ?_
      refine WL_step rfl rfl (r_lss rfl rfl) ?_
      refine WL_nil ?_
      refine thn_nrm (_hK_34 _ _ ?_)
      clear _hK_34
      refine W_seq fun _K_35 _hK_35 => ?_
      refine W_cond rfl (fun _h26 => ?_) (fun _h26 => ?_)
      · have _kb_36 := _h26
        have _h26 := bt_d _h26
        refine W_skip ?_
        refine thn_nrm (_hK_35 _ _ ?_)
        clear _hK_35
        refine W_seq fun _K_37 _hK_37 => ?_
        refine W_block ?_
        refine W_seq fun _K_38 _hK_38 => ?_
        refine W_region ?_
        refine WL_s rfl rfl ?_
        have _f_39 := (_h_w9.ch0 _E0h)
        refine (s_index _f_39 ics_len el27 sz3 rfl rfl rfl (by omega) fun _p27 _y27 _hy27 _a27 => ?_)
        refine WL_step rfl rfl (r_loadAt0 _a27 agg3 rfl rfl) ?_
        refine WL_step rfl rfl (r_assign rfl) ?_
        refine WL_nil ?_
        refine thn_nrm (_hK_38 _ _ ?_)
        clear _hK_38
        refine W_seq fun _K_40 _hK_40 => ?_
        refine W_region ?_
        refine WL_step rfl rfl (r_loadAtA0 _m0_6.at_ agg26 sz26 rfl) ?_
        refine WL_step rfl rfl (r_move rfl) ?_
        refine WL_s rfl rfl ?_
        refine Step.call (r_call (xs := [.tmp 30, .tmp 31]) fk15 rfl) (c_impl_Derivative _o0_6.ls _ ) fun _v32 _w_41 _q32 => ?_
        obtain ⟨u32_0x0, rfl, _q_u32_0x0, _lo_u32_0x0, _cw_41⟩ := _q32
        have _cw_41z := _cw_41.size
        have E := E.trans _cw_41
        obtain ⟨Au32_0x0, Cu32_0x0, eu32_0x0⟩ := _q_u32_0x0.val
        subst eu32_0x0
        have lu32_0x0 := _q_u32_0x0.len
        have _hiu32_0x0 := _q_u32_0x0.lt
        refine WL_step rfl rfl (r_move rfl) ?_
        refine WL_step rfl rfl (r_extract rfl rfl) ?_
        refine WL_step rfl rfl (r_extract rfl rfl) ?_
        refine WL_s rfl rfl ?_
        refine s_alloc zr26 fun _b9 _w_42 _m9 _cw_42 _e9 => ?_
        have _cw_42z := _cw_42.size
        have E := E.trans _cw_42
        have _z9 := _m9.lt
        replace _m9 : Blk _w_42 _b9 26 [(.slice none 0 0)] := _m9
        refine WL_s rfl rfl ?_
        refine s_storeA (off := 0) 1 _m9 sz26 rfl (us := [(.slice Au32_0x0 ((derE r _y27).1).length Cu32_0x0)]) rfl rfl rfl rfl fun _w_43 _m_44 _cw_43 => ?_
        have _cw_43z := _cw_43.size
        have E := E.step _cw_43 (fun i hi => .inl (by have _h1 := List.mem_singleton.1 hi; omega))
        replace _m_44 : Blk _w_43 _b9 26 [(.slice Au32_0x0 ((derE r _y27).1).length Cu32_0x0)] := _m_44
        refine WL_step rfl rfl (r_assign rfl) ?_
        refine WL_nil ?_
        refine thn_nrm (_hK_40 _ _ ?_)
        clear _hK_40
        refine W_seq fun _K_45 _hK_45 => ?_
        refine W_seq fun _K_46 _hK_46 => ?_
        refine W_region ?_
        refine WL_step rfl rfl (r_move rfl) ?_
        refine WL_step rfl rfl (r_not rfl) ?_
        refine WL_nil ?_
        refine thn_nrm (_hK_46 _ _ ?_)
        clear _hK_46
        refine W_cond rfl (fun _h36 => ?_) (fun _h36 => ?_)
        · have _kb_47 := _h36
          have _h36 := bt_n _h36
          refine W_seq fun _K_48 _hK_48 => ?_
          refine W_region ?_
          refine WL_step rfl rfl (r_build (parts := []) (cells := [(.slice none 0 0)]) zr26 pl26 rfl rfl) ?_
          refine WL_s rfl rfl ?_
          have _f_49 := (((_F0_0.ch0 _cw_41).ch0 _cw_42).ch _cw_43 (fun hm => by have _h1 := List.mem_singleton.1 hm; omega))
          refine s_storeA (off := 0) 1 _f_49 sz26 rfl (us := [(.slice none 0 0)]) rfl rfl rfl rfl fun _w_50 _m_51 _cw_50 => ?_
          have _cw_50z := _cw_50.size
          have E := E.step _cw_50 (fun i hi => .inl (by have _h1 := List.mem_singleton.1 hi; omega))
          replace _m_51 : Blk _w_50 _b4 26 [(.slice none 0 0)] := _m_51
          refine WL_step rfl rfl (r_assign rfl) ?_
          refine WL_nil ?_
          refine thn_nrm (_hK_48 _ _ ?_)
          clear _hK_48
          refine W_ret (thn_ret (inB_ret (thn_ret (thn_ret (inB_ret (thn_ret ?_))))))
          clear _hK_28 _hK_37 _hK_45
          have _o_52 : Ol Token.cs 52 4 _w_50 (.slice none 0 0) ((dwE e w9).1) := by
            have hx := (Ol.nil (cs := Token.cs) (e := 52) (k := 4) _w_50)
            first | (rw [dwE_n1 (fun c => by first | exact Bool.noConfusion (c.1.symm.trans _h14) | (have c2 := c.2; omega))]; exact hx) | (rw [dwE_n2 _h14 (by omega) (derW_none hw _hy27 _h36)]; exact hx) | (rw [dwE_y _h14 (by omega) (derW_end hw (by omega))]; exact hx)
          exact ret_intro [_, _] (resOf_loadA _m_51 rfl agg26 sz26 ⟨rfl, trivial⟩) ⟨(.slice none 0 0), (congrArg (fun zq => (Value.tuple #[.agg #[(.slice none 0 0)], .bool zq])) (by first | (rw [dwE_n1 (fun c => by first | exact Bool.noConfusion (c.1.symm.trans _h14) | (have c2 := c.2; omega))]; done) | (rw [dwE_n2 _h14 (by omega) (derW_none hw _hy27 _h36)]; done) | (rw [dwE_y _h14 (by omega) (derW_end hw (by omega))]; done))), _o_52, (Lo.nil _), E⟩
        · have _kb_47 := _h36
          have _h36 := bf_n _h36
          refine W_skip ?_
          refine thn_nrm (_hK_45 _ _ ?_)
          clear _hK_45
          refine W_region ?_
          refine WL_step rfl rfl (r_loadAtA0 _m_44.at_ agg26 sz26 rfl) ?_
          refine WL_s rfl rfl ?_
          have _f_53 := (((_m0_6.ch0 _cw_41).ch0 _cw_42).ch _cw_43 (fun hm => by have _h1 := List.mem_singleton.1 hm; omega))
          refine s_storeA (off := 0) 1 _f_53 sz26 rfl (us := [(.slice Au32_0x0 ((derE r _y27).1).length Cu32_0x0)]) rfl rfl rfl rfl fun _w_54 _m_55 _cw_54 => ?_
          have _cw_54z := _cw_54.size
          have E := E.step _cw_54 (fun i hi => .inl (by have _h1 := List.mem_singleton.1 hi; omega))
          replace _m_55 : Blk _w_54 _b6 26 [(.slice Au32_0x0 ((derE r _y27).1).length Cu32_0x0)] := _m_55
          refine WL_nil ?_
          refine inB_nrm ?_
          refine thn_nrm (_hK_37 _ _ ?_)
          clear _hK_37
          refine W_region ?_
          refine WL_step rfl rfl (r_add (by omega) rfl rfl) ?_
          refine WL_step rfl rfl (r_move rfl) ?_
          refine WL_nil ?_
          have _f_57 := (((_q_u32_0x0.ch0 _cw_42).ch _cw_43 (fun g hg hm => by have _h0 := List.mem_singleton.1 hm; have _h2 := _lo_u32_0x0 _ hg; have _h3 := _hiu32_0x0 _ hg; omega)).ch _cw_54 (fun g hg hm => by have _h0 := List.mem_singleton.1 hm; have _h2 := _lo_u32_0x0 _ hg; have _h3 := _hiu32_0x0 _ hg; omega))
          have _on_56 : Ol Token.cs 52 4 _w_54 (.slice Au32_0x0 ((derE r _y27).1).length Cu32_0x0) ((derE r _y27).1) := by
            have hx := _f_57
            exact hx
          have _f_58 := ((((_F0_0.ch0 _cw_41).ch0 _cw_42).ch _cw_43 (fun hm => by have _h1 := List.mem_singleton.1 hm; omega)).ch _cw_54 (fun hm => by have _h1 := List.mem_singleton.1 hm; omega))
          exact thn_nrm (Exists.intro ((k + 1), (derE r _y27).1, (.slice Au32_0x0 ((derE r _y27).1).length Cu32_0x0)) ⟨⟨E, (by omega), (by omega), (by rw [derW_step hw _hy27, if_pos _h36]), _f_58, _on_56, (Lo.down _lo_u32_0x0 (by omega)), _m_55, (fun hm => by have _h1 := _lo_u32_0x0 _ hm; have _h2 := _hiu32_0x0 _ hm; omega)⟩, Sub.cons rfl (Sub.cons rfl (Sub.cons rfl (Sub.cons rfl (Sub.cons rfl (Sub.nil _))))), (by first | omega | (dsimp only; omega))⟩)
      · have _kb_36 := _h26
        have _h26 := bf_d _h26
        refine W_exit (thn_exit (thn_exit (inB_hit ?_)))
        refine thn_nrm (_hK_28 _ _ ?_)
        clear _hK_28
        refine W_seq fun _K_59 _hK_59 => ?_
        refine W_region ?_
        refine WL_step rfl rfl (r_loadAtA0 _m0_6.at_ agg26 sz26 rfl) ?_
        refine WL_s rfl rfl ?_
        refine s_storeA (off := 0) 1 _F0_0 sz26 rfl (us := [(.slice Asv (r).length Csv)]) rfl rfl rfl rfl fun _w_60 _m_61 _cw_60 => ?_
        have _cw_60z := _cw_60.size
        have E := E.step _cw_60 (fun i hi => .inl (by have _h1 := List.mem_singleton.1 hi; omega))
        replace _m_61 : Blk _w_60 _b4 26 [(.slice Asv (r).length Csv)] := _m_61
        refine WL_step rfl rfl (r_assign rfl) ?_
        refine WL_nil ?_
        refine thn_nrm (_hK_59 _ _ ?_)
        clear _hK_59
        refine W_ret ?_
        clear _hK_35
        have _f_62 := (_o0_6.ch _cw_60 (fun g hg hm => by have _h0 := List.mem_singleton.1 hm; have _h2 := _lo0_6 _ hg; have _h3 := hisv _ hg; omega))
        have _o_63 : Ol Token.cs 52 4 _w_60 (.slice Asv (r).length Csv) ((dwE e w9).1) := by
          have hx := _f_62
          first | (rw [dwE_n1 (fun c => by first | exact Bool.noConfusion (c.1.symm.trans _h14) | (have c2 := c.2; omega))]; exact hx) | (rw [dwE_n2 _h14 (by omega) (derW_none hw _hy27 _h36)]; exact hx) | (rw [dwE_y _h14 (by omega) (derW_end hw (by omega))]; exact hx)
        exact ret_intro [_, _] (resOf_loadA _m_61 rfl agg26 sz26 ⟨rfl, trivial⟩) ⟨(.slice Asv (r).length Csv), (congrArg (fun zq => (Value.tuple #[.agg #[(.slice Asv (r).length Csv)], .bool zq])) (by first | (rw [dwE_n1 (fun c => by first | exact Bool.noConfusion (c.1.symm.trans _h14) | (have c2 := c.2; omega))]; done) | (rw [dwE_n2 _h14 (by omega) (derW_none hw _hy27 _h36)]; done) | (rw [dwE_y _h14 (by omega) (derW_end hw (by omega))]; done))), _o_63, (Lo.down _lo0_6 (by omega)), E⟩

/-- impl.IsValidExpr -/
theorem c_impl_IsValidExpr {w : World} {LL_e _B_e : Nat} {_v_e : Value} {e : List Token} (_h_e : Ls Token.cs 4 w LL_e _B_e _v_e e) (hb : e.length ≤ 1048576) :
    Ctr Tryz.prog 23 #[(.agg #[_v_e])] w (fun v w' => v = .bool (ivE e) ∧ Ch [] w w') := by
  obtain ⟨_A_e, _C_e, _e1_e⟩ := _h_e.val
  subst _e1_e
  have _l_e := _h_e.len
  have _h_e := _h_e.here (by decide)
  have E := Ch.refl [] w
  refine Ctr_of_W (N := 11) (vs0 := [(.agg #[(.slice _A_e e.length _C_e)])]) Tryz.func23 rfl rfl rfl ?_
  refine W_seq fun _K_1 _hK_1 => ?_
  refine W_region ?_
  refine WL_s rfl rfl ?_
  refine s_box rfl fun _b1 _w_2 _m1 _cw_2 _e1 => ?_
  have _cw_2z := _cw_2.size
  have E := E.trans _cw_2
  have _z1 := _m1.lt
  replace _m1 : Blk _w_2 _b1 26 [(.slice _A_e e.length _C_e)] := _m1
  refine WL_step rfl rfl (r_assign rfl) ?_
  refine WL_nil ?_
  refine thn_nrm (_hK_1 _ _ ?_)
  clear _hK_1
  refine W_seq fun _K_3 _hK_3 => ?_
  refine W_region ?_
  refine WL_step rfl rfl (r_fieldAddr fa26_0 rfl) ?_
  refine WL_step rfl rfl (r_loadAt _m1.at_ agg24 rfl rfl) ?_
  refine WL_step rfl rfl (r_len (by rw [el24]; rfl) rfl) ?_
  refine WL_step rfl rfl (r_leq rfl rfl) ?_
  refine WL_step rfl rfl (r_move rfl) ?_
  refine WL_split (d := 7) rfl (fun _h7 => ?_) (fun _h7 => ?_)
  · have _kb_4 := _h7
    have _h7 := bt_d _h7
    refine WL_step rfl rfl (r_loadAtA0 _m1.at_ agg26 sz26 rfl) ?_
    refine WL_s rfl rfl ?_
    have _f_5 := (_h_e.ch0 _cw_2)
    refine Step.call (r_call (xs := [.tmp 8]) fk28 rfl) (c_impl_IsExpr _f_5 (by omega)) fun _v9 _w_6 _q9 => ?_
    obtain ⟨rfl, _cw_6⟩ := _q9
    have _cw_6z := _cw_6.size
    have E := E.trans _cw_6
    refine WL_step rfl rfl (r_pickT rfl rfl) ?_
    refine WL_step rfl rfl (r_assign rfl) ?_
    refine WL_nil ?_
    refine thn_nrm (_hK_3 _ _ ?_)
    clear _hK_3
    refine W_ret ?_
    exact ret_intro [_] ⟨rfl, trivial⟩ ⟨congrArg Value.bool (by unfold ivE; first | (rw [decide_eq_true (by omega)]; rfl) | (rw [decide_eq_false (by omega)]; rfl)), E⟩
  · have _kb_4 := _h7
    have _h7 := bf_d _h7
    refine WL_skip rfl rfl ?_
    refine WL_skip rfl rfl ?_
    refine WL_step rfl rfl (r_pickF rfl rfl) ?_
    refine WL_step rfl rfl (r_assign rfl) ?_
    refine WL_nil ?_
    refine thn_nrm (_hK_3 _ _ ?_)
    clear _hK_3
    refine W_ret ?_
    exact ret_intro [_] ⟨rfl, trivial⟩ ⟨congrArg Value.bool (by unfold ivE; first | (rw [decide_eq_true (by omega)]; rfl) | (rw [decide_eq_false (by omega)]; rfl)), E⟩

/-- impl.IsWord -/
theorem c_impl_IsWord {w : World} {LL_wd _B_wd : Nat} {_v_wd : Value} {wd : List Int} (_h_wd : Ls ics 1 w LL_wd _B_wd _v_wd wd) :
    Ctr Tryz.prog 24 #[_v_wd] w (fun v w' => v = .bool (tt (IsWd wd)) ∧ Ch [] w w') := by
  obtain ⟨_A_wd, _C_wd, _e1_wd⟩ := _h_wd.val
  subst _e1_wd
  have _l_wd := _h_wd.len
  have _h_wd := _h_wd.here (by decide)
  have E := Ch.refl [] w
  refine Ctr_of_W (N := 18) (vs0 := [(.slice _A_wd wd.length _C_wd)]) Tryz.func24 rfl rfl rfl ?_
  refine W_seq fun _K_1 _hK_1 => ?_
  refine W_region ?_
  refine WL_step rfl rfl (r_assign rfl) ?_
  refine WL_nil ?_
  refine thn_nrm (_hK_1 _ _ ?_)
  clear _hK_1
  refine W_seq fun _K_2 _hK_2 => ?_
  refine W_seq fun _K_3 _hK_3 => ?_
  refine W_region ?_
  refine WL_step rfl rfl (r_move rfl) ?_
  refine WL_step rfl rfl (r_len (by rw [el27]; rfl) rfl) ?_
  refine WL_step rfl rfl (r_move rfl) ?_
  refine WL_nil ?_
  refine thn_nrm (_hK_3 _ _ ?_)
  clear _hK_3
  refine W_block ?_
  refine W_loop (σ := Nat) (fun (k : Nat) => [(0, (.slice _A_wd wd.length _C_wd)), (5, (.slice _A_wd wd.length _C_wd)), (6, (.int .i64 ((wd.length : Nat) : Int))), (7, (.int .i64 ((k : Nat) : Int)))]) (fun (k : Nat) wx => Ch [] w wx ∧ w.heap.size ≤ wx.heap.size ∧ (k ≤ wd.length) ∧ (WdP wd k)) (fun (k : Nat) => wd.length - k) 0 (Sub.cons rfl (Sub.cons rfl (Sub.cons rfl (Sub.cons rfl (Sub.nil _))))) ⟨E, (Nat.le_refl _), (by omega), (wd_zero _)⟩ ?_
  rintro k _wr_4 ⟨E, _zz0, _hk, _ht⟩
  have _E0h := E
  have _E0hz := _E0h.size
  refine W_seq fun _K_5 _hK_5 => ?_
  refine W_region ?_
  refine WL_step rfl rfl (r_lss rfl rfl) ?_
  refine WL_nil ?_
  refine thn_nrm (_hK_5 _ _ ?_)
  clear _hK_5
  refine W_seq fun _K_6 _hK_6 => ?_
  refine W_cond rfl (fun _h8 => ?_) (fun _h8 => ?_)
  · have _kb_7 := _h8
    have _h8 := bt_d _h8
    refine W_skip ?_
    refine thn_nrm (_hK_6 _ _ ?_)
    clear _hK_6
    refine W_seq fun _K_8 _hK_8 => ?_
    refine W_block ?_
    refine W_seq fun _K_9 _hK_9 => ?_
    refine W_region ?_
    refine WL_s rfl rfl ?_
    have _f_10 := (_h_wd.ch0 _E0h)
    refine (s_index _f_10 ics_len el27 sz3 rfl rfl rfl (by omega) fun _p9 _y9 _hy9 _a9 => ?_)
    refine WL_step rfl rfl (r_loadAt0 _a9 agg3 rfl rfl) ?_
    refine WL_step rfl rfl (r_assign rfl) ?_
    refine WL_nil ?_
    refine thn_nrm (_hK_9 _ _ ?_)
    clear _hK_9
    refine W_seq fun _K_11 _hK_11 => ?_
    refine W_region ?_
    refine WL_step rfl rfl (r_move rfl) ?_
    refine WL_s rfl rfl ?_
    refine Step.call (r_call (xs := [.tmp 11]) fk35 rfl) (c_impl_isLetter _ ) fun _v12 _w_12 _q12 => ?_
    obtain ⟨rfl, _cw_12⟩ := _q12
    have _cw_12z := _cw_12.size
    have E := E.trans _cw_12
    refine WL_step rfl rfl (r_not rfl) ?_
    refine WL_nil ?_
    refine thn_nrm (_hK_11 _ _ ?_)
    clear _hK_11
    refine W_cond rfl (fun _h13 => ?_) (fun _h13 => ?_)
    · have _kb_13 := _h13
      have _h13 := bf_d (bt_n _h13)
      refine W_seq fun _K_14 _hK_14 => ?_
      refine W_region ?_
      refine WL_step rfl rfl (r_assign rfl) ?_
      refine WL_nil ?_
      refine thn_nrm (_hK_14 _ _ ?_)
      clear _hK_14
      refine W_ret (inB_ret (thn_ret (thn_ret (inB_ret (thn_ret ?_)))))
      clear _hK_2 _hK_8
      exact ret_intro [_] ⟨rfl, trivial⟩ ⟨congrArg Value.bool (by first | exact tt_false (fun e => _h13 (wd_val e _hy9)) | (rw [tt_dec]; exact tt_eq ⟨fun e => ⟨wd_all _ht (by omega), by omega⟩, fun e => by have := e.2; omega⟩)), E⟩
    · have _kb_13 := _h13
      have _h13 := bt_d (bf_n _h13)
      refine W_skip ?_
      refine inB_nrm ?_
      refine thn_nrm (_hK_8 _ _ ?_)
      clear _hK_8
      refine W_region ?_
      refine WL_step rfl rfl (r_add (by omega) rfl rfl) ?_
      refine WL_step rfl rfl (r_move rfl) ?_
      refine WL_nil ?_
      exact thn_nrm (Exists.intro (k + 1) ⟨⟨E, (by omega), (by omega), (wd_step _ht _hy9 _h13)⟩, Sub.cons rfl (Sub.cons rfl (Sub.cons rfl (Sub.cons rfl (Sub.nil _)))), (by first | omega | (dsimp only; omega))⟩)
  · have _kb_7 := _h8
    have _h8 := bf_d _h8
    refine W_exit (thn_exit (thn_exit (inB_hit ?_)))
    refine thn_nrm (_hK_2 _ _ ?_)
    clear _hK_2
    refine W_seq fun _K_15 _hK_15 => ?_
    refine W_region ?_
    refine WL_step rfl rfl (r_move rfl) ?_
    refine WL_step rfl rfl (r_len (by rw [el27]; rfl) rfl) ?_
    refine WL_step rfl rfl (r_leq rfl rfl) ?_
    refine WL_step rfl rfl (r_assign rfl) ?_
    refine WL_nil ?_
    refine thn_nrm (_hK_15 _ _ ?_)
    clear _hK_15
    refine W_ret ?_
    clear _hK_6
    exact ret_intro [_] ⟨rfl, trivial⟩ ⟨congrArg Value.bool (by first | exact tt_false (fun e => _h13 (wd_val e _hy9)) | (rw [tt_dec]; exact tt_eq ⟨fun e => ⟨wd_all _ht (by omega), by omega⟩, fun e => by have := e.2; omega⟩)), E⟩

/-- impl.ways -/
theorem c_impl_ways {w : World} (n : Nat) (stay : Bool) (hb : n ≤ 4097) :
    Ctr Tryz.prog 72 #[(.int .i64 ((n : Nat) : Int)), (.bool stay)] w (fun v w' => ∃ (_u0 : Value) (vs0 : List Sv), v = _u0 ∧ Ol Sv.cs 68 1 w' _u0 vs0 ∧ Lo w.heap.size _u0 ∧ Od bcs 4 1 w' w.heap.size w'.heap.size vs0 (grd n (idM stay)) ∧ Sep _u0 vs0 ∧ Ch [] w w') := by
  have E := Ch.refl [] w
  refine Ctr_of_W (N := 28) (vs0 := [(.int .i64 ((n : Nat) : Int)), (.bool stay)]) Tryz.func72 rfl rfl rfl ?_
  refine W_seq fun _K_1 _hK_1 => ?_
  refine W_region ?_
  refine WL_step rfl rfl (r_assign rfl) ?_
  refine WL_nil ?_
  refine thn_nrm (_hK_1 _ _ ?_)
  clear _hK_1
  refine W_seq fun _K_2 _hK_2 => ?_
  refine W_region ?_
  refine WL_step rfl rfl (r_move rfl) ?_
  refine WL_s rfl rfl ?_
  refine s_make (cs := Sv.cs) (⟨none, 0, 0⟩ : Sv) el69 sz68 by68 zr68 Sv.len (by decide) rfl rfl (by omega) (by omega) fun _v8 _w_3 _q8 _lo8 _cw_3 => ?_
  have _cw_3z := _cw_3.size
  have E := E.trans _cw_3
  obtain ⟨_Av8, _Cv8, _ev8⟩ := _q8.val
  subst _ev8
  have _lv8 := _q8.len
  have _hiv8 := _q8.lt
  refine WL_step rfl rfl (r_assign rfl) ?_
  refine WL_nil ?_
  refine thn_nrm (_hK_2 _ _ ?_)
  clear _hK_2
  refine W_seq fun _K_4 _hK_4 => ?_
  refine W_seq fun _K_5 _hK_5 => ?_
  refine W_region ?_
  refine WL_step rfl rfl (r_move rfl) ?_
  refine WL_step rfl rfl (r_len (by rw [el69]; rfl) rfl) ?_
  refine WL_step rfl rfl (r_move rfl) ?_
  refine WL_nil ?_
  refine thn_nrm (_hK_5 _ _ ?_)
  clear _hK_5
  refine W_block ?_
  have _oi_6 : Ol Sv.cs 68 1 _w_3 (.slice _Av8 ((List.replicate n (⟨none, 0, 0⟩ : Sv))).length _Cv8) (([] : List Sv) ++ List.replicate (n - 0) (⟨none, 0, 0⟩ : Sv)) := by
    have hx := _q8
    simpa using hx
  refine W_loop (σ := Nat × List Sv) (fun ⟨i, vs⟩ => [(0, (.int .i64 ((n : Nat) : Int))), (1, (.bool stay)), (4, (.slice none 0 0)), (5, (.slice _Av8 ((List.replicate n (⟨none, 0, 0⟩ : Sv))).length _Cv8)), (10, (.int .i64 (((List.replicate n (⟨none, 0, 0⟩ : Sv)).length : Nat) : Int))), (11, (.int .i64 ((i : Nat) : Int)))]) (fun ⟨i, vs⟩ wx => Ch [] w wx ∧ _w_3.heap.size ≤ wx.heap.size ∧ (i ≤ n) ∧ (vs.length = i) ∧ Ol Sv.cs 68 1 wx (.slice _Av8 ((List.replicate n (⟨none, 0, 0⟩ : Sv))).length _Cv8) (vs ++ List.replicate (n - i) (⟨none, 0, 0⟩ : Sv)) ∧ Od bcs 4 1 wx _w_3.heap.size wx.heap.size vs ((grd n (idM stay)).take i)) (fun ⟨i, vs⟩ => n - i) (0, ([] : List Sv)) (Sub.cons rfl (Sub.cons rfl (Sub.cons rfl (Sub.cons rfl (Sub.cons rfl (Sub.cons rfl (Sub.nil _))))))) ⟨E, (Nat.le_refl _), (by omega), rfl, _oi_6, Od.nil⟩ ?_
  rintro ⟨i, vs⟩ _wr_7 ⟨E, _zz0, hi, hvl, _o0_5, od⟩
  have _E0h := E
  have _E0hz := _E0h.size
  refine W_seq fun _K_8 _hK_8 => ?_
  refine W_region ?_
  refine WL_step rfl rfl (r_lss rfl rfl) ?_
  refine WL_nil ?_
  refine thn_nrm (_hK_8 _ _ ?_)
  clear _hK_8
  refine W_seq fun _K_9 _hK_9 => ?_
  refine W_cond rfl (fun _h12 => ?_) (fun _h12 => ?_)
  · have _kb_10 := _h12
    have _h12 := bt_d _h12
    simp only [List.length_replicate] at _h12
    refine W_skip ?_
    refine thn_nrm (_hK_9 _ _ ?_)
    clear _hK_9
    refine W_seq fun _K_11 _hK_11 => ?_
    refine W_block ?_
    refine W_seq fun _K_12 _hK_12 => ?_
    refine W_region ?_
    refine WL_step rfl rfl (r_move rfl) ?_
    refine WL_step rfl rfl (r_assign rfl) ?_
    refine WL_nil ?_
    refine thn_nrm (_hK_12 _ _ ?_)
    clear _hK_12
    refine W_seq fun _K_13 _hK_13 => ?_
    refine W_region ?_
    refine WL_step rfl rfl (r_move rfl) ?_
    refine WL_step rfl rfl (r_move rfl) ?_
    refine WL_step rfl rfl (r_move rfl) ?_
    refine WL_s rfl rfl ?_
    refine s_make (cs := bcs) false el68 sz4 by4 zr4 bcs_len (by decide) rfl rfl (by omega) (by omega) fun _v17 _w_14 _q17 _lo17 _cw_14 => ?_
    have _cw_14z := _cw_14.size
    have E := E.trans _cw_14
    obtain ⟨_Av17, _Cv17, _ev17⟩ := _q17.val
    subst _ev17
    have _lv17 := _q17.len
    have _hiv17 := _q17.lt
    refine WL_s rfl rfl ?_
    have _f_15 := (_o0_5.ch0 _cw_14)
    refine s_indexO (j := i) _f_15 el69 sz68 rfl rfl rfl (by first | omega | (simp; omega)) fun _g18 _o18 _cp18 _q18 => ?_
    refine WL_s rfl rfl ?_
    refine s_storeO (j := i) (⟨_Av17, ((List.replicate n false)).length, _Cv17⟩ : Sv) _f_15 _q18 Sv.len sz68 rfl rfl rfl rfl (by first | omega | (simp; omega)) fun _w_16 _o_17 _cw_16 => ?_
    have _cw_16z := _cw_16.size
    have E := E.step _cw_16 (fun i hi => .inl (by have _h1 := _lo8 _ hi; omega))
    refine WL_nil ?_
    refine thn_nrm (_hK_13 _ _ ?_)
    clear _hK_13
    refine W_region ?_
    refine WL_step rfl rfl (r_move rfl) ?_
    refine WL_step rfl rfl (r_move rfl) ?_
    refine WL_s rfl rfl ?_
    refine (s_index _o_17.ls Sv.len el69 sz68 rfl rfl rfl (by first | omega | (simp; omega)) fun _p21 _y21 _hy21 _a21 => ?_)
    obtain rfl := get_uniq (List.getElem?_set_self (by simp; omega)) _hy21
    replace _a21 : At _w_16 0 _w_16.heap.size _p21 ([(.slice _Av17 ((List.replicate n false)).length _Cv17)]) := _a21
    refine WL_step rfl rfl (r_loadAt0 _a21 agg68 rfl rfl) ?_
    refine WL_step rfl rfl (r_move rfl) ?_
    refine WL_step rfl rfl (r_move rfl) ?_
    refine WL_s rfl rfl ?_
    have _f_18 := (_q17.ch _cw_16 (fun g hg hm => by have _h1 := _lo8 _ hm; have _h2 := _hiv8 _ hm; have _h3 := _lo17 _ hg; have _h4 := _hiv17 _ hg; omega))
    refine s_indexO (j := i) _f_18 el68 sz4 rfl rfl rfl (by first | omega | (simp; omega)) fun _g25 _o25 _cp25 _q25 => ?_
    refine WL_s rfl rfl ?_
    refine s_storeO (j := i) stay _f_18 _q25 bcs_len sz4 rfl rfl rfl rfl (by first | omega | (simp; omega)) fun _w_19 _o_20 _cw_19 => ?_
    have _cw_19z := _cw_19.size
    have E := E.step _cw_19 (fun i hi => .inl (by have _h1 := _lo17 _ hi; omega))
    refine WL_nil ?_
    refine inB_nrm ?_
    refine thn_nrm (_hK_11 _ _ ?_)
    clear _hK_11
    refine W_region ?_
    refine WL_step rfl rfl (r_add (by omega) rfl rfl) ?_
    refine WL_step rfl rfl (r_move rfl) ?_
    refine WL_nil ?_
    have _f_22 := (_o_17.ch _cw_19 (fun g hg hm => by have _h1 := _lo17 _ hm; have _h2 := _hiv17 _ hm; have _h3 := _lo8 _ hg; have _h4 := _hiv8 _ hg; omega))
    have _on_21 : Ol Sv.cs 68 1 _w_19 (.slice _Av8 ((List.replicate n (⟨none, 0, 0⟩ : Sv))).length _Cv8) ((vs ++ [(⟨_Av17, ((List.replicate n false)).length, _Cv17⟩ : Sv)]) ++ List.replicate (n - (i + 1)) (⟨none, 0, 0⟩ : Sv)) := by
      have hx := _f_22
      rwa [fill_sv hvl (by omega)] at hx
    have _f_23 := (((od.ch0 _cw_14).ch _cw_16 (fun i hm => by have _h1 := _lo8 _ hm; have _h2 := _hiv8 _ hm; omega)).ch _cw_19 (fun i hm => by have _h1 := _lo17 _ hm; have _h2 := _hiv17 _ hm; omega))
    exact thn_nrm (Exists.intro ((i + 1), (vs ++ [(⟨_Av17, ((List.replicate n false)).length, _Cv17⟩ : Sv)])) ⟨⟨E, (by omega), (by omega), (by simp [hvl]), _on_21, (by rw [take_snoc (grd_get (by omega))]; exact Od.snoc _f_23 (_o_20.eq (by exact row_id)) (Lo.down _lo17 (by omega)) (fun g hg => by have _h1 := _hiv17 g hg; omega) (by omega) (by omega))⟩, Sub.cons rfl (Sub.cons rfl (Sub.cons rfl (Sub.cons rfl (Sub.cons rfl (Sub.cons rfl (Sub.nil _)))))), (by first | omega | (dsimp only; omega))⟩)
  · have _kb_10 := _h12
    have _h12 := bf_d _h12
    simp only [List.length_replicate] at _h12
    refine W_exit (thn_exit (thn_exit (inB_hit ?_)))
    refine thn_nrm (_hK_4 _ _ ?_)
    clear _hK_4
    refine W_seq fun _K_24 _hK_24 => ?_
    refine W_region ?_
    refine WL_step rfl rfl (r_move rfl) ?_
    refine WL_step rfl rfl (r_assign rfl) ?_
    refine WL_nil ?_
    refine thn_nrm (_hK_24 _ _ ?_)
    clear _hK_24
    refine W_ret ?_
    clear _hK_9
    have _o_25 : Ol Sv.cs 68 1 _wr_7 (.slice _Av8 ((List.replicate n (⟨none, 0, 0⟩ : Sv))).length _Cv8) vs := by
      have hx := _o0_5
      simpa [show n - i = 0 by omega] using hx
    have _o_26 : Od bcs 4 1 _wr_7 w.heap.size _wr_7.heap.size vs (grd n (idM stay)) := by
      have hx := od.up (lo' := w.heap.size) (hi' := _wr_7.heap.size) (by omega) (by omega)
      rwa [List.take_of_length_le (by rw [grd_len]; omega)] at hx
    exact ret_intro [_] ⟨rfl, trivial⟩ ⟨(.slice _Av8 ((List.replicate n (⟨none, 0, 0⟩ : Sv))).length _Cv8), vs, rfl, _o_25, (Lo.down _lo8 (by omega)), _o_26, (Od.sepO od (fun g hm => by have _h1 := _lo8 _ hm; have _h2 := _hiv8 _ hm; omega)), E⟩

/-- impl.either -/
theorem c_impl_either {w : World} {LL_sa _B_sa : Nat} {_v_sa : Value} {sa : List Sv} (_h_sa : Ls Sv.cs 1 w LL_sa _B_sa _v_sa sa) {LR_a BB_a : Nat} {a : List (List Bool)} (_rd_a : Rd bcs 1 w LR_a BB_a sa a) {LL_sb _B_sb : Nat} {_v_sb : Value} {sb : List Sv} (_h_sb : Ls Sv.cs 1 w LL_sb _B_sb _v_sb sb) {LR_b BB_b : Nat} {b : List (List Bool)} (_rd_b : Rd bcs 1 w LR_b BB_b sb b) (n : Nat) (A : Nat → Nat → Bool) (B : Nat → Nat → Bool) (ha : a = grd n A) (hb : b = grd n B) (ta : Tri A) (tb : Tri B) (hn : n ≤ 4097) :
    Ctr Tryz.prog 74 #[_v_sa, _v_sb] w (fun v w' => ∃ (_u0 : Value) (vs0 : List Sv), v = _u0 ∧ Ol Sv.cs 68 1 w' _u0 vs0 ∧ Lo w.heap.size _u0 ∧ Od bcs 4 1 w' w.heap.size w'.heap.size vs0 (grd n (oeM A B)) ∧ Sep _u0 vs0 ∧ Ch [] w w') := by
  obtain ⟨_A_sa, _C_sa, _e1_sa⟩ := _h_sa.val
  subst _e1_sa
  have _l_sa := _h_sa.len
  have _h_sa := _h_sa.here (by decide)
  have _rd_a := _rd_a.here (by decide)
  have _rl_a := _rd_a.1
  obtain ⟨_A_sb, _C_sb, _e1_sb⟩ := _h_sb.val
  subst _e1_sb
  have _l_sb := _h_sb.len
  have _h_sb := _h_sb.here (by decide)
  have _rd_b := _rd_b.here (by decide)
  have _rl_b := _rd_b.1
  have E := Ch.refl [] w
  have _ln9 : sa.length = n := (by rw [_rl_a, ha, grd_len]); have _ln8 : sb.length = n := (by rw [_rl_b, hb, grd_len])
  refine Ctr_of_W (N := 49) (vs0 := [(.slice _A_sa sa.length _C_sa), (.slice _A_sb sb.length _C_sb)]) Tryz.func74 rfl rfl rfl ?_
  refine W_seq fun _K_1 _hK_1 => ?_
  refine W_region ?_
  refine WL_step rfl rfl (r_assign rfl) ?_
  refine WL_nil ?_
  refine thn_nrm (_hK_1 _ _ ?_)
  clear _hK_1
  refine W_seq fun _K_2 _hK_2 => ?_
  refine W_region ?_
  refine WL_step rfl rfl (r_move rfl) ?_
  refine WL_step rfl rfl (r_len (by rw [el69]; rfl) rfl) ?_
  refine WL_s rfl rfl ?_
  refine Step.call (r_call (xs := [.tmp 9, .const (Go.Value.bool false)]) fk72 rfl) (c_impl_ways sa.length _ (by omega)) fun _v10 _w_3 _q10 => ?_
  obtain ⟨u10_0, _vs10_0, rfl, _q_u10_0, _lo_u10_0, _od_vs10_0, _sep_vs10_0, _cw_3⟩ := _q10
  have _cw_3z := _cw_3.size
  have E := E.trans _cw_3
  obtain ⟨Au10_0, Cu10_0, eu10_0⟩ := _q_u10_0.val
  subst eu10_0
  have lu10_0 := _q_u10_0.len
  have _hiu10_0 := _q_u10_0.lt
  refine WL_step rfl rfl (r_assign rfl) ?_
  refine WL_nil ?_
  refine thn_nrm (_hK_2 _ _ ?_)
  clear _hK_2
  refine W_seq fun _K_4 _hK_4 => ?_
  refine W_seq fun _K_5 _hK_5 => ?_
  refine W_region ?_
  refine WL_step rfl rfl (r_move rfl) ?_
  refine WL_step rfl rfl (r_len (by rw [el69]; rfl) rfl) ?_
  refine WL_step rfl rfl (r_move rfl) ?_
  refine WL_nil ?_
  refine thn_nrm (_hK_5 _ _ ?_)
  clear _hK_5
  refine W_block ?_
  refine W_loop (σ := Nat) (fun (i : Nat) => [(0, (.slice _A_sa sa.length _C_sa)), (1, (.slice _A_sb sb.length _C_sb)), (4, (.slice none 0 0)), (5, (.slice Au10_0 (_vs10_0).length Cu10_0)), (12, (.int .i64 ((sa.length : Nat) : Int))), (13, (.int .i64 ((i : Nat) : Int)))]) (fun (i : Nat) wx => Ch [] w wx ∧ _w_3.heap.size ≤ wx.heap.size ∧ (i ≤ n) ∧ Ol Sv.cs 68 1 wx (.slice Au10_0 (_vs10_0).length Cu10_0) _vs10_0 ∧ Od bcs 4 1 wx w.heap.size _w_3.heap.size _vs10_0 (grd n (upt (oeM A B) i 0))) (fun (i : Nat) => n - i) 0 (Sub.cons rfl (Sub.cons rfl (Sub.cons rfl (Sub.cons rfl (Sub.cons rfl (Sub.cons rfl (Sub.nil _))))))) ⟨E, (Nat.le_refl _), (by omega), _q_u10_0, (_od_vs10_0.eq (by rw [_ln9]; exact upt_zero))⟩ ?_
  rintro i _wr_6 ⟨E, _zz0, hi, _F0_4, od⟩
  have _E0h := E
  have _E0hz := _E0h.size
  refine W_seq fun _K_7 _hK_7 => ?_
  refine W_region ?_
  refine WL_step rfl rfl (r_lss rfl rfl) ?_
  refine WL_nil ?_
  refine thn_nrm (_hK_7 _ _ ?_)
  clear _hK_7
  refine W_seq fun _K_8 _hK_8 => ?_
  refine W_cond rfl (fun _h14 => ?_) (fun _h14 => ?_)
  · have _kb_9 := _h14
    have _h14 := bt_d _h14
    refine W_skip ?_
    refine thn_nrm (_hK_8 _ _ ?_)
    clear _hK_8
    refine W_seq fun _K_10 _hK_10 => ?_
    refine W_block ?_
    refine W_seq fun _K_11 _hK_11 => ?_
    refine W_region ?_
    refine WL_step rfl rfl (r_move rfl) ?_
    refine WL_step rfl rfl (r_assign rfl) ?_
    refine WL_nil ?_
    refine thn_nrm (_hK_11 _ _ ?_)
    clear _hK_11
    refine W_seq fun _K_12 _hK_12 => ?_
    refine W_region ?_
    refine WL_step rfl rfl (r_move rfl) ?_
    refine WL_step rfl rfl (r_move rfl) ?_
    refine WL_s rfl rfl ?_
    have _f_13 := (_h_sa.ch0 _E0h)
    refine (s_index _f_13 Sv.len el69 sz68 rfl rfl rfl (by omega) fun _p18 _y18 _hy18 _a18 => ?_)
    have _f_14 := (_rd_a.ch0 _E0h)
    obtain ⟨_ys18, _hys18, _fs18⟩ := _f_14.get _hy18
    obtain ⟨_A18, _n18, _C18⟩ := _y18
    obtain rfl := _fs18.eqn
    have _l18 := _fs18.len
    replace _fs18 : Ls bcs 1 _wr_6 LR_a w.heap.size (.slice _A18 _ys18.length _C18) _ys18 := _fs18
    replace _a18 : At _wr_6 LL_sa w.heap.size _p18 ([(.slice _A18 _ys18.length _C18)]) := _a18
    have rl18 := row_len ha _hys18
    refine WL_step rfl rfl (r_loadAt0 _a18 agg68 rfl rfl) ?_
    refine WL_step rfl rfl (r_len (by rw [el68]; rfl) rfl) ?_
    refine WL_step rfl rfl (r_move rfl) ?_
    refine WL_nil ?_
    refine thn_nrm (_hK_12 _ _ ?_)
    clear _hK_12
    refine W_block ?_
    refine W_loop (σ := Nat) (fun (j : Nat) => [(0, (.slice _A_sa sa.length _C_sa)), (1, (.slice _A_sb sb.length _C_sb)), (4, (.slice none 0 0)), (5, (.slice Au10_0 (_vs10_0).length Cu10_0)), (6, (.int .i64 ((i : Nat) : Int))), (12, (.int .i64 ((sa.length : Nat) : Int))), (13, (.int .i64 ((i : Nat) : Int))), (14, (.bool (decide (((i : Nat) : Int) < ((sa.length : Nat) : Int))))), (20, (.int .i64 ((_ys18.length : Nat) : Int))), (21, (.int .i64 ((j : Nat) : Int)))]) (fun (j : Nat) wx => Ch [] w wx ∧ _wr_6.heap.size ≤ wx.heap.size ∧ (j ≤ n) ∧ Ls Sv.cs 1 wx LL_sa w.heap.size (.slice _A_sa sa.length _C_sa) sa ∧ Rd bcs 1 wx LR_a w.heap.size sa a ∧ Ol Sv.cs 68 1 wx (.slice Au10_0 (_vs10_0).length Cu10_0) _vs10_0 ∧ Od bcs 4 1 wx w.heap.size _w_3.heap.size _vs10_0 (grd n (upt (oeM A B) i j))) (fun (j : Nat) => n - j) 0 (Sub.cons rfl (Sub.cons rfl (Sub.cons rfl (Sub.cons rfl (Sub.cons rfl (Sub.cons rfl (Sub.cons rfl (Sub.cons rfl (Sub.cons rfl (Sub.cons rfl (Sub.nil _))))))))))) ⟨E, (Nat.le_refl _), (by omega), _f_13, _f_14, _F0_4, (od.eq rfl)⟩ ?_
    rintro j _wr_15 ⟨E, _zz1, hj, _F1_0, _F1_1, _F1_4, od⟩
    have _E1h := E
    have _E1hz := _E1h.size
    refine W_seq fun _K_16 _hK_16 => ?_
    refine W_region ?_
    refine WL_step rfl rfl (r_lss rfl rfl) ?_
    refine WL_nil ?_
    refine thn_nrm (_hK_16 _ _ ?_)
    clear _hK_16
    refine W_seq fun _K_17 _hK_17 => ?_
    refine W_cond rfl (fun _h22 => ?_) (fun _h22 => ?_)
    · have _kb_18 := _h22
      have _h22 := bt_d _h22
      refine W_skip ?_
      refine thn_nrm (_hK_17 _ _ ?_)
      clear _hK_17
      refine W_seq fun _K_19 _hK_19 => ?_
      refine W_block ?_
      refine W_seq fun _K_20 _hK_20 => ?_
      refine W_region ?_
      refine WL_step rfl rfl (r_move rfl) ?_
      refine WL_step rfl rfl (r_assign rfl) ?_
      refine WL_nil ?_
      refine thn_nrm (_hK_20 _ _ ?_)
      clear _hK_20
      have _ln924 := (od).1
      rw [grd_len] at _ln924
      obtain ⟨go924, hgo924, lso924⟩ := Ol.lsE _F1_4 (by omega)
      obtain ⟨_y924, _hy924⟩ := get_some (xs := _vs10_0) (j := i) (by omega)
      have _sm924 := _sep_vs10_0 _ (mem_of_get _hy924)
      obtain ⟨_ys924, _hys924, _fs924, _rs924⟩ := od.ownget _hy924
      obtain ⟨_A924, _n924, _C924⟩ := _y924
      obtain rfl := _fs924.ls.eqn
      have _l924 := _fs924.len
      have _lo924 : Lo w.heap.size (.slice _A924 _ys924.length _C924) := fun g hg => (_rs924 g hg).1
      have hi924 : ∀ g ∈ bl (.slice _A924 _ys924.length _C924), g < _w_3.heap.size := fun g hg => (_rs924 g hg).2
      replace _fs924 : Ol bcs 4 1 _wr_15 (.slice _A924 _ys924.length _C924) _ys924 := _fs924
      have rl924 := row_len rfl _hys924
      refine W_drawC (bl (.slice _A924 _ys924.length _C924)) 23 mixed rfl fun _w_21 _cw_21 => ?_
      have _cw_21z := _cw_21.size
      have E := E.trans _cw_21
      refine DR_s 0 rfl (by kernel_rfl) rfl rfl (t_v (fun _ => (r_move rfl)) ?_)
      refine DR_s 1 rfl (by kernel_rfl) rfl rfl (t_v (fun _ => (r_move rfl)) ?_)
      have _f_22 := (lso924.ch0 _cw_21)
      refine DR_s 2 rfl (by kernel_rfl) rfl rfl (t_index _f_22 Sv.len el69 sz68 rfl rfl rfl (by omega) fun _p26 _y26 _hy26 _a26 => ?_)
      obtain rfl := get_uniq _hy924 _hy26
      replace _a26 : At _w_21 go924 (go924 + 1) _p26 ([(.slice _A924 _ys924.length _C924)]) := _a26
      refine DR_s 3 rfl (by kernel_rfl) rfl rfl (t_loadAt0 _a26 (fun i hm => ne_blk (_sm924 i hm) hgo924) agg68 rfl rfl ?_)
      refine DR_s 4 rfl (by kernel_rfl) rfl rfl (t_v (fun _ => (r_move rfl)) ?_)
      refine DR_s 5 rfl (by kernel_rfl) rfl rfl (t_v (fun _ => (r_move rfl)) ?_)
      refine DR_s 6 rfl (by kernel_rfl) rfl rfl (t_v (fun _ => (r_move rfl)) ?_)
      have _f_23 := (_F1_0.ch0 _cw_21)
      have _f_24 := (_F1_1.ch0 _cw_21)
      refine DR_s 7 rfl (by kernel_rfl) rfl rfl (t_index _f_23 Sv.len el69 sz68 rfl rfl rfl (by omega) fun _p31 _y31 _hy31 _a31 => ?_)
      obtain ⟨_ys31, _hys31, _fs31⟩ := _f_24.get _hy31
      obtain ⟨_A31, _n31, _C31⟩ := _y31
      obtain rfl := _fs31.eqn
      have _l31 := _fs31.len
      replace _fs31 : Ls bcs 1 _w_21 LR_a w.heap.size (.slice _A31 _ys31.length _C31) _ys31 := _fs31
      replace _a31 : At _w_21 LL_sa w.heap.size _p31 ([(.slice _A31 _ys31.length _C31)]) := _a31
      have rl31 := row_len ha _hys31
      refine DR_s 8 rfl (by kernel_rfl) rfl rfl (t_loadAt0 _a31 (fun i hm => by have _h1 := _lo924 _ hm; have _h2 := hi924 _ hm; omega) agg68 rfl rfl ?_)
      refine DR_s 9 rfl (by kernel_rfl) rfl rfl (t_v (fun _ => (r_move rfl)) ?_)
      refine DR_s 10 rfl (by kernel_rfl) rfl rfl (t_index _fs31 bcs_len el68 sz4 rfl rfl rfl (by omega) fun _p34 _y34 _hy34 _a34 => ?_)
      refine DR_s 11 rfl (by kernel_rfl) rfl rfl (t_loadAt0 _a34 (fun i hm => by have _h1 := _lo924 _ hm; have _h2 := hi924 _ hm; omega) agg4 rfl rfl ?_)
      refine DR_s 12 rfl (by kernel_rfl) rfl rfl (t_v (fun _ => (r_move rfl)) ?_)
      refine DR_split (d := 36) rfl (fun _h36 => ?_) (fun _h36 => ?_)
      · have _kb_25 := _h36
        refine DR_skip 13 rfl (by kernel_rfl) rfl rfl ?_
        refine DR_skip 14 rfl (by kernel_rfl) rfl rfl ?_
        refine DR_skip 15 rfl (by kernel_rfl) rfl rfl ?_
        refine DR_skip 16 rfl (by kernel_rfl) rfl rfl ?_
        refine DR_skip 17 rfl (by kernel_rfl) rfl rfl ?_
        refine DR_skip 18 rfl (by kernel_rfl) rfl rfl ?_
        refine DR_skip 19 rfl (by kernel_rfl) rfl rfl ?_
        refine DR_s 20 rfl (by kernel_rfl) rfl rfl (t_v (fun _ => (r_pickT rfl rfl)) ?_)
        refine DR_one 21 (by kernel_rfl) ?_
        refine DO_s rfl rfl rfl ?_
        have _f_26 := (_fs924.ch0 _cw_21)
        refine s_indexO (j := j) _f_26 el68 sz4 rfl rfl rfl (by omega) fun _g45 _o45 _cp45 _q45 => ?_
        refine ⟨(Ch.refl _ _), ?_⟩
        refine DR_one 22 (by kernel_rfl) ?_
        refine DO_s rfl rfl rfl ?_
        refine s_storeO (j := j) true _f_26 _q45 bcs_len sz4 rfl rfl rfl rfl (by omega) fun _w_27 _o_28 _cw_27 => ?_
        have _f_29 := (od.ch0 _cw_21)
        have _cw_27z := _cw_27.size
        have E := E.step _cw_27 (fun i hi => .inl (by have _h1 := _lo924 _ hi; omega))
        have _od_30 := Od.set _f_29 _hy924 _hys924 _cw_27 _o_28
        have _S_31 : Ch (bl (.slice _A924 _ys924.length _C924)) _w_21 _w_27 := ((Ch.refl _ _).step _cw_27 (fun i hm => by exact .inr hm))
        refine ⟨_S_31, ?_⟩
        refine DR_done (by kernel_rfl) ?_
        refine inB_nrm ?_
        refine thn_nrm (_hK_19 _ _ ?_)
        clear _hK_19
        refine W_region ?_
        refine WL_step rfl rfl (r_add (by omega) rfl rfl) ?_
        refine WL_step rfl rfl (r_move rfl) ?_
        refine WL_nil ?_
        have _f_32 := (_f_23.ch _cw_27 (fun i hi => by have _h1 := _lo924 _ hi; omega))
        have _f_33 := (_f_24.ch _cw_27 (fun i hi => by have _h1 := _lo924 _ hi; omega))
        have _f_34 := ((_F1_4.ch0 _cw_21).ch _cw_27 (fun g hg hm => by exact _sm924 _ hm hg))
        exact thn_nrm (Exists.intro (j + 1) ⟨⟨E, (by omega), (by omega), _f_32, _f_33, _f_34, (_od_30.eq (upt_step rfl _hys924 (by first | (have _e1 := grd_y ha _hys31 _hy34; simp [oeM, ← _e1, _h36]; done) | (have _e1 := grd_y ha _hys31 _hy34; have _e2 := grd_y hb _hys39 _hy42; simp [oeM, ← _e1, ← _e2, _h36]; done))))⟩, Sub.cons rfl (Sub.cons rfl (Sub.cons rfl (Sub.cons rfl (Sub.cons rfl (Sub.cons rfl (Sub.cons rfl (Sub.cons rfl (Sub.cons rfl (Sub.cons rfl (Sub.nil _)))))))))), (by first | omega | (dsimp only; omega))⟩)
      · have _kb_25 := _h36
        refine DR_s 13 rfl (by kernel_rfl) rfl rfl (t_v (fun _ => (r_move rfl)) ?_)
        refine DR_s 14 rfl (by kernel_rfl) rfl rfl (t_v (fun _ => (r_move rfl)) ?_)
        have _f_35 := ((_h_sb.ch0 _E1h).ch0 _cw_21)
        have _f_36 := ((_rd_b.ch0 _E1h).ch0 _cw_21)
        refine DR_s 15 rfl (by kernel_rfl) rfl rfl (t_index _f_35 Sv.len el69 sz68 rfl rfl rfl (by omega) fun _p39 _y39 _hy39 _a39 => ?_)
        obtain ⟨_ys39, _hys39, _fs39⟩ := _f_36.get _hy39
        obtain ⟨_A39, _n39, _C39⟩ := _y39
        obtain rfl := _fs39.eqn
        have _l39 := _fs39.len
        replace _fs39 : Ls bcs 1 _w_21 LR_b w.heap.size (.slice _A39 _ys39.length _C39) _ys39 := _fs39
        replace _a39 : At _w_21 LL_sb w.heap.size _p39 ([(.slice _A39 _ys39.length _C39)]) := _a39
        have rl39 := row_len hb _hys39
        refine DR_s 16 rfl (by kernel_rfl) rfl rfl (t_loadAt0 _a39 (fun i hm => by have _h1 := _lo924 _ hm; have _h2 := hi924 _ hm; omega) agg68 rfl rfl ?_)
        refine DR_s 17 rfl (by kernel_rfl) rfl rfl (t_v (fun _ => (r_move rfl)) ?_)
        refine DR_s 18 rfl (by kernel_rfl) rfl rfl (t_index _fs39 bcs_len el68 sz4 rfl rfl rfl (by omega) fun _p42 _y42 _hy42 _a42 => ?_)
        refine DR_s 19 rfl (by kernel_rfl) rfl rfl (t_loadAt0 _a42 (fun i hm => by have _h1 := _lo924 _ hm; have _h2 := hi924 _ hm; omega) agg4 rfl rfl ?_)
        refine DR_s 20 rfl (by kernel_rfl) rfl rfl (t_v (fun _ => (r_pickF rfl rfl)) ?_)
        refine DR_one 21 (by kernel_rfl) ?_
        refine DO_s rfl rfl rfl ?_
        have _f_37 := (_fs924.ch0 _cw_21)
        refine s_indexO (j := j) _f_37 el68 sz4 rfl rfl rfl (by omega) fun _g45 _o45 _cp45 _q45 => ?_
        refine ⟨(Ch.refl _ _), ?_⟩
        refine DR_one 22 (by kernel_rfl) ?_
        refine DO_s rfl rfl rfl ?_
        refine s_storeO (j := j) _y42 _f_37 _q45 bcs_len sz4 rfl rfl rfl rfl (by omega) fun _w_38 _o_39 _cw_38 => ?_
        have _f_40 := (od.ch0 _cw_21)
        have _cw_38z := _cw_38.size
        have E := E.step _cw_38 (fun i hi => .inl (by have _h1 := _lo924 _ hi; omega))
        have _od_41 := Od.set _f_40 _hy924 _hys924 _cw_38 _o_39
        have _S_42 : Ch (bl (.slice _A924 _ys924.length _C924)) _w_21 _w_38 := ((Ch.refl _ _).step _cw_38 (fun i hm => by exact .inr hm))
        refine ⟨_S_42, ?_⟩
        refine DR_done (by kernel_rfl) ?_
        refine inB_nrm ?_
        refine thn_nrm (_hK_19 _ _ ?_)
        clear _hK_19
        refine W_region ?_
        refine WL_step rfl rfl (r_add (by omega) rfl rfl) ?_
        refine WL_step rfl rfl (r_move rfl) ?_
        refine WL_nil ?_
        have _f_43 := (_f_23.ch _cw_38 (fun i hi => by have _h1 := _lo924 _ hi; omega))
        have _f_44 := (_f_24.ch _cw_38 (fun i hi => by have _h1 := _lo924 _ hi; omega))
        have _f_45 := ((_F1_4.ch0 _cw_21).ch _cw_38 (fun g hg hm => by exact _sm924 _ hm hg))
        exact thn_nrm (Exists.intro (j + 1) ⟨⟨E, (by omega), (by omega), _f_43, _f_44, _f_45, (_od_41.eq (upt_step rfl _hys924 (by first | (have _e1 := grd_y ha _hys31 _hy34; simp [oeM, ← _e1, _h36]; done) | (have _e1 := grd_y ha _hys31 _hy34; have _e2 := grd_y hb _hys39 _hy42; simp [oeM, ← _e1, ← _e2, _h36]; done))))⟩, Sub.cons rfl (Sub.cons rfl (Sub.cons rfl (Sub.cons rfl (Sub.cons rfl (Sub.cons rfl (Sub.cons rfl (Sub.cons rfl (Sub.cons rfl (Sub.cons rfl (Sub.nil _)))))))))), (by first | omega | (dsimp only; omega))⟩)
    · have _kb_18 := _h22
      have _h22 := bf_d _h22
      refine W_exit (thn_exit (thn_exit (inB_hit ?_)))
      refine inB_nrm ?_
      refine thn_nrm (_hK_10 _ _ ?_)
      clear _hK_10
      refine W_region ?_
      refine WL_step rfl rfl (r_add (by omega) rfl rfl) ?_
      refine WL_step rfl rfl (r_move rfl) ?_
      refine WL_nil ?_
      exact thn_nrm (Exists.intro (i + 1) ⟨⟨E, (by omega), (by omega), _F1_4, (od.eq (upt_row (by omega)))⟩, Sub.cons rfl (Sub.cons rfl (Sub.cons rfl (Sub.cons rfl (Sub.cons rfl (Sub.cons rfl (Sub.nil _)))))), (by first | omega | (dsimp only; omega))⟩)
  · have _kb_9 := _h14
    have _h14 := bf_d _h14
    refine W_exit (thn_exit (thn_exit (inB_hit ?_)))
    refine thn_nrm (_hK_4 _ _ ?_)
    clear _hK_4
    refine W_seq fun _K_46 _hK_46 => ?_
    refine W_region ?_
    refine WL_step rfl rfl (r_move rfl) ?_
    refine WL_step rfl rfl (r_assign rfl) ?_
    refine WL_nil ?_
    refine thn_nrm (_hK_46 _ _ ?_)
    clear _hK_46
    refine W_ret ?_
    clear _hK_8
    have _o_47 : Ol Sv.cs 68 1 _wr_6 (.slice Au10_0 (_vs10_0).length Cu10_0) _vs10_0 := by
      have hx := _F0_4
      exact hx
    have _o_48 : Od bcs 4 1 _wr_6 w.heap.size _wr_6.heap.size _vs10_0 (grd n (oeM A B)) := by
      have hx := od.up (lo' := w.heap.size) (hi' := _wr_6.heap.size) (by omega) (by omega)
      rwa [upt_all (by omega)] at hx
    exact ret_intro [_] ⟨rfl, trivial⟩ ⟨(.slice Au10_0 (_vs10_0).length Cu10_0), _vs10_0, rfl, _o_47, (Lo.down _lo_u10_0 (by omega)), _o_48, _sep_vs10_0, E⟩

/-- impl.inTurn -/
theorem c_impl_inTurn {w : World} {LL_sa _B_sa : Nat} {_v_sa : Value} {sa : List Sv} (_h_sa : Ls Sv.cs 1 w LL_sa _B_sa _v_sa sa) {LR_a BB_a : Nat} {a : List (List Bool)} (_rd_a : Rd bcs 1 w LR_a BB_a sa a) {LL_sb _B_sb : Nat} {_v_sb : Value} {sb : List Sv} (_h_sb : Ls Sv.cs 1 w LL_sb _B_sb _v_sb sb) {LR_b BB_b : Nat} {b : List (List Bool)} (_rd_b : Rd bcs 1 w LR_b BB_b sb b) (n : Nat) (A : Nat → Nat → Bool) (B : Nat → Nat → Bool) (ha : a = grd n A) (hb : b = grd n B) (ta : Tri A) (tb : Tri B) (hn : n ≤ 4097) :
    Ctr Tryz.prog 73 #[_v_sa, _v_sb] w (fun v w' => ∃ (_u0 : Value) (vs0 : List Sv), v = _u0 ∧ Ol Sv.cs 68 1 w' _u0 vs0 ∧ Lo w.heap.size _u0 ∧ Od bcs 4 1 w' w.heap.size w'.heap.size vs0 (grd n (mulM n A B)) ∧ Sep _u0 vs0 ∧ Ch [] w w') := by
  obtain ⟨_A_sa, _C_sa, _e1_sa⟩ := _h_sa.val
  subst _e1_sa
  have _l_sa := _h_sa.len
  have _h_sa := _h_sa.here (by decide)
  have _rd_a := _rd_a.here (by decide)
  have _rl_a := _rd_a.1
  obtain ⟨_A_sb, _C_sb, _e1_sb⟩ := _h_sb.val
  subst _e1_sb
  have _l_sb := _h_sb.len
  have _h_sb := _h_sb.here (by decide)
  have _rd_b := _rd_b.here (by decide)
  have _rl_b := _rd_b.1
  have E := Ch.refl [] w
  have _ln9 : sa.length = n := (by rw [_rl_a, ha, grd_len]); have _ln8 : sb.length = n := (by rw [_rl_b, hb, grd_len])
  refine Ctr_of_W (N := 67) (vs0 := [(.slice _A_sa sa.length _C_sa), (.slice _A_sb sb.length _C_sb)]) Tryz.func73 rfl rfl rfl ?_
  refine W_seq fun _K_1 _hK_1 => ?_
  refine W_region ?_
  refine WL_step rfl rfl (r_assign rfl) ?_
  refine WL_nil ?_
  refine thn_nrm (_hK_1 _ _ ?_)
  clear _hK_1
  refine W_seq fun _K_2 _hK_2 => ?_
  refine W_region ?_
  refine WL_step rfl rfl (r_move rfl) ?_
  refine WL_step rfl rfl (r_len (by rw [el69]; rfl) rfl) ?_
  refine WL_s rfl rfl ?_
  refine Step.call (r_call (xs := [.tmp 10, .const (Go.Value.bool false)]) fk72 rfl) (c_impl_ways sa.length _ (by omega)) fun _v11 _w_3 _q11 => ?_
  obtain ⟨u11_0, _vs11_0, rfl, _q_u11_0, _lo_u11_0, _od_vs11_0, _sep_vs11_0, _cw_3⟩ := _q11
  have _cw_3z := _cw_3.size
  have E := E.trans _cw_3
  obtain ⟨Au11_0, Cu11_0, eu11_0⟩ := _q_u11_0.val
  subst eu11_0
  have lu11_0 := _q_u11_0.len
  have _hiu11_0 := _q_u11_0.lt
  refine WL_step rfl rfl (r_assign rfl) ?_
  refine WL_nil ?_
  refine thn_nrm (_hK_2 _ _ ?_)
  clear _hK_2
  refine W_seq fun _K_4 _hK_4 => ?_
  refine W_seq fun _K_5 _hK_5 => ?_
  refine W_region ?_
  refine WL_step rfl rfl (r_move rfl) ?_
  refine WL_step rfl rfl (r_len (by rw [el69]; rfl) rfl) ?_
  refine WL_step rfl rfl (r_move rfl) ?_
  refine WL_nil ?_
  refine thn_nrm (_hK_5 _ _ ?_)
  clear _hK_5
  refine W_block ?_
  refine W_loop (σ := Nat) (fun (i : Nat) => [(0, (.slice _A_sa sa.length _C_sa)), (1, (.slice _A_sb sb.length _C_sb)), (4, (.slice none 0 0)), (5, (.slice Au11_0 (_vs11_0).length Cu11_0)), (13, (.int .i64 ((sa.length : Nat) : Int))), (14, (.int .i64 ((i : Nat) : Int)))]) (fun (i : Nat) wx => Ch [] w wx ∧ _w_3.heap.size ≤ wx.heap.size ∧ (i ≤ n) ∧ Ol Sv.cs 68 1 wx (.slice Au11_0 (_vs11_0).length Cu11_0) _vs11_0 ∧ Od bcs 4 1 wx w.heap.size _w_3.heap.size _vs11_0 (grd n (mupt n A B i 0 0))) (fun (i : Nat) => n - i) 0 (Sub.cons rfl (Sub.cons rfl (Sub.cons rfl (Sub.cons rfl (Sub.cons rfl (Sub.cons rfl (Sub.nil _))))))) ⟨E, (Nat.le_refl _), (by omega), _q_u11_0, (_od_vs11_0.eq (by rw [_ln9]; exact mupt_zero))⟩ ?_
  rintro i _wr_6 ⟨E, _zz0, hi, _F0_4, od⟩
  have _E0h := E
  have _E0hz := _E0h.size
  refine W_seq fun _K_7 _hK_7 => ?_
  refine W_region ?_
  refine WL_step rfl rfl (r_lss rfl rfl) ?_
  refine WL_nil ?_
  refine thn_nrm (_hK_7 _ _ ?_)
  clear _hK_7
  refine W_seq fun _K_8 _hK_8 => ?_
  refine W_cond rfl (fun _h15 => ?_) (fun _h15 => ?_)
  · have _kb_9 := _h15
    have _h15 := bt_d _h15
    refine W_skip ?_
    refine thn_nrm (_hK_8 _ _ ?_)
    clear _hK_8
    refine W_seq fun _K_10 _hK_10 => ?_
    refine W_block ?_
    refine W_seq fun _K_11 _hK_11 => ?_
    refine W_region ?_
    refine WL_step rfl rfl (r_move rfl) ?_
    refine WL_step rfl rfl (r_assign rfl) ?_
    refine WL_nil ?_
    refine thn_nrm (_hK_11 _ _ ?_)
    clear _hK_11
    refine W_seq fun _K_12 _hK_12 => ?_
    refine W_region ?_
    refine WL_step rfl rfl (r_move rfl) ?_
    refine WL_step rfl rfl (r_move rfl) ?_
    refine WL_s rfl rfl ?_
    have _f_13 := (_h_sa.ch0 _E0h)
    refine (s_index _f_13 Sv.len el69 sz68 rfl rfl rfl (by omega) fun _p19 _y19 _hy19 _a19 => ?_)
    have _f_14 := (_rd_a.ch0 _E0h)
    obtain ⟨_ys19, _hys19, _fs19⟩ := _f_14.get _hy19
    obtain ⟨_A19, _n19, _C19⟩ := _y19
    obtain rfl := _fs19.eqn
    have _l19 := _fs19.len
    replace _fs19 : Ls bcs 1 _wr_6 LR_a w.heap.size (.slice _A19 _ys19.length _C19) _ys19 := _fs19
    replace _a19 : At _wr_6 LL_sa w.heap.size _p19 ([(.slice _A19 _ys19.length _C19)]) := _a19
    have rl19 := row_len ha _hys19
    refine WL_step rfl rfl (r_loadAt0 _a19 agg68 rfl rfl) ?_
    refine WL_step rfl rfl (r_len (by rw [el68]; rfl) rfl) ?_
    refine WL_step rfl rfl (r_move rfl) ?_
    refine WL_nil ?_
    refine thn_nrm (_hK_12 _ _ ?_)
    clear _hK_12
    refine W_block ?_
    refine W_loop (σ := Nat) (fun (k : Nat) => [(0, (.slice _A_sa sa.length _C_sa)), (1, (.slice _A_sb sb.length _C_sb)), (4, (.slice none 0 0)), (5, (.slice Au11_0 (_vs11_0).length Cu11_0)), (6, (.int .i64 ((i : Nat) : Int))), (13, (.int .i64 ((sa.length : Nat) : Int))), (14, (.int .i64 ((i : Nat) : Int))), (15, (.bool (decide (((i : Nat) : Int) < ((sa.length : Nat) : Int))))), (21, (.int .i64 ((_ys19.length : Nat) : Int))), (22, (.int .i64 ((k : Nat) : Int)))]) (fun (k : Nat) wx => Ch [] w wx ∧ _wr_6.heap.size ≤ wx.heap.size ∧ (k ≤ n) ∧ Ls Sv.cs 1 wx LL_sa w.heap.size (.slice _A_sa sa.length _C_sa) sa ∧ Rd bcs 1 wx LR_a w.heap.size sa a ∧ Ol Sv.cs 68 1 wx (.slice Au11_0 (_vs11_0).length Cu11_0) _vs11_0 ∧ Od bcs 4 1 wx w.heap.size _w_3.heap.size _vs11_0 (grd n (mupt n A B i k 0))) (fun (k : Nat) => n - k) 0 (Sub.cons rfl (Sub.cons rfl (Sub.cons rfl (Sub.cons rfl (Sub.cons rfl (Sub.cons rfl (Sub.cons rfl (Sub.cons rfl (Sub.cons rfl (Sub.cons rfl (Sub.nil _))))))))))) ⟨E, (Nat.le_refl _), (by omega), _f_13, _f_14, _F0_4, (od.eq rfl)⟩ ?_
    rintro k _wr_15 ⟨E, _zz1, _hk, _F1_0, _F1_1, _F1_4, od⟩
    have _E1h := E
    have _E1hz := _E1h.size
    refine W_seq fun _K_16 _hK_16 => ?_
    refine W_region ?_
    refine WL_step rfl rfl (r_lss rfl rfl) ?_
    refine WL_nil ?_
    refine thn_nrm (_hK_16 _ _ ?_)
    clear _hK_16
    refine W_seq fun _K_17 _hK_17 => ?_
    refine W_cond rfl (fun _h23 => ?_) (fun _h23 => ?_)
    · have _kb_18 := _h23
      have _h23 := bt_d _h23
      refine W_skip ?_
      refine thn_nrm (_hK_17 _ _ ?_)
      clear _hK_17
      refine W_seq fun _K_19 _hK_19 => ?_
      refine W_block ?_
      refine W_seq fun _K_20 _hK_20 => ?_
      refine W_region ?_
      refine WL_step rfl rfl (r_move rfl) ?_
      refine WL_step rfl rfl (r_assign rfl) ?_
      refine WL_nil ?_
      refine thn_nrm (_hK_20 _ _ ?_)
      clear _hK_20
      refine W_seq fun _K_21 _hK_21 => ?_
      refine W_seq fun _K_22 _hK_22 => ?_
      refine W_region ?_
      refine WL_step rfl rfl (r_move rfl) ?_
      refine WL_step rfl rfl (r_move rfl) ?_
      refine WL_s rfl rfl ?_
      refine (s_index _F1_0 Sv.len el69 sz68 rfl rfl rfl (by omega) fun _p27 _y27 _hy27 _a27 => ?_)
      obtain ⟨_ys27, _hys27, _fs27⟩ := _F1_1.get _hy27
      obtain ⟨_A27, _n27, _C27⟩ := _y27
      obtain rfl := _fs27.eqn
      have _l27 := _fs27.len
      replace _fs27 : Ls bcs 1 _wr_15 LR_a w.heap.size (.slice _A27 _ys27.length _C27) _ys27 := _fs27
      replace _a27 : At _wr_15 LL_sa w.heap.size _p27 ([(.slice _A27 _ys27.length _C27)]) := _a27
      have rl27 := row_len ha _hys27
      refine WL_step rfl rfl (r_loadAt0 _a27 agg68 rfl rfl) ?_
      refine WL_step rfl rfl (r_move rfl) ?_
      refine WL_s rfl rfl ?_
      refine (s_index _fs27 bcs_len el68 sz4 rfl rfl rfl (by omega) fun _p30 _y30 _hy30 _a30 => ?_)
      have _e30 := grd_y ha _hys27 _hy30
      refine WL_step rfl rfl (r_loadAt0 _a30 agg4 rfl rfl) ?_
      refine WL_step rfl rfl (r_not rfl) ?_
      refine WL_nil ?_
      refine thn_nrm (_hK_22 _ _ ?_)
      clear _hK_22
      refine W_cond rfl (fun _h32 => ?_) (fun _h32 => ?_)
      · have _kb_23 := _h32
        refine W_exit (thn_exit (inB_hit ?_))
        refine thn_nrm (_hK_19 _ _ ?_)
        clear _hK_19
        refine W_region ?_
        refine WL_step rfl rfl (r_add (by omega) rfl rfl) ?_
        refine WL_step rfl rfl (r_move rfl) ?_
        refine WL_nil ?_
        exact thn_nrm (Exists.intro (k + 1) ⟨⟨E, (by omega), (by omega), _F1_0, _F1_1, _F1_4, (od.eq (by first | exact mupt_row (.inl (by omega)) | exact mupt_row (.inr (by rw [← _e30]; simpa using _h32))))⟩, Sub.cons rfl (Sub.cons rfl (Sub.cons rfl (Sub.cons rfl (Sub.cons rfl (Sub.cons rfl (Sub.cons rfl (Sub.cons rfl (Sub.cons rfl (Sub.cons rfl (Sub.nil _)))))))))), (by first | omega | (dsimp only; omega))⟩)
      · have _kb_23 := _h32
        refine W_skip ?_
        refine thn_nrm (_hK_21 _ _ ?_)
        clear _hK_21
        refine W_seq fun _K_24 _hK_24 => ?_
        refine W_region ?_
        refine WL_step rfl rfl (r_move rfl) ?_
        refine WL_step rfl rfl (r_move rfl) ?_
        refine WL_s rfl rfl ?_
        have _f_25 := (_h_sb.ch0 _E1h)
        refine (s_index _f_25 Sv.len el69 sz68 rfl rfl rfl (by omega) fun _p35 _y35 _hy35 _a35 => ?_)
        have _f_26 := (_rd_b.ch0 _E1h)
        obtain ⟨_ys35, _hys35, _fs35⟩ := _f_26.get _hy35
        obtain ⟨_A35, _n35, _C35⟩ := _y35
        obtain rfl := _fs35.eqn
        have _l35 := _fs35.len
        replace _fs35 : Ls bcs 1 _wr_15 LR_b w.heap.size (.slice _A35 _ys35.length _C35) _ys35 := _fs35
        replace _a35 : At _wr_15 LL_sb w.heap.size _p35 ([(.slice _A35 _ys35.length _C35)]) := _a35
        have rl35 := row_len hb _hys35
        refine WL_step rfl rfl (r_loadAt0 _a35 agg68 rfl rfl) ?_
        refine WL_step rfl rfl (r_len (by rw [el68]; rfl) rfl) ?_
        refine WL_step rfl rfl (r_move rfl) ?_
        refine WL_nil ?_
        refine thn_nrm (_hK_24 _ _ ?_)
        clear _hK_24
        refine W_block ?_
        refine W_loop (σ := Nat) (fun (j : Nat) => [(0, (.slice _A_sa sa.length _C_sa)), (1, (.slice _A_sb sb.length _C_sb)), (4, (.slice none 0 0)), (5, (.slice Au11_0 (_vs11_0).length Cu11_0)), (6, (.int .i64 ((i : Nat) : Int))), (7, (.int .i64 ((k : Nat) : Int))), (13, (.int .i64 ((sa.length : Nat) : Int))), (14, (.int .i64 ((i : Nat) : Int))), (15, (.bool (decide (((i : Nat) : Int) < ((sa.length : Nat) : Int))))), (21, (.int .i64 ((_ys19.length : Nat) : Int))), (22, (.int .i64 ((k : Nat) : Int))), (23, (.bool (decide (((k : Nat) : Int) < ((_ys19.length : Nat) : Int))))), (32, (.bool (!_y30))), (37, (.int .i64 ((_ys35.length : Nat) : Int))), (38, (.int .i64 ((j : Nat) : Int)))]) (fun (j : Nat) wx => Ch [] w wx ∧ _wr_15.heap.size ≤ wx.heap.size ∧ (j ≤ n) ∧ Ls Sv.cs 1 wx LL_sa w.heap.size (.slice _A_sa sa.length _C_sa) sa ∧ Rd bcs 1 wx LR_a w.heap.size sa a ∧ Ls Sv.cs 1 wx LL_sb w.heap.size (.slice _A_sb sb.length _C_sb) sb ∧ Rd bcs 1 wx LR_b w.heap.size sb b ∧ Ol Sv.cs 68 1 wx (.slice Au11_0 (_vs11_0).length Cu11_0) _vs11_0 ∧ Od bcs 4 1 wx w.heap.size _w_3.heap.size _vs11_0 (grd n (mupt n A B i k j))) (fun (j : Nat) => n - j) 0 (Sub.cons rfl (Sub.cons rfl (Sub.cons rfl (Sub.cons rfl (Sub.cons rfl (Sub.cons rfl (Sub.cons rfl (Sub.cons rfl (Sub.cons rfl (Sub.cons rfl (Sub.cons rfl (Sub.cons rfl (Sub.cons rfl (Sub.cons rfl (Sub.cons rfl (Sub.nil _)))))))))))))))) ⟨E, (Nat.le_refl _), (by omega), _F1_0, _F1_1, _f_25, _f_26, _F1_4, (od.eq rfl)⟩ ?_
        rintro j _wr_27 ⟨E, _zz2, hj, _F2_0, _F2_1, _F2_2, _F2_3, _F2_4, od⟩
        have _E2h := E
        have _E2hz := _E2h.size
        refine W_seq fun _K_28 _hK_28 => ?_
        refine W_region ?_
        refine WL_step rfl rfl (r_lss rfl rfl) ?_
        refine WL_nil ?_
        refine thn_nrm (_hK_28 _ _ ?_)
        clear _hK_28
        refine W_seq fun _K_29 _hK_29 => ?_
        refine W_cond rfl (fun _h39 => ?_) (fun _h39 => ?_)
        · have _kb_30 := _h39
          have _h39 := bt_d _h39
          refine W_skip ?_
          refine thn_nrm (_hK_29 _ _ ?_)
          clear _hK_29
          refine W_seq fun _K_31 _hK_31 => ?_
          refine W_block ?_
          refine W_seq fun _K_32 _hK_32 => ?_
          refine W_region ?_
          refine WL_step rfl rfl (r_move rfl) ?_
          refine WL_step rfl rfl (r_assign rfl) ?_
          refine WL_nil ?_
          refine thn_nrm (_hK_32 _ _ ?_)
          clear _hK_32
          have _ln941 := (od).1
          rw [grd_len] at _ln941
          obtain ⟨go941, hgo941, lso941⟩ := Ol.lsE _F2_4 (by omega)
          obtain ⟨_y941, _hy941⟩ := get_some (xs := _vs11_0) (j := i) (by omega)
          have _sm941 := _sep_vs11_0 _ (mem_of_get _hy941)
          obtain ⟨_ys941, _hys941, _fs941, _rs941⟩ := od.ownget _hy941
          obtain ⟨_A941, _n941, _C941⟩ := _y941
          obtain rfl := _fs941.ls.eqn
          have _l941 := _fs941.len
          have _lo941 : Lo w.heap.size (.slice _A941 _ys941.length _C941) := fun g hg => (_rs941 g hg).1
          have hi941 : ∀ g ∈ bl (.slice _A941 _ys941.length _C941), g < _w_3.heap.size := fun g hg => (_rs941 g hg).2
          replace _fs941 : Ol bcs 4 1 _wr_27 (.slice _A941 _ys941.length _C941) _ys941 := _fs941
          have rl941 := row_len rfl _hys941
          refine W_drawC (bl (.slice _A941 _ys941.length _C941)) 23 mixed rfl fun _w_33 _cw_33 => ?_
          have _cw_33z := _cw_33.size
          have E := E.trans _cw_33
          refine DR_s 0 rfl (by kernel_rfl) rfl rfl (t_v (fun _ => (r_move rfl)) ?_)
          refine DR_s 1 rfl (by kernel_rfl) rfl rfl (t_v (fun _ => (r_move rfl)) ?_)
          have _f_34 := (lso941.ch0 _cw_33)
          refine DR_s 2 rfl (by kernel_rfl) rfl rfl (t_index _f_34 Sv.len el69 sz68 rfl rfl rfl (by omega) fun _p43 _y43 _hy43 _a43 => ?_)
          obtain rfl := get_uniq _hy941 _hy43
          replace _a43 : At _w_33 go941 (go941 + 1) _p43 ([(.slice _A941 _ys941.length _C941)]) := _a43
          refine DR_s 3 rfl (by kernel_rfl) rfl rfl (t_loadAt0 _a43 (fun i hm => ne_blk (_sm941 i hm) hgo941) agg68 rfl rfl ?_)
          refine DR_s 4 rfl (by kernel_rfl) rfl rfl (t_v (fun _ => (r_move rfl)) ?_)
          refine DR_s 5 rfl (by kernel_rfl) rfl rfl (t_v (fun _ => (r_move rfl)) ?_)
          refine DR_s 6 rfl (by kernel_rfl) rfl rfl (t_v (fun _ => (r_move rfl)) ?_)
          refine DR_s 7 rfl (by kernel_rfl) rfl rfl (t_index _f_34 Sv.len el69 sz68 rfl rfl rfl (by omega) fun _p48 _y48 _hy48 _a48 => ?_)
          obtain rfl := get_uniq _hy941 _hy48
          replace _a48 : At _w_33 go941 (go941 + 1) _p48 ([(.slice _A941 _ys941.length _C941)]) := _a48
          refine DR_s 8 rfl (by kernel_rfl) rfl rfl (t_loadAt0 _a48 (fun i hm => ne_blk (_sm941 i hm) hgo941) agg68 rfl rfl ?_)
          refine DR_s 9 rfl (by kernel_rfl) rfl rfl (t_v (fun _ => (r_move rfl)) ?_)
          refine DR_one 10 (by kernel_rfl) ?_
          refine DO_s rfl rfl rfl ?_
          have _f_35 := (_fs941.ch0 _cw_33)
          refine (s_index _f_35.ls bcs_len el68 sz4 rfl rfl rfl (by omega) fun _p51 _y51 _hy51 _a51 => ?_)
          refine ⟨(Ch.refl _ _), ?_⟩
          refine DR_one 11 (by kernel_rfl) ?_
          refine DO_s rfl rfl rfl ?_
          refine s_v (r_loadAt0 _a51 agg4 rfl rfl) ?_
          refine ⟨(Ch.refl _ _), ?_⟩
          refine DR_s 12 rfl (by kernel_rfl) rfl rfl (t_v (fun _ => (r_move rfl)) ?_)
          refine DR_split (d := 53) rfl (fun _h53 => ?_) (fun _h53 => ?_)
          · have _kb_36 := _h53
            refine DR_skip 13 rfl (by kernel_rfl) rfl rfl ?_
            refine DR_skip 14 rfl (by kernel_rfl) rfl rfl ?_
            refine DR_skip 15 rfl (by kernel_rfl) rfl rfl ?_
            refine DR_skip 16 rfl (by kernel_rfl) rfl rfl ?_
            refine DR_skip 17 rfl (by kernel_rfl) rfl rfl ?_
            refine DR_skip 18 rfl (by kernel_rfl) rfl rfl ?_
            refine DR_skip 19 rfl (by kernel_rfl) rfl rfl ?_
            refine DR_s 20 rfl (by kernel_rfl) rfl rfl (t_v (fun _ => (r_pickT rfl rfl)) ?_)
            refine DR_one 21 (by kernel_rfl) ?_
            refine DO_s rfl rfl rfl ?_
            refine s_indexO (j := j) _f_35 el68 sz4 rfl rfl rfl (by omega) fun _g62 _o62 _cp62 _q62 => ?_
            refine ⟨(Ch.refl _ _), ?_⟩
            refine DR_one 22 (by kernel_rfl) ?_
            refine DO_s rfl rfl rfl ?_
            refine s_storeO (j := j) true _f_35 _q62 bcs_len sz4 rfl rfl rfl rfl (by omega) fun _w_37 _o_38 _cw_37 => ?_
            have _f_39 := (od.ch0 _cw_33)
            have _cw_37z := _cw_37.size
            have E := E.step _cw_37 (fun i hi => .inl (by have _h1 := _lo941 _ hi; omega))
            have _od_40 := Od.set _f_39 _hy941 _hys941 _cw_37 _o_38
            have _S_41 : Ch (bl (.slice _A941 _ys941.length _C941)) _w_33 _w_37 := ((Ch.refl _ _).step _cw_37 (fun i hm => by exact .inr hm))
            refine ⟨_S_41, ?_⟩
            refine DR_done (by kernel_rfl) ?_
            refine inB_nrm ?_
            refine thn_nrm (_hK_31 _ _ ?_)
            clear _hK_31
            refine W_region ?_
            refine WL_step rfl rfl (r_add (by omega) rfl rfl) ?_
            refine WL_step rfl rfl (r_move rfl) ?_
            refine WL_nil ?_
            have _f_42 := ((_F2_0.ch0 _cw_33).ch _cw_37 (fun i hi => by have _h1 := _lo941 _ hi; omega))
            have _f_43 := ((_F2_1.ch0 _cw_33).ch _cw_37 (fun i hi => by have _h1 := _lo941 _ hi; omega))
            have _f_44 := ((_F2_2.ch0 _cw_33).ch _cw_37 (fun i hi => by have _h1 := _lo941 _ hi; omega))
            have _f_45 := ((_F2_3.ch0 _cw_33).ch _cw_37 (fun i hi => by have _h1 := _lo941 _ hi; omega))
            have _f_46 := ((_F2_4.ch0 _cw_33).ch _cw_37 (fun g hg hm => by exact _sm941 _ hm hg))
            exact thn_nrm (Exists.intro (j + 1) ⟨⟨E, (by omega), (by omega), _f_42, _f_43, _f_44, _f_45, _f_46, (_od_40.eq (mupt_step rfl _hys941 (by rw [← _e30]; simpa using _h32) (by first | (have _e1 := grd_y rfl _hys941 _hy51; simp [← _e1, _h53]; done) | (have _e1 := grd_y rfl _hys941 _hy51; have _e2 := grd_y hb _hys56 _hy59; simp [← _e1, ← _e2, _h53]; done))))⟩, Sub.cons rfl (Sub.cons rfl (Sub.cons rfl (Sub.cons rfl (Sub.cons rfl (Sub.cons rfl (Sub.cons rfl (Sub.cons rfl (Sub.cons rfl (Sub.cons rfl (Sub.cons rfl (Sub.cons rfl (Sub.cons rfl (Sub.cons rfl (Sub.cons rfl (Sub.nil _))))))))))))))), (by first | omega | (dsimp only; omega))⟩)
          · have _kb_36 := _h53
            refine DR_s 13 rfl (by kernel_rfl) rfl rfl (t_v (fun _ => (r_move rfl)) ?_)
            refine DR_s 14 rfl (by kernel_rfl) rfl rfl (t_v (fun _ => (r_move rfl)) ?_)
            have _f_47 := (_F2_2.ch0 _cw_33)
            have _f_48 := (_F2_3.ch0 _cw_33)
            refine DR_s 15 rfl (by kernel_rfl) rfl rfl (t_index _f_47 Sv.len el69 sz68 rfl rfl rfl (by omega) fun _p56 _y56 _hy56 _a56 => ?_)
            obtain ⟨_ys56, _hys56, _fs56⟩ := _f_48.get _hy56
            obtain ⟨_A56, _n56, _C56⟩ := _y56
            obtain rfl := _fs56.eqn
            have _l56 := _fs56.len
            replace _fs56 : Ls bcs 1 _w_33 LR_b w.heap.size (.slice _A56 _ys56.length _C56) _ys56 := _fs56
            replace _a56 : At _w_33 LL_sb w.heap.size _p56 ([(.slice _A56 _ys56.length _C56)]) := _a56
            have rl56 := row_len hb _hys56
            refine DR_s 16 rfl (by kernel_rfl) rfl rfl (t_loadAt0 _a56 (fun i hm => by have _h1 := _lo941 _ hm; have _h2 := hi941 _ hm; omega) agg68 rfl rfl ?_)
            refine DR_s 17 rfl (by kernel_rfl) rfl rfl (t_v (fun _ => (r_move rfl)) ?_)
            refine DR_s 18 rfl (by kernel_rfl) rfl rfl (t_index _fs56 bcs_len el68 sz4 rfl rfl rfl (by omega) fun _p59 _y59 _hy59 _a59 => ?_)
            refine DR_s 19 rfl (by kernel_rfl) rfl rfl (t_loadAt0 _a59 (fun i hm => by have _h1 := _lo941 _ hm; have _h2 := hi941 _ hm; omega) agg4 rfl rfl ?_)
            refine DR_s 20 rfl (by kernel_rfl) rfl rfl (t_v (fun _ => (r_pickF rfl rfl)) ?_)
            refine DR_one 21 (by kernel_rfl) ?_
            refine DO_s rfl rfl rfl ?_
            refine s_indexO (j := j) _f_35 el68 sz4 rfl rfl rfl (by omega) fun _g62 _o62 _cp62 _q62 => ?_
            refine ⟨(Ch.refl _ _), ?_⟩
            refine DR_one 22 (by kernel_rfl) ?_
            refine DO_s rfl rfl rfl ?_
            refine s_storeO (j := j) _y59 _f_35 _q62 bcs_len sz4 rfl rfl rfl rfl (by omega) fun _w_49 _o_50 _cw_49 => ?_
            have _f_51 := (od.ch0 _cw_33)
            have _cw_49z := _cw_49.size
            have E := E.step _cw_49 (fun i hi => .inl (by have _h1 := _lo941 _ hi; omega))
            have _od_52 := Od.set _f_51 _hy941 _hys941 _cw_49 _o_50
            have _S_53 : Ch (bl (.slice _A941 _ys941.length _C941)) _w_33 _w_49 := ((Ch.refl _ _).step _cw_49 (fun i hm => by exact .inr hm))
            refine ⟨_S_53, ?_⟩
            refine DR_done (by kernel_rfl) ?_
            refine inB_nrm ?_
            refine thn_nrm (_hK_31 _ _ ?_)
            clear _hK_31
            refine W_region ?_
            refine WL_step rfl rfl (r_add (by omega) rfl rfl) ?_
            refine WL_step rfl rfl (r_move rfl) ?_
            refine WL_nil ?_
            have _f_54 := ((_F2_0.ch0 _cw_33).ch _cw_49 (fun i hi => by have _h1 := _lo941 _ hi; omega))
            have _f_55 := ((_F2_1.ch0 _cw_33).ch _cw_49 (fun i hi => by have _h1 := _lo941 _ hi; omega))
            have _f_56 := (_f_47.ch _cw_49 (fun i hi => by have _h1 := _lo941 _ hi; omega))
            have _f_57 := (_f_48.ch _cw_49 (fun i hi => by have _h1 := _lo941 _ hi; omega))
            have _f_58 := ((_F2_4.ch0 _cw_33).ch _cw_49 (fun g hg hm => by exact _sm941 _ hm hg))
            exact thn_nrm (Exists.intro (j + 1) ⟨⟨E, (by omega), (by omega), _f_54, _f_55, _f_56, _f_57, _f_58, (_od_52.eq (mupt_step rfl _hys941 (by rw [← _e30]; simpa using _h32) (by first | (have _e1 := grd_y rfl _hys941 _hy51; simp [← _e1, _h53]; done) | (have _e1 := grd_y rfl _hys941 _hy51; have _e2 := grd_y hb _hys56 _hy59; simp [← _e1, ← _e2, _h53]; done))))⟩, Sub.cons rfl (Sub.cons rfl (Sub.cons rfl (Sub.cons rfl (Sub.cons rfl (Sub.cons rfl (Sub.cons rfl (Sub.cons rfl (Sub.cons rfl (Sub.cons rfl (Sub.cons rfl (Sub.cons rfl (Sub.cons rfl (Sub.cons rfl (Sub.cons rfl (Sub.nil _))))))))))))))), (by first | omega | (dsimp only; omega))⟩)
        · have _kb_30 := _h39
          have _h39 := bf_d _h39
          refine W_exit (thn_exit (thn_exit (inB_hit ?_)))
          refine inB_nrm ?_
          refine thn_nrm (_hK_19 _ _ ?_)
          clear _hK_19
          refine W_region ?_
          refine WL_step rfl rfl (r_add (by omega) rfl rfl) ?_
          refine WL_step rfl rfl (r_move rfl) ?_
          refine WL_nil ?_
          exact thn_nrm (Exists.intro (k + 1) ⟨⟨E, (by omega), (by omega), _F2_0, _F2_1, _F2_4, (od.eq (by first | exact mupt_row (.inl (by omega)) | exact mupt_row (.inr (by rw [← _e30]; simpa using _h32))))⟩, Sub.cons rfl (Sub.cons rfl (Sub.cons rfl (Sub.cons rfl (Sub.cons rfl (Sub.cons rfl (Sub.cons rfl (Sub.cons rfl (Sub.cons rfl (Sub.cons rfl (Sub.nil _)))))))))), (by first | omega | (dsimp only; omega))⟩)
    · have _kb_18 := _h23
      have _h23 := bf_d _h23
      refine W_exit (thn_exit (thn_exit (inB_hit ?_)))
      refine inB_nrm ?_
      refine thn_nrm (_hK_10 _ _ ?_)
      clear _hK_10
      refine W_region ?_
      refine WL_step rfl rfl (r_add (by omega) rfl rfl) ?_
      refine WL_step rfl rfl (r_move rfl) ?_
      refine WL_nil ?_
      exact thn_nrm (Exists.intro (i + 1) ⟨⟨E, (by omega), (by omega), _F1_4, (od.eq (mupt_next (by omega)))⟩, Sub.cons rfl (Sub.cons rfl (Sub.cons rfl (Sub.cons rfl (Sub.cons rfl (Sub.cons rfl (Sub.nil _)))))), (by first | omega | (dsimp only; omega))⟩)
  · have _kb_9 := _h15
    have _h15 := bf_d _h15
    refine W_exit (thn_exit (thn_exit (inB_hit ?_)))
    refine thn_nrm (_hK_4 _ _ ?_)
    clear _hK_4
    refine W_seq fun _K_59 _hK_59 => ?_
    refine W_region ?_
    refine WL_step rfl rfl (r_move rfl) ?_
    refine WL_step rfl rfl (r_assign rfl) ?_
    refine WL_nil ?_
    refine thn_nrm (_hK_59 _ _ ?_)
    clear _hK_59
    refine W_ret ?_
    clear _hK_8
    have _o_60 : Ol Sv.cs 68 1 _wr_6 (.slice Au11_0 (_vs11_0).length Cu11_0) _vs11_0 := by
      have hx := _F0_4
      exact hx
    have _o_61 : Od bcs 4 1 _wr_6 w.heap.size _wr_6.heap.size _vs11_0 (grd n (mulM n A B)) := by
      have hx := od.up (lo' := w.heap.size) (hi' := _wr_6.heap.size) (by omega) (by omega)
      rwa [mupt_all (by omega)] at hx
    exact ret_intro [_] ⟨rfl, trivial⟩ ⟨(.slice Au11_0 (_vs11_0).length Cu11_0), _vs11_0, rfl, _o_60, (Lo.down _lo_u11_0 (by omega)), _o_61, _sep_vs11_0, E⟩

/-- impl.tree).reach -/
theorem c_impl_tree_reach_n : ∀ (n : Nat) {w : World} {LT_x _B_x : Nat} {p_x : Addr} {x : Tr} (_h_x : TrAt w LT_x _B_x p_x x) {LL_word _B_word : Nat} {_v_word : Value} {word : List Int} (_h_word : Ls ics 1 w LL_word _B_word _v_word word) (hok : Okd x) (hw : word.length ≤ 4096) (hsz : x.sz < n),
    Ctr Tryz.prog 45 #[(.pointer (some p_x)), _v_word] w (fun v w' => ∃ (_u0 : Value) (vs0 : List Sv), v = _u0 ∧ Ol Sv.cs 68 1 w' _u0 vs0 ∧ Lo w.heap.size _u0 ∧ Od bcs 4 1 w' w.heap.size w'.heap.size vs0 (grd (word.length + 1) (mtT word x)) ∧ Sep _u0 vs0 ∧ Ch [] w w') := by
  intro n
  induction n with
  | zero => intros; omega
  | succ n ih =>
  intro w LT_x _B_x p_x x _h_x LL_word _B_word _v_word word _h_word hok hw hsz
  have _h_x := _h_x.here
  obtain ⟨_A_x, _C_x, _ps_x, _hc_x, _hk_x, _kd_x⟩ := _h_x.open
  have _kl_x := _kd_x.1
  obtain ⟨_A_word, _C_word, _e1_word⟩ := _h_word.val
  subst _e1_word
  have _l_word := _h_word.len
  have _h_word := _h_word.here (by decide)
  have E := Ch.refl [] w
  have k2 := hok.len
  refine Ctr_of_W (N := 145) (vs0 := [(.pointer (some p_x)), (.slice _A_word word.length _C_word)]) Tryz.func45 rfl rfl rfl ?_
  refine W_seq fun _K_1 _hK_1 => ?_
  refine W_region ?_
  refine WL_step rfl rfl (r_assign rfl) ?_
  refine WL_nil ?_
  refine thn_nrm (_hK_1 _ _ ?_)
  clear _hK_1
  refine W_seq fun _K_2 _hK_2 => ?_
  refine W_region ?_
  refine WL_step rfl rfl (r_move rfl) ?_
  refine WL_step rfl rfl (r_len (by rw [el27]; rfl) rfl) ?_
  refine WL_step rfl rfl (r_add (by omega) rfl rfl) ?_
  refine WL_step rfl rfl (r_assign rfl) ?_
  refine WL_nil ?_
  refine thn_nrm (_hK_2 _ _ ?_)
  clear _hK_2
  refine W_seq fun _K_3 _hK_3 => ?_
  refine W_region ?_
  refine WL_step rfl rfl (r_move rfl) ?_
  refine WL_s rfl rfl ?_
  refine Step.call (r_call (xs := [.tmp 16, .const (Go.Value.bool false)]) fk72 rfl) (c_impl_ways (word.length + 1) _ (by omega)) fun _v17 _w_4 _q17 => ?_
  obtain ⟨u17_0, _vs17_0, rfl, _q_u17_0, _lo_u17_0, _od_vs17_0, _sep_vs17_0, _cw_4⟩ := _q17
  have _cw_4z := _cw_4.size
  have E := E.trans _cw_4
  obtain ⟨Au17_0, Cu17_0, eu17_0⟩ := _q_u17_0.val
  subst eu17_0
  have lu17_0 := _q_u17_0.len
  have _hiu17_0 := _q_u17_0.lt
  refine WL_step rfl rfl (r_assign rfl) ?_
  refine WL_nil ?_
  refine thn_nrm (_hK_3 _ _ ?_)
  clear _hK_3
  refine W_seq fun _K_5 _hK_5 => ?_
  refine W_seq fun _K_6 _hK_6 => ?_
  refine W_region ?_
  refine WL_step rfl rfl (r_move rfl) ?_
  refine WL_step rfl rfl (r_nilCheck rfl) ?_
  refine WL_step rfl rfl (r_fieldAddr fa67_0 rfl) ?_
  refine WL_step rfl rfl (r_fieldAddrN (n := 0) fa52_0 rfl rfl) ?_
  have _f_7 := (_hc_x.ch0 _cw_4)
  refine WL_step rfl rfl (r_loadAt _f_7 agg3 rfl rfl) ?_
  refine WL_nil ?_
  refine thn_nrm (_hK_6 _ _ ?_)
  clear _hK_6
  refine W_block ?_
  refine W_seq fun _K_8 _hK_8 => ?_
  refine W_region ?_
  refine WL_step rfl rfl (r_eql rfl rfl) ?_
  refine WL_step rfl rfl (r_assign rfl) ?_
  refine WL_nil ?_
  refine thn_nrm (_hK_8 _ _ ?_)
  clear _hK_8
  refine W_cond rfl (fun _h23 => ?_) (fun _h23 => ?_)
  · have _kb_9 := _h23
    have _h23 := bt_d _h23
    have em2 := mt2 (w := word) hok (by omega)
    refine W_region ?_
    refine WL_step rfl rfl (r_move rfl) ?_
    refine WL_s rfl rfl ?_
    refine Step.call (r_call (xs := [.tmp 25, .const (Go.Value.bool true)]) fk72 rfl) (c_impl_ways (word.length + 1) _ (by omega)) fun _v26 _w_10 _q26 => ?_
    obtain ⟨u26_0, _vs26_0, rfl, _q_u26_0, _lo_u26_0, _od_vs26_0, _sep_vs26_0, _cw_10⟩ := _q26
    have _cw_10z := _cw_10.size
    have E := E.trans _cw_10
    obtain ⟨Au26_0, Cu26_0, eu26_0⟩ := _q_u26_0.val
    subst eu26_0
    have lu26_0 := _q_u26_0.len
    have _hiu26_0 := _q_u26_0.lt
    refine WL_step rfl rfl (r_assign rfl) ?_
    refine WL_nil ?_
    refine inB_nrm ?_
    refine thn_nrm (_hK_5 _ _ ?_)
    clear _hK_5
    refine W_seq fun _K_11 _hK_11 => ?_
    refine W_region ?_
    refine WL_step rfl rfl (r_move rfl) ?_
    refine WL_step rfl rfl (r_assign rfl) ?_
    refine WL_nil ?_
    refine thn_nrm (_hK_11 _ _ ?_)
    clear _hK_11
    refine W_ret ?_
    have _o_12 : Ol Sv.cs 68 1 _w_10 (.slice Au26_0 (_vs26_0).length Cu26_0) _vs26_0 := by
      have hx := _q_u26_0
      exact hx
    have _o_13 : Od bcs 4 1 _w_10 w.heap.size _w_10.heap.size _vs26_0 (grd (word.length + 1) (mtT word x)) := by
      have hx := _od_vs26_0.up (lo' := w.heap.size) (hi' := _w_10.heap.size) (by omega) (by omega)
      first | (rw [em2]; exact hx) | fail
    exact ret_intro [_] ⟨rfl, trivial⟩ ⟨(.slice Au26_0 (_vs26_0).length Cu26_0), _vs26_0, rfl, _o_12, (Lo.down _lo_u26_0 (by omega)), _o_13, _sep_vs26_0, E⟩
  · have _kb_9 := _h23
    have _h23 := bf_d _h23
    refine W_seq fun _K_14 _hK_14 => ?_
    refine W_region ?_
    refine WL_step rfl rfl (r_eql rfl rfl) ?_
    refine WL_step rfl rfl (r_assign rfl) ?_
    refine WL_nil ?_
    refine thn_nrm (_hK_14 _ _ ?_)
    clear _hK_14
    refine W_cond rfl (fun _h27 => ?_) (fun _h27 => ?_)
    · have _kb_15 := _h27
      have _h27 := bt_d _h27
      have em3 := mt3 (w := word) hok (by omega)
      refine W_seq fun _K_16 _hK_16 => ?_
      refine W_region ?_
      refine WL_step rfl rfl (r_move rfl) ?_
      refine WL_step rfl rfl (r_len (by rw [el27]; rfl) rfl) ?_
      refine WL_step rfl rfl (r_move rfl) ?_
      refine WL_nil ?_
      refine thn_nrm (_hK_16 _ _ ?_)
      clear _hK_16
      refine W_block ?_
      refine W_loop (σ := Nat) (fun (i : Nat) => [(0, (.pointer (some p_x))), (1, (.slice _A_word word.length _C_word)), (4, (.slice none 0 0)), (5, (.int .i64 (((word.length : Nat) : Int) + 1))), (6, (.slice Au17_0 (_vs17_0).length Cu17_0)), (22, (.int .i64 x.tok.kind)), (29, (.slice _A_word word.length _C_word)), (30, (.int .i64 ((word.length : Nat) : Int))), (31, (.int .i64 ((i : Nat) : Int)))]) (fun (i : Nat) wx => Ch [] w wx ∧ _w_4.heap.size ≤ wx.heap.size ∧ (i ≤ word.length) ∧ At wx LT_x w.heap.size p_x ([.int .i64 x.tok.kind, .int .i64 x.tok.letter, .int .i64 x.tok.low, .int .i64 x.tok.high, (.slice _A_x _ps_x.length _C_x)]) ∧ Ol Sv.cs 68 1 wx (.slice Au17_0 (_vs17_0).length Cu17_0) _vs17_0 ∧ Od bcs 4 1 wx w.heap.size _w_4.heap.size _vs17_0 (grd (word.length + 1) (lupt x.tok.letter word i))) (fun (i : Nat) => word.length - i) 0 (Sub.cons rfl (Sub.cons rfl (Sub.cons rfl (Sub.cons rfl (Sub.cons rfl (Sub.cons rfl (Sub.cons rfl (Sub.cons rfl (Sub.cons rfl (Sub.nil _)))))))))) ⟨E, (Nat.le_refl _), (by omega), _f_7, _q_u17_0, (_od_vs17_0.eq lupt_zero)⟩ ?_
      rintro i _wr_17 ⟨E, _zz0, hi, _F0_0, _F0_5, od⟩
      have _E0h := E
      have _E0hz := _E0h.size
      refine W_seq fun _K_18 _hK_18 => ?_
      refine W_region ?_
      refine WL_step rfl rfl (r_lss rfl rfl) ?_
      refine WL_nil ?_
      refine thn_nrm (_hK_18 _ _ ?_)
      clear _hK_18
      refine W_seq fun _K_19 _hK_19 => ?_
      refine W_cond rfl (fun _h32 => ?_) (fun _h32 => ?_)
      · have _kb_20 := _h32
        have _h32 := bt_d _h32
        refine W_skip ?_
        refine thn_nrm (_hK_19 _ _ ?_)
        clear _hK_19
        refine W_seq fun _K_21 _hK_21 => ?_
        refine W_block ?_
        refine W_seq fun _K_22 _hK_22 => ?_
        refine W_region ?_
        refine WL_step rfl rfl (r_move rfl) ?_
        refine WL_s rfl rfl ?_
        have _f_23 := (_h_word.ch0 _E0h)
        refine (s_index _f_23 ics_len el27 sz3 rfl rfl rfl (by omega) fun _p34 _y34 _hy34 _a34 => ?_)
        refine WL_step rfl rfl (r_loadAt0 _a34 agg3 rfl rfl) ?_
        refine WL_step rfl rfl (r_assign rfl) ?_
        refine WL_step rfl rfl (r_assign rfl) ?_
        refine WL_nil ?_
        refine thn_nrm (_hK_22 _ _ ?_)
        clear _hK_22
        have _ln936 := (od).1
        rw [grd_len] at _ln936
        obtain ⟨go936, hgo936, lso936⟩ := Ol.lsE _F0_5 (by omega)
        obtain ⟨_y936, _hy936⟩ := get_some (xs := _vs17_0) (j := i) (by omega)
        have _sm936 := _sep_vs17_0 _ (mem_of_get _hy936)
        obtain ⟨_ys936, _hys936, _fs936, _rs936⟩ := od.ownget _hy936
        obtain ⟨_A936, _n936, _C936⟩ := _y936
        obtain rfl := _fs936.ls.eqn
        have _l936 := _fs936.len
        have _lo936 : Lo w.heap.size (.slice _A936 _ys936.length _C936) := fun g hg => (_rs936 g hg).1
        have hi936 : ∀ g ∈ bl (.slice _A936 _ys936.length _C936), g < _w_4.heap.size := fun g hg => (_rs936 g hg).2
        replace _fs936 : Ol bcs 4 1 _wr_17 (.slice _A936 _ys936.length _C936) _ys936 := _fs936
        have rl936 := row_len rfl _hys936
        refine W_drawC (bl (.slice _A936 _ys936.length _C936)) 15 mixed rfl fun _w_24 _cw_24 => ?_
        have _cw_24z := _cw_24.size
        have E := E.trans _cw_24
        refine DR_s 0 rfl (by kernel_rfl) rfl rfl (t_v (fun _ => (r_move rfl)) ?_)
        refine DR_s 1 rfl (by kernel_rfl) rfl rfl (t_v (fun _ => (r_move rfl)) ?_)
        have _f_25 := (lso936.ch0 _cw_24)
        refine DR_s 2 rfl (by kernel_rfl) rfl rfl (t_index _f_25 Sv.len el69 sz68 rfl rfl rfl (by omega) fun _p38 _y38 _hy38 _a38 => ?_)
        obtain rfl := get_uniq _hy936 _hy38
        replace _a38 : At _w_24 go936 (go936 + 1) _p38 ([(.slice _A936 _ys936.length _C936)]) := _a38
        refine DR_s 3 rfl (by kernel_rfl) rfl rfl (t_loadAt0 _a38 (fun i hm => ne_blk (_sm936 i hm) hgo936) agg68 rfl rfl ?_)
        refine DR_s 4 rfl (by kernel_rfl) rfl rfl (t_v (fun _ => (r_move rfl)) ?_)
        refine DR_s 5 rfl (by kernel_rfl) rfl rfl (t_v (fun _ => (r_add (by omega) rfl rfl)) ?_)
        refine DR_s 6 rfl (by kernel_rfl) rfl rfl (t_v (fun _ => (r_move rfl)) ?_)
        refine DR_s 7 rfl (by kernel_rfl) rfl rfl (t_v (fun _ => (r_move rfl)) ?_)
        refine DR_s 8 rfl (by kernel_rfl) rfl rfl (t_v (fun _ => (r_nilCheck rfl)) ?_)
        refine DR_s 9 rfl (by kernel_rfl) rfl rfl (t_v (fun _ => (r_fieldAddr fa67_0 rfl)) ?_)
        refine DR_s 10 rfl (by kernel_rfl) rfl rfl (t_v (fun _ => (r_fieldAddrN (n := 1) fa52_1 rfl rfl)) ?_)
        have _f_26 := (_F0_0.ch0 _cw_24)
        refine DR_s 11 rfl (by kernel_rfl) rfl rfl (t_loadAt _f_26 (fun i hm => by have _h1 := _lo936 _ hm; have _h2 := hi936 _ hm; omega) agg3 rfl rfl ?_)
        refine DR_s 12 rfl (by kernel_rfl) rfl rfl (t_v (fun _ => (r_eql rfl rfl)) ?_)
        refine DR_one 13 (by kernel_rfl) ?_
        refine DO_s rfl rfl rfl ?_
        have _f_27 := (_fs936.ch0 _cw_24)
        refine s_indexO (j := (i + 1)) _f_27 el68 sz4 rfl rfl rfl (by omega) fun _g49 _o49 _cp49 _q49 => ?_
        refine ⟨(Ch.refl _ _), ?_⟩
        refine DR_one 14 (by kernel_rfl) ?_
        refine DO_s rfl rfl rfl ?_
        refine s_storeO (j := (i + 1)) (decide (_y34 = x.tok.letter)) _f_27 _q49 bcs_len sz4 rfl rfl rfl rfl (by omega) fun _w_28 _o_29 _cw_28 => ?_
        have _f_30 := (od.ch0 _cw_24)
        have _cw_28z := _cw_28.size
        have E := E.step _cw_28 (fun i hi => .inl (by have _h1 := _lo936 _ hi; omega))
        have _od_31 := Od.set _f_30 _hy936 _hys936 _cw_28 _o_29
        have _S_32 : Ch (bl (.slice _A936 _ys936.length _C936)) _w_24 _w_28 := ((Ch.refl _ _).step _cw_28 (fun i hm => by exact .inr hm))
        refine ⟨_S_32, ?_⟩
        refine DR_done (by kernel_rfl) ?_
        refine inB_nrm ?_
        refine thn_nrm (_hK_21 _ _ ?_)
        clear _hK_21
        refine W_region ?_
        refine WL_step rfl rfl (r_add (by omega) rfl rfl) ?_
        refine WL_step rfl rfl (r_move rfl) ?_
        refine WL_nil ?_
        have _f_33 := (_f_26.ch _cw_28 (fun i hi => by have _h1 := _lo936 _ hi; omega))
        have _f_34 := ((_F0_5.ch0 _cw_24).ch _cw_28 (fun g hg hm => by exact _sm936 _ hm hg))
        exact thn_nrm (Exists.intro (i + 1) ⟨⟨E, (by omega), (by omega), _f_33, _f_34, (_od_31.eq (lupt_step rfl _hys936 _hy34 rfl))⟩, Sub.cons rfl (Sub.cons rfl (Sub.cons rfl (Sub.cons rfl (Sub.cons rfl (Sub.cons rfl (Sub.cons rfl (Sub.cons rfl (Sub.cons rfl (Sub.nil _))))))))), (by first | omega | (dsimp only; omega))⟩)
      · have _kb_20 := _h32
        have _h32 := bf_d _h32
        refine W_exit (thn_exit (thn_exit (inB_hit ?_)))
        refine inB_nrm ?_
        refine thn_nrm (_hK_5 _ _ ?_)
        clear _hK_5
        refine W_seq fun _K_35 _hK_35 => ?_
        refine W_region ?_
        refine WL_step rfl rfl (r_move rfl) ?_
        refine WL_step rfl rfl (r_assign rfl) ?_
        refine WL_nil ?_
        refine thn_nrm (_hK_35 _ _ ?_)
        clear _hK_35
        refine W_ret ?_
        clear _hK_19
        have _o_36 : Ol Sv.cs 68 1 _wr_17 (.slice Au17_0 (_vs17_0).length Cu17_0) _vs17_0 := by
          have hx := _F0_5
          exact hx
        have _o_37 : Od bcs 4 1 _wr_17 w.heap.size _wr_17.heap.size _vs17_0 (grd (word.length + 1) (mtT word x)) := by
          have hx := od.up (lo' := w.heap.size) (hi' := _wr_17.heap.size) (by omega) (by omega)
          first | exact hx.eq (by rw [em3]; exact lupt_all rfl (by omega)) | fail
        exact ret_intro [_] ⟨rfl, trivial⟩ ⟨(.slice Au17_0 (_vs17_0).length Cu17_0), _vs17_0, rfl, _o_36, (Lo.down _lo_u17_0 (by omega)), _o_37, _sep_vs17_0, E⟩
    · have _kb_15 := _h27
      have _h27 := bf_d _h27
      refine W_seq fun _K_38 _hK_38 => ?_
      refine W_region ?_
      refine WL_step rfl rfl (r_eql rfl rfl) ?_
      refine WL_step rfl rfl (r_assign rfl) ?_
      refine WL_nil ?_
      refine thn_nrm (_hK_38 _ _ ?_)
      clear _hK_38
      refine W_cond rfl (fun _h51 => ?_) (fun _h51 => ?_)
      · have _kb_39 := _h51
        have _h51 := bt_d _h51
        obtain ⟨ta, tb, _hk0, _hk1, oa, ob, sab, ga, gb⟩ := hok.kk2 (by omega)
        have em4 := mt4 (w := word) (by omega) _hk0 _hk1
        refine W_drawC [] 18 mixed rfl fun _w_40 _cw_40 => ?_
        have _cw_40z := _cw_40.size
        have E := E.trans _cw_40
        refine DR_s 0 rfl (by kernel_rfl) rfl rfl (t_v (fun _ => (r_move rfl)) ?_)
        refine DR_s 1 rfl (by kernel_rfl) rfl rfl (t_v (fun _ => (r_nilCheck rfl)) ?_)
        refine DR_s 2 rfl (by kernel_rfl) rfl rfl (t_v (fun _ => (r_fieldAddr fa67_1 rfl)) ?_)
        have _f_41 := (_f_7.ch0 _cw_40)
        refine DR_s 3 rfl (by kernel_rfl) rfl rfl (t_loadAt _f_41 (fun i hi => absurd hi List.not_mem_nil) agg63 rfl rfl ?_)
        have _f_42 := ((_hk_x.ch0 _cw_4).ch0 _cw_40)
        have _f_43 := ((_kd_x.ch0 _cw_4).ch0 _cw_40)
        refine DR_s 4 rfl (by kernel_rfl) rfl rfl (t_index (j := 0) _f_42 acs_len el63 sz46 rfl rfl rfl (by omega) fun _p57 _y57 _hy57 _a57 => ?_)
        have ht57 := _hk0
        have _tr57 := _f_43.2 _ _ _ _hy57 _hk0
        obtain ⟨_A_57, _C_57, _ps_57, _hc_57, _hk_57, _kd_57⟩ := _tr57.open
        have _kl_57 := _kd_57.1
        replace _a57 : At _w_40 LT_x w.heap.size _p57 ([(.pointer (some _y57))]) := _a57
        refine DR_s 5 rfl (by kernel_rfl) rfl rfl (t_loadAt0 _a57 (fun i hi => absurd hi List.not_mem_nil) agg46 rfl rfl ?_)
        refine DR_s 6 rfl (by kernel_rfl) rfl rfl (t_v (fun _ => (r_move rfl)) ?_)
        refine DR_s 8 rfl (by kernel_rfl) rfl rfl (t_v (fun _ => (r_move rfl)) ?_)
        refine DR_s 9 rfl (by kernel_rfl) rfl rfl (t_v (fun _ => (r_nilCheck rfl)) ?_)
        refine DR_s 10 rfl (by kernel_rfl) rfl rfl (t_v (fun _ => (r_fieldAddr fa67_1 rfl)) ?_)
        refine DR_s 11 rfl (by kernel_rfl) rfl rfl (t_loadAt _f_41 (fun i hi => absurd hi List.not_mem_nil) agg63 rfl rfl ?_)
        refine DR_s 12 rfl (by kernel_rfl) rfl rfl (t_index (j := 1) _f_42 acs_len el63 sz46 rfl rfl rfl (by omega) fun _p65 _y65 _hy65 _a65 => ?_)
        have ht65 := _hk1
        have _tr65 := _f_43.2 _ _ _ _hy65 _hk1
        obtain ⟨_A_65, _C_65, _ps_65, _hc_65, _hk_65, _kd_65⟩ := _tr65.open
        have _kl_65 := _kd_65.1
        replace _a65 : At _w_40 LT_x w.heap.size _p65 ([(.pointer (some _y65))]) := _a65
        refine DR_s 13 rfl (by kernel_rfl) rfl rfl (t_loadAt0 _a65 (fun i hi => absurd hi List.not_mem_nil) agg46 rfl rfl ?_)
        refine DR_s 14 rfl (by kernel_rfl) rfl rfl (t_v (fun _ => (r_move rfl)) ?_)
        refine DR_one 7 (by kernel_rfl) ?_
        refine DO_s rfl rfl rfl ?_
        have _f_44 := ((_h_word.ch0 _cw_4).ch0 _cw_40)
        refine Step.call (r_call (xs := [.tmp 58, .tmp 59]) fk45 rfl) (ih _tr57 _f_44 oa hw (by omega)) fun _v60 _w_45 _q60 => ?_
        obtain ⟨u60_0, _vs60_0, rfl, _q_u60_0, _lo_u60_0, _od_vs60_0, _sep_vs60_0, _cw_45⟩ := _q60
        have _cw_45z := _cw_45.size
        have E := E.trans _cw_45
        obtain ⟨Au60_0, Cu60_0, eu60_0⟩ := _q_u60_0.val
        subst eu60_0
        have lu60_0 := _q_u60_0.len
        have _hiu60_0 := _q_u60_0.lt
        have _S_46 : Ch [] _w_40 _w_45 := ((Ch.refl _ _).trans _cw_45)
        refine ⟨_S_46, ?_⟩
        refine DR_one 15 (by kernel_rfl) ?_
        refine DO_s rfl rfl rfl ?_
        have _f_47 := (_tr65.ch0 _cw_45)
        have _f_48 := (_f_44.ch0 _cw_45)
        refine Step.call (r_call (xs := [.tmp 66, .tmp 67]) fk45 rfl) (ih _f_47 _f_48 ob hw (by omega)) fun _v68 _w_49 _q68 => ?_
        obtain ⟨u68_0, _vs68_0, rfl, _q_u68_0, _lo_u68_0, _od_vs68_0, _sep_vs68_0, _cw_49⟩ := _q68
        have _cw_49z := _cw_49.size
        have E := E.trans _cw_49
        obtain ⟨Au68_0, Cu68_0, eu68_0⟩ := _q_u68_0.val
        subst eu68_0
        have lu68_0 := _q_u68_0.len
        have _hiu68_0 := _q_u68_0.lt
        have _S_50 : Ch [] _w_40 _w_49 := (_S_46.trans _cw_49)
        refine ⟨_S_50, ?_⟩
        refine DR_one 16 (by kernel_rfl) ?_
        refine DO_s rfl rfl rfl ?_
        have _f_51 := (_od_vs60_0.ch0 _cw_49)
        have _f_52 := (_q_u60_0.ch0 _cw_49)
        refine Step.call (r_call (xs := [.tmp 60, .tmp 68]) fk73 rfl) (c_impl_inTurn _f_52.ls _f_51.rd _q_u68_0.ls _od_vs68_0.rd (word.length + 1) (mtT word ta) (mtT word tb) rfl rfl (mt_tri _ _) (mt_tri _ _) (by omega)) fun _v69 _w_53 _q69 => ?_
        obtain ⟨u69_0, _vs69_0, rfl, _q_u69_0, _lo_u69_0, _od_vs69_0, _sep_vs69_0, _cw_53⟩ := _q69
        have _cw_53z := _cw_53.size
        have E := E.trans _cw_53
        obtain ⟨Au69_0, Cu69_0, eu69_0⟩ := _q_u69_0.val
        subst eu69_0
        have lu69_0 := _q_u69_0.len
        have _hiu69_0 := _q_u69_0.lt
        have _S_54 : Ch [] _w_40 _w_53 := (_S_50.trans _cw_53)
        refine ⟨_S_54, ?_⟩
        refine DR_s 17 rfl (by kernel_rfl) rfl rfl (t_v (fun _ => (r_assign rfl)) ?_)
        refine DR_done (by kernel_rfl) ?_
        refine inB_nrm ?_
        refine thn_nrm (_hK_5 _ _ ?_)
        clear _hK_5
        refine W_seq fun _K_55 _hK_55 => ?_
        refine W_region ?_
        refine WL_step rfl rfl (r_move rfl) ?_
        refine WL_step rfl rfl (r_assign rfl) ?_
        refine WL_nil ?_
        refine thn_nrm (_hK_55 _ _ ?_)
        clear _hK_55
        refine W_ret ?_
        have _o_56 : Ol Sv.cs 68 1 _w_53 (.slice Au69_0 (_vs69_0).length Cu69_0) _vs69_0 := by
          have hx := _q_u69_0
          exact hx
        have _o_57 : Od bcs 4 1 _w_53 w.heap.size _w_53.heap.size _vs69_0 (grd (word.length + 1) (mtT word x)) := by
          have hx := _od_vs69_0.up (lo' := w.heap.size) (hi' := _w_53.heap.size) (by omega) (by omega)
          first | (rw [em4]; exact hx) | fail
        exact ret_intro [_] ⟨rfl, trivial⟩ ⟨(.slice Au69_0 (_vs69_0).length Cu69_0), _vs69_0, rfl, _o_56, (Lo.down _lo_u69_0 (by omega)), _o_57, _sep_vs69_0, E⟩
      · have _kb_39 := _h51
        have _h51 := bf_d _h51
        refine W_seq fun _K_58 _hK_58 => ?_
        refine W_region ?_
        refine WL_step rfl rfl (r_eql rfl rfl) ?_
        refine WL_step rfl rfl (r_assign rfl) ?_
        refine WL_nil ?_
        refine thn_nrm (_hK_58 _ _ ?_)
        clear _hK_58
        refine W_cond rfl (fun _h70 => ?_) (fun _h70 => ?_)
        · have _kb_59 := _h70
          have _h70 := bt_d _h70
          obtain ⟨ta, tb, _hk0, _hk1, oa, ob, sab, ga, gb⟩ := hok.kk2 (by omega)
          have em5 := mt5 (w := word) (by omega) _hk0 _hk1
          refine W_drawC [] 18 mixed rfl fun _w_60 _cw_60 => ?_
          have _cw_60z := _cw_60.size
          have E := E.trans _cw_60
          refine DR_s 0 rfl (by kernel_rfl) rfl rfl (t_v (fun _ => (r_move rfl)) ?_)
          refine DR_s 1 rfl (by kernel_rfl) rfl rfl (t_v (fun _ => (r_nilCheck rfl)) ?_)
          refine DR_s 2 rfl (by kernel_rfl) rfl rfl (t_v (fun _ => (r_fieldAddr fa67_1 rfl)) ?_)
          have _f_61 := (_f_7.ch0 _cw_60)
          refine DR_s 3 rfl (by kernel_rfl) rfl rfl (t_loadAt _f_61 (fun i hi => absurd hi List.not_mem_nil) agg63 rfl rfl ?_)
          have _f_62 := ((_hk_x.ch0 _cw_4).ch0 _cw_60)
          have _f_63 := ((_kd_x.ch0 _cw_4).ch0 _cw_60)
          refine DR_s 4 rfl (by kernel_rfl) rfl rfl (t_index (j := 0) _f_62 acs_len el63 sz46 rfl rfl rfl (by omega) fun _p76 _y76 _hy76 _a76 => ?_)
          have ht76 := _hk0
          have _tr76 := _f_63.2 _ _ _ _hy76 _hk0
          obtain ⟨_A_76, _C_76, _ps_76, _hc_76, _hk_76, _kd_76⟩ := _tr76.open
          have _kl_76 := _kd_76.1
          replace _a76 : At _w_60 LT_x w.heap.size _p76 ([(.pointer (some _y76))]) := _a76
          refine DR_s 5 rfl (by kernel_rfl) rfl rfl (t_loadAt0 _a76 (fun i hi => absurd hi List.not_mem_nil) agg46 rfl rfl ?_)
          refine DR_s 6 rfl (by kernel_rfl) rfl rfl (t_v (fun _ => (r_move rfl)) ?_)
          refine DR_s 8 rfl (by kernel_rfl) rfl rfl (t_v (fun _ => (r_move rfl)) ?_)
          refine DR_s 9 rfl (by kernel_rfl) rfl rfl (t_v (fun _ => (r_nilCheck rfl)) ?_)
          refine DR_s 10 rfl (by kernel_rfl) rfl rfl (t_v (fun _ => (r_fieldAddr fa67_1 rfl)) ?_)
          refine DR_s 11 rfl (by kernel_rfl) rfl rfl (t_loadAt _f_61 (fun i hi => absurd hi List.not_mem_nil) agg63 rfl rfl ?_)
          refine DR_s 12 rfl (by kernel_rfl) rfl rfl (t_index (j := 1) _f_62 acs_len el63 sz46 rfl rfl rfl (by omega) fun _p84 _y84 _hy84 _a84 => ?_)
          have ht84 := _hk1
          have _tr84 := _f_63.2 _ _ _ _hy84 _hk1
          obtain ⟨_A_84, _C_84, _ps_84, _hc_84, _hk_84, _kd_84⟩ := _tr84.open
          have _kl_84 := _kd_84.1
          replace _a84 : At _w_60 LT_x w.heap.size _p84 ([(.pointer (some _y84))]) := _a84
          refine DR_s 13 rfl (by kernel_rfl) rfl rfl (t_loadAt0 _a84 (fun i hi => absurd hi List.not_mem_nil) agg46 rfl rfl ?_)
          refine DR_s 14 rfl (by kernel_rfl) rfl rfl (t_v (fun _ => (r_move rfl)) ?_)
          refine DR_one 7 (by kernel_rfl) ?_
          refine DO_s rfl rfl rfl ?_
          have _f_64 := ((_h_word.ch0 _cw_4).ch0 _cw_60)
          refine Step.call (r_call (xs := [.tmp 77, .tmp 78]) fk45 rfl) (ih _tr76 _f_64 oa hw (by omega)) fun _v79 _w_65 _q79 => ?_
          obtain ⟨u79_0, _vs79_0, rfl, _q_u79_0, _lo_u79_0, _od_vs79_0, _sep_vs79_0, _cw_65⟩ := _q79
          have _cw_65z := _cw_65.size
          have E := E.trans _cw_65
          obtain ⟨Au79_0, Cu79_0, eu79_0⟩ := _q_u79_0.val
          subst eu79_0
          have lu79_0 := _q_u79_0.len
          have _hiu79_0 := _q_u79_0.lt
          have _S_66 : Ch [] _w_60 _w_65 := ((Ch.refl _ _).trans _cw_65)
          refine ⟨_S_66, ?_⟩
          refine DR_one 15 (by kernel_rfl) ?_
          refine DO_s rfl rfl rfl ?_
          have _f_67 := (_tr84.ch0 _cw_65)
          have _f_68 := (_f_64.ch0 _cw_65)
          refine Step.call (r_call (xs := [.tmp 85, .tmp 86]) fk45 rfl) (ih _f_67 _f_68 ob hw (by omega)) fun _v87 _w_69 _q87 => ?_
          obtain ⟨u87_0, _vs87_0, rfl, _q_u87_0, _lo_u87_0, _od_vs87_0, _sep_vs87_0, _cw_69⟩ := _q87
          have _cw_69z := _cw_69.size
          have E := E.trans _cw_69
          obtain ⟨Au87_0, Cu87_0, eu87_0⟩ := _q_u87_0.val
          subst eu87_0
          have lu87_0 := _q_u87_0.len
          have _hiu87_0 := _q_u87_0.lt
          have _S_70 : Ch [] _w_60 _w_69 := (_S_66.trans _cw_69)
          refine ⟨_S_70, ?_⟩
          refine DR_one 16 (by kernel_rfl) ?_
          refine DO_s rfl rfl rfl ?_
          have _f_71 := (_od_vs79_0.ch0 _cw_69)
          have _f_72 := (_q_u79_0.ch0 _cw_69)
          refine Step.call (r_call (xs := [.tmp 79, .tmp 87]) fk74 rfl) (c_impl_either _f_72.ls _f_71.rd _q_u87_0.ls _od_vs87_0.rd (word.length + 1) (mtT word ta) (mtT word tb) rfl rfl (mt_tri _ _) (mt_tri _ _) (by omega)) fun _v88 _w_73 _q88 => ?_
          obtain ⟨u88_0, _vs88_0, rfl, _q_u88_0, _lo_u88_0, _od_vs88_0, _sep_vs88_0, _cw_73⟩ := _q88
          have _cw_73z := _cw_73.size
          have E := E.trans _cw_73
          obtain ⟨Au88_0, Cu88_0, eu88_0⟩ := _q_u88_0.val
          subst eu88_0
          have lu88_0 := _q_u88_0.len
          have _hiu88_0 := _q_u88_0.lt
          have _S_74 : Ch [] _w_60 _w_73 := (_S_70.trans _cw_73)
          refine ⟨_S_74, ?_⟩
          refine DR_s 17 rfl (by kernel_rfl) rfl rfl (t_v (fun _ => (r_assign rfl)) ?_)
          refine DR_done (by kernel_rfl) ?_
          refine inB_nrm ?_
          refine thn_nrm (_hK_5 _ _ ?_)
          clear _hK_5
          refine W_seq fun _K_75 _hK_75 => ?_
          refine W_region ?_
          refine WL_step rfl rfl (r_move rfl) ?_
          refine WL_step rfl rfl (r_assign rfl) ?_
          refine WL_nil ?_
          refine thn_nrm (_hK_75 _ _ ?_)
          clear _hK_75
          refine W_ret ?_
          have _o_76 : Ol Sv.cs 68 1 _w_73 (.slice Au88_0 (_vs88_0).length Cu88_0) _vs88_0 := by
            have hx := _q_u88_0
            exact hx
          have _o_77 : Od bcs 4 1 _w_73 w.heap.size _w_73.heap.size _vs88_0 (grd (word.length + 1) (mtT word x)) := by
            have hx := _od_vs88_0.up (lo' := w.heap.size) (hi' := _w_73.heap.size) (by omega) (by omega)
            first | (rw [em5]; exact hx) | fail
          exact ret_intro [_] ⟨rfl, trivial⟩ ⟨(.slice Au88_0 (_vs88_0).length Cu88_0), _vs88_0, rfl, _o_76, (Lo.down _lo_u88_0 (by omega)), _o_77, _sep_vs88_0, E⟩
        · have _kb_59 := _h70
          have _h70 := bf_d _h70
          refine W_seq fun _K_78 _hK_78 => ?_
          refine W_region ?_
          refine WL_step rfl rfl (r_eql rfl rfl) ?_
          refine WL_step rfl rfl (r_assign rfl) ?_
          refine WL_nil ?_
          refine thn_nrm (_hK_78 _ _ ?_)
          clear _hK_78
          refine W_cond rfl (fun _h89 => ?_) (fun _h89 => ?_)
          · have _kb_79 := _h89
            have _h89 := bt_d _h89
            obtain ⟨ta, _hk0, oa, sab, ga⟩ := hok.kk1 (by omega)
            have em6 := mt6 (w := word) hok (by omega) _hk0
            refine W_seq fun _K_80 _hK_80 => ?_
            refine W_region ?_
            refine WL_step rfl rfl (r_move rfl) ?_
            refine WL_s rfl rfl ?_
            refine Step.call (r_call (xs := [.tmp 91, .const (Go.Value.bool true)]) fk72 rfl) (c_impl_ways (word.length + 1) _ (by omega)) fun _v92 _w_81 _q92 => ?_
            obtain ⟨u92_0, _vs92_0, rfl, _q_u92_0, _lo_u92_0, _od_vs92_0, _sep_vs92_0, _cw_81⟩ := _q92
            have _cw_81z := _cw_81.size
            have E := E.trans _cw_81
            obtain ⟨Au92_0, Cu92_0, eu92_0⟩ := _q_u92_0.val
            subst eu92_0
            have lu92_0 := _q_u92_0.len
            have _hiu92_0 := _q_u92_0.lt
            refine WL_step rfl rfl (r_assign rfl) ?_
            refine WL_nil ?_
            refine thn_nrm (_hK_80 _ _ ?_)
            clear _hK_80
            refine W_seq fun _K_82 _hK_82 => ?_
            refine W_region ?_
            refine WL_step rfl rfl (r_move rfl) ?_
            refine WL_step rfl rfl (r_nilCheck rfl) ?_
            refine WL_step rfl rfl (r_fieldAddr fa67_1 rfl) ?_
            have _f_83 := (_f_7.ch0 _cw_81)
            refine WL_step rfl rfl (r_loadAt _f_83 agg63 rfl rfl) ?_
            refine WL_s rfl rfl ?_
            have _f_84 := ((_hk_x.ch0 _cw_4).ch0 _cw_81)
            refine (s_index (j := 0) _f_84 acs_len el63 sz46 rfl rfl rfl (by omega) fun _p97 _y97 _hy97 _a97 => ?_)
            have _f_85 := ((_kd_x.ch0 _cw_4).ch0 _cw_81)
            have ht97 := _hk0
            have _tr97 := _f_85.2 _ _ _ _hy97 _hk0
            obtain ⟨_A_97, _C_97, _ps_97, _hc_97, _hk_97, _kd_97⟩ := _tr97.open
            have _kl_97 := _kd_97.1
            replace _a97 : At _w_81 LT_x w.heap.size _p97 ([(.pointer (some _y97))]) := _a97
            refine WL_step rfl rfl (r_loadAt0 _a97 agg46 rfl rfl) ?_
            refine WL_step rfl rfl (r_move rfl) ?_
            refine WL_s rfl rfl ?_
            have _f_86 := ((_h_word.ch0 _cw_4).ch0 _cw_81)
            refine Step.call (r_call (xs := [.tmp 98, .tmp 99]) fk45 rfl) (ih _tr97 _f_86 oa hw (by omega)) fun _v100 _w_87 _q100 => ?_
            obtain ⟨u100_0, _vs100_0, rfl, _q_u100_0, _lo_u100_0, _od_vs100_0, _sep_vs100_0, _cw_87⟩ := _q100
            have _cw_87z := _cw_87.size
            have E := E.trans _cw_87
            obtain ⟨Au100_0, Cu100_0, eu100_0⟩ := _q_u100_0.val
            subst eu100_0
            have lu100_0 := _q_u100_0.len
            have _hiu100_0 := _q_u100_0.lt
            refine WL_step rfl rfl (r_assign rfl) ?_
            refine WL_nil ?_
            refine thn_nrm (_hK_82 _ _ ?_)
            clear _hK_82
            refine W_seq fun _K_88 _hK_88 => ?_
            refine W_region ?_
            refine WL_step rfl rfl (r_move rfl) ?_
            refine WL_step rfl rfl (r_move rfl) ?_
            refine WL_nil ?_
            refine thn_nrm (_hK_88 _ _ ?_)
            clear _hK_88
            refine W_block ?_
            have _f_89 := (_q_u92_0.ch0 _cw_87)
            have _oi_90 : Ol Sv.cs 68 1 _w_87 (.slice Au92_0 (_vs92_0).length Cu92_0) (_vs92_0) := by
              have hx := _f_89
              exact hx
            have _f_91 := (_od_vs92_0.ch0 _cw_87)
            have _f_92 := (_f_83.ch0 _cw_87)
            have _f_93 := (_f_84.ch0 _cw_87)
            have _f_94 := (_f_85.ch0 _cw_87)
            have _f_95 := (_f_86.ch0 _cw_87)
            refine W_loop (σ := Nat × List Sv × Value) (fun ⟨m, us, ov⟩ => [(0, (.pointer (some p_x))), (1, (.slice _A_word word.length _C_word)), (4, (.slice none 0 0)), (5, (.int .i64 (((word.length : Nat) : Int) + 1))), (6, ov), (9, (.slice Au100_0 (_vs100_0).length Cu100_0)), (22, (.int .i64 x.tok.kind)), (101, (.int .i64 (((word.length : Nat) : Int) + 1))), (102, (.int .i64 ((m : Nat) : Int)))]) (fun ⟨m, us, ov⟩ wx => Ch [] w wx ∧ _w_87.heap.size ≤ wx.heap.size ∧ (m ≤ (word.length + 1)) ∧ At wx LT_x w.heap.size p_x ([.int .i64 x.tok.kind, .int .i64 x.tok.letter, .int .i64 x.tok.low, .int .i64 x.tok.high, (.slice _A_x _ps_x.length _C_x)]) ∧ Ls acs 1 wx LT_x w.heap.size (.slice _A_x _ps_x.length _C_x) _ps_x ∧ Kd wx LT_x w.heap.size _ps_x x.kids ∧ Ls ics 1 wx LL_word w.heap.size (.slice _A_word word.length _C_word) word ∧ Ol Sv.cs 68 1 wx (.slice Au100_0 (_vs100_0).length Cu100_0) _vs100_0 ∧ Od bcs 4 1 wx _w_81.heap.size _w_87.heap.size _vs100_0 (grd (word.length + 1) (mtT word ta)) ∧ Ol Sv.cs 68 1 wx ov us ∧ Lo _w_4.heap.size ov ∧ Od bcs 4 1 wx w.heap.size wx.heap.size us (grd (word.length + 1) (srM (word.length + 1) (mtT word ta) m)) ∧ (Sep ov us)) (fun ⟨m, us, ov⟩ => (word.length + 1) - m) (0, _vs92_0, (.slice Au92_0 (_vs92_0).length Cu92_0)) (Sub.cons rfl (Sub.cons rfl (Sub.cons rfl (Sub.cons rfl (Sub.cons rfl (Sub.cons rfl (Sub.cons rfl (Sub.cons rfl (Sub.cons rfl (Sub.nil _)))))))))) ⟨E, (Nat.le_refl _), (by omega), _f_92, _f_93, _f_94, _f_95, _q_u100_0, _od_vs100_0, _oi_90, _lo_u92_0, ((_f_91.up (by omega) (by omega)).eq (by rw [srM])), _sep_vs92_0⟩ ?_
            rintro ⟨m, us, ov⟩ _wr_96 ⟨E, _zz1, hm, _F1_0, _F1_2, _F1_3, _F1_4, _F1_5, _F1_6, _o1_6, _lo1_6, od, _spl1_6⟩
            have _E1h := E
            have _E1hz := _E1h.size
            obtain ⟨Aov, Cov, eov⟩ := _o1_6.val
            subst eov
            have lov := _o1_6.len
            have hiov := _o1_6.lt
            refine W_seq fun _K_97 _hK_97 => ?_
            refine W_region ?_
            refine WL_step rfl rfl (r_lss rfl rfl) ?_
            refine WL_nil ?_
            refine thn_nrm (_hK_97 _ _ ?_)
            clear _hK_97
            refine W_seq fun _K_98 _hK_98 => ?_
            refine W_cond rfl (fun _h103 => ?_) (fun _h103 => ?_)
            · have _kb_99 := _h103
              have _h103 := bt_d _h103
              refine W_skip ?_
              refine thn_nrm (_hK_98 _ _ ?_)
              clear _hK_98
              refine W_seq fun _K_100 _hK_100 => ?_
              refine W_block ?_
              refine W_region ?_
              refine WL_step rfl rfl (r_move rfl) ?_
              refine WL_step rfl rfl (r_move rfl) ?_
              refine WL_step rfl rfl (r_move rfl) ?_
              refine WL_s rfl rfl ?_
              refine Step.call (r_call (xs := [.tmp 105, .tmp 106]) fk73 rfl) (c_impl_inTurn _o1_6.ls od.rd _F1_5.ls _F1_6.rd (word.length + 1) (srM (word.length + 1) (mtT word ta) m) (mtT word ta) rfl rfl (st_tri (mt_tri _ _) _) (mt_tri _ _) (by omega)) fun _v107 _w_101 _q107 => ?_
              obtain ⟨u107_0, _vs107_0, rfl, _q_u107_0, _lo_u107_0, _od_vs107_0, _sep_vs107_0, _cw_101⟩ := _q107
              have _cw_101z := _cw_101.size
              have E := E.trans _cw_101
              obtain ⟨Au107_0, Cu107_0, eu107_0⟩ := _q_u107_0.val
              subst eu107_0
              have lu107_0 := _q_u107_0.len
              have _hiu107_0 := _q_u107_0.lt
              refine WL_s rfl rfl ?_
              have _f_102 := (od.ch0 _cw_101)
              have _f_103 := (_o1_6.ch0 _cw_101)
              refine Step.call (r_call (xs := [.tmp 104, .tmp 107]) fk74 rfl) (c_impl_either _f_103.ls _f_102.rd _q_u107_0.ls _od_vs107_0.rd (word.length + 1) (srM (word.length + 1) (mtT word ta) m) (mulM (word.length + 1) (srM (word.length + 1) (mtT word ta) m) (mtT word ta)) rfl rfl (st_tri (mt_tri _ _) _) ((st_tri (mt_tri _ _) _).mul (mt_tri _ _)) (by omega)) fun _v108 _w_104 _q108 => ?_
              obtain ⟨u108_0, _vs108_0, rfl, _q_u108_0, _lo_u108_0, _od_vs108_0, _sep_vs108_0, _cw_104⟩ := _q108
              have _cw_104z := _cw_104.size
              have E := E.trans _cw_104
              obtain ⟨Au108_0, Cu108_0, eu108_0⟩ := _q_u108_0.val
              subst eu108_0
              have lu108_0 := _q_u108_0.len
              have _hiu108_0 := _q_u108_0.lt
              refine WL_step rfl rfl (r_assign rfl) ?_
              refine WL_nil ?_
              refine inB_nrm ?_
              refine thn_nrm (_hK_100 _ _ ?_)
              clear _hK_100
              refine W_region ?_
              refine WL_step rfl rfl (r_add (by omega) rfl rfl) ?_
              refine WL_step rfl rfl (r_move rfl) ?_
              refine WL_nil ?_
              have _on_105 : Ol Sv.cs 68 1 _w_104 (.slice Au108_0 (_vs108_0).length Cu108_0) (_vs108_0) := by
                have hx := _q_u108_0
                exact hx
              have _f_106 := ((_F1_0.ch0 _cw_101).ch0 _cw_104)
              have _f_107 := ((_F1_2.ch0 _cw_101).ch0 _cw_104)
              have _f_108 := ((_F1_3.ch0 _cw_101).ch0 _cw_104)
              have _f_109 := ((_F1_4.ch0 _cw_101).ch0 _cw_104)
              have _f_110 := ((_F1_5.ch0 _cw_101).ch0 _cw_104)
              have _f_111 := ((_F1_6.ch0 _cw_101).ch0 _cw_104)
              exact thn_nrm (Exists.intro ((m + 1), _vs108_0, (.slice Au108_0 (_vs108_0).length Cu108_0)) ⟨⟨E, (by omega), (by omega), _f_106, _f_107, _f_108, _f_109, _f_110, _f_111, _on_105, (Lo.down _lo_u108_0 (by omega)), ((_od_vs108_0.up (by omega) (by omega)).eq st_succ), _sep_vs108_0⟩, Sub.cons rfl (Sub.cons rfl (Sub.cons rfl (Sub.cons rfl (Sub.cons rfl (Sub.cons rfl (Sub.cons rfl (Sub.cons rfl (Sub.cons rfl (Sub.nil _))))))))), (by first | omega | (dsimp only; omega))⟩)
            · have _kb_99 := _h103
              have _h103 := bf_d _h103
              refine W_exit (thn_exit (thn_exit (inB_hit ?_)))
              refine inB_nrm ?_
              refine thn_nrm (_hK_5 _ _ ?_)
              clear _hK_5
              refine W_seq fun _K_112 _hK_112 => ?_
              refine W_region ?_
              refine WL_step rfl rfl (r_move rfl) ?_
              refine WL_step rfl rfl (r_assign rfl) ?_
              refine WL_nil ?_
              refine thn_nrm (_hK_112 _ _ ?_)
              clear _hK_112
              refine W_ret ?_
              clear _hK_98
              have _o_113 : Ol Sv.cs 68 1 _wr_96 (.slice Aov (us).length Cov) us := by
                have hx := _o1_6
                exact hx
              have _o_114 : Od bcs 4 1 _wr_96 w.heap.size _wr_96.heap.size us (grd (word.length + 1) (mtT word x)) := by
                have hx := od.up (lo' := w.heap.size) (hi' := _wr_96.heap.size) (by omega) (by omega)
                first | exact hx.eq (by rw [em6]; exact st_rep (mt_tri _ _) (by omega)) | fail
              exact ret_intro [_] ⟨rfl, trivial⟩ ⟨(.slice Aov (us).length Cov), us, rfl, _o_113, (Lo.down _lo1_6 (by omega)), _o_114, _spl1_6, E⟩
          · have _kb_79 := _h89
            have _h89 := bf_d _h89
            refine W_seq fun _K_115 _hK_115 => ?_
            refine W_region ?_
            refine WL_step rfl rfl (r_eql rfl rfl) ?_
            refine WL_step rfl rfl (r_assign rfl) ?_
            refine WL_nil ?_
            refine thn_nrm (_hK_115 _ _ ?_)
            clear _hK_115
            refine W_cond rfl (fun _h110 => ?_) (fun _h110 => ?_)
            · have _kb_116 := _h110
              have _h110 := bt_d _h110
              obtain ⟨ta, _hk0, oa, sab, ga⟩ := hok.kk1 (by omega)
              have em7 := mt7 (w := word) hok (by omega) _hk0
              have r7 := hok.r7 (by omega)
              refine W_seq fun _K_117 _hK_117 => ?_
              refine W_region ?_
              refine WL_step rfl rfl (r_move rfl) ?_
              refine WL_step rfl rfl (r_nilCheck rfl) ?_
              refine WL_step rfl rfl (r_fieldAddr fa67_1 rfl) ?_
              refine WL_step rfl rfl (r_loadAt _f_7 agg63 rfl rfl) ?_
              refine WL_s rfl rfl ?_
              have _f_118 := (_hk_x.ch0 _cw_4)
              refine (s_index (j := 0) _f_118 acs_len el63 sz46 rfl rfl rfl (by omega) fun _p116 _y116 _hy116 _a116 => ?_)
              have _f_119 := (_kd_x.ch0 _cw_4)
              have ht116 := _hk0
              have _tr116 := _f_119.2 _ _ _ _hy116 _hk0
              obtain ⟨_A_116, _C_116, _ps_116, _hc_116, _hk_116, _kd_116⟩ := _tr116.open
              have _kl_116 := _kd_116.1
              replace _a116 : At _w_4 LT_x w.heap.size _p116 ([(.pointer (some _y116))]) := _a116
              refine WL_step rfl rfl (r_loadAt0 _a116 agg46 rfl rfl) ?_
              refine WL_step rfl rfl (r_move rfl) ?_
              refine WL_s rfl rfl ?_
              have _f_120 := (_h_word.ch0 _cw_4)
              refine Step.call (r_call (xs := [.tmp 117, .tmp 118]) fk45 rfl) (ih _tr116 _f_120 oa hw (by omega)) fun _v119 _w_121 _q119 => ?_
              obtain ⟨u119_0, _vs119_0, rfl, _q_u119_0, _lo_u119_0, _od_vs119_0, _sep_vs119_0, _cw_121⟩ := _q119
              have _cw_121z := _cw_121.size
              have E := E.trans _cw_121
              obtain ⟨Au119_0, Cu119_0, eu119_0⟩ := _q_u119_0.val
              subst eu119_0
              have lu119_0 := _q_u119_0.len
              have _hiu119_0 := _q_u119_0.lt
              refine WL_step rfl rfl (r_assign rfl) ?_
              refine WL_nil ?_
              refine thn_nrm (_hK_117 _ _ ?_)
              clear _hK_117
              refine W_seq fun _K_122 _hK_122 => ?_
              refine W_region ?_
              refine WL_step rfl rfl (r_move rfl) ?_
              refine WL_s rfl rfl ?_
              refine Step.call (r_call (xs := [.tmp 120, .const (Go.Value.bool true)]) fk72 rfl) (c_impl_ways (word.length + 1) _ (by omega)) fun _v121 _w_123 _q121 => ?_
              obtain ⟨u121_0, _vs121_0, rfl, _q_u121_0, _lo_u121_0, _od_vs121_0, _sep_vs121_0, _cw_123⟩ := _q121
              have _cw_123z := _cw_123.size
              have E := E.trans _cw_123
              obtain ⟨Au121_0, Cu121_0, eu121_0⟩ := _q_u121_0.val
              subst eu121_0
              have lu121_0 := _q_u121_0.len
              have _hiu121_0 := _q_u121_0.lt
              refine WL_step rfl rfl (r_assign rfl) ?_
              refine WL_nil ?_
              refine thn_nrm (_hK_122 _ _ ?_)
              clear _hK_122
              refine W_seq fun _K_124 _hK_124 => ?_
              refine W_region ?_
              refine WL_step rfl rfl (r_assign rfl) ?_
              refine WL_nil ?_
              refine thn_nrm (_hK_124 _ _ ?_)
              clear _hK_124
              refine W_block ?_
              have _f_125 := ((_q_u17_0.ch0 _cw_121).ch0 _cw_123)
              have _oi_126 : Ol Sv.cs 68 1 _w_123 (.slice Au17_0 (_vs17_0).length Cu17_0) (_vs17_0) := by
                have hx := _f_125
                exact hx
              have _oi_127 : Ol Sv.cs 68 1 _w_123 (.slice Au121_0 (_vs121_0).length Cu121_0) (_vs121_0) := by
                have hx := _q_u121_0
                exact hx
              have _f_128 := ((_od_vs17_0.ch0 _cw_121).ch0 _cw_123)
              have _f_129 := ((_f_7.ch0 _cw_121).ch0 _cw_123)
              have _f_130 := ((_f_118.ch0 _cw_121).ch0 _cw_123)
              have _f_131 := ((_f_119.ch0 _cw_121).ch0 _cw_123)
              have _f_132 := (_q_u119_0.ch0 _cw_123)
              have _f_133 := (_od_vs119_0.ch0 _cw_123)
              refine W_loop (σ := Nat × List Sv × List Sv × Value × Value) (fun ⟨k, us, qs, ov, qv⟩ => [(0, (.pointer (some p_x))), (4, (.slice none 0 0)), (6, ov), (10, (.slice Au119_0 (_vs119_0).length Cu119_0)), (11, qv), (12, (.int .i64 ((k : Nat) : Int)))]) (fun ⟨k, us, qs, ov, qv⟩ wx => Ch [] w wx ∧ _w_123.heap.size ≤ wx.heap.size ∧ (k ≤ (x.tok.high + 1).toNat) ∧ At wx LT_x w.heap.size p_x ([.int .i64 x.tok.kind, .int .i64 x.tok.letter, .int .i64 x.tok.low, .int .i64 x.tok.high, (.slice _A_x _ps_x.length _C_x)]) ∧ Ls acs 1 wx LT_x w.heap.size (.slice _A_x _ps_x.length _C_x) _ps_x ∧ Kd wx LT_x w.heap.size _ps_x x.kids ∧ Ol Sv.cs 68 1 wx (.slice Au119_0 (_vs119_0).length Cu119_0) _vs119_0 ∧ Od bcs 4 1 wx _w_4.heap.size _w_121.heap.size _vs119_0 (grd (word.length + 1) (mtT word ta)) ∧ Ol Sv.cs 68 1 wx ov us ∧ Lo w.heap.size ov ∧ Ol Sv.cs 68 1 wx qv qs ∧ Lo _w_121.heap.size qv ∧ Od bcs 4 1 wx w.heap.size wx.heap.size us (grd (word.length + 1) (repM (word.length + 1) (mtT word ta) x.tok.low k)) ∧ Od bcs 4 1 wx w.heap.size wx.heap.size qs (grd (word.length + 1) (powM (word.length + 1) (mtT word ta) k)) ∧ (Sep ov us) ∧ (Sep qv qs)) (fun ⟨k, us, qs, ov, qv⟩ => (x.tok.high + 1).toNat - k) (0, _vs17_0, _vs121_0, (.slice Au17_0 (_vs17_0).length Cu17_0), (.slice Au121_0 (_vs121_0).length Cu121_0)) (Sub.cons rfl (Sub.cons rfl (Sub.cons rfl (Sub.cons rfl (Sub.cons rfl (Sub.cons rfl (Sub.nil _))))))) ⟨E, (Nat.le_refl _), (by omega), _f_129, _f_130, _f_131, _f_132, _f_133, _oi_126, _lo_u17_0, _oi_127, _lo_u121_0, ((_f_128.up (by omega) (by omega)).eq rep_zero), ((_od_vs121_0.up (by omega) (by omega)).eq (by rw [powM])), _sep_vs17_0, _sep_vs121_0⟩ ?_
              rintro ⟨k, us, qs, ov, qv⟩ _wr_134 ⟨E, _zz2, _hk, _F2_0, _F2_2, _F2_3, _F2_4, _F2_5, _o2_6, _lo2_6, _o2_11, _lo2_11, od, oe, _spl2_6, _spl2_11⟩
              have _E2h := E
              have _E2hz := _E2h.size
              obtain ⟨Aov, Cov, eov⟩ := _o2_6.val
              subst eov
              have lov := _o2_6.len
              have hiov := _o2_6.lt
              obtain ⟨Aqv, Cqv, eqv⟩ := _o2_11.val
              subst eqv
              have lqv := _o2_11.len
              have hiqv := _o2_11.lt
              refine W_seq fun _K_135 _hK_135 => ?_
              refine W_seq fun _K_136 _hK_136 => ?_
              refine W_region ?_
              refine WL_step rfl rfl (r_move rfl) ?_
              refine WL_step rfl rfl (r_move rfl) ?_
              refine WL_step rfl rfl (r_nilCheck rfl) ?_
              refine WL_step rfl rfl (r_fieldAddr fa67_0 rfl) ?_
              refine WL_step rfl rfl (r_fieldAddrN (n := 3) fa52_3 rfl rfl) ?_
              refine WL_step rfl rfl (r_loadAt _F2_0 agg3 rfl rfl) ?_
              refine WL_step rfl rfl (r_leq rfl rfl) ?_
              refine WL_nil ?_
              refine thn_nrm (_hK_136 _ _ ?_)
              clear _hK_136
              refine W_cond rfl (fun _h128 => ?_) (fun _h128 => ?_)
              · have _kb_137 := _h128
                have _h128 := bt_d _h128
                refine W_skip ?_
                refine thn_nrm (_hK_135 _ _ ?_)
                clear _hK_135
                refine W_seq fun _K_138 _hK_138 => ?_
                refine W_block ?_
                refine W_seq fun _K_139 _hK_139 => ?_
                refine W_seq fun _K_140 _hK_140 => ?_
                refine W_region ?_
                refine WL_step rfl rfl (r_move rfl) ?_
                refine WL_step rfl rfl (r_move rfl) ?_
                refine WL_step rfl rfl (r_nilCheck rfl) ?_
                refine WL_step rfl rfl (r_fieldAddr fa67_0 rfl) ?_
                refine WL_step rfl rfl (r_fieldAddrN (n := 2) fa52_2 rfl rfl) ?_
                refine WL_step rfl rfl (r_loadAt _F2_0 agg3 rfl rfl) ?_
                refine WL_step rfl rfl (r_geq rfl rfl) ?_
                refine WL_nil ?_
                refine thn_nrm (_hK_140 _ _ ?_)
                clear _hK_140
                refine W_cond rfl (fun _h137 => ?_) (fun _h137 => ?_)
                · have _kb_141 := _h137
                  have _h137 := bt_d _h137
                  refine W_region ?_
                  refine WL_step rfl rfl (r_move rfl) ?_
                  refine WL_step rfl rfl (r_move rfl) ?_
                  refine WL_s rfl rfl ?_
                  refine Step.call (r_call (xs := [.tmp 138, .tmp 139]) fk74 rfl) (c_impl_either _o2_6.ls od.rd _o2_11.ls oe.rd (word.length + 1) (repM (word.length + 1) (mtT word ta) x.tok.low k) (powM (word.length + 1) (mtT word ta) k) rfl rfl (rep_tri (mt_tri _ _)) (pow_tri (mt_tri _ _) _) (by omega)) fun _v140 _w_142 _q140 => ?_
                  obtain ⟨u140_0, _vs140_0, rfl, _q_u140_0, _lo_u140_0, _od_vs140_0, _sep_vs140_0, _cw_142⟩ := _q140
                  have _cw_142z := _cw_142.size
                  have E := E.trans _cw_142
                  obtain ⟨Au140_0, Cu140_0, eu140_0⟩ := _q_u140_0.val
                  subst eu140_0
                  have lu140_0 := _q_u140_0.len
                  have _hiu140_0 := _q_u140_0.lt
                  refine WL_step rfl rfl (r_assign rfl) ?_
                  refine WL_nil ?_
                  refine thn_nrm (_hK_139 _ _ ?_)
                  clear _hK_139
                  refine W_region ?_
                  refine WL_step rfl rfl (r_move rfl) ?_
                  refine WL_step rfl rfl (r_move rfl) ?_
                  refine WL_s rfl rfl ?_
                  have _f_143 := (oe.ch0 _cw_142)
                  have _f_144 := (_o2_11.ch0 _cw_142)
                  have _f_145 := (_F2_5.ch0 _cw_142)
                  have _f_146 := (_F2_4.ch0 _cw_142)
                  refine Step.call (r_call (xs := [.tmp 141, .tmp 142]) fk73 rfl) (c_impl_inTurn _f_144.ls _f_143.rd _f_146.ls _f_145.rd (word.length + 1) (powM (word.length + 1) (mtT word ta) k) (mtT word ta) rfl rfl (pow_tri (mt_tri _ _) _) (mt_tri _ _) (by omega)) fun _v143 _w_147 _q143 => ?_
                  obtain ⟨u143_0, _vs143_0, rfl, _q_u143_0, _lo_u143_0, _od_vs143_0, _sep_vs143_0, _cw_147⟩ := _q143
                  have _cw_147z := _cw_147.size
                  have E := E.trans _cw_147
                  obtain ⟨Au143_0, Cu143_0, eu143_0⟩ := _q_u143_0.val
                  subst eu143_0
                  have lu143_0 := _q_u143_0.len
                  have _hiu143_0 := _q_u143_0.lt
                  refine WL_step rfl rfl (r_assign rfl) ?_
                  refine WL_nil ?_
                  refine inB_nrm ?_
                  refine thn_nrm (_hK_138 _ _ ?_)
                  clear _hK_138
                  refine W_region ?_
                  refine WL_step rfl rfl (r_move rfl) ?_
                  refine WL_step rfl rfl (r_add (by omega) rfl rfl) ?_
                  refine WL_step rfl rfl (r_assign rfl) ?_
                  refine WL_nil ?_
                  have _f_149 := (_q_u140_0.ch0 _cw_147)
                  have _on_148 : Ol Sv.cs 68 1 _w_147 (.slice Au140_0 (_vs140_0).length Cu140_0) (_vs140_0) := by
                    have hx := _f_149
                    exact hx
                  have _on_150 : Ol Sv.cs 68 1 _w_147 (.slice Au143_0 (_vs143_0).length Cu143_0) (_vs143_0) := by
                    have hx := _q_u143_0
                    exact hx
                  have _f_151 := (_od_vs140_0.ch0 _cw_147)
                  have _f_152 := ((_F2_0.ch0 _cw_142).ch0 _cw_147)
                  have _f_153 := ((_F2_2.ch0 _cw_142).ch0 _cw_147)
                  have _f_154 := ((_F2_3.ch0 _cw_142).ch0 _cw_147)
                  have _f_155 := (_f_146.ch0 _cw_147)
                  have _f_156 := (_f_145.ch0 _cw_147)
                  exact thn_nrm (Exists.intro ((k + 1), _vs140_0, _vs143_0, (.slice Au140_0 (_vs140_0).length Cu140_0), (.slice Au143_0 (_vs143_0).length Cu143_0)) ⟨⟨E, (by omega), (by omega), _f_152, _f_153, _f_154, _f_155, _f_156, _on_148, (Lo.down _lo_u140_0 (by omega)), _on_150, (Lo.down _lo_u143_0 (by omega)), ((_f_151.up (by omega) (by omega)).eq (rep_y (by omega))), ((_od_vs143_0.up (by omega) (by omega)).eq pw_succ), _sep_vs140_0, _sep_vs143_0⟩, Sub.cons rfl (Sub.cons rfl (Sub.cons rfl (Sub.cons rfl (Sub.cons rfl (Sub.cons rfl (Sub.nil _)))))), (by first | omega | (dsimp only; omega))⟩)
                · have _kb_141 := _h137
                  have _h137 := bf_d _h137
                  refine W_skip ?_
                  refine thn_nrm (_hK_139 _ _ ?_)
                  clear _hK_139
                  refine W_region ?_
                  refine WL_step rfl rfl (r_move rfl) ?_
                  refine WL_step rfl rfl (r_move rfl) ?_
                  refine WL_s rfl rfl ?_
                  refine Step.call (r_call (xs := [.tmp 141, .tmp 142]) fk73 rfl) (c_impl_inTurn _o2_11.ls oe.rd _F2_4.ls _F2_5.rd (word.length + 1) (powM (word.length + 1) (mtT word ta) k) (mtT word ta) rfl rfl (pow_tri (mt_tri _ _) _) (mt_tri _ _) (by omega)) fun _v143 _w_157 _q143 => ?_
                  obtain ⟨u143_0, _vs143_0, rfl, _q_u143_0, _lo_u143_0, _od_vs143_0, _sep_vs143_0, _cw_157⟩ := _q143
                  have _cw_157z := _cw_157.size
                  have E := E.trans _cw_157
                  obtain ⟨Au143_0, Cu143_0, eu143_0⟩ := _q_u143_0.val
                  subst eu143_0
                  have lu143_0 := _q_u143_0.len
                  have _hiu143_0 := _q_u143_0.lt
                  refine WL_step rfl rfl (r_assign rfl) ?_
                  refine WL_nil ?_
                  refine inB_nrm ?_
                  refine thn_nrm (_hK_138 _ _ ?_)
                  clear _hK_138
                  refine W_region ?_
                  refine WL_step rfl rfl (r_move rfl) ?_
                  refine WL_step rfl rfl (r_add (by omega) rfl rfl) ?_
                  refine WL_step rfl rfl (r_assign rfl) ?_
                  refine WL_nil ?_
                  have _f_159 := (_o2_6.ch0 _cw_157)
                  have _on_158 : Ol Sv.cs 68 1 _w_157 (.slice Aov (us).length Cov) (us) := by
                    have hx := _f_159
                    exact hx
                  have _on_160 : Ol Sv.cs 68 1 _w_157 (.slice Au143_0 (_vs143_0).length Cu143_0) (_vs143_0) := by
                    have hx := _q_u143_0
                    exact hx
                  have _f_161 := (od.ch0 _cw_157)
                  have _f_162 := (_F2_0.ch0 _cw_157)
                  have _f_163 := (_F2_2.ch0 _cw_157)
                  have _f_164 := (_F2_3.ch0 _cw_157)
                  have _f_165 := (_F2_4.ch0 _cw_157)
                  have _f_166 := (_F2_5.ch0 _cw_157)
                  exact thn_nrm (Exists.intro ((k + 1), us, _vs143_0, (.slice Aov (us).length Cov), (.slice Au143_0 (_vs143_0).length Cu143_0)) ⟨⟨E, (by omega), (by omega), _f_162, _f_163, _f_164, _f_165, _f_166, _on_158, (Lo.down _lo2_6 (by omega)), _on_160, (Lo.down _lo_u143_0 (by omega)), ((_f_161.up (by omega) (by omega)).eq (rep_n (by omega))), ((_od_vs143_0.up (by omega) (by omega)).eq pw_succ), _spl2_6, _sep_vs143_0⟩, Sub.cons rfl (Sub.cons rfl (Sub.cons rfl (Sub.cons rfl (Sub.cons rfl (Sub.cons rfl (Sub.nil _)))))), (by first | omega | (dsimp only; omega))⟩)
              · have _kb_137 := _h128
                have _h128 := bf_d _h128
                refine W_exit (thn_exit (thn_exit (inB_hit ?_)))
                refine inB_nrm ?_
                refine thn_nrm (_hK_5 _ _ ?_)
                clear _hK_5
                refine W_seq fun _K_167 _hK_167 => ?_
                refine W_region ?_
                refine WL_step rfl rfl (r_move rfl) ?_
                refine WL_step rfl rfl (r_assign rfl) ?_
                refine WL_nil ?_
                refine thn_nrm (_hK_167 _ _ ?_)
                clear _hK_167
                refine W_ret ?_
                clear _hK_135
                have _o_168 : Ol Sv.cs 68 1 _wr_134 (.slice Aov (us).length Cov) us := by
                  have hx := _o2_6
                  exact hx
                have _o_169 : Od bcs 4 1 _wr_134 w.heap.size _wr_134.heap.size us (grd (word.length + 1) (mtT word x)) := by
                  have hx := od.up (lo' := w.heap.size) (hi' := _wr_134.heap.size) (by omega) (by omega)
                  first | exact hx.eq (by rw [em7, show k = (x.tok.high + 1).toNat by omega]) | fail
                exact ret_intro [_] ⟨rfl, trivial⟩ ⟨(.slice Aov (us).length Cov), us, rfl, _o_168, (Lo.down _lo2_6 (by omega)), _o_169, _spl2_6, E⟩
            · have _kb_116 := _h110
              have _h110 := bf_d _h110
              have em0 := mt0 (t := x) (w := word) ⟨by omega, by omega, by omega, by omega, by omega, by omega⟩
              refine W_skip ?_
              refine inB_nrm ?_
              refine thn_nrm (_hK_5 _ _ ?_)
              clear _hK_5
              refine W_seq fun _K_170 _hK_170 => ?_
              refine W_region ?_
              refine WL_step rfl rfl (r_move rfl) ?_
              refine WL_step rfl rfl (r_assign rfl) ?_
              refine WL_nil ?_
              refine thn_nrm (_hK_170 _ _ ?_)
              clear _hK_170
              refine W_ret ?_
              have _o_171 : Ol Sv.cs 68 1 _w_4 (.slice Au17_0 (_vs17_0).length Cu17_0) _vs17_0 := by
                have hx := _q_u17_0
                exact hx
              have _o_172 : Od bcs 4 1 _w_4 w.heap.size _w_4.heap.size _vs17_0 (grd (word.length + 1) (mtT word x)) := by
                have hx := _od_vs17_0.up (lo' := w.heap.size) (hi' := _w_4.heap.size) (by omega) (by omega)
                first | (rw [em0]; exact hx) | fail
              exact ret_intro [_] ⟨rfl, trivial⟩ ⟨(.slice Au17_0 (_vs17_0).length Cu17_0), _vs17_0, rfl, _o_171, (Lo.down _lo_u17_0 (by omega)), _o_172, _sep_vs17_0, E⟩
theorem c_impl_tree_reach {w : World} {LT_x _B_x : Nat} {p_x : Addr} {x : Tr} (_h_x : TrAt w LT_x _B_x p_x x) {LL_word _B_word : Nat} {_v_word : Value} {word : List Int} (_h_word : Ls ics 1 w LL_word _B_word _v_word word) (hok : Okd x) (hw : word.length ≤ 4096) :
    Ctr Tryz.prog 45 #[(.pointer (some p_x)), _v_word] w (fun v w' => ∃ (_u0 : Value) (vs0 : List Sv), v = _u0 ∧ Ol Sv.cs 68 1 w' _u0 vs0 ∧ Lo w.heap.size _u0 ∧ Od bcs 4 1 w' w.heap.size w'.heap.size vs0 (grd (word.length + 1) (mtT word x)) ∧ Sep _u0 vs0 ∧ Ch [] w w') := c_impl_tree_reach_n _ _h_x _h_word hok hw (Nat.lt_succ_self _)

/-- impl.tree).matches -/
theorem c_impl_tree_matches {w : World} {LT_x _B_x : Nat} {p_x : Addr} {x : Tr} (_h_x : TrAt w LT_x _B_x p_x x) {LL_word _B_word : Nat} {_v_word : Value} {word : List Int} (_h_word : Ls ics 1 w LL_word _B_word _v_word word) (hok : Okd x) (hw : word.length ≤ 4096) :
    Ctr Tryz.prog 26 #[(.pointer (some p_x)), _v_word] w (fun v w' => v = .bool (mtT word x 0 word.length) ∧ Ch [] w w') := by
  have _h_x := _h_x.here
  obtain ⟨_A_x, _C_x, _ps_x, _hc_x, _hk_x, _kd_x⟩ := _h_x.open
  have _kl_x := _kd_x.1
  obtain ⟨_A_word, _C_word, _e1_word⟩ := _h_word.val
  subst _e1_word
  have _l_word := _h_word.len
  have _h_word := _h_word.here (by decide)
  have E := Ch.refl [] w
  refine Ctr_of_W (N := 14) (vs0 := [(.pointer (some p_x)), (.slice _A_word word.length _C_word)]) Tryz.func26 rfl rfl rfl ?_
  refine W_seq fun _K_1 _hK_1 => ?_
  refine W_region ?_
  refine WL_step rfl rfl (r_assign rfl) ?_
  refine WL_nil ?_
  refine thn_nrm (_hK_1 _ _ ?_)
  clear _hK_1
  refine W_seq fun _K_2 _hK_2 => ?_
  refine W_region ?_
  refine WL_step rfl rfl (r_move rfl) ?_
  refine WL_step rfl rfl (r_move rfl) ?_
  refine WL_s rfl rfl ?_
  refine Step.call (r_call (xs := [.tmp 5, .tmp 6]) fk45 rfl) (c_impl_tree_reach _h_x _h_word hok hw) fun _v7 _w_3 _q7 => ?_
  obtain ⟨u7_0, _vs7_0, rfl, _q_u7_0, _lo_u7_0, _od_vs7_0, _sep_vs7_0, _cw_3⟩ := _q7
  have _cw_3z := _cw_3.size
  have E := E.trans _cw_3
  obtain ⟨Au7_0, Cu7_0, eu7_0⟩ := _q_u7_0.val
  subst eu7_0
  have lu7_0 := _q_u7_0.len
  have _hiu7_0 := _q_u7_0.lt
  have _ln9 := (_od_vs7_0).1
  rw [grd_len] at _ln9
  refine WL_s rfl rfl ?_
  refine (s_index (j := 0) _q_u7_0.ls Sv.len el69 sz68 rfl rfl rfl (by omega) fun _p8 _y8 _hy8 _a8 => ?_)
  obtain ⟨_ys8, _hys8, _fs8⟩ := _od_vs7_0.get _hy8
  obtain ⟨_A8, _n8, _C8⟩ := _y8
  obtain rfl := _fs8.eqn
  have _l8 := _fs8.len
  replace _fs8 : Ls bcs 1 _w_3 0 _w_3.heap.size (.slice _A8 _ys8.length _C8) _ys8 := _fs8
  replace _a8 : At _w_3 0 _w_3.heap.size _p8 ([(.slice _A8 _ys8.length _C8)]) := _a8
  have rl8 := row_len rfl _hys8
  refine WL_step rfl rfl (r_loadAt0 _a8 agg68 rfl rfl) ?_
  refine WL_step rfl rfl (r_move rfl) ?_
  refine WL_step rfl rfl (r_len (by rw [el27]; rfl) rfl) ?_
  refine WL_s rfl rfl ?_
  refine (s_index _fs8 bcs_len el68 sz4 rfl rfl rfl (by omega) fun _p12 _y12 _hy12 _a12 => ?_)
  refine WL_step rfl rfl (r_loadAt0 _a12 agg4 rfl rfl) ?_
  refine WL_step rfl rfl (r_assign rfl) ?_
  refine WL_nil ?_
  refine thn_nrm (_hK_2 _ _ ?_)
  clear _hK_2
  refine W_ret ?_
  exact ret_intro [_] ⟨rfl, trivial⟩ ⟨congrArg Value.bool (grd_y rfl _hys8 _hy12), E⟩

/-- impl.MatchesWord -/
theorem c_impl_MatchesWord {w : World} {LL_e _B_e : Nat} {_v_e : Value} {e : List Token} (_h_e : Ls Token.cs 4 w LL_e _B_e _v_e e) {LL_word _B_word : Nat} {_v_word : Value} {word : List Int} (_h_word : Ls ics 1 w LL_word _B_word _v_word word) (hb : e.length ≤ 1048576) :
    Ctr Tryz.prog 6 #[(.agg #[_v_e]), _v_word] w (fun v w' => v = .bool (mwE e word) ∧ Ch [] w w') := by
  obtain ⟨_A_e, _C_e, _e1_e⟩ := _h_e.val
  subst _e1_e
  have _l_e := _h_e.len
  have _h_e := _h_e.here (by decide)
  obtain ⟨_A_word, _C_word, _e1_word⟩ := _h_word.val
  subst _e1_word
  have _l_word := _h_word.len
  have _h_word := _h_word.here (by decide)
  have E := Ch.refl [] w
  refine Ctr_of_W (N := 17) (vs0 := [(.agg #[(.slice _A_e e.length _C_e)]), (.slice _A_word word.length _C_word)]) Tryz.func6 rfl rfl rfl ?_
  refine W_seq fun _K_1 _hK_1 => ?_
  refine W_region ?_
  refine WL_s rfl rfl ?_
  refine s_box rfl fun _b2 _w_2 _m2 _cw_2 _e2 => ?_
  have _cw_2z := _cw_2.size
  have E := E.trans _cw_2
  have _z2 := _m2.lt
  replace _m2 : Blk _w_2 _b2 26 [(.slice _A_e e.length _C_e)] := _m2
  refine WL_step rfl rfl (r_assign rfl) ?_
  refine WL_nil ?_
  refine thn_nrm (_hK_1 _ _ ?_)
  clear _hK_1
  refine W_seq fun _K_3 _hK_3 => ?_
  refine W_region ?_
  refine WL_step rfl rfl (r_loadAtA0 _m2.at_ agg26 sz26 rfl) ?_
  refine WL_s rfl rfl ?_
  have _f_4 := (_h_e.ch0 _cw_2)
  refine Step.call (r_call (xs := [.tmp 5]) fk23 rfl) (c_impl_IsValidExpr _f_4 (by omega)) fun _v6 _w_5 _q6 => ?_
  obtain ⟨rfl, _cw_5⟩ := _q6
  have _cw_5z := _cw_5.size
  have E := E.trans _cw_5
  refine WL_step rfl rfl (r_move rfl) ?_
  refine WL_split (d := 7) rfl (fun _h7 => ?_) (fun _h7 => ?_)
  · have _kb_6 := _h7
    obtain ⟨_t9, ht9, ok9, f9, _n9⟩ := ivE_y _h7
    refine WL_step rfl rfl (r_move rfl) ?_
    refine WL_s rfl rfl ?_
    have _f_7 := ((_h_word.ch0 _cw_2).ch0 _cw_5)
    refine Step.call (r_call (xs := [.tmp 8]) fk24 rfl) (c_impl_IsWord _f_7 ) fun _v9 _w_8 _q9 => ?_
    obtain ⟨rfl, _cw_8⟩ := _q9
    have _cw_8z := _cw_8.size
    have E := E.trans _cw_8
    refine WL_step rfl rfl (r_pickT rfl rfl) ?_
    refine WL_step rfl rfl (r_move rfl) ?_
    refine WL_split (d := 11) rfl (fun _h11 => ?_) (fun _h11 => ?_)
    · have _kb_9 := _h11
      have _h11 := bt_t _h11
      have _h10 := _h11
      have _f_10 := ((_m2.ch0 _cw_5).ch0 _cw_8)
      refine WL_step rfl rfl (r_loadAtA0 _f_10.at_ agg26 sz26 rfl) ?_
      refine WL_s rfl rfl ?_
      have _f_11 := ((_f_4.ch0 _cw_5).ch0 _cw_8)
      refine Step.call (r_call (xs := [.tmp 12]) fk25 rfl) (c_impl_treeOf _f_11 (by omega)) fun _v13 _w_12 _q13 => ?_
      obtain ⟨_q13, _cw_12⟩ := _q13
      have _cw_12z := _cw_12.size
      have E := E.trans _cw_12
      rcases _q13 with ⟨_e13, rfl⟩ | ⟨tt13, _p13, _e13, rfl, _tr13⟩
      · exact (ivE_tr _h7 _e13).elim
      · replace _tr13 : TrAt _w_12 _w_8.heap.size _w_12.heap.size _p13 tt13 := _tr13
        obtain ⟨_A_13, _C_13, _ps_13, _hc_13, _hk_13, _kd_13⟩ := _tr13.open
        have _kl_13 := _kd_13.1
        refine WL_step rfl rfl (r_move rfl) ?_
        refine WL_s rfl rfl ?_
        have _f_13 := ((_f_7.ch0 _cw_8).ch0 _cw_12)
        refine Step.call (r_call (xs := [.tmp 13, .tmp 14]) fk26 rfl) (c_impl_tree_matches _tr13 _f_13 (by rw [ht9] at _e13; cases _e13; exact ok9) (by have q := _h10.2; omega)) fun _v15 _w_14 _q15 => ?_
        obtain ⟨rfl, _cw_14⟩ := _q15
        have _cw_14z := _cw_14.size
        have E := E.trans _cw_14
        refine WL_step rfl rfl (r_pickT rfl rfl) ?_
        refine WL_step rfl rfl (r_assign rfl) ?_
        refine WL_nil ?_
        refine thn_nrm (_hK_3 _ _ ?_)
        clear _hK_3
        refine W_ret ?_
        exact ret_intro [_] ⟨rfl, trivial⟩ ⟨congrArg Value.bool (by first | (rw [mwE_y _h7 _h10 _e13]; done) | (rw [mwE_n1 _h7]; done) | (rw [mwE_n2 _h11]; done)), E⟩
    · have _kb_9 := _h11
      have _h11 := bf_t _h11
      refine WL_skip rfl rfl ?_
      refine WL_skip rfl rfl ?_
      refine WL_skip rfl rfl ?_
      refine WL_skip rfl rfl ?_
      refine WL_step rfl rfl (r_pickF rfl rfl) ?_
      refine WL_step rfl rfl (r_assign rfl) ?_
      refine WL_nil ?_
      refine thn_nrm (_hK_3 _ _ ?_)
      clear _hK_3
      refine W_ret ?_
      exact ret_intro [_] ⟨rfl, trivial⟩ ⟨congrArg Value.bool (by first | (rw [mwE_y _h7 _h10 _e13]; done) | (rw [mwE_n1 _h7]; done) | (rw [mwE_n2 _h11]; done)), E⟩
  · have _kb_6 := _h7
    refine WL_skip rfl rfl ?_
    refine WL_skip rfl rfl ?_
    refine WL_step rfl rfl (r_pickF rfl rfl) ?_
    refine WL_step rfl rfl (r_move rfl) ?_
    refine WL_skip rfl rfl ?_
    refine WL_skip rfl rfl ?_
    refine WL_skip rfl rfl ?_
    refine WL_skip rfl rfl ?_
    refine WL_step rfl rfl (r_pickF rfl rfl) ?_
    refine WL_step rfl rfl (r_assign rfl) ?_
    refine WL_nil ?_
    refine thn_nrm (_hK_3 _ _ ?_)
    clear _hK_3
    refine W_ret ?_
    exact ret_intro [_] ⟨rfl, trivial⟩ ⟨congrArg Value.bool (by first | (rw [mwE_y _h7 _h10 _e13]; done) | (rw [mwE_n1 _h7]; done) | (rw [mwE_n2 _h11]; done)), E⟩

/-- impl.Nullable -/
theorem c_impl_Nullable {w : World} {LL_e _B_e : Nat} {_v_e : Value} {e : List Token} (_h_e : Ls Token.cs 4 w LL_e _B_e _v_e e) (hb : e.length ≤ 1048576) :
    Ctr Tryz.prog 13 #[(.agg #[_v_e])] w (fun v w' => v = .bool (nullE e) ∧ Ch [] w w') := by
  obtain ⟨_A_e, _C_e, _e1_e⟩ := _h_e.val
  subst _e1_e
  have _l_e := _h_e.len
  have _h_e := _h_e.here (by decide)
  have E := Ch.refl [] w
  refine Ctr_of_W (N := 12) (vs0 := [(.agg #[(.slice _A_e e.length _C_e)])]) Tryz.func13 rfl rfl rfl ?_
  refine W_seq fun _K_1 _hK_1 => ?_
  refine W_region ?_
  refine WL_s rfl rfl ?_
  refine s_box rfl fun _b1 _w_2 _m1 _cw_2 _e1 => ?_
  have _cw_2z := _cw_2.size
  have E := E.trans _cw_2
  have _z1 := _m1.lt
  replace _m1 : Blk _w_2 _b1 26 [(.slice _A_e e.length _C_e)] := _m1
  refine WL_step rfl rfl (r_assign rfl) ?_
  refine WL_nil ?_
  refine thn_nrm (_hK_1 _ _ ?_)
  clear _hK_1
  refine W_seq fun _K_3 _hK_3 => ?_
  refine W_region ?_
  refine WL_step rfl rfl (r_loadAtA0 _m1.at_ agg26 sz26 rfl) ?_
  refine WL_s rfl rfl ?_
  have _f_4 := (_h_e.ch0 _cw_2)
  refine Step.call (r_call (xs := [.tmp 4]) fk25 rfl) (c_impl_treeOf _f_4 (by omega)) fun _v5 _w_5 _q5 => ?_
  obtain ⟨_q5, _cw_5⟩ := _q5
  have _cw_5z := _cw_5.size
  have E := E.trans _cw_5
  rcases _q5 with ⟨_e5, rfl⟩ | ⟨tt5, _p5, _e5, rfl, _tr5⟩
  · refine WL_step rfl rfl (r_assign rfl) ?_
    refine WL_nil ?_
    refine thn_nrm (_hK_3 _ _ ?_)
    clear _hK_3
    refine W_seq fun _K_6 _hK_6 => ?_
    refine W_region ?_
    refine WL_step rfl rfl (r_move rfl) ?_
    refine WL_step rfl rfl (r_nePN ptr46 rfl rfl) ?_
    refine WL_step rfl rfl (r_move rfl) ?_
    refine WL_skip rfl rfl ?_
    refine WL_skip rfl rfl ?_
    refine WL_step rfl rfl (r_pickF rfl rfl) ?_
    refine WL_step rfl rfl (r_assign rfl) ?_
    refine WL_nil ?_
    refine thn_nrm (_hK_6 _ _ ?_)
    clear _hK_6
    refine W_ret ?_
    exact ret_intro [_] ⟨rfl, trivial⟩ ⟨congrArg Value.bool (by first | exact nullE_y _e5 | exact nullE_n _e5), E⟩
  · replace _tr5 : TrAt _w_5 _w_2.heap.size _w_5.heap.size _p5 tt5 := _tr5
    obtain ⟨_A_5, _C_5, _ps_5, _hc_5, _hk_5, _kd_5⟩ := _tr5.open
    have _kl_5 := _kd_5.1
    refine WL_step rfl rfl (r_assign rfl) ?_
    refine WL_nil ?_
    refine thn_nrm (_hK_3 _ _ ?_)
    clear _hK_3
    refine W_seq fun _K_7 _hK_7 => ?_
    refine W_region ?_
    refine WL_step rfl rfl (r_move rfl) ?_
    refine WL_step rfl rfl (r_nePN ptr46 rfl rfl) ?_
    refine WL_step rfl rfl (r_move rfl) ?_
    refine WL_step rfl rfl (r_move rfl) ?_
    refine WL_s rfl rfl ?_
    refine Step.call (r_call (xs := [.tmp 9]) fk33 rfl) (c_impl_tree_nullable _tr5 (treeL_ok _e5).1) fun _v10 _w_8 _q10 => ?_
    obtain ⟨rfl, _cw_8⟩ := _q10
    have _cw_8z := _cw_8.size
    have E := E.trans _cw_8
    refine WL_step rfl rfl (r_pickT rfl rfl) ?_
    refine WL_step rfl rfl (r_assign rfl) ?_
    refine WL_nil ?_
    refine thn_nrm (_hK_7 _ _ ?_)
    clear _hK_7
    refine W_ret ?_
    exact ret_intro [_] ⟨rfl, trivial⟩ ⟨congrArg Value.bool (by first | exact nullE_y _e5 | exact nullE_n _e5), E⟩

/-- laws.big -/
theorem c_laws_big {w : World} {LL_code _B_code : Nat} {_v_code : Value} {code : List Int} (_h_code : Ls ucs 1 w LL_code _B_code _v_code code) :
    Ctr Tryz.prog 4 #[_v_code] w (fun v w' => v = .bool (decide (1048576 < (code.length : Int))) ∧ Ch [] w w') := by
  obtain ⟨_A_code, _C_code, _e1_code⟩ := _h_code.val
  subst _e1_code
  have _l_code := _h_code.len
  have _h_code := _h_code.here (by decide)
  have E := Ch.refl [] w
  refine Ctr_of_W (N := 6) (vs0 := [(.slice _A_code code.length _C_code)]) Tryz.func4 rfl rfl rfl ?_
  refine W_seq fun _K_1 _hK_1 => ?_
  refine W_region ?_
  refine WL_step rfl rfl (r_assign rfl) ?_
  refine WL_nil ?_
  refine thn_nrm (_hK_1 _ _ ?_)
  clear _hK_1
  refine W_seq fun _K_2 _hK_2 => ?_
  refine W_region ?_
  refine WL_step rfl rfl (r_move rfl) ?_
  refine WL_step rfl rfl (r_len (by rw [el22]; rfl) rfl) ?_
  refine WL_step rfl rfl (r_gtr rfl rfl) ?_
  refine WL_step rfl rfl (r_assign rfl) ?_
  refine WL_nil ?_
  refine thn_nrm (_hK_2 _ _ ?_)
  clear _hK_2
  refine W_ret ?_
  exact ret_intro [_] ⟨rfl, trivial⟩ ⟨congrArg Value.bool rfl, E⟩

/-- laws.has -/
theorem c_laws_has {w : World} {LL_l _B_l : Nat} {_v_l : Value} {l : List Int} (_h_l : Ls ics 1 w LL_l _B_l _v_l l) (x : Int) :
    Ctr Tryz.prog 17 #[_v_l, (.int .i64 x)] w (fun v w' => v = .bool (decide (x ∈ l)) ∧ Ch [] w w') := by
  obtain ⟨_A_l, _C_l, _e1_l⟩ := _h_l.val
  subst _e1_l
  have _l_l := _h_l.len
  have _h_l := _h_l.here (by decide)
  have E := Ch.refl [] w
  refine Ctr_of_W (N := 18) (vs0 := [(.slice _A_l l.length _C_l), (.int .i64 x)]) Tryz.func17 rfl rfl rfl ?_
  refine W_seq fun _K_1 _hK_1 => ?_
  refine W_region ?_
  refine WL_step rfl rfl (r_assign rfl) ?_
  refine WL_nil ?_
  refine thn_nrm (_hK_1 _ _ ?_)
  clear _hK_1
  refine W_seq fun _K_2 _hK_2 => ?_
  refine W_seq fun _K_3 _hK_3 => ?_
  refine W_region ?_
  refine WL_step rfl rfl (r_assign rfl) ?_
  refine WL_nil ?_
  refine thn_nrm (_hK_3 _ _ ?_)
  clear _hK_3
  refine W_block ?_
  refine W_loop (σ := Nat) (fun (k : Nat) => [(0, (.slice _A_l l.length _C_l)), (1, (.int .i64 x)), (5, (.int .i64 ((k : Nat) : Int)))]) (fun (k : Nat) wx => Ch [] w wx ∧ w.heap.size ≤ wx.heap.size ∧ (k ≤ l.length) ∧ (x ∉ l.take k)) (fun (k : Nat) => l.length - k) 0 (Sub.cons rfl (Sub.cons rfl (Sub.cons rfl (Sub.nil _)))) ⟨E, (Nat.le_refl _), (by omega), (by simp)⟩ ?_
  rintro k _wr_4 ⟨E, _zz0, _hk, hn⟩
  have _E0h := E
  have _E0hz := _E0h.size
  refine W_seq fun _K_5 _hK_5 => ?_
  refine W_seq fun _K_6 _hK_6 => ?_
  refine W_region ?_
  refine WL_step rfl rfl (r_move rfl) ?_
  refine WL_step rfl rfl (r_move rfl) ?_
  refine WL_step rfl rfl (r_len (by rw [el27]; rfl) rfl) ?_
  refine WL_step rfl rfl (r_lss rfl rfl) ?_
  refine WL_nil ?_
  refine thn_nrm (_hK_6 _ _ ?_)
  clear _hK_6
  refine W_cond rfl (fun _h9 => ?_) (fun _h9 => ?_)
  · have _kb_7 := _h9
    have _h9 := bt_d _h9
    refine W_skip ?_
    refine thn_nrm (_hK_5 _ _ ?_)
    clear _hK_5
    refine W_seq fun _K_8 _hK_8 => ?_
    refine W_block ?_
    refine W_seq fun _K_9 _hK_9 => ?_
    refine W_region ?_
    refine WL_step rfl rfl (r_move rfl) ?_
    refine WL_step rfl rfl (r_move rfl) ?_
    refine WL_s rfl rfl ?_
    have _f_10 := (_h_l.ch0 _E0h)
    refine (s_index _f_10 ics_len el27 sz3 rfl rfl rfl (by omega) fun _p14 _y14 _hy14 _a14 => ?_)
    refine WL_step rfl rfl (r_loadAt0 _a14 agg3 rfl rfl) ?_
    refine WL_step rfl rfl (r_move rfl) ?_
    refine WL_step rfl rfl (r_eql rfl rfl) ?_
    refine WL_nil ?_
    refine thn_nrm (_hK_9 _ _ ?_)
    clear _hK_9
    refine W_cond rfl (fun _h17 => ?_) (fun _h17 => ?_)
    · have _kb_11 := _h17
      have _h17 := bt_d _h17
      refine W_seq fun _K_12 _hK_12 => ?_
      refine W_region ?_
      refine WL_step rfl rfl (r_assign rfl) ?_
      refine WL_nil ?_
      refine thn_nrm (_hK_12 _ _ ?_)
      clear _hK_12
      refine W_ret (inB_ret (thn_ret (thn_ret (inB_ret (thn_ret ?_)))))
      clear _hK_2 _hK_8
      exact ret_intro [_] ⟨rfl, trivial⟩ ⟨congrArg Value.bool (by first | exact (decide_eq_true (by rw [← _h17]; exact mem_of_get _hy14)).symm | exact (decide_eq_false (nomem_end hn (by omega))).symm), E⟩
    · have _kb_11 := _h17
      have _h17 := bf_d _h17
      refine W_skip ?_
      refine inB_nrm ?_
      refine thn_nrm (_hK_8 _ _ ?_)
      clear _hK_8
      refine W_region ?_
      refine WL_step rfl rfl (r_move rfl) ?_
      refine WL_step rfl rfl (r_add (by omega) rfl rfl) ?_
      refine WL_step rfl rfl (r_assign rfl) ?_
      refine WL_nil ?_
      exact thn_nrm (Exists.intro (k + 1) ⟨⟨E, (by omega), (by omega), (nomem_step hn _hy14 _h17)⟩, Sub.cons rfl (Sub.cons rfl (Sub.cons rfl (Sub.nil _))), (by first | omega | (dsimp only; omega))⟩)
  · have _kb_7 := _h9
    have _h9 := bf_d _h9
    refine W_exit (thn_exit (thn_exit (inB_hit ?_)))
    refine thn_nrm (_hK_2 _ _ ?_)
    clear _hK_2
    refine W_seq fun _K_13 _hK_13 => ?_
    refine W_region ?_
    refine WL_step rfl rfl (r_assign rfl) ?_
    refine WL_nil ?_
    refine thn_nrm (_hK_13 _ _ ?_)
    clear _hK_13
    refine W_ret ?_
    clear _hK_5
    exact ret_intro [_] ⟨rfl, trivial⟩ ⟨congrArg Value.bool (by first | exact (decide_eq_true (by rw [← _h17]; exact mem_of_get _hy14)).symm | exact (decide_eq_false (nomem_end hn (by omega))).symm), E⟩

/-- laws.sameInts -/
theorem c_laws_sameInts {w : World} {LL_a _B_a : Nat} {_v_a : Value} {a : List Int} (_h_a : Ls ics 1 w LL_a _B_a _v_a a) {LL_b _B_b : Nat} {_v_b : Value} {b : List Int} (_h_b : Ls ics 1 w LL_b _B_b _v_b b) :
    Ctr Tryz.prog 19 #[_v_a, _v_b] w (fun v w' => v = .bool (decide (a = b)) ∧ Ch [] w w') := by
  obtain ⟨_A_a, _C_a, _e1_a⟩ := _h_a.val
  subst _e1_a
  have _l_a := _h_a.len
  have _h_a := _h_a.here (by decide)
  obtain ⟨_A_b, _C_b, _e1_b⟩ := _h_b.val
  subst _e1_b
  have _l_b := _h_b.len
  have _h_b := _h_b.here (by decide)
  have E := Ch.refl [] w
  refine Ctr_of_W (N := 26) (vs0 := [(.slice _A_a a.length _C_a), (.slice _A_b b.length _C_b)]) Tryz.func19 rfl rfl rfl ?_
  refine W_seq fun _K_1 _hK_1 => ?_
  refine W_region ?_
  refine WL_step rfl rfl (r_assign rfl) ?_
  refine WL_nil ?_
  refine thn_nrm (_hK_1 _ _ ?_)
  clear _hK_1
  refine W_seq fun _K_2 _hK_2 => ?_
  refine W_seq fun _K_3 _hK_3 => ?_
  refine W_region ?_
  refine WL_step rfl rfl (r_move rfl) ?_
  refine WL_step rfl rfl (r_len (by rw [el27]; rfl) rfl) ?_
  refine WL_step rfl rfl (r_move rfl) ?_
  refine WL_step rfl rfl (r_len (by rw [el27]; rfl) rfl) ?_
  refine WL_step rfl rfl (r_neq rfl rfl) ?_
  refine WL_nil ?_
  refine thn_nrm (_hK_3 _ _ ?_)
  clear _hK_3
  refine W_cond rfl (fun _h10 => ?_) (fun _h10 => ?_)
  · have _kb_4 := _h10
    have _h10 := bf_d (bt_n _h10)
    refine W_seq fun _K_5 _hK_5 => ?_
    refine W_region ?_
    refine WL_step rfl rfl (r_assign rfl) ?_
    refine WL_nil ?_
    refine thn_nrm (_hK_5 _ _ ?_)
    clear _hK_5
    refine W_ret (thn_ret ?_)
    clear _hK_2
    exact ret_intro [_] ⟨rfl, trivial⟩ ⟨congrArg Value.bool (decide_eq_false (fun e => _h10 (by rw [e]))).symm, E⟩
  · have _kb_4 := _h10
    have _h10 := bt_d (bf_n _h10)
    refine W_skip ?_
    refine thn_nrm (_hK_2 _ _ ?_)
    clear _hK_2
    refine W_seq fun _K_6 _hK_6 => ?_
    refine W_seq fun _K_7 _hK_7 => ?_
    refine W_region ?_
    refine WL_step rfl rfl (r_assign rfl) ?_
    refine WL_nil ?_
    refine thn_nrm (_hK_7 _ _ ?_)
    clear _hK_7
    refine W_block ?_
    refine W_loop (σ := Nat) (fun (k : Nat) => [(0, (.slice _A_a a.length _C_a)), (1, (.slice _A_b b.length _C_b)), (5, (.int .i64 ((k : Nat) : Int)))]) (fun (k : Nat) wx => Ch [] w wx ∧ w.heap.size ≤ wx.heap.size ∧ (k ≤ a.length) ∧ (a.take k = b.take k)) (fun (k : Nat) => a.length - k) 0 (Sub.cons rfl (Sub.cons rfl (Sub.cons rfl (Sub.nil _)))) ⟨E, (Nat.le_refl _), (by omega), rfl⟩ ?_
    rintro k _wr_8 ⟨E, _zz0, _hk, _ht⟩
    have _E0h := E
    have _E0hz := _E0h.size
    refine W_seq fun _K_9 _hK_9 => ?_
    refine W_seq fun _K_10 _hK_10 => ?_
    refine W_region ?_
    refine WL_step rfl rfl (r_move rfl) ?_
    refine WL_step rfl rfl (r_move rfl) ?_
    refine WL_step rfl rfl (r_len (by rw [el27]; rfl) rfl) ?_
    refine WL_step rfl rfl (r_lss rfl rfl) ?_
    refine WL_nil ?_
    refine thn_nrm (_hK_10 _ _ ?_)
    clear _hK_10
    refine W_cond rfl (fun _h14 => ?_) (fun _h14 => ?_)
    · have _kb_11 := _h14
      have _h14 := bt_d _h14
      refine W_skip ?_
      refine thn_nrm (_hK_9 _ _ ?_)
      clear _hK_9
      refine W_seq fun _K_12 _hK_12 => ?_
      refine W_block ?_
      refine W_seq fun _K_13 _hK_13 => ?_
      refine W_drawC [] 9 mixed rfl fun _w_14 _cw_14 => ?_
      have _cw_14z := _cw_14.size
      have E := E.trans _cw_14
      refine DR_s 0 rfl (by kernel_rfl) rfl rfl (t_v (fun _ => (r_move rfl)) ?_)
      refine DR_s 1 rfl (by kernel_rfl) rfl rfl (t_v (fun _ => (r_move rfl)) ?_)
      have _f_15 := ((_h_a.ch0 _E0h).ch0 _cw_14)
      refine DR_s 2 rfl (by kernel_rfl) rfl rfl (t_index _f_15 ics_len el27 sz3 rfl rfl rfl (by omega) fun _p19 _y19 _hy19 _a19 => ?_)
      refine DR_s 3 rfl (by kernel_rfl) rfl rfl (t_loadAt0 _a19 (fun i hi => absurd hi List.not_mem_nil) agg3 rfl rfl ?_)
      refine DR_s 4 rfl (by kernel_rfl) rfl rfl (t_v (fun _ => (r_move rfl)) ?_)
      refine DR_s 5 rfl (by kernel_rfl) rfl rfl (t_v (fun _ => (r_move rfl)) ?_)
      have _f_16 := ((_h_b.ch0 _E0h).ch0 _cw_14)
      refine DR_s 6 rfl (by kernel_rfl) rfl rfl (t_index _f_16 ics_len el27 sz3 rfl rfl rfl (by omega) fun _p23 _y23 _hy23 _a23 => ?_)
      refine DR_s 7 rfl (by kernel_rfl) rfl rfl (t_loadAt0 _a23 (fun i hi => absurd hi List.not_mem_nil) agg3 rfl rfl ?_)
      refine DR_s 8 rfl (by kernel_rfl) rfl rfl (t_v (fun _ => (r_neq rfl rfl)) ?_)
      refine DR_done (by kernel_rfl) ?_
      refine thn_nrm (_hK_13 _ _ ?_)
      clear _hK_13
      refine W_cond rfl (fun _h25 => ?_) (fun _h25 => ?_)
      · have _kb_17 := _h25
        have _h25 := bf_d (bt_n _h25)
        refine W_seq fun _K_18 _hK_18 => ?_
        refine W_region ?_
        refine WL_step rfl rfl (r_assign rfl) ?_
        refine WL_nil ?_
        refine thn_nrm (_hK_18 _ _ ?_)
        clear _hK_18
        refine W_ret (inB_ret (thn_ret (thn_ret (inB_ret (thn_ret ?_)))))
        clear _hK_6 _hK_12
        exact ret_intro [_] ⟨rfl, trivial⟩ ⟨congrArg Value.bool (decide_eq_false (ne_of_get _hy19 _hy23 _h25)).symm, E⟩
      · have _kb_17 := _h25
        have _h25 := bt_d (bf_n _h25)
        refine W_skip ?_
        refine inB_nrm ?_
        refine thn_nrm (_hK_12 _ _ ?_)
        clear _hK_12
        refine W_region ?_
        refine WL_step rfl rfl (r_move rfl) ?_
        refine WL_step rfl rfl (r_add (by omega) rfl rfl) ?_
        refine WL_step rfl rfl (r_assign rfl) ?_
        refine WL_nil ?_
        exact thn_nrm (Exists.intro (k + 1) ⟨⟨E, (by omega), (by omega), (take_eq_succ _ht _hy19 _hy23 _h25)⟩, Sub.cons rfl (Sub.cons rfl (Sub.cons rfl (Sub.nil _))), (by first | omega | (dsimp only; omega))⟩)
    · have _kb_11 := _h14
      have _h14 := bf_d _h14
      refine W_exit (thn_exit (thn_exit (inB_hit ?_)))
      refine thn_nrm (_hK_6 _ _ ?_)
      clear _hK_6
      refine W_seq fun _K_19 _hK_19 => ?_
      refine W_region ?_
      refine WL_step rfl rfl (r_assign rfl) ?_
      refine WL_nil ?_
      refine thn_nrm (_hK_19 _ _ ?_)
      clear _hK_19
      refine W_ret ?_
      clear _hK_9
      exact ret_intro [_] ⟨rfl, trivial⟩ ⟨congrArg Value.bool (decide_eq_true (eq_of_take _ht (by omega) (by omega))).symm, E⟩

/-- spec.l1In -/
theorem c_spec_l1In {w : World} (n : Int) (a : Int) (b : Int) :
    Ctr Tryz.prog 51 #[(.int .i64 n), (.int .i64 a), (.int .i64 b)] w (fun v w' => v = .bool (decide (a ≤ n ∧ n ≤ b)) ∧ Ch [] w w') := by
  have E := Ch.refl [] w
  refine Ctr_of_W (N := 15) (vs0 := [(.int .i64 n), (.int .i64 a), (.int .i64 b)]) Tryz.func51 rfl rfl rfl ?_
  refine W_seq fun _K_1 _hK_1 => ?_
  refine W_region ?_
  refine WL_step rfl rfl (r_assign rfl) ?_
  refine WL_nil ?_
  refine thn_nrm (_hK_1 _ _ ?_)
  clear _hK_1
  refine W_seq fun _K_2 _hK_2 => ?_
  refine W_region ?_
  refine WL_step rfl rfl (r_move rfl) ?_
  refine WL_step rfl rfl (r_move rfl) ?_
  refine WL_step rfl rfl (r_geq rfl rfl) ?_
  refine WL_step rfl rfl (r_move rfl) ?_
  refine WL_split (d := 10) rfl (fun _h10 => ?_) (fun _h10 => ?_)
  · have _kb_3 := _h10
    have _h10 := bt_d _h10
    refine WL_step rfl rfl (r_move rfl) ?_
    refine WL_step rfl rfl (r_move rfl) ?_
    refine WL_step rfl rfl (r_leq rfl rfl) ?_
    refine WL_step rfl rfl (r_pickT rfl rfl) ?_
    refine WL_step rfl rfl (r_assign rfl) ?_
    refine WL_nil ?_
    refine thn_nrm (_hK_2 _ _ ?_)
    clear _hK_2
    refine W_ret ?_
    exact ret_intro [_] ⟨rfl, trivial⟩ ⟨congrArg Value.bool (by first | rfl | (rw [Bool.eq_iff_iff]; simp <;> omega) | (rw [Bool.eq_iff_iff]; simp_all; done) | simp_all), E⟩
  · have _kb_3 := _h10
    have _h10 := bf_d _h10
    refine WL_skip rfl rfl ?_
    refine WL_skip rfl rfl ?_
    refine WL_skip rfl rfl ?_
    refine WL_step rfl rfl (r_pickF rfl rfl) ?_
    refine WL_step rfl rfl (r_assign rfl) ?_
    refine WL_nil ?_
    refine thn_nrm (_hK_2 _ _ ?_)
    clear _hK_2
    refine W_ret ?_
    exact ret_intro [_] ⟨rfl, trivial⟩ ⟨congrArg Value.bool (by first | rfl | (rw [Bool.eq_iff_iff]; simp <;> omega) | (rw [Bool.eq_iff_iff]; simp_all; done) | simp_all), E⟩

/-- spec.l2Letter -/
theorem c_spec_l2Letter {w : World} (n : Int) :
    Ctr Tryz.prog 32 #[(.int .i64 n)] w (fun v w' => v = .bool (decide (0 ≤ n ∧ n ≤ 8)) ∧ Ch [] w w') := by
  have E := Ch.refl [] w
  refine Ctr_of_W (N := 5) (vs0 := [(.int .i64 n)]) Tryz.func32 rfl rfl rfl ?_
  refine W_seq fun _K_1 _hK_1 => ?_
  refine W_region ?_
  refine WL_step rfl rfl (r_assign rfl) ?_
  refine WL_nil ?_
  refine thn_nrm (_hK_1 _ _ ?_)
  clear _hK_1
  refine W_seq fun _K_2 _hK_2 => ?_
  refine W_region ?_
  refine WL_step rfl rfl (r_move rfl) ?_
  refine WL_s rfl rfl ?_
  refine Step.call (r_call (xs := [.tmp 3, .const (Go.Value.int Go.IntKind.i64 0), .const (Go.Value.int Go.IntKind.i64 8)]) fk51 rfl) (c_spec_l1In _ _ _ ) fun _v4 _w_3 _q4 => ?_
  obtain ⟨rfl, _cw_3⟩ := _q4
  have _cw_3z := _cw_3.size
  have E := E.trans _cw_3
  refine WL_step rfl rfl (r_assign rfl) ?_
  refine WL_nil ?_
  refine thn_nrm (_hK_2 _ _ ?_)
  clear _hK_2
  refine W_ret ?_
  exact ret_intro [_] ⟨rfl, trivial⟩ ⟨congrArg Value.bool rfl, E⟩

end Go.Proofs.YtholldndjafnpaaGreat
