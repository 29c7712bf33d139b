/- Walks of functions that FnDerivatives reaches: what each returns, and that it leaves the memory that was there alone. -/
import Derived.Test.YtholldndjafnpaaGreatLibA
import Derived.Test.YtholldndjafnpaaGreatLibB
import Derived.Test.YtholldndjafnpaaGreatWDerivatives
import Derived.Test.YtholldndjafnpaaGreatWDerivativesb
import Derived.Test.YtholldndjafnpaaGreatWDerivativesc
import Derived.Test.YtholldndjafnpaaGreatProg
namespace Go.Proofs.YtholldndjafnpaaGreat
open Go.KLib Go.Shelf
set_option maxHeartbeats 1000000
set_option maxRecDepth 20000
set_option linter.unusedVariables false
set_option linter.unusedSimpArgs false
namespace TDerivativesd
theorem agg22 : aggB Tryz.prog 22 = some false := by kernel_rfl
theorem agg24 : aggB Tryz.prog 24 = some false := by kernel_rfl
theorem agg26 : aggB Tryz.prog 26 = some true := by kernel_rfl
theorem agg3 : aggB Tryz.prog 3 = some false := by kernel_rfl
theorem agg5 : aggB Tryz.prog 5 = some false := by kernel_rfl
theorem agg52 : aggB Tryz.prog 52 = some true := by kernel_rfl
theorem agg9 : aggB Tryz.prog 9 = some false := by kernel_rfl
theorem by52 : bytesB Tryz.prog 52 = some 32 := by kernel_rfl
theorem by9 : bytesB Tryz.prog 9 = some 16 := by kernel_rfl
theorem el22 : elB Tryz.prog 22 = some 5 := by kernel_rfl
theorem el24 : elB Tryz.prog 24 = some 52 := by kernel_rfl
theorem el27 : elB Tryz.prog 27 = some 3 := by kernel_rfl
theorem el96 : elB Tryz.prog 96 = some 9 := by kernel_rfl
theorem fa26_0 : faB Tryz.prog 26 0 = some 0 := by kernel_rfl
theorem fa52_0 : faB Tryz.prog 52 0 = some 0 := by kernel_rfl
theorem fa52_1 : faB Tryz.prog 52 1 = some 1 := by kernel_rfl
theorem fa52_2 : faB Tryz.prog 52 2 = some 2 := by kernel_rfl
theorem fa52_3 : faB Tryz.prog 52 3 = some 3 := by kernel_rfl
theorem fa60_0 : faB Tryz.prog 60 0 = some 0 := by kernel_rfl
theorem fa60_1 : faB Tryz.prog 60 1 = some 1 := by kernel_rfl
theorem fa60_2 : faB Tryz.prog 60 2 = some 2 := by kernel_rfl
theorem fk106 : fnB Tryz.prog 106 = true := by kernel_rfl
theorem fk107 : fnB Tryz.prog 107 = true := by kernel_rfl
theorem fk109 : fnB Tryz.prog 109 = true := by kernel_rfl
theorem fk11 : fnB Tryz.prog 11 = true := by kernel_rfl
theorem fk110 : fnB Tryz.prog 110 = true := by kernel_rfl
theorem fk16 : fnB Tryz.prog 16 = true := by kernel_rfl
theorem fk30 : fnB Tryz.prog 30 = true := by kernel_rfl
theorem fk31 : fnB Tryz.prog 31 = true := by kernel_rfl
theorem fk32 : fnB Tryz.prog 32 = true := by kernel_rfl
theorem fk40 : fnB Tryz.prog 40 = true := by kernel_rfl
theorem fk41 : fnB Tryz.prog 41 = true := by kernel_rfl
theorem fk52 : fnB Tryz.prog 52 = true := by kernel_rfl
theorem fk59 : fnB Tryz.prog 59 = true := by kernel_rfl
theorem fk68 : fnB Tryz.prog 68 = true := by kernel_rfl
theorem fk69 : fnB Tryz.prog 69 = true := by kernel_rfl
theorem fk70 : fnB Tryz.prog 70 = true := by kernel_rfl
theorem fk80 : fnB Tryz.prog 80 = true := by kernel_rfl
theorem fk83 : fnB Tryz.prog 83 = true := by kernel_rfl
theorem fk84 : fnB Tryz.prog 84 = true := by kernel_rfl
theorem fk85 : fnB Tryz.prog 85 = true := by kernel_rfl
theorem fk98 : fnB Tryz.prog 98 = true := by kernel_rfl
theorem fk99 : fnB Tryz.prog 99 = true := by kernel_rfl
theorem mixed : Tryz.prog.follows .mixedOrders = true := by kernel_rfl
theorem pl26 : placesB Tryz.prog 26 = some [(0, 1)] := by kernel_rfl
theorem pl52 : placesB Tryz.prog 52 = some [(0, 1), (1, 1), (2, 1), (3, 1)] := by kernel_rfl
theorem pl60 : placesB Tryz.prog 60 = some [(0, 1), (1, 1), (2, 1)] := by kernel_rfl
theorem sz24 : sizeB Tryz.prog 24 = some 1 := by kernel_rfl
theorem sz26 : sizeB Tryz.prog 26 = some 1 := by kernel_rfl
theorem sz3 : sizeB Tryz.prog 3 = some 1 := by kernel_rfl
theorem sz5 : sizeB Tryz.prog 5 = some 1 := by kernel_rfl
theorem sz52 : sizeB Tryz.prog 52 = some 4 := by kernel_rfl
theorem sz9 : sizeB Tryz.prog 9 = some 1 := by kernel_rfl
theorem un3 : Tryz.prog.underlying 3 = some (.int .i64) := by kernel_rfl
theorem un5 : Tryz.prog.underlying 5 = some (.int .u8) := by kernel_rfl
theorem un9 : Tryz.prog.underlying 9 = some (.string) := by kernel_rfl
theorem zr26 : zeroB Tryz.prog 26 = some (.agg #[.slice none 0 0]) := by kernel_rfl
theorem zr3 : zeroB Tryz.prog 3 = some (.int .i64 0) := by kernel_rfl
theorem zr5 : zeroB Tryz.prog 5 = some (.int .u8 0) := by kernel_rfl
theorem zr52 : zeroB Tryz.prog 52 = some (.agg #[.int .i64 0, .int .i64 0, .int .i64 0, .int .i64 0]) := by kernel_rfl
theorem zr60 : zeroB Tryz.prog 60 = some (.agg #[.slice none 0 0, .int .i64 0, .int .i64 0]) := by kernel_rfl
theorem zr9 : zeroB Tryz.prog 9 = some (.string ⟨#[]⟩) := by kernel_rfl
end TDerivativesd
open TDerivativesd

/-- spec.DerivativeWord -/
theorem c_spec_DerivativeWord {w : World} {LL_e _B_e : Nat} {_v_e : Value} {e : List Token} (_h_e : Ls Token.cs 4 w LL_e _B_e _v_e e) {LL_w9 _B_w9 : Nat} {_v_w9 : Value} {w9 : List Int} (_h_w9 : Ls ics 1 w LL_w9 _B_w9 _v_w9 w9) (hb : e.length ≤ 1048576) :
    Ctr Tryz.prog 9 #[(.agg #[_v_e]), _v_w9] w (fun v w' => ∃ (u0x0 : Value), v = .tuple #[.agg #[u0x0], .bool ((dwE e w9).2)] ∧ Ol Token.cs 52 4 w' u0x0 ((dwE e w9).1) ∧ Lo w.heap.size u0x0 ∧ Ch [] w w') := by
  obtain ⟨_A_e, _C_e, _e1_e⟩ := _h_e.val
  subst _e1_e
  have _l_e := _h_e.len
  have _h_e := _h_e.here (by decide)
  obtain ⟨_A_w9, _C_w9, _e1_w9⟩ := _h_w9.val
  subst _e1_w9
  have _l_w9 := _h_w9.len
  have _h_w9 := _h_w9.here (by decide)
  have E := Ch.refl [] w
  refine Ctr_of_W (N := 43) (vs0 := [(.agg #[(.slice _A_e e.length _C_e)]), (.slice _A_w9 w9.length _C_w9)]) Tryz.func9 rfl rfl rfl ?_
  refine W_seq fun _K_1 _hK_1 => ?_
  refine W_region ?_
  refine WL_s rfl rfl ?_
  refine s_box rfl fun _b2 _w_2 _m2 _cw_2 _e2 => ?_
  have _cw_2z := _cw_2.size
  have E := E.trans _cw_2
  have _z2 := _m2.lt
  replace _m2 : Blk _w_2 _b2 26 [(.slice _A_e e.length _C_e)] := _m2
  refine WL_s rfl rfl ?_
  refine s_alloc zr26 fun _b4 _w_3 _m4 _cw_3 _e4 => ?_
  have _cw_3z := _cw_3.size
  have E := E.trans _cw_3
  have _z4 := _m4.lt
  replace _m4 : Blk _w_3 _b4 26 [(.slice none 0 0)] := _m4
  refine WL_step rfl rfl (r_assign rfl) ?_
  refine WL_nil ?_
  refine thn_nrm (_hK_1 _ _ ?_)
  clear _hK_1
  refine W_seq fun _K_4 _hK_4 => ?_
  refine W_seq fun _K_5 _hK_5 => ?_
  refine W_region ?_
  have _f_6 := (_m2.ch0 _cw_3)
  refine WL_step rfl rfl (r_loadAtA0 _f_6.at_ agg26 sz26 rfl) ?_
  refine WL_s rfl rfl ?_
  have _f_7 := ((_h_e.ch0 _cw_2).ch0 _cw_3)
  refine Step.call (r_call (xs := [.tmp 10]) fk30 rfl) (c_spec_IsExpr _f_7 ) fun _v11 _w_8 _q11 => ?_
  obtain ⟨rfl, _cw_8⟩ := _q11
  have _cw_8z := _cw_8.size
  have E := E.trans _cw_8
  refine WL_step rfl rfl (r_not rfl) ?_
  refine WL_step rfl rfl (r_move rfl) ?_
  refine WL_split (d := 13) rfl (fun _h13 => ?_) (fun _h13 => ?_)
  · have _kb_9 := _h13
    have _h13 := bt_n _h13
    refine WL_skip rfl rfl ?_
    refine WL_skip rfl rfl ?_
    refine WL_skip rfl rfl ?_
    refine WL_skip rfl rfl ?_
    refine WL_step rfl rfl (r_pickT rfl rfl) ?_
    refine WL_nil ?_
    refine thn_nrm (_hK_5 _ _ ?_)
    clear _hK_5
    refine W_condT rfl ?_
    refine W_seq fun _K_10 _hK_10 => ?_
    refine W_region ?_
    refine WL_step rfl rfl (r_build (parts := []) (cells := [(.slice none 0 0)]) zr26 pl26 rfl rfl) ?_
    refine WL_s rfl rfl ?_
    have _f_11 := (_m4.ch0 _cw_8)
    refine s_storeA (off := 0) 1 _f_11 sz26 rfl (us := [(.slice none 0 0)]) rfl rfl rfl rfl fun _w_12 _m_13 _cw_12 => ?_
    have _cw_12z := _cw_12.size
    have E := E.step _cw_12 (fun i hi => .inl (by have _h1 := List.mem_singleton.1 hi; omega))
    replace _m_13 : Blk _w_12 _b4 26 [(.slice none 0 0)] := _m_13
    refine WL_step rfl rfl (r_assign rfl) ?_
    refine WL_nil ?_
    refine thn_nrm (_hK_10 _ _ ?_)
    clear _hK_10
    refine W_ret (thn_ret ?_)
    clear _hK_4
    have _o_14 : Ol Token.cs 52 4 _w_12 (.slice none 0 0) ((dwE e w9).1) := by
      have hx := (Ol.nil (cs := Token.cs) (e := 52) (k := 4) _w_12)
      first | (rw [dwE_n1 (fun c => by first | exact Bool.noConfusion (c.1.symm.trans _h13) | (have c2 := c.2; omega))]; exact hx) | (rw [dwE_n2 _h13 (by omega) (derW_none hw _hy33 _h39)]; exact hx) | (rw [dwE_y _h13 (by omega) (derW_end hw (by omega))]; exact hx)
    exact ret_intro [_, _] (resOf_loadA _m_13 rfl agg26 sz26 ⟨rfl, trivial⟩) ⟨(.slice none 0 0), (congrArg (fun zq => (Value.tuple #[.agg #[(.slice none 0 0)], .bool zq])) (by first | (rw [dwE_n1 (fun c => by first | exact Bool.noConfusion (c.1.symm.trans _h13) | (have c2 := c.2; omega))]; done) | (rw [dwE_n2 _h13 (by omega) (derW_none hw _hy33 _h39)]; done) | (rw [dwE_y _h13 (by omega) (derW_end hw (by omega))]; done))), _o_14, (Lo.nil _), E⟩
  · have _kb_9 := _h13
    have _h13 := bf_n _h13
    refine WL_step rfl rfl (r_fieldAddr fa26_0 rfl) ?_
    have _f_15 := (_f_6.ch0 _cw_8)
    refine WL_step rfl rfl (r_loadAt _f_15.at_ agg24 rfl rfl) ?_
    refine WL_step rfl rfl (r_len (by rw [el24]; rfl) rfl) ?_
    refine WL_step rfl rfl (r_gtr rfl rfl) ?_
    refine WL_step rfl rfl (r_pickF rfl rfl) ?_
    refine WL_nil ?_
    refine thn_nrm (_hK_5 _ _ ?_)
    clear _hK_5
    refine W_cond rfl (fun _h18 => ?_) (fun _h18 => ?_)
    · have _kb_16 := _h18
      have _h18 := bt_d _h18
      refine W_seq fun _K_17 _hK_17 => ?_
      refine W_region ?_
      refine WL_step rfl rfl (r_build (parts := []) (cells := [(.slice none 0 0)]) zr26 pl26 rfl rfl) ?_
      refine WL_s rfl rfl ?_
      have _f_18 := (_m4.ch0 _cw_8)
      refine s_storeA (off := 0) 1 _f_18 sz26 rfl (us := [(.slice none 0 0)]) rfl rfl rfl rfl fun _w_19 _m_20 _cw_19 => ?_
      have _cw_19z := _cw_19.size
      have E := E.step _cw_19 (fun i hi => .inl (by have _h1 := List.mem_singleton.1 hi; omega))
      replace _m_20 : Blk _w_19 _b4 26 [(.slice none 0 0)] := _m_20
      refine WL_step rfl rfl (r_assign rfl) ?_
      refine WL_nil ?_
      refine thn_nrm (_hK_17 _ _ ?_)
      clear _hK_17
      refine W_ret (thn_ret ?_)
      clear _hK_4
      have _o_21 : Ol Token.cs 52 4 _w_19 (.slice none 0 0) ((dwE e w9).1) := by
        have hx := (Ol.nil (cs := Token.cs) (e := 52) (k := 4) _w_19)
        first | (rw [dwE_n1 (fun c => by first | exact Bool.noConfusion (c.1.symm.trans _h13) | (have c2 := c.2; omega))]; exact hx) | (rw [dwE_n2 _h13 (by omega) (derW_none hw _hy33 _h39)]; exact hx) | (rw [dwE_y _h13 (by omega) (derW_end hw (by omega))]; exact hx)
      exact ret_intro [_, _] (resOf_loadA _m_20 rfl agg26 sz26 ⟨rfl, trivial⟩) ⟨(.slice none 0 0), (congrArg (fun zq => (Value.tuple #[.agg #[(.slice none 0 0)], .bool zq])) (by first | (rw [dwE_n1 (fun c => by first | exact Bool.noConfusion (c.1.symm.trans _h13) | (have c2 := c.2; omega))]; done) | (rw [dwE_n2 _h13 (by omega) (derW_none hw _hy33 _h39)]; done) | (rw [dwE_y _h13 (by omega) (derW_end hw (by omega))]; done))), _o_21, (Lo.nil _), E⟩
    · have _kb_16 := _h18
      have _h18 := bf_d _h18
      refine W_skip ?_
      refine thn_nrm (_hK_4 _ _ ?_)
      clear _hK_4
      refine W_seq fun _K_22 _hK_22 => ?_
      refine W_region ?_
      refine WL_step rfl rfl (r_fieldAddr fa26_0 rfl) ?_
      refine WL_step rfl rfl (r_loadAt _f_15.at_ agg24 rfl rfl) ?_
      refine WL_s rfl rfl ?_
      have _f_23 := (_f_7.ch0 _cw_8)
      refine Step.call (r_call (xs := [.tmp 21]) fk31 rfl) (c_spec_l8Copy _f_23 (by omega)) fun _v22 _w_24 _q22 => ?_
      obtain ⟨_u22, rfl, _q22, _lo22, _cw_24⟩ := _q22
      have _cw_24z := _cw_24.size
      have E := E.trans _cw_24
      obtain ⟨_Au22, _Cu22, _eu22⟩ := _q22.val
      subst _eu22
      have _lu22 := _q22.len
      have _hiu22 := _q22.lt
      refine WL_s rfl rfl ?_
      refine s_alloc zr26 fun _b6 _w_25 _m6 _cw_25 _e6 => ?_
      have _cw_25z := _cw_25.size
      have E := E.trans _cw_25
      have _z6 := _m6.lt
      replace _m6 : Blk _w_25 _b6 26 [(.slice none 0 0)] := _m6
      refine WL_s rfl rfl ?_
      refine s_storeA (off := 0) 1 _m6 sz26 rfl (us := [(.slice _Au22 (e).length _Cu22)]) rfl rfl rfl rfl fun _w_26 _m_27 _cw_26 => ?_
      have _cw_26z := _cw_26.size
      have E := E.step _cw_26 (fun i hi => .inl (by have _h1 := List.mem_singleton.1 hi; omega))
      replace _m_27 : Blk _w_26 _b6 26 [(.slice _Au22 (e).length _Cu22)] := _m_27
      refine WL_nil ?_
      refine thn_nrm (_hK_22 _ _ ?_)
      clear _hK_22
      refine W_seq fun _K_28 _hK_28 => ?_
      refine W_seq fun _K_29 _hK_29 => ?_
      refine W_region ?_
      refine WL_step rfl rfl (r_assign rfl) ?_
      refine WL_nil ?_
      refine thn_nrm (_hK_29 _ _ ?_)
      clear _hK_29
      refine W_block ?_
      have _f_30 := ((_q22.ch0 _cw_25).ch _cw_26 (fun g hg hm => by have _h0 := List.mem_singleton.1 hm; have _h2 := _lo22 _ hg; have _h3 := _hiu22 _ hg; omega))
      have _oi_31 : Ol Token.cs 52 4 _w_26 (.slice _Au22 (e).length _Cu22) (e) := by
        have hx := _f_30
        exact hx
      have _f_32 := ((((_m4.ch0 _cw_8).ch0 _cw_24).ch0 _cw_25).ch _cw_26 (fun hm => by have _h1 := List.mem_singleton.1 hm; omega))
      refine W_loop (σ := Nat × List Token × Value) (fun ⟨k, r, sv⟩ => [(1, (.slice _A_w9 w9.length _C_w9)), (4, (.pointer (some ⟨_b4, 0, none⟩))), (6, (.pointer (some ⟨_b6, 0, none⟩))), (7, (.int .i64 ((k : Nat) : Int)))]) (fun ⟨k, r, sv⟩ wx => Ch [] w wx ∧ _w_26.heap.size ≤ wx.heap.size ∧ (k ≤ w9.length) ∧ (derW e (w9.take k) = some r) ∧ Blk wx _b4 26 [(.slice none 0 0)] ∧ Ol Token.cs 52 4 wx sv r ∧ Lo _w_8.heap.size sv ∧ Blk wx _b6 26 [sv] ∧ (_b6 ∉ bl sv)) (fun ⟨k, r, sv⟩ => w9.length - k) (0, e, (.slice _Au22 (e).length _Cu22)) (Sub.cons rfl (Sub.cons rfl (Sub.cons rfl (Sub.cons rfl (Sub.nil _))))) ⟨E, (Nat.le_refl _), (by omega), rfl, _f_32, _oi_31, _lo22, _m_27, (fun hm => by have _h1 := _lo22 _ hm; have _h2 := _hiu22 _ hm; omega)⟩ ?_
      rintro ⟨k, r, sv⟩ _wr_33 ⟨E, _zz0, _hk, hw, _F0_1, _o0_6, _lo0_6, _m0_6, _nb0_6⟩
      have _E0h := E
      have _E0hz := _E0h.size
      have _F0_1z := _F0_1.lt
      obtain ⟨Asv, Csv, esv⟩ := _o0_6.val
      subst esv
      have lsv := _o0_6.len
      have hisv := _o0_6.lt
      refine W_seq fun _K_34 _hK_34 => ?_
      refine W_seq fun _K_35 _hK_35 => ?_
      refine W_region ?_
      refine WL_step rfl rfl (r_move rfl) ?_
      refine WL_step rfl rfl (r_move rfl) ?_
      refine WL_step rfl rfl (r_len (by rw [el27]; rfl) rfl) ?_
      refine WL_step rfl rfl (r_lss rfl rfl) ?_
      refine WL_nil ?_
      refine thn_nrm (_hK_35 _ _ ?_)
      clear _hK_35
      refine W_cond rfl (fun _h26 => ?_) (fun _h26 => ?_)
      · have _kb_36 := _h26
        have _h26 := bt_d _h26
        refine W_skip ?_
        refine thn_nrm (_hK_34 _ _ ?_)
        clear _hK_34
        refine W_seq fun _K_37 _hK_37 => ?_
        refine W_block ?_
        refine W_seq fun _K_38 _hK_38 => ?_
        refine W_drawC [] 12 mixed rfl fun _w_39 _cw_39 => ?_
        have _cw_39z := _cw_39.size
        have E := E.trans _cw_39
        have _f_40 := (_m0_6.ch0 _cw_39)
        refine DR_s 0 rfl (by kernel_rfl) rfl rfl (t_loadAtA0 _f_40.at_ (fun i hi => absurd hi List.not_mem_nil) agg26 sz26 rfl ?_)
        refine DR_s 1 rfl (by kernel_rfl) rfl rfl (t_v (fun _ => (r_move rfl)) ?_)
        refine DR_s 2 rfl (by kernel_rfl) rfl rfl (t_v (fun _ => (r_move rfl)) ?_)
        have _f_41 := ((_h_w9.ch0 _E0h).ch0 _cw_39)
        refine DR_s 3 rfl (by kernel_rfl) rfl rfl (t_index _f_41 ics_len el27 sz3 rfl rfl rfl (by omega) fun _p33 _y33 _hy33 _a33 => ?_)
        refine DR_s 4 rfl (by kernel_rfl) rfl rfl (t_loadAt0 _a33 (fun i hi => absurd hi List.not_mem_nil) agg3 rfl rfl ?_)
        refine DR_two 5 9 (by kernel_rfl) ?_ ?_
        · refine DO_s rfl rfl rfl ?_
          have _f_42 := (_o0_6.ch0 _cw_39)
          refine Step.call (r_call (xs := [.tmp 30, .tmp 34]) fk16 rfl) (c_spec_Derivative _f_42.ls _ ) fun _v35 _w_43 _q35 => ?_
          obtain ⟨u35_0x0, rfl, _q_u35_0x0, _lo_u35_0x0, _cw_43⟩ := _q35
          have _cw_43z := _cw_43.size
          have E := E.trans _cw_43
          obtain ⟨Au35_0x0, Cu35_0x0, eu35_0x0⟩ := _q_u35_0x0.val
          subst eu35_0x0
          have lu35_0x0 := _q_u35_0x0.len
          have _hiu35_0x0 := _q_u35_0x0.lt
          have _S_44 : Ch [] _w_39 _w_43 := ((Ch.refl _ _).trans _cw_43)
          refine ⟨_S_44, ?_⟩
          refine DR_s 6 rfl (by kernel_rfl) rfl rfl (t_v (fun _ => (r_move rfl)) ?_)
          refine DR_s 7 rfl (by kernel_rfl) rfl rfl (t_v (fun _ => (r_extract rfl rfl)) ?_)
          refine DR_s 8 rfl (by kernel_rfl) rfl rfl (t_v (fun _ => (r_extract rfl rfl)) ?_)
          refine DR_one 9 (by kernel_rfl) ?_
          refine DO_s rfl rfl rfl ?_
          refine s_alloc zr26 fun _b8 _w_45 _m8 _cw_45 _e8 => ?_
          have _cw_45z := _cw_45.size
          have E := E.trans _cw_45
          have _z8 := _m8.lt
          replace _m8 : Blk _w_45 _b8 26 [(.slice none 0 0)] := _m8
          have _S_46 : Ch [] _w_39 _w_45 := (_S_44.trans _cw_45)
          refine ⟨_S_46, ?_⟩
          refine DR_one 10 (by kernel_rfl) ?_
          refine DO_s rfl rfl rfl ?_
          refine s_storeA (off := 0) 1 _m8 sz26 rfl (us := [(.slice Au35_0x0 ((derE r _y33).1).length Cu35_0x0)]) rfl rfl rfl rfl fun _w_47 _m_48 _cw_47 => ?_
          have _cw_47z := _cw_47.size
          have E := E.step _cw_47 (fun i hi => .inl (by have _h1 := List.mem_singleton.1 hi; omega))
          replace _m_48 : Blk _w_47 _b8 26 [(.slice Au35_0x0 ((derE r _y33).1).length Cu35_0x0)] := _m_48
          have _S_49 : Ch [] _w_39 _w_47 := (_S_46.step _cw_47 (fun i hm => by have _h0 := List.mem_singleton.1 hm; left; omega))
          refine ⟨_S_49, ?_⟩
          refine DR_s 11 rfl (by kernel_rfl) rfl rfl (t_v (fun _ => (r_assign rfl)) ?_)
          refine DR_done (by kernel_rfl) ?_
          refine thn_nrm (_hK_38 _ _ ?_)
          clear _hK_38
          refine W_seq fun _K_50 _hK_50 => ?_
          refine W_seq fun _K_51 _hK_51 => ?_
          refine W_region ?_
          refine WL_step rfl rfl (r_move rfl) ?_
          refine WL_step rfl rfl (r_not rfl) ?_
          refine WL_nil ?_
          refine thn_nrm (_hK_51 _ _ ?_)
          clear _hK_51
          refine W_cond rfl (fun _h39 => ?_) (fun _h39 => ?_)
          · have _kb_52 := _h39
            have _h39 := bt_n _h39
            refine W_seq fun _K_53 _hK_53 => ?_
            refine W_region ?_
            refine WL_step rfl rfl (r_build (parts := []) (cells := [(.slice none 0 0)]) zr26 pl26 rfl rfl) ?_
            refine WL_s rfl rfl ?_
            have _f_54 := ((((_F0_1.ch0 _cw_39).ch0 _cw_43).ch0 _cw_45).ch _cw_47 (fun hm => by have _h1 := List.mem_singleton.1 hm; omega))
            refine s_storeA (off := 0) 1 _f_54 sz26 rfl (us := [(.slice none 0 0)]) rfl rfl rfl rfl fun _w_55 _m_56 _cw_55 => ?_
            have _cw_55z := _cw_55.size
            have E := E.step _cw_55 (fun i hi => .inl (by have _h1 := List.mem_singleton.1 hi; omega))
            replace _m_56 : Blk _w_55 _b4 26 [(.slice none 0 0)] := _m_56
            refine WL_step rfl rfl (r_assign rfl) ?_
            refine WL_nil ?_
            refine thn_nrm (_hK_53 _ _ ?_)
            clear _hK_53
            refine W_ret (thn_ret (inB_ret (thn_ret (thn_ret (inB_ret (thn_ret ?_))))))
            clear _hK_28 _hK_37 _hK_50
            have _o_57 : Ol Token.cs 52 4 _w_55 (.slice none 0 0) ((dwE e w9).1) := by
              have hx := (Ol.nil (cs := Token.cs) (e := 52) (k := 4) _w_55)
              first | (rw [dwE_n1 (fun c => by first | exact Bool.noConfusion (c.1.symm.trans _h13) | (have c2 := c.2; omega))]; exact hx) | (rw [dwE_n2 _h13 (by omega) (derW_none hw _hy33 _h39)]; exact hx) | (rw [dwE_y _h13 (by omega) (derW_end hw (by omega))]; exact hx)
            exact ret_intro [_, _] (resOf_loadA _m_56 rfl agg26 sz26 ⟨rfl, trivial⟩) ⟨(.slice none 0 0), (congrArg (fun zq => (Value.tuple #[.agg #[(.slice none 0 0)], .bool zq])) (by first | (rw [dwE_n1 (fun c => by first | exact Bool.noConfusion (c.1.symm.trans _h13) | (have c2 := c.2; omega))]; done) | (rw [dwE_n2 _h13 (by omega) (derW_none hw _hy33 _h39)]; done) | (rw [dwE_y _h13 (by omega) (derW_end hw (by omega))]; done))), _o_57, (Lo.nil _), E⟩
          · have _kb_52 := _h39
            have _h39 := bf_n _h39
            refine W_skip ?_
            refine thn_nrm (_hK_50 _ _ ?_)
            clear _hK_50
            refine W_region ?_
            refine WL_step rfl rfl (r_loadAtA0 _m_48.at_ agg26 sz26 rfl) ?_
            refine WL_s rfl rfl ?_
            have _f_58 := (((_f_40.ch0 _cw_43).ch0 _cw_45).ch _cw_47 (fun hm => by have _h1 := List.mem_singleton.1 hm; omega))
            refine s_storeA (off := 0) 1 _f_58 sz26 rfl (us := [(.slice Au35_0x0 ((derE r _y33).1).length Cu35_0x0)]) rfl rfl rfl rfl fun _w_59 _m_60 _cw_59 => ?_
            have _cw_59z := _cw_59.size
            have E := E.step _cw_59 (fun i hi => .inl (by have _h1 := List.mem_singleton.1 hi; omega))
            replace _m_60 : Blk _w_59 _b6 26 [(.slice Au35_0x0 ((derE r _y33).1).length Cu35_0x0)] := _m_60
            refine WL_nil ?_
            refine inB_nrm ?_
            refine thn_nrm (_hK_37 _ _ ?_)
            clear _hK_37
            refine W_region ?_
            refine WL_step rfl rfl (r_move rfl) ?_
            refine WL_step rfl rfl (r_add (by omega) rfl rfl) ?_
            refine WL_step rfl rfl (r_assign rfl) ?_
            refine WL_nil ?_
            have _f_62 := (((_q_u35_0x0.ch0 _cw_45).ch _cw_47 (fun g hg hm => by have _h0 := List.mem_singleton.1 hm; have _h2 := _lo_u35_0x0 _ hg; have _h3 := _hiu35_0x0 _ hg; omega)).ch _cw_59 (fun g hg hm => by have _h0 := List.mem_singleton.1 hm; have _h2 := _lo_u35_0x0 _ hg; have _h3 := _hiu35_0x0 _ hg; omega))
            have _on_61 : Ol Token.cs 52 4 _w_59 (.slice Au35_0x0 ((derE r _y33).1).length Cu35_0x0) ((derE r _y33).1) := by
              have hx := _f_62
              exact hx
            have _f_63 := (((((_F0_1.ch0 _cw_39).ch0 _cw_43).ch0 _cw_45).ch _cw_47 (fun hm => by have _h1 := List.mem_singleton.1 hm; omega)).ch _cw_59 (fun hm => by have _h1 := List.mem_singleton.1 hm; omega))
            exact thn_nrm (Exists.intro ((k + 1), (derE r _y33).1, (.slice Au35_0x0 ((derE r _y33).1).length Cu35_0x0)) ⟨⟨E, (by omega), (by omega), (by rw [derW_step hw _hy33, if_pos _h39]), _f_63, _on_61, (Lo.down _lo_u35_0x0 (by omega)), _m_60, (fun hm => by have _h1 := _lo_u35_0x0 _ hm; have _h2 := _hiu35_0x0 _ hm; omega)⟩, Sub.cons rfl (Sub.cons rfl (Sub.cons rfl (Sub.cons rfl (Sub.nil _)))), (by first | omega | (dsimp only; omega))⟩)
        · refine DO_s rfl rfl rfl ?_
          refine s_alloc zr26 fun _b8 _w_64 _m8 _cw_64 _e8 => ?_
          have _cw_64z := _cw_64.size
          have E := E.trans _cw_64
          have _z8 := _m8.lt
          replace _m8 : Blk _w_64 _b8 26 [(.slice none 0 0)] := _m8
          have _S_65 : Ch [] _w_39 _w_64 := ((Ch.refl _ _).trans _cw_64)
          refine ⟨_S_65, ?_⟩
          refine DR_one 5 (by kernel_rfl) ?_
          refine DO_s rfl rfl rfl ?_
          have _f_66 := ((_o0_6.ch0 _cw_39).ch0 _cw_64)
          refine Step.call (r_call (xs := [.tmp 30, .tmp 34]) fk16 rfl) (c_spec_Derivative _f_66.ls _ ) fun _v35 _w_67 _q35 => ?_
          obtain ⟨u35_0x0, rfl, _q_u35_0x0, _lo_u35_0x0, _cw_67⟩ := _q35
          have _cw_67z := _cw_67.size
          have E := E.trans _cw_67
          obtain ⟨Au35_0x0, Cu35_0x0, eu35_0x0⟩ := _q_u35_0x0.val
          subst eu35_0x0
          have lu35_0x0 := _q_u35_0x0.len
          have _hiu35_0x0 := _q_u35_0x0.lt
          have _S_68 : Ch [] _w_39 _w_67 := (_S_65.trans _cw_67)
          refine ⟨_S_68, ?_⟩
          refine DR_s 6 rfl (by kernel_rfl) rfl rfl (t_v (fun _ => (r_move rfl)) ?_)
          refine DR_s 7 rfl (by kernel_rfl) rfl rfl (t_v (fun _ => (r_extract rfl rfl)) ?_)
          refine DR_s 8 rfl (by kernel_rfl) rfl rfl (t_v (fun _ => (r_extract rfl rfl)) ?_)
          refine DR_one 10 (by kernel_rfl) ?_
          refine DO_s rfl rfl rfl ?_
          have _f_69 := (_m8.ch0 _cw_67)
          refine s_storeA (off := 0) 1 _f_69 sz26 rfl (us := [(.slice Au35_0x0 ((derE r _y33).1).length Cu35_0x0)]) rfl rfl rfl rfl fun _w_70 _m_71 _cw_70 => ?_
          have _cw_70z := _cw_70.size
          have E := E.step _cw_70 (fun i hi => .inl (by have _h1 := List.mem_singleton.1 hi; omega))
          replace _m_71 : Blk _w_70 _b8 26 [(.slice Au35_0x0 ((derE r _y33).1).length Cu35_0x0)] := _m_71
          have _S_72 : Ch [] _w_39 _w_70 := (_S_68.step _cw_70 (fun i hm => by have _h0 := List.mem_singleton.1 hm; left; omega))
          refine ⟨_S_72, ?_⟩
          refine DR_s 11 rfl (by kernel_rfl) rfl rfl (t_v (fun _ => (r_assign rfl)) ?_)
          refine DR_done (by kernel_rfl) ?_
          refine thn_nrm (_hK_38 _ _ ?_)
          clear _hK_38
          refine W_seq fun _K_73 _hK_73 => ?_
          refine W_seq fun _K_74 _hK_74 => ?_
          refine W_region ?_
          refine WL_step rfl rfl (r_move rfl) ?_
          refine WL_step rfl rfl (r_not rfl) ?_
          refine WL_nil ?_
          refine thn_nrm (_hK_74 _ _ ?_)
          clear _hK_74
          refine W_cond rfl (fun _h39 => ?_) (fun _h39 => ?_)
          · have _kb_75 := _h39
            have _h39 := bt_n _h39
            refine W_seq fun _K_76 _hK_76 => ?_
            refine W_region ?_
            refine WL_step rfl rfl (r_build (parts := []) (cells := [(.slice none 0 0)]) zr26 pl26 rfl rfl) ?_
            refine WL_s rfl rfl ?_
            have _f_77 := ((((_F0_1.ch0 _cw_39).ch0 _cw_64).ch0 _cw_67).ch _cw_70 (fun hm => by have _h1 := List.mem_singleton.1 hm; omega))
            refine s_storeA (off := 0) 1 _f_77 sz26 rfl (us := [(.slice none 0 0)]) rfl rfl rfl rfl fun _w_78 _m_79 _cw_78 => ?_
            have _cw_78z := _cw_78.size
            have E := E.step _cw_78 (fun i hi => .inl (by have _h1 := List.mem_singleton.1 hi; omega))
            replace _m_79 : Blk _w_78 _b4 26 [(.slice none 0 0)] := _m_79
            refine WL_step rfl rfl (r_assign rfl) ?_
            refine WL_nil ?_
            refine thn_nrm (_hK_76 _ _ ?_)
            clear _hK_76
            refine W_ret (thn_ret (inB_ret (thn_ret (thn_ret (inB_ret (thn_ret ?_))))))
            clear _hK_28 _hK_37 _hK_73
            have _o_80 : Ol Token.cs 52 4 _w_78 (.slice none 0 0) ((dwE e w9).1) := by
              have hx := (Ol.nil (cs := Token.cs) (e := 52) (k := 4) _w_78)
              first | (rw [dwE_n1 (fun c => by first | exact Bool.noConfusion (c.1.symm.trans _h13) | (have c2 := c.2; omega))]; exact hx) | (rw [dwE_n2 _h13 (by omega) (derW_none hw _hy33 _h39)]; exact hx) | (rw [dwE_y _h13 (by omega) (derW_end hw (by omega))]; exact hx)
            exact ret_intro [_, _] (resOf_loadA _m_79 rfl agg26 sz26 ⟨rfl, trivial⟩) ⟨(.slice none 0 0), (congrArg (fun zq => (Value.tuple #[.agg #[(.slice none 0 0)], .bool zq])) (by first | (rw [dwE_n1 (fun c => by first | exact Bool.noConfusion (c.1.symm.trans _h13) | (have c2 := c.2; omega))]; done) | (rw [dwE_n2 _h13 (by omega) (derW_none hw _hy33 _h39)]; done) | (rw [dwE_y _h13 (by omega) (derW_end hw (by omega))]; done))), _o_80, (Lo.nil _), E⟩
          · have _kb_75 := _h39
            have _h39 := bf_n _h39
            refine W_skip ?_
            refine thn_nrm (_hK_73 _ _ ?_)
            clear _hK_73
            refine W_region ?_
            refine WL_step rfl rfl (r_loadAtA0 _m_71.at_ agg26 sz26 rfl) ?_
            refine WL_s rfl rfl ?_
            have _f_81 := (((_f_40.ch0 _cw_64).ch0 _cw_67).ch _cw_70 (fun hm => by have _h1 := List.mem_singleton.1 hm; omega))
            refine s_storeA (off := 0) 1 _f_81 sz26 rfl (us := [(.slice Au35_0x0 ((derE r _y33).1).length Cu35_0x0)]) rfl rfl rfl rfl fun _w_82 _m_83 _cw_82 => ?_
            have _cw_82z := _cw_82.size
            have E := E.step _cw_82 (fun i hi => .inl (by have _h1 := List.mem_singleton.1 hi; omega))
            replace _m_83 : Blk _w_82 _b6 26 [(.slice Au35_0x0 ((derE r _y33).1).length Cu35_0x0)] := _m_83
            refine WL_nil ?_
            refine inB_nrm ?_
            refine thn_nrm (_hK_37 _ _ ?_)
            clear _hK_37
            refine W_region ?_
            refine WL_step rfl rfl (r_move rfl) ?_
            refine WL_step rfl rfl (r_add (by omega) rfl rfl) ?_
            refine WL_step rfl rfl (r_assign rfl) ?_
            refine WL_nil ?_
            have _f_85 := ((_q_u35_0x0.ch _cw_70 (fun g hg hm => by have _h0 := List.mem_singleton.1 hm; have _h2 := _lo_u35_0x0 _ hg; have _h3 := _hiu35_0x0 _ hg; omega)).ch _cw_82 (fun g hg hm => by have _h0 := List.mem_singleton.1 hm; have _h2 := _lo_u35_0x0 _ hg; have _h3 := _hiu35_0x0 _ hg; omega))
            have _on_84 : Ol Token.cs 52 4 _w_82 (.slice Au35_0x0 ((derE r _y33).1).length Cu35_0x0) ((derE r _y33).1) := by
              have hx := _f_85
              exact hx
            have _f_86 := (((((_F0_1.ch0 _cw_39).ch0 _cw_64).ch0 _cw_67).ch _cw_70 (fun hm => by have _h1 := List.mem_singleton.1 hm; omega)).ch _cw_82 (fun hm => by have _h1 := List.mem_singleton.1 hm; omega))
            exact thn_nrm (Exists.intro ((k + 1), (derE r _y33).1, (.slice Au35_0x0 ((derE r _y33).1).length Cu35_0x0)) ⟨⟨E, (by omega), (by omega), (by rw [derW_step hw _hy33, if_pos _h39]), _f_86, _on_84, (Lo.down _lo_u35_0x0 (by omega)), _m_83, (fun hm => by have _h1 := _lo_u35_0x0 _ hm; have _h2 := _hiu35_0x0 _ hm; omega)⟩, Sub.cons rfl (Sub.cons rfl (Sub.cons rfl (Sub.cons rfl (Sub.nil _)))), (by first | omega | (dsimp only; omega))⟩)
      · have _kb_36 := _h26
        have _h26 := bf_d _h26
        refine W_exit (thn_exit (thn_exit (inB_hit ?_)))
        refine thn_nrm (_hK_28 _ _ ?_)
        clear _hK_28
        refine W_seq fun _K_87 _hK_87 => ?_
        refine W_region ?_
        refine WL_step rfl rfl (r_loadAtA0 _m0_6.at_ agg26 sz26 rfl) ?_
        refine WL_s rfl rfl ?_
        refine s_storeA (off := 0) 1 _F0_1 sz26 rfl (us := [(.slice Asv (r).length Csv)]) rfl rfl rfl rfl fun _w_88 _m_89 _cw_88 => ?_
        have _cw_88z := _cw_88.size
        have E := E.step _cw_88 (fun i hi => .inl (by have _h1 := List.mem_singleton.1 hi; omega))
        replace _m_89 : Blk _w_88 _b4 26 [(.slice Asv (r).length Csv)] := _m_89
        refine WL_step rfl rfl (r_assign rfl) ?_
        refine WL_nil ?_
        refine thn_nrm (_hK_87 _ _ ?_)
        clear _hK_87
        refine W_ret ?_
        clear _hK_34
        have _f_90 := (_o0_6.ch _cw_88 (fun g hg hm => by have _h0 := List.mem_singleton.1 hm; have _h2 := _lo0_6 _ hg; have _h3 := hisv _ hg; omega))
        have _o_91 : Ol Token.cs 52 4 _w_88 (.slice Asv (r).length Csv) ((dwE e w9).1) := by
          have hx := _f_90
          first | (rw [dwE_n1 (fun c => by first | exact Bool.noConfusion (c.1.symm.trans _h13) | (have c2 := c.2; omega))]; exact hx) | (rw [dwE_n2 _h13 (by omega) (derW_none hw _hy33 _h39)]; exact hx) | (rw [dwE_y _h13 (by omega) (derW_end hw (by omega))]; exact hx)
        exact ret_intro [_, _] (resOf_loadA _m_89 rfl agg26 sz26 ⟨rfl, trivial⟩) ⟨(.slice Asv (r).length Csv), (congrArg (fun zq => (Value.tuple #[.agg #[(.slice Asv (r).length Csv)], .bool zq])) (by first | (rw [dwE_n1 (fun c => by first | exact Bool.noConfusion (c.1.symm.trans _h13) | (have c2 := c.2; omega))]; done) | (rw [dwE_n2 _h13 (by omega) (derW_none hw _hy33 _h39)]; done) | (rw [dwE_y _h13 (by omega) (derW_end hw (by omega))]; done))), _o_91, (Lo.down _lo0_6 (by omega)), E⟩

/-- spec.l1New -/
theorem c_spec_l1New {w : World} {LL_code _B_code : Nat} {_v_code : Value} {code : List Int} (_h_code : Ls ucs 1 w LL_code _B_code _v_code code) (hb : code.length ≤ 4194304) :
    Ctr Tryz.prog 20 #[_v_code] w (fun v w' => ∃ b, v = .pointer (some ⟨b, 0, none⟩) ∧ Cu w' b ∧ w.heap.size ≤ b ∧ Ch [] w w') := by
  obtain ⟨_A_code, _C_code, _e1_code⟩ := _h_code.val
  subst _e1_code
  have _l_code := _h_code.len
  have _h_code := _h_code.here (by decide)
  have E := Ch.refl [] w
  refine Ctr_of_W (N := 32) (vs0 := [(.slice _A_code code.length _C_code)]) Tryz.func20 rfl rfl rfl ?_
  refine W_seq fun _K_1 _hK_1 => ?_
  refine W_region ?_
  refine WL_step rfl rfl (r_assign rfl) ?_
  refine WL_nil ?_
  refine thn_nrm (_hK_1 _ _ ?_)
  clear _hK_1
  refine W_seq fun _K_2 _hK_2 => ?_
  refine W_region ?_
  refine WL_step rfl rfl (r_move rfl) ?_
  refine WL_step rfl rfl (r_len (by rw [el22]; rfl) rfl) ?_
  refine WL_step rfl rfl (r_add (by omega) rfl rfl) ?_
  refine WL_step rfl rfl (r_assign rfl) ?_
  refine WL_nil ?_
  refine thn_nrm (_hK_2 _ _ ?_)
  clear _hK_2
  refine W_seq fun _K_3 _hK_3 => ?_
  refine W_seq fun _K_4 _hK_4 => ?_
  refine W_region ?_
  refine WL_step rfl rfl (r_assign rfl) ?_
  refine WL_nil ?_
  refine thn_nrm (_hK_4 _ _ ?_)
  clear _hK_4
  refine W_block ?_
  refine W_loop (σ := Nat × Int) (fun ⟨i, h⟩ => [(0, (.slice _A_code code.length _C_code)), (2, (.pointer none)), (3, (.int .i64 h)), (4, (.int .i64 ((i : Nat) : Int)))]) (fun ⟨i, h⟩ wx => Ch [] w wx ∧ w.heap.size ≤ wx.heap.size ∧ (i ≤ code.length)) (fun ⟨i, h⟩ => code.length - i) (0, (10101 + ((code.length : Nat) : Int))) (Sub.cons rfl (Sub.cons rfl (Sub.cons rfl (Sub.cons rfl (Sub.nil _))))) ⟨E, (Nat.le_refl _), (by omega)⟩ ?_
  rintro ⟨i, h⟩ _wr_5 ⟨E, _zz0, hi⟩
  have _E0h := E
  have _E0hz := _E0h.size
  refine W_seq fun _K_6 _hK_6 => ?_
  refine W_seq fun _K_7 _hK_7 => ?_
  refine W_region ?_
  refine WL_step rfl rfl (r_move rfl) ?_
  refine WL_step rfl rfl (r_move rfl) ?_
  refine WL_step rfl rfl (r_len (by rw [el22]; rfl) rfl) ?_
  refine WL_step rfl rfl (r_lss rfl rfl) ?_
  refine WL_step rfl rfl (r_move rfl) ?_
  refine WL_split (d := 12) rfl (fun _h12 => ?_) (fun _h12 => ?_)
  · have _kb_8 := _h12
    have _h12 := bt_d _h12
    refine WL_step rfl rfl (r_move rfl) ?_
    refine WL_step rfl rfl (r_lss rfl rfl) ?_
    refine WL_step rfl rfl (r_pickT rfl rfl) ?_
    refine WL_nil ?_
    refine thn_nrm (_hK_7 _ _ ?_)
    clear _hK_7
    refine W_cond rfl (fun _h15 => ?_) (fun _h15 => ?_)
    · have _kb_9 := _h15
      have _h15 := bt_d _h15
      refine W_skip ?_
      refine thn_nrm (_hK_6 _ _ ?_)
      clear _hK_6
      refine W_seq fun _K_10 _hK_10 => ?_
      refine W_block ?_
      refine W_region ?_
      refine WL_step rfl rfl (r_move rfl) ?_
      refine WL_step rfl rfl (r_mul64 rfl rfl) ?_
      refine WL_step rfl rfl (r_move rfl) ?_
      refine WL_step rfl rfl (r_move rfl) ?_
      refine WL_s rfl rfl ?_
      have _f_11 := (_h_code.ch0 _E0h)
      refine (s_index _f_11 ucs_len el22 sz5 rfl rfl rfl (by omega) fun _p22 _y22 _hy22 _a22 => ?_)
      refine WL_step rfl rfl (r_loadAt0 _a22 agg5 rfl rfl) ?_
      refine WL_step rfl rfl (r_convert (by rw [un5]; rfl) un3 rfl) ?_
      refine WL_step rfl rfl (r_add64 rfl rfl) ?_
      refine WL_step rfl rfl (r_add64 rfl rfl) ?_
      refine WL_step rfl rfl (r_and rfl rfl) ?_
      refine WL_step rfl rfl (r_assign rfl) ?_
      refine WL_nil ?_
      refine inB_nrm ?_
      refine thn_nrm (_hK_10 _ _ ?_)
      clear _hK_10
      refine W_region ?_
      refine WL_step rfl rfl (r_move rfl) ?_
      refine WL_step rfl rfl (r_add (by omega) rfl rfl) ?_
      refine WL_step rfl rfl (r_assign rfl) ?_
      refine WL_nil ?_
      exact thn_nrm (Exists.intro ((i + 1), (iand (w64 ((w64 ((w64 (h * 131)) + (w64 _y22))) + 7)) 1073741823)) ⟨⟨E, (by omega), (by omega)⟩, Sub.cons rfl (Sub.cons rfl (Sub.cons rfl (Sub.cons rfl (Sub.nil _)))), (by first | omega | (dsimp only; omega))⟩)
    · have _kb_9 := _h15
      have _h15 := bf_d _h15
      refine W_exit (thn_exit (thn_exit (inB_hit ?_)))
      refine thn_nrm (_hK_3 _ _ ?_)
      clear _hK_3
      refine W_seq fun _K_12 _hK_12 => ?_
      refine W_region ?_
      refine WL_step rfl rfl (r_move rfl) ?_
      refine WL_step rfl rfl (r_move rfl) ?_
      refine WL_step rfl rfl (r_build (parts := [(0, .tmp 28), (2, .tmp 29)]) (cells := [(.slice _A_code code.length _C_code), (.int .i64 0), (.int .i64 h)]) zr60 pl60 rfl rfl) ?_
      refine WL_s rfl rfl ?_
      refine s_box rfl fun _b31 _w_13 _m31 _cw_13 _e31 => ?_
      have _cw_13z := _cw_13.size
      have E := E.trans _cw_13
      have _z31 := _m31.lt
      replace _m31 : Blk _w_13 _b31 60 [(.slice _A_code code.length _C_code), (.int .i64 0), (.int .i64 h)] := _m31
      refine WL_step rfl rfl (r_assign rfl) ?_
      refine WL_nil ?_
      refine thn_nrm (_hK_12 _ _ ?_)
      clear _hK_12
      refine W_ret ?_
      clear _hK_6
      have _f_14 := ((_h_code.ch0 _E0h).ch0 _cw_13)
      exact ret_intro [_] ⟨rfl, trivial⟩ ⟨_, rfl, ⟨_, _, _, _, _, _m31, _f_14.up (by omega) (by omega), (by omega), (by omega)⟩, (by omega), E⟩
  · have _kb_8 := _h12
    have _h12 := bf_d _h12
    refine WL_skip rfl rfl ?_
    refine WL_skip rfl rfl ?_
    refine WL_step rfl rfl (r_pickF rfl rfl) ?_
    refine WL_nil ?_
    refine thn_nrm (_hK_7 _ _ ?_)
    clear _hK_7
    refine W_condF rfl ?_
    refine W_exit (thn_exit (thn_exit (inB_hit ?_)))
    refine thn_nrm (_hK_3 _ _ ?_)
    clear _hK_3
    refine W_seq fun _K_15 _hK_15 => ?_
    refine W_region ?_
    refine WL_step rfl rfl (r_move rfl) ?_
    refine WL_step rfl rfl (r_move rfl) ?_
    refine WL_step rfl rfl (r_build (parts := [(0, .tmp 28), (2, .tmp 29)]) (cells := [(.slice _A_code code.length _C_code), (.int .i64 0), (.int .i64 h)]) zr60 pl60 rfl rfl) ?_
    refine WL_s rfl rfl ?_
    refine s_box rfl fun _b31 _w_16 _m31 _cw_16 _e31 => ?_
    have _cw_16z := _cw_16.size
    have E := E.trans _cw_16
    have _z31 := _m31.lt
    replace _m31 : Blk _w_16 _b31 60 [(.slice _A_code code.length _C_code), (.int .i64 0), (.int .i64 h)] := _m31
    refine WL_step rfl rfl (r_assign rfl) ?_
    refine WL_nil ?_
    refine thn_nrm (_hK_15 _ _ ?_)
    clear _hK_15
    refine W_ret ?_
    clear _hK_6
    have _f_17 := ((_h_code.ch0 _E0h).ch0 _cw_16)
    exact ret_intro [_] ⟨rfl, trivial⟩ ⟨_, rfl, ⟨_, _, _, _, _, _m31, _f_17.up (by omega) (by omega), (by omega), (by omega)⟩, (by omega), E⟩

/-- spec.l1Byte -/
theorem c_spec_l1Byte {w : World} {b_c : Nat} (_h_c : Cu w b_c) :
    Ctr Tryz.prog 70 #[(.pointer (some ⟨b_c, 0, none⟩))] w (fun v w' => ∃ (xq0 : Int) , v = .int .i64 xq0 ∧ (0 ≤ xq0 ∧ xq0 ≤ 255) ∧ Cu w' b_c ∧ Ch [b_c] w w') := by
  obtain ⟨_v_c, x_c, t_c, i_c, k_c, m_c, _q_c, g1_c, g2_c⟩ := _h_c
  obtain ⟨_A_c, _C_c, _e1_c⟩ := _q_c.val
  subst _e1_c
  have _l_c := _q_c.len
  have _zb_c := m_c.lt
  have E := Ch.refl [b_c] w
  refine Ctr_of_W (N := 58) (vs0 := [(.pointer (some ⟨b_c, 0, none⟩))]) Tryz.func70 rfl rfl rfl ?_
  refine W_seq fun _K_1 _hK_1 => ?_
  refine W_region ?_
  refine WL_step rfl rfl (r_assign rfl) ?_
  refine WL_nil ?_
  refine thn_nrm (_hK_1 _ _ ?_)
  clear _hK_1
  refine W_seq fun _K_2 _hK_2 => ?_
  refine W_region ?_
  refine WL_step rfl rfl (r_move rfl) ?_
  refine WL_step rfl rfl (r_move rfl) ?_
  refine WL_step rfl rfl (r_nilCheck rfl) ?_
  refine WL_step rfl rfl (r_fieldAddr fa60_2 rfl) ?_
  refine WL_step rfl rfl (r_loadAt m_c.at_ agg3 rfl rfl) ?_
  refine WL_step rfl rfl (r_mul64 rfl rfl) ?_
  refine WL_step rfl rfl (r_add64 rfl rfl) ?_
  refine WL_step rfl rfl (r_nilCheck rfl) ?_
  refine WL_step rfl rfl (r_fieldAddr fa60_2 rfl) ?_
  refine WL_s rfl rfl ?_
  refine s_store1 (off := 2) m_c sz3 rfl rfl rfl rfl fun _w_3 _m_4 _cw_3 => ?_
  have _cw_3z := _cw_3.size
  have E := E.trans _cw_3
  replace _m_4 : Blk _w_3 b_c t_c [(.slice _A_c x_c.length _C_c), (.int .i64 i_c), (.int .i64 (w64 ((w64 (k_c * 6364136223846793005)) + 1442695040888963407)))] := _m_4
  refine WL_nil ?_
  refine thn_nrm (_hK_2 _ _ ?_)
  clear _hK_2
  refine W_seq fun _K_5 _hK_5 => ?_
  refine W_drawC [] 13 mixed rfl fun _w_6 _cw_6 => ?_
  have _cw_6z := _cw_6.size
  have E := E.trans _cw_6.of_nil
  refine DR_s 0 rfl (by kernel_rfl) rfl rfl (t_v (fun _ => (r_move rfl)) ?_)
  refine DR_s 1 rfl (by kernel_rfl) rfl rfl (t_v (fun _ => (r_nilCheck rfl)) ?_)
  refine DR_s 2 rfl (by kernel_rfl) rfl rfl (t_v (fun _ => (r_fieldAddr fa60_2 rfl)) ?_)
  have _f_7 := (_m_4.ch0 _cw_6)
  refine DR_s 3 rfl (by kernel_rfl) rfl rfl (t_loadAt _f_7.at_ (fun i hi => absurd hi List.not_mem_nil) agg3 rfl rfl ?_)
  refine DR_s 4 rfl (by kernel_rfl) rfl rfl (t_v (fun _ => (r_shr (by omega) rfl rfl)) ?_)
  refine DR_s 5 rfl (by kernel_rfl) rfl rfl (t_v (fun _ => (r_move rfl)) ?_)
  refine DR_s 6 rfl (by kernel_rfl) rfl rfl (t_v (fun _ => (r_nilCheck rfl)) ?_)
  refine DR_s 7 rfl (by kernel_rfl) rfl rfl (t_v (fun _ => (r_fieldAddr fa60_2 rfl)) ?_)
  refine DR_s 8 rfl (by kernel_rfl) rfl rfl (t_loadAt _f_7.at_ (fun i hi => absurd hi List.not_mem_nil) agg3 rfl rfl ?_)
  refine DR_s 9 rfl (by kernel_rfl) rfl rfl (t_v (fun _ => (r_shr (by omega) rfl rfl)) ?_)
  refine DR_s 10 rfl (by kernel_rfl) rfl rfl (t_v (fun _ => (r_xor rfl rfl)) ?_)
  refine DR_s 11 rfl (by kernel_rfl) rfl rfl (t_v (fun _ => (r_and rfl rfl)) ?_)
  refine DR_s 12 rfl (by kernel_rfl) rfl rfl (t_v (fun _ => (r_assign rfl)) ?_)
  refine DR_done (by kernel_rfl) ?_
  refine thn_nrm (_hK_5 _ _ ?_)
  clear _hK_5
  refine W_seq fun _K_8 _hK_8 => ?_
  refine W_seq fun _K_9 _hK_9 => ?_
  refine W_drawC [] 10 mixed rfl fun _w_10 _cw_10 => ?_
  have _cw_10z := _cw_10.size
  have E := E.trans _cw_10.of_nil
  refine DR_s 0 rfl (by kernel_rfl) rfl rfl (t_v (fun _ => (r_move rfl)) ?_)
  refine DR_s 1 rfl (by kernel_rfl) rfl rfl (t_v (fun _ => (r_nilCheck rfl)) ?_)
  refine DR_s 2 rfl (by kernel_rfl) rfl rfl (t_v (fun _ => (r_fieldAddr fa60_1 rfl)) ?_)
  have _f_11 := (_f_7.ch0 _cw_10)
  refine DR_s 3 rfl (by kernel_rfl) rfl rfl (t_loadAt _f_11.at_ (fun i hi => absurd hi List.not_mem_nil) agg3 rfl rfl ?_)
  refine DR_s 4 rfl (by kernel_rfl) rfl rfl (t_v (fun _ => (r_move rfl)) ?_)
  refine DR_s 5 rfl (by kernel_rfl) rfl rfl (t_v (fun _ => (r_nilCheck rfl)) ?_)
  refine DR_s 6 rfl (by kernel_rfl) rfl rfl (t_v (fun _ => (r_fieldAddr fa60_0 rfl)) ?_)
  refine DR_s 7 rfl (by kernel_rfl) rfl rfl (t_loadAt _f_11.at_ (fun i hi => absurd hi List.not_mem_nil) agg22 rfl rfl ?_)
  refine DR_s 8 rfl (by kernel_rfl) rfl rfl (t_v (fun _ => (r_len (by rw [el22]; rfl) rfl)) ?_)
  refine DR_s 9 rfl (by kernel_rfl) rfl rfl (t_v (fun _ => (r_lss rfl rfl)) ?_)
  refine DR_done (by kernel_rfl) ?_
  refine thn_nrm (_hK_9 _ _ ?_)
  clear _hK_9
  refine W_cond rfl (fun _h34 => ?_) (fun _h34 => ?_)
  · have _kb_12 := _h34
    have _h34 := bt_d _h34
    refine W_seq fun _K_13 _hK_13 => ?_
    refine W_drawC [] 15 mixed rfl fun _w_14 _cw_14 => ?_
    have _cw_14z := _cw_14.size
    have E := E.trans _cw_14.of_nil
    refine DR_s 0 rfl (by kernel_rfl) rfl rfl (t_v (fun _ => (r_move rfl)) ?_)
    refine DR_s 1 rfl (by kernel_rfl) rfl rfl (t_v (fun _ => (r_move rfl)) ?_)
    refine DR_s 2 rfl (by kernel_rfl) rfl rfl (t_v (fun _ => (r_nilCheck rfl)) ?_)
    refine DR_s 3 rfl (by kernel_rfl) rfl rfl (t_v (fun _ => (r_fieldAddr fa60_0 rfl)) ?_)
    have _f_15 := (_f_11.ch0 _cw_14)
    refine DR_s 4 rfl (by kernel_rfl) rfl rfl (t_loadAt _f_15.at_ (fun i hi => absurd hi List.not_mem_nil) agg22 rfl rfl ?_)
    refine DR_s 5 rfl (by kernel_rfl) rfl rfl (t_v (fun _ => (r_move rfl)) ?_)
    refine DR_s 6 rfl (by kernel_rfl) rfl rfl (t_v (fun _ => (r_nilCheck rfl)) ?_)
    refine DR_s 7 rfl (by kernel_rfl) rfl rfl (t_v (fun _ => (r_fieldAddr fa60_1 rfl)) ?_)
    refine DR_s 8 rfl (by kernel_rfl) rfl rfl (t_loadAt _f_15.at_ (fun i hi => absurd hi List.not_mem_nil) agg3 rfl rfl ?_)
    have _f_16 := ((((_q_c.ch _cw_3 (fun i hi => by have _h1 := List.mem_singleton.1 hi; omega)).ch0 _cw_6).ch0 _cw_10).ch0 _cw_14)
    refine DR_s 9 rfl (by kernel_rfl) rfl rfl (t_index (j := i_c.toNat) _f_16 ucs_len el22 sz5 rfl rfl (by omega) (by omega) fun _p44 _y44 _hy44 _a44 => ?_)
    refine DR_s 10 rfl (by kernel_rfl) rfl rfl (t_loadAt0 _a44 (fun i hi => absurd hi List.not_mem_nil) agg5 rfl rfl ?_)
    refine DR_s 11 rfl (by kernel_rfl) rfl rfl (t_v (fun _ => (r_convert (by rw [un5]; rfl) un3 rfl)) ?_)
    refine DR_s 12 rfl (by kernel_rfl) rfl rfl (t_v (fun _ => (r_add64 rfl rfl)) ?_)
    refine DR_s 13 rfl (by kernel_rfl) rfl rfl (t_v (fun _ => (r_and rfl rfl)) ?_)
    refine DR_s 14 rfl (by kernel_rfl) rfl rfl (t_v (fun _ => (r_assign rfl)) ?_)
    refine DR_done (by kernel_rfl) ?_
    refine thn_nrm (_hK_13 _ _ ?_)
    clear _hK_13
    refine W_region ?_
    refine WL_step rfl rfl (r_move rfl) ?_
    refine WL_step rfl rfl (r_move rfl) ?_
    refine WL_step rfl rfl (r_nilCheck rfl) ?_
    refine WL_step rfl rfl (r_fieldAddr fa60_1 rfl) ?_
    refine WL_step rfl rfl (r_loadAt _f_15.at_ agg3 rfl rfl) ?_
    refine WL_step rfl rfl (r_add (by omega) rfl rfl) ?_
    refine WL_step rfl rfl (r_nilCheck rfl) ?_
    refine WL_step rfl rfl (r_fieldAddr fa60_1 rfl) ?_
    refine WL_s rfl rfl ?_
    refine s_store1 (off := 1) _f_15 sz3 rfl rfl rfl rfl fun _w_17 _m_18 _cw_17 => ?_
    have _cw_17z := _cw_17.size
    have E := E.trans _cw_17
    replace _m_18 : Blk _w_17 b_c t_c [(.slice _A_c x_c.length _C_c), (.int .i64 (i_c + 1)), (.int .i64 (w64 ((w64 (k_c * 6364136223846793005)) + 1442695040888963407)))] := _m_18
    refine WL_nil ?_
    refine thn_nrm (_hK_8 _ _ ?_)
    clear _hK_8
    refine W_seq fun _K_19 _hK_19 => ?_
    refine W_region ?_
    refine WL_step rfl rfl (r_move rfl) ?_
    refine WL_step rfl rfl (r_assign rfl) ?_
    refine WL_nil ?_
    refine thn_nrm (_hK_19 _ _ ?_)
    clear _hK_19
    refine W_ret ?_
    have _f_20 := (_f_16.ch _cw_17 (fun i hi => by have _h1 := List.mem_singleton.1 hi; omega))
    exact ret_intro [_] ⟨rfl, trivial⟩ ⟨(iand (w64 ((iand (ixor (ishr (w64 ((w64 (k_c * 6364136223846793005)) + 1442695040888963407)) 33) (ishr (w64 ((w64 (k_c * 6364136223846793005)) + 1442695040888963407)) 45)) 255) + (w64 _y44))) 255), (congrArg (fun zq => (Value.int .i64 zq)) (by first | rfl | simp_all)), (iand255 _), ⟨_, _, _, _, _, _m_18, _f_20, (by omega), (by omega)⟩, E⟩
  · have _kb_12 := _h34
    have _h34 := bf_d _h34
    refine W_skip ?_
    refine thn_nrm (_hK_8 _ _ ?_)
    clear _hK_8
    refine W_seq fun _K_21 _hK_21 => ?_
    refine W_region ?_
    refine WL_step rfl rfl (r_move rfl) ?_
    refine WL_step rfl rfl (r_assign rfl) ?_
    refine WL_nil ?_
    refine thn_nrm (_hK_21 _ _ ?_)
    clear _hK_21
    refine W_ret ?_
    have _f_22 := (((_q_c.ch _cw_3 (fun i hi => by have _h1 := List.mem_singleton.1 hi; omega)).ch0 _cw_6).ch0 _cw_10)
    exact ret_intro [_] ⟨rfl, trivial⟩ ⟨(iand (ixor (ishr (w64 ((w64 (k_c * 6364136223846793005)) + 1442695040888963407)) 33) (ishr (w64 ((w64 (k_c * 6364136223846793005)) + 1442695040888963407)) 45)) 255), (congrArg (fun zq => (Value.int .i64 zq)) (by first | rfl | simp_all)), (iand255 _), ⟨_, _, _, _, _, _f_11, _f_22, (by omega), (by omega)⟩, E⟩

/-- spec.l1Below -/
theorem c_spec_l1Below {w : World} {b_c : Nat} (_h_c : Cu w b_c) (n : Int) (hn : 0 < n) :
    Ctr Tryz.prog 40 #[(.pointer (some ⟨b_c, 0, none⟩)), (.int .i64 n)] w (fun v w' => ∃ (xq0 : Int) , v = .int .i64 xq0 ∧ (0 ≤ xq0 ∧ xq0 < n) ∧ Cu w' b_c ∧ Ch [b_c] w w') := by
  have _zb_c := _h_c.lt
  have E := Ch.refl [b_c] w
  refine Ctr_of_W (N := 37) (vs0 := [(.pointer (some ⟨b_c, 0, none⟩)), (.int .i64 n)]) Tryz.func40 rfl rfl rfl ?_
  refine W_seq fun _K_1 _hK_1 => ?_
  refine W_region ?_
  refine WL_step rfl rfl (r_assign rfl) ?_
  refine WL_nil ?_
  refine thn_nrm (_hK_1 _ _ ?_)
  clear _hK_1
  refine W_seq fun _K_2 _hK_2 => ?_
  refine W_seq fun _K_3 _hK_3 => ?_
  refine W_region ?_
  refine WL_step rfl rfl (r_move rfl) ?_
  refine WL_step rfl rfl (r_leq rfl rfl) ?_
  refine WL_nil ?_
  refine thn_nrm (_hK_3 _ _ ?_)
  clear _hK_3
  refine W_cond rfl (fun _h10 => ?_) (fun _h10 => ?_)
  · have _kb_4 := _h10
    have _h10 := bt_d _h10
    refine W_seq fun _K_5 _hK_5 => ?_
    refine W_region ?_
    refine WL_step rfl rfl (r_assign rfl) ?_
    refine WL_nil ?_
    refine thn_nrm (_hK_5 _ _ ?_)
    clear _hK_5
    refine W_ret (thn_ret ?_)
    clear _hK_2
    exact ret_intro [_] ⟨rfl, trivial⟩ ⟨0, (congrArg (fun zq => (Value.int .i64 zq)) (by first | rfl | simp_all)), (by first | exact tmod_rng (by omega) (by omega) | omega), _h_c, E⟩
  · have _kb_4 := _h10
    have _h10 := bf_d _h10
    refine W_skip ?_
    refine thn_nrm (_hK_2 _ _ ?_)
    clear _hK_2
    refine W_seq fun _K_6 _hK_6 => ?_
    refine W_seq fun _K_7 _hK_7 => ?_
    refine W_region ?_
    refine WL_step rfl rfl (r_move rfl) ?_
    refine WL_step rfl rfl (r_leq rfl rfl) ?_
    refine WL_nil ?_
    refine thn_nrm (_hK_7 _ _ ?_)
    clear _hK_7
    refine W_cond rfl (fun _h12 => ?_) (fun _h12 => ?_)
    · have _kb_8 := _h12
      have _h12 := bt_d _h12
      refine W_seq fun _K_9 _hK_9 => ?_
      refine W_region ?_
      refine WL_step rfl rfl (r_move rfl) ?_
      refine WL_s rfl rfl ?_
      refine Step.call (r_call (xs := [.tmp 13]) fk70 rfl) (c_spec_l1Byte _h_c ) fun _v14 _w_10 _q14 => ?_
      obtain ⟨x14q0, rfl, pt14_0, cu14, _cw_10⟩ := _q14
      have _cw_10z := _cw_10.size
      have E := E.trans _cw_10
      refine WL_step rfl rfl (r_move rfl) ?_
      refine WL_step rfl rfl (r_rem (by omega) rfl rfl) ?_
      refine WL_step rfl rfl (r_assign rfl) ?_
      refine WL_nil ?_
      refine thn_nrm (_hK_9 _ _ ?_)
      clear _hK_9
      refine W_ret (thn_ret ?_)
      clear _hK_6
      exact ret_intro [_] ⟨rfl, trivial⟩ ⟨(x14q0.tmod n), (congrArg (fun zq => (Value.int .i64 zq)) (by first | rfl | simp_all)), (by first | exact tmod_rng (by omega) (by omega) | omega), cu14, E⟩
    · have _kb_8 := _h12
      have _h12 := bf_d _h12
      refine W_skip ?_
      refine thn_nrm (_hK_6 _ _ ?_)
      clear _hK_6
      refine W_seq fun _K_11 _hK_11 => ?_
      refine W_region ?_
      refine WL_step rfl rfl (r_move rfl) ?_
      refine WL_s rfl rfl ?_
      refine Step.call (r_call (xs := [.tmp 17]) fk70 rfl) (c_spec_l1Byte _h_c ) fun _v18 _w_12 _q18 => ?_
      obtain ⟨x18q0, rfl, pt18_0, cu18, _cw_12⟩ := _q18
      have _cw_12z := _cw_12.size
      have E := E.trans _cw_12
      refine WL_step rfl rfl (r_assign rfl) ?_
      refine WL_nil ?_
      refine thn_nrm (_hK_11 _ _ ?_)
      clear _hK_11
      refine W_seq fun _K_13 _hK_13 => ?_
      refine W_region ?_
      refine WL_step rfl rfl (r_move rfl) ?_
      refine WL_s rfl rfl ?_
      refine Step.call (r_call (xs := [.tmp 19]) fk70 rfl) (c_spec_l1Byte cu18 ) fun _v20 _w_14 _q20 => ?_
      obtain ⟨x20q0, rfl, pt20_0, cu20, _cw_14⟩ := _q20
      have _cw_14z := _cw_14.size
      have E := E.trans _cw_14
      refine WL_step rfl rfl (r_assign rfl) ?_
      refine WL_nil ?_
      refine thn_nrm (_hK_13 _ _ ?_)
      clear _hK_13
      refine W_seq fun _K_15 _hK_15 => ?_
      refine W_region ?_
      refine WL_step rfl rfl (r_move rfl) ?_
      refine WL_s rfl rfl ?_
      refine Step.call (r_call (xs := [.tmp 21]) fk70 rfl) (c_spec_l1Byte cu20 ) fun _v22 _w_16 _q22 => ?_
      obtain ⟨x22q0, rfl, pt22_0, cu22, _cw_16⟩ := _q22
      have _cw_16z := _cw_16.size
      have E := E.trans _cw_16
      refine WL_step rfl rfl (r_assign rfl) ?_
      refine WL_nil ?_
      refine thn_nrm (_hK_15 _ _ ?_)
      clear _hK_15
      refine W_seq fun _K_17 _hK_17 => ?_
      refine W_region ?_
      refine WL_step rfl rfl (r_move rfl) ?_
      refine WL_s rfl rfl ?_
      refine Step.call (r_call (xs := [.tmp 23]) fk70 rfl) (c_spec_l1Byte cu22 ) fun _v24 _w_18 _q24 => ?_
      obtain ⟨x24q0, rfl, pt24_0, cu24, _cw_18⟩ := _q24
      have _cw_18z := _cw_18.size
      have E := E.trans _cw_18
      refine WL_step rfl rfl (r_assign rfl) ?_
      refine WL_nil ?_
      refine thn_nrm (_hK_17 _ _ ?_)
      clear _hK_17
      refine W_seq fun _K_19 _hK_19 => ?_
      refine W_region ?_
      refine WL_step rfl rfl (r_move rfl) ?_
      refine WL_step rfl rfl (r_mul (by omega) rfl rfl) ?_
      refine WL_step rfl rfl (r_move rfl) ?_
      refine WL_step rfl rfl (r_mul (by omega) rfl rfl) ?_
      refine WL_step rfl rfl (r_add (by omega) rfl rfl) ?_
      refine WL_step rfl rfl (r_move rfl) ?_
      refine WL_step rfl rfl (r_mul (by omega) rfl rfl) ?_
      refine WL_step rfl rfl (r_add (by omega) rfl rfl) ?_
      refine WL_step rfl rfl (r_move rfl) ?_
      refine WL_step rfl rfl (r_add (by omega) rfl rfl) ?_
      refine WL_step rfl rfl (r_move rfl) ?_
      refine WL_step rfl rfl (r_rem (by omega) rfl rfl) ?_
      refine WL_step rfl rfl (r_assign rfl) ?_
      refine WL_nil ?_
      refine thn_nrm (_hK_19 _ _ ?_)
      clear _hK_19
      refine W_ret ?_
      exact ret_intro [_] ⟨rfl, trivial⟩ ⟨(((((x18q0 * 16777216) + (x20q0 * 65536)) + (x22q0 * 256)) + x24q0).tmod n), (congrArg (fun zq => (Value.int .i64 zq)) (by first | rfl | simp_all)), (by first | exact tmod_rng (by omega) (by omega) | omega), cu24, E⟩

/-- spec.l1Once -/
theorem c_spec_l1Once {w : World} {b_c : Nat} (_h_c : Cu w b_c) (n : Int) (hn : 0 < n) :
    Ctr Tryz.prog 41 #[(.pointer (some ⟨b_c, 0, none⟩)), (.int .i64 n)] w (fun v w' => ∃ (xq0 : Bool) , v = .bool xq0 ∧ Cu w' b_c ∧ Ch [b_c] w w') := by
  have _zb_c := _h_c.lt
  have E := Ch.refl [b_c] w
  refine Ctr_of_W (N := 9) (vs0 := [(.pointer (some ⟨b_c, 0, none⟩)), (.int .i64 n)]) Tryz.func41 rfl rfl rfl ?_
  refine W_seq fun _K_1 _hK_1 => ?_
  refine W_region ?_
  refine WL_step rfl rfl (r_assign rfl) ?_
  refine WL_nil ?_
  refine thn_nrm (_hK_1 _ _ ?_)
  clear _hK_1
  refine W_seq fun _K_2 _hK_2 => ?_
  refine W_region ?_
  refine WL_step rfl rfl (r_move rfl) ?_
  refine WL_step rfl rfl (r_move rfl) ?_
  refine WL_s rfl rfl ?_
  refine Step.call (r_call (xs := [.tmp 5, .tmp 6]) fk40 rfl) (c_spec_l1Below _h_c _ (by omega)) fun _v7 _w_3 _q7 => ?_
  obtain ⟨x7q0, rfl, pt7_0, cu7, _cw_3⟩ := _q7
  have _cw_3z := _cw_3.size
  have E := E.trans _cw_3
  refine WL_step rfl rfl (r_eql rfl rfl) ?_
  refine WL_step rfl rfl (r_assign rfl) ?_
  refine WL_nil ?_
  refine thn_nrm (_hK_2 _ _ ?_)
  clear _hK_2
  refine W_ret ?_
  exact ret_intro [_] ⟨rfl, trivial⟩ ⟨(decide (x7q0 = 0)), (congrArg (fun zq => (Value.bool zq)) (by first | rfl | simp_all)), cu7, E⟩

/-- spec.l1PickInt -/
theorem c_spec_l1PickInt {w : World} {b_c : Nat} (_h_c : Cu w b_c) {e_list : Nat} {_v_list : Value} {list : List Int} (_h_list : Ol ics e_list 1 w _v_list list) (hl : 0 < list.length ∧ list.length ≤ 4096) (K9 : Nat) (_hk1 : b_c < K9) (_hk3 : Lo K9 _v_list) :
    Ctr Tryz.prog 52 #[(.pointer (some ⟨b_c, 0, none⟩)), _v_list] w (fun v w' => ∃ (xq0 : Int) , v = .int .i64 xq0 ∧ (xq0 ∈ list) ∧ Cu w' b_c ∧ Ch [b_c] w w') := by
  have _zb_c := _h_c.lt
  obtain ⟨_A_list, _C_list, _e1_list⟩ := _h_list.val
  subst _e1_list
  have _l_list := _h_list.len
  have _lt_list := _h_list.lt
  have E := Ch.refl [b_c] w
  refine Ctr_of_W (N := 12) (vs0 := [(.pointer (some ⟨b_c, 0, none⟩)), (.slice _A_list list.length _C_list)]) Tryz.func52 rfl rfl rfl ?_
  refine W_seq fun _K_1 _hK_1 => ?_
  refine W_region ?_
  refine WL_step rfl rfl (r_assign rfl) ?_
  refine WL_nil ?_
  refine thn_nrm (_hK_1 _ _ ?_)
  clear _hK_1
  refine W_seq fun _K_2 _hK_2 => ?_
  refine W_region ?_
  refine WL_step rfl rfl (r_move rfl) ?_
  refine WL_step rfl rfl (r_move rfl) ?_
  refine WL_step rfl rfl (r_move rfl) ?_
  refine WL_step rfl rfl (r_len (by rw [el27]; rfl) rfl) ?_
  refine WL_s rfl rfl ?_
  refine Step.call (r_call (xs := [.tmp 6, .tmp 8]) fk40 rfl) (c_spec_l1Below _h_c _ (by omega)) fun _v9 _w_3 _q9 => ?_
  obtain ⟨x9q0, rfl, pt9_0, cu9, _cw_3⟩ := _q9
  have _cw_3z := _cw_3.size
  have E := E.trans _cw_3
  refine WL_s rfl rfl ?_
  have _f_4 := (_h_list.ch _cw_3 (fun g hg hm => by have _h0 := List.mem_singleton.1 hm; have _h2 := _hk3 _ hg; have _h3 := _lt_list _ hg; omega))
  refine (s_index (j := x9q0.toNat) _f_4.ls ics_len el27 sz3 rfl rfl (by omega) (by omega) fun _p10 _y10 _hy10 _a10 => ?_)
  refine WL_step rfl rfl (r_loadAt0 _a10 agg3 rfl rfl) ?_
  refine WL_step rfl rfl (r_assign rfl) ?_
  refine WL_nil ?_
  refine thn_nrm (_hK_2 _ _ ?_)
  clear _hK_2
  refine W_ret ?_
  exact ret_intro [_] ⟨rfl, trivial⟩ ⟨_y10, (congrArg (fun zq => (Value.int .i64 zq)) (by first | rfl | simp_all)), (mem_of_get _hy10), cu9, E⟩

/-- spec.l2Draw -/
theorem c_spec_l2Draw {w : World} {b_c : Nat} (_h_c : Cu w b_c) :
    Ctr Tryz.prog 34 #[(.pointer (some ⟨b_c, 0, none⟩))] w (fun v w' => ∃ (xq0 : Int) , v = .int .i64 xq0 ∧ (-1 ≤ xq0 ∧ xq0 ≤ 100) ∧ Cu w' b_c ∧ Ch [b_c] w w') := by
  have _zb_c := _h_c.lt
  have E := Ch.refl [b_c] w
  refine Ctr_of_W (N := 11) (vs0 := [(.pointer (some ⟨b_c, 0, none⟩))]) Tryz.func34 rfl rfl rfl ?_
  refine W_seq fun _K_1 _hK_1 => ?_
  refine W_region ?_
  refine WL_step rfl rfl (r_assign rfl) ?_
  refine WL_nil ?_
  refine thn_nrm (_hK_1 _ _ ?_)
  clear _hK_1
  refine W_seq fun _K_2 _hK_2 => ?_
  refine W_seq fun _K_3 _hK_3 => ?_
  refine W_region ?_
  refine WL_step rfl rfl (r_move rfl) ?_
  refine WL_s rfl rfl ?_
  refine Step.call (r_call (xs := [.tmp 3, .const (Go.Value.int Go.IntKind.i64 14)]) fk41 rfl) (c_spec_l1Once _h_c _ (by omega)) fun _v4 _w_4 _q4 => ?_
  obtain ⟨x4q0, rfl, cu4, _cw_4⟩ := _q4
  have _cw_4z := _cw_4.size
  have E := E.trans _cw_4
  refine WL_nil ?_
  refine thn_nrm (_hK_3 _ _ ?_)
  clear _hK_3
  refine W_cond rfl (fun _h4 => ?_) (fun _h4 => ?_)
  · have _kb_5 := _h4
    refine W_seq fun _K_6 _hK_6 => ?_
    refine W_region ?_
    refine WL_step rfl rfl (r_move rfl) ?_
    refine WL_s rfl rfl ?_
    refine s_buildSlice (cs := ics) (parts := [(0, .const (Go.Value.int Go.IntKind.i64 (-1))), (1, .const (Go.Value.int Go.IntKind.i64 9)), (2, .const (Go.Value.int Go.IntKind.i64 8)), (3, .const (Go.Value.int Go.IntKind.i64 100))]) (0 : Int) [(-1), 9, 8, 100] el27 sz3 zr3 ics_len (by decide) rfl rfl rfl (by decide) (by decide) rfl fun _v6 _w_7 _q6 _lo6 _cw_7 => ?_
    have _cw_7z := _cw_7.size
    have E := E.trans _cw_7.of_nil
    obtain ⟨_Av6, _Cv6, _ev6⟩ := _q6.val
    subst _ev6
    have _lv6 := _q6.len
    have _hiv6 := _q6.lt
    refine WL_s rfl rfl ?_
    have _f_8 := (cu4.ch0 _cw_7)
    refine Step.call (r_call (xs := [.tmp 5, .tmp 6]) fk52 rfl) (c_spec_l1PickInt _f_8 _q6 (by decide) _w_4.heap.size (by omega) _lo6) fun _v7 _w_9 _q7 => ?_
    obtain ⟨x7q0, rfl, pt7_0, cu7, _cw_9⟩ := _q7
    have _cw_9z := _cw_9.size
    have E := E.trans _cw_9
    refine WL_step rfl rfl (r_assign rfl) ?_
    refine WL_nil ?_
    refine thn_nrm (_hK_6 _ _ ?_)
    clear _hK_6
    refine W_ret (thn_ret ?_)
    clear _hK_2
    exact ret_intro [_] ⟨rfl, trivial⟩ ⟨x7q0, (congrArg (fun zq => (Value.int .i64 zq)) (by first | rfl | simp_all)), (by have _h9 := pt7_0; simp at _h9; omega), cu7, E⟩
  · have _kb_5 := _h4
    refine W_skip ?_
    refine thn_nrm (_hK_2 _ _ ?_)
    clear _hK_2
    refine W_seq fun _K_10 _hK_10 => ?_
    refine W_region ?_
    refine WL_step rfl rfl (r_move rfl) ?_
    refine WL_s rfl rfl ?_
    refine s_buildSlice (cs := ics) (parts := [(0, .const (Go.Value.int Go.IntKind.i64 0)), (1, .const (Go.Value.int Go.IntKind.i64 0)), (2, .const (Go.Value.int Go.IntKind.i64 0)), (3, .const (Go.Value.int Go.IntKind.i64 1)), (4, .const (Go.Value.int Go.IntKind.i64 2)), (5, .const (Go.Value.int Go.IntKind.i64 2)), (6, .const (Go.Value.int Go.IntKind.i64 3)), (7, .const (Go.Value.int Go.IntKind.i64 4)), (8, .const (Go.Value.int Go.IntKind.i64 6)), (9, .const (Go.Value.int Go.IntKind.i64 7))]) (0 : Int) [0, 0, 0, 1, 2, 2, 3, 4, 6, 7] el27 sz3 zr3 ics_len (by decide) rfl rfl rfl (by decide) (by decide) rfl fun _v9 _w_11 _q9 _lo9 _cw_11 => ?_
    have _cw_11z := _cw_11.size
    have E := E.trans _cw_11.of_nil
    obtain ⟨_Av9, _Cv9, _ev9⟩ := _q9.val
    subst _ev9
    have _lv9 := _q9.len
    have _hiv9 := _q9.lt
    refine WL_s rfl rfl ?_
    have _f_12 := (cu4.ch0 _cw_11)
    refine Step.call (r_call (xs := [.tmp 8, .tmp 9]) fk52 rfl) (c_spec_l1PickInt _f_12 _q9 (by decide) _w_4.heap.size (by omega) _lo9) fun _v10 _w_13 _q10 => ?_
    obtain ⟨x10q0, rfl, pt10_0, cu10, _cw_13⟩ := _q10
    have _cw_13z := _cw_13.size
    have E := E.trans _cw_13
    refine WL_step rfl rfl (r_assign rfl) ?_
    refine WL_nil ?_
    refine thn_nrm (_hK_10 _ _ ?_)
    clear _hK_10
    refine W_ret ?_
    exact ret_intro [_] ⟨rfl, trivial⟩ ⟨x10q0, (congrArg (fun zq => (Value.int .i64 zq)) (by first | rfl | simp_all)), (by have _h9 := pt10_0; simp at _h9; omega), cu10, E⟩

/-- spec.IsValidExpr -/
theorem c_spec_IsValidExpr {w : World} {LL_e _B_e : Nat} {_v_e : Value} {e : List Token} (_h_e : Ls Token.cs 4 w LL_e _B_e _v_e e) :
    Ctr Tryz.prog 11 #[(.agg #[_v_e])] w (fun v w' => v = .bool (ivE e) ∧ Ch [] w w') := by
  obtain ⟨_A_e, _C_e, _e1_e⟩ := _h_e.val
  subst _e1_e
  have _l_e := _h_e.len
  have _h_e := _h_e.here (by decide)
  have E := Ch.refl [] w
  refine Ctr_of_W (N := 11) (vs0 := [(.agg #[(.slice _A_e e.length _C_e)])]) Tryz.func11 rfl rfl rfl ?_
  refine W_seq fun _K_1 _hK_1 => ?_
  refine W_region ?_
  refine WL_s rfl rfl ?_
  refine s_box rfl fun _b1 _w_2 _m1 _cw_2 _e1 => ?_
  have _cw_2z := _cw_2.size
  have E := E.trans _cw_2
  have _z1 := _m1.lt
  replace _m1 : Blk _w_2 _b1 26 [(.slice _A_e e.length _C_e)] := _m1
  refine WL_step rfl rfl (r_assign rfl) ?_
  refine WL_nil ?_
  refine thn_nrm (_hK_1 _ _ ?_)
  clear _hK_1
  refine W_seq fun _K_3 _hK_3 => ?_
  refine W_region ?_
  refine WL_step rfl rfl (r_fieldAddr fa26_0 rfl) ?_
  refine WL_step rfl rfl (r_loadAt _m1.at_ agg24 rfl rfl) ?_
  refine WL_step rfl rfl (r_len (by rw [el24]; rfl) rfl) ?_
  refine WL_step rfl rfl (r_leq rfl rfl) ?_
  refine WL_step rfl rfl (r_move rfl) ?_
  refine WL_split (d := 7) rfl (fun _h7 => ?_) (fun _h7 => ?_)
  · have _kb_4 := _h7
    have _h7 := bt_d _h7
    refine WL_step rfl rfl (r_loadAtA0 _m1.at_ agg26 sz26 rfl) ?_
    refine WL_s rfl rfl ?_
    have _f_5 := (_h_e.ch0 _cw_2)
    refine Step.call (r_call (xs := [.tmp 8]) fk30 rfl) (c_spec_IsExpr _f_5 ) fun _v9 _w_6 _q9 => ?_
    obtain ⟨rfl, _cw_6⟩ := _q9
    have _cw_6z := _cw_6.size
    have E := E.trans _cw_6
    refine WL_step rfl rfl (r_pickT rfl rfl) ?_
    refine WL_step rfl rfl (r_assign rfl) ?_
    refine WL_nil ?_
    refine thn_nrm (_hK_3 _ _ ?_)
    clear _hK_3
    refine W_ret ?_
    exact ret_intro [_] ⟨rfl, trivial⟩ ⟨congrArg Value.bool (by unfold ivE; first | (rw [decide_eq_true (by omega)]; rfl) | (rw [decide_eq_false (by omega)]; rfl)), E⟩
  · have _kb_4 := _h7
    have _h7 := bf_d _h7
    refine WL_skip rfl rfl ?_
    refine WL_skip rfl rfl ?_
    refine WL_step rfl rfl (r_pickF rfl rfl) ?_
    refine WL_step rfl rfl (r_assign rfl) ?_
    refine WL_nil ?_
    refine thn_nrm (_hK_3 _ _ ?_)
    clear _hK_3
    refine W_ret ?_
    exact ret_intro [_] ⟨rfl, trivial⟩ ⟨congrArg Value.bool (by unfold ivE; first | (rw [decide_eq_true (by omega)]; rfl) | (rw [decide_eq_false (by omega)]; rfl)), E⟩

/-- spec.l2Cut -/
theorem c_spec_l2Cut {w : World} (s : List UInt8) (sep : Int) (hb : s.length ≤ 4194304) :
    Ctr Tryz.prog 98 #[(bst s), (.int .u8 sep)] w (fun v w' => Ol scs 9 1 w' v (cutR s sep []) ∧ Lo w.heap.size v ∧ Ch [] w w') := by
  have E := Ch.refl [] w
  refine Ctr_of_W (N := 35) (vs0 := [(bst s), (.int .u8 sep)]) Tryz.func98 rfl rfl rfl ?_
  refine W_seq fun _K_1 _hK_1 => ?_
  refine W_region ?_
  refine WL_step rfl rfl (r_assign rfl) ?_
  refine WL_nil ?_
  refine thn_nrm (_hK_1 _ _ ?_)
  clear _hK_1
  refine W_seq fun _K_2 _hK_2 => ?_
  refine W_region ?_
  refine WL_s rfl rfl ?_
  refine s_buildSlice0 (k := 1) scs el96 sz9 fun _v8 _w_3 _q8 _lo8 _cw_3 => ?_
  have _cw_3z := _cw_3.size
  have E := E.trans _cw_3
  obtain ⟨_Av8, _Cv8, _ev8⟩ := _q8.val
  subst _ev8
  have _lv8 := _q8.len
  have _hiv8 := _q8.lt
  refine WL_step rfl rfl (r_assign rfl) ?_
  refine WL_nil ?_
  refine thn_nrm (_hK_2 _ _ ?_)
  clear _hK_2
  refine W_seq fun _K_4 _hK_4 => ?_
  refine W_region ?_
  refine WL_step rfl rfl (r_assign rfl) ?_
  refine WL_nil ?_
  refine thn_nrm (_hK_4 _ _ ?_)
  clear _hK_4
  refine W_seq fun _K_5 _hK_5 => ?_
  refine W_seq fun _K_6 _hK_6 => ?_
  refine W_region ?_
  refine WL_step rfl rfl (r_assign rfl) ?_
  refine WL_nil ?_
  refine thn_nrm (_hK_6 _ _ ?_)
  clear _hK_6
  refine W_block ?_
  have _oi_7 : Ol scs 9 1 _w_3 (.slice _Av8 (([] : List (List UInt8))).length _Cv8) (([] : List (List UInt8))) := by
    have hx := _q8
    exact hx
  refine W_loop (σ := Nat × Nat × List (List UInt8) × Value) (fun ⟨i, f, out, ov⟩ => [(0, (bst s)), (1, (.int .u8 sep)), (4, (.slice none 0 0)), (5, ov), (6, (.int .i64 ((f : Nat) : Int))), (7, (.int .i64 ((i : Nat) : Int)))]) (fun ⟨i, f, out, ov⟩ wx => Ch [] w wx ∧ _w_3.heap.size ≤ wx.heap.size ∧ (f ≤ i ∧ i ≤ s.length) ∧ (out ++ cutR (s.drop i) sep ((s.drop f).take (i - f)) = cutR s sep []) ∧ Ol scs 9 1 wx ov out ∧ Lo w.heap.size ov) (fun ⟨i, f, out, ov⟩ => s.length - i) (0, 0, ([] : List (List UInt8)), (.slice _Av8 (([] : List (List UInt8))).length _Cv8)) (Sub.cons rfl (Sub.cons rfl (Sub.cons rfl (Sub.cons rfl (Sub.cons rfl (Sub.cons rfl (Sub.nil _))))))) ⟨E, (Nat.le_refl _), (by omega), cut_zero, _oi_7, _lo8⟩ ?_
  rintro ⟨i, f, out, ov⟩ _wr_8 ⟨E, _zz0, hi, hc, _o0_5, _lo0_5⟩
  have _E0h := E
  have _E0hz := _E0h.size
  obtain ⟨Aov, Cov, eov⟩ := _o0_5.val
  subst eov
  have lov := _o0_5.len
  have hiov := _o0_5.lt
  have ol9 := congrArg List.length hc
  have cl9 := cutR_len s sep []
  rw [List.length_append] at ol9
  refine W_seq fun _K_9 _hK_9 => ?_
  refine W_seq fun _K_10 _hK_10 => ?_
  refine W_region ?_
  refine WL_step rfl rfl (r_move rfl) ?_
  refine WL_step rfl rfl (r_move rfl) ?_
  refine WL_step rfl rfl (r_lenB un9 rfl) ?_
  refine WL_step rfl rfl (r_lss rfl rfl) ?_
  refine WL_nil ?_
  refine thn_nrm (_hK_10 _ _ ?_)
  clear _hK_10
  refine W_cond rfl (fun _h12 => ?_) (fun _h12 => ?_)
  · have _kb_11 := _h12
    have _h12 := bt_d _h12
    refine W_skip ?_
    refine thn_nrm (_hK_9 _ _ ?_)
    clear _hK_9
    refine W_seq fun _K_12 _hK_12 => ?_
    refine W_block ?_
    refine W_seq fun _K_13 _hK_13 => ?_
    refine W_region ?_
    refine WL_step rfl rfl (r_move rfl) ?_
    refine WL_step rfl rfl (r_move rfl) ?_
    refine WL_step rfl rfl (r_sIndex (by omega) un9 rfl rfl) ?_
    refine WL_step rfl rfl (r_move rfl) ?_
    refine WL_step rfl rfl (r_eql rfl rfl) ?_
    refine WL_nil ?_
    refine thn_nrm (_hK_13 _ _ ?_)
    clear _hK_13
    refine W_cond rfl (fun _h19 => ?_) (fun _h19 => ?_)
    · have _kb_14 := _h19
      have _h19 := bt_d _h19
      refine W_seq fun _K_15 _hK_15 => ?_
      refine W_region ?_
      refine WL_step rfl rfl (r_move rfl) ?_
      refine WL_step rfl rfl (r_move rfl) ?_
      refine WL_step rfl rfl (r_move rfl) ?_
      refine WL_step rfl rfl (r_move rfl) ?_
      refine WL_step rfl rfl (r_sCut (by omega) un9 rfl rfl rfl) ?_
      refine WL_s rfl rfl ?_
      refine s_buildSlice (cs := scs) (parts := [(0, .tmp 24)]) ([] : List UInt8) [((s.drop f).take (i - f))] el96 sz9 zr9 scs_len (by decide) rfl rfl rfl (by decide) (by decide) rfl fun _v25 _w_16 _q25 _lo25 _cw_16 => ?_
      have _cw_16z := _cw_16.size
      have E := E.trans _cw_16
      obtain ⟨_Av25, _Cv25, _ev25⟩ := _q25.val
      subst _ev25
      have _lv25 := _q25.len
      have _hiv25 := _q25.lt
      refine WL_s rfl rfl ?_
      have _f_18 := (_o0_5.ch0 _cw_16)
      refine s_append (cs := scs) el96 sz9 by9 zr9 rfl (by decide) scs_one _f_18 _q25.ls rfl rfl (by first | omega | (simp only [List.length_append, List.length_nil, List.length_cons, List.length_replicate, List.length_set, List.length_reverse, List.length_map] at *; omega) | (simp at *; omega)) (by first | omega | (simp only [List.length_append, List.length_nil, List.length_cons, List.length_replicate, List.length_set, List.length_reverse, List.length_map] at *; omega) | (simp at *; omega)) _lo0_5 (by omega) fun _v26 _w_17 _q26 _lo26 _ap26 _cw_17 => ?_
      have _cw_17z := _cw_17.size
      have E := E.step _cw_17 (fun i hi => .inl (by have _h1 := _lo0_5 _ hi; omega))
      obtain ⟨_Av26, _Cv26, _ev26⟩ := _q26.val
      subst _ev26
      have _lv26 := _q26.len
      have _hiv26 := _q26.lt
      refine WL_step rfl rfl (r_assign rfl) ?_
      refine WL_nil ?_
      refine thn_nrm (_hK_15 _ _ ?_)
      clear _hK_15
      refine W_region ?_
      refine WL_step rfl rfl (r_move rfl) ?_
      refine WL_step rfl rfl (r_add (by omega) rfl rfl) ?_
      refine WL_step rfl rfl (r_assign rfl) ?_
      refine WL_nil ?_
      refine inB_nrm ?_
      refine thn_nrm (_hK_12 _ _ ?_)
      clear _hK_12
      refine W_region ?_
      refine WL_step rfl rfl (r_move rfl) ?_
      refine WL_step rfl rfl (r_add (by omega) rfl rfl) ?_
      refine WL_step rfl rfl (r_assign rfl) ?_
      refine WL_nil ?_
      have _on_19 : Ol scs 9 1 _w_17 (.slice _Av26 ((out ++ [((s.drop f).take (i - f))])).length _Cv26) ((out ++ [((s.drop f).take (i - f))])) := by
        have hx := _q26
        exact hx
      exact thn_nrm (Exists.intro ((i + 1), (i + 1), (out ++ [((s.drop f).take (i - f))]), (.slice _Av26 ((out ++ [((s.drop f).take (i - f))])).length _Cv26)) ⟨⟨E, (by omega), (by omega), (by first | exact cut_hit hc (by omega) _h19 | exact cut_miss hc (by omega) (by omega) _h19), _on_19, (Lo.down _lo26 (by omega))⟩, Sub.cons rfl (Sub.cons rfl (Sub.cons rfl (Sub.cons rfl (Sub.cons rfl (Sub.cons rfl (Sub.nil _)))))), (by first | omega | (dsimp only; omega))⟩)
    · have _kb_14 := _h19
      have _h19 := bf_d _h19
      refine W_skip ?_
      refine inB_nrm ?_
      refine thn_nrm (_hK_12 _ _ ?_)
      clear _hK_12
      refine W_region ?_
      refine WL_step rfl rfl (r_move rfl) ?_
      refine WL_step rfl rfl (r_add (by omega) rfl rfl) ?_
      refine WL_step rfl rfl (r_assign rfl) ?_
      refine WL_nil ?_
      have _on_20 : Ol scs 9 1 _wr_8 (.slice Aov (out).length Cov) (out) := by
        have hx := _o0_5
        exact hx
      exact thn_nrm (Exists.intro ((i + 1), f, out, (.slice Aov (out).length Cov)) ⟨⟨E, (by omega), (by omega), (by first | exact cut_hit hc (by omega) _h19 | exact cut_miss hc (by omega) (by omega) _h19), _on_20, (Lo.down _lo0_5 (by omega))⟩, Sub.cons rfl (Sub.cons rfl (Sub.cons rfl (Sub.cons rfl (Sub.cons rfl (Sub.cons rfl (Sub.nil _)))))), (by first | omega | (dsimp only; omega))⟩)
  · have _kb_11 := _h12
    have _h12 := bf_d _h12
    refine W_exit (thn_exit (thn_exit (inB_hit ?_)))
    refine thn_nrm (_hK_5 _ _ ?_)
    clear _hK_5
    refine W_seq fun _K_21 _hK_21 => ?_
    refine W_region ?_
    refine WL_step rfl rfl (r_move rfl) ?_
    refine WL_step rfl rfl (r_move rfl) ?_
    refine WL_step rfl rfl (r_move rfl) ?_
    refine WL_step rfl rfl (r_sCutL (by omega) un9 rfl rfl) ?_
    refine WL_s rfl rfl ?_
    refine s_buildSlice (cs := scs) (parts := [(0, .tmp 32)]) ([] : List UInt8) [(s.drop f)] el96 sz9 zr9 scs_len (by decide) rfl rfl rfl (by decide) (by decide) rfl fun _v33 _w_22 _q33 _lo33 _cw_22 => ?_
    have _cw_22z := _cw_22.size
    have E := E.trans _cw_22
    obtain ⟨_Av33, _Cv33, _ev33⟩ := _q33.val
    subst _ev33
    have _lv33 := _q33.len
    have _hiv33 := _q33.lt
    refine WL_s rfl rfl ?_
    have _f_24 := (_o0_5.ch0 _cw_22)
    refine s_append (cs := scs) el96 sz9 by9 zr9 rfl (by decide) scs_one _f_24 _q33.ls rfl rfl (by first | omega | (simp only [List.length_append, List.length_nil, List.length_cons, List.length_replicate, List.length_set, List.length_reverse, List.length_map] at *; omega) | (simp at *; omega)) (by first | omega | (simp only [List.length_append, List.length_nil, List.length_cons, List.length_replicate, List.length_set, List.length_reverse, List.length_map] at *; omega) | (simp at *; omega)) _lo0_5 (by omega) fun _v34 _w_23 _q34 _lo34 _ap34 _cw_23 => ?_
    have _cw_23z := _cw_23.size
    have E := E.step _cw_23 (fun i hi => .inl (by have _h1 := _lo0_5 _ hi; omega))
    obtain ⟨_Av34, _Cv34, _ev34⟩ := _q34.val
    subst _ev34
    have _lv34 := _q34.len
    have _hiv34 := _q34.lt
    refine WL_step rfl rfl (r_assign rfl) ?_
    refine WL_nil ?_
    refine thn_nrm (_hK_21 _ _ ?_)
    clear _hK_21
    refine W_ret ?_
    clear _hK_9
    have _o_25 : Ol scs 9 1 _w_23 (.slice _Av34 ((out ++ [(s.drop f)])).length _Cv34) (cutR s sep []) := by
      have hx := _q34
      exact hx.eq (cut_end hc (by omega))
    exact ret_intro [_] ⟨rfl, trivial⟩ ⟨_o_25, Lo.down _lo34 (by omega), E⟩

/-- spec.FormatLetter -/
theorem c_spec_FormatLetter {w : World} (n : Int) :
    Ctr Tryz.prog 109 #[(.int .i64 n)] w (fun v w' => v = bst (fmtL n) ∧ Ch [] w w') := by
  have E := Ch.refl [] w
  refine Ctr_of_W (N := 10) (vs0 := [(.int .i64 n)]) Tryz.func109 rfl rfl rfl ?_
  refine W_seq fun _K_1 _hK_1 => ?_
  refine W_region ?_
  refine WL_step rfl rfl (r_assign rfl) ?_
  refine WL_nil ?_
  refine thn_nrm (_hK_1 _ _ ?_)
  clear _hK_1
  refine W_seq fun _K_2 _hK_2 => ?_
  refine W_seq fun _K_3 _hK_3 => ?_
  refine W_region ?_
  refine WL_step rfl rfl (r_move rfl) ?_
  refine WL_s rfl rfl ?_
  refine Step.call (r_call (xs := [.tmp 3]) fk32 rfl) (c_spec_l2Letter _ ) fun _v4 _w_4 _q4 => ?_
  obtain ⟨rfl, _cw_4⟩ := _q4
  have _cw_4z := _cw_4.size
  have E := E.trans _cw_4
  refine WL_step rfl rfl (r_not rfl) ?_
  refine WL_nil ?_
  refine thn_nrm (_hK_3 _ _ ?_)
  clear _hK_3
  refine W_cond rfl (fun _h5 => ?_) (fun _h5 => ?_)
  · have _kb_5 := _h5
    have _h5 := bf_d (bt_n _h5)
    refine W_seq fun _K_6 _hK_6 => ?_
    refine W_region ?_
    refine WL_step rfl rfl (r_assign rfl) ?_
    refine WL_nil ?_
    refine thn_nrm (_hK_6 _ _ ?_)
    clear _hK_6
    refine W_ret (thn_ret ?_)
    clear _hK_2
    exact ret_intro [_] ⟨rfl, trivial⟩ ⟨congrArg bst (fmtL_n (by omega)), E⟩
  · have _kb_5 := _h5
    have _h5 := bt_d (bf_n _h5)
    refine W_skip ?_
    refine thn_nrm (_hK_2 _ _ ?_)
    clear _hK_2
    refine W_seq fun _K_7 _hK_7 => ?_
    refine W_region ?_
    refine WL_s rfl rfl ?_
    refine s_buildSlice (cs := scs) (parts := [(0, .const (Go.Value.string { data := #[97] })), (1, .const (Go.Value.string { data := #[97, 45] })), (2, .const (Go.Value.string { data := #[98] })), (3, .const (Go.Value.string { data := #[98, 45] })), (4, .const (Go.Value.string { data := #[99] })), (5, .const (Go.Value.string { data := #[99, 45] })), (6, .const (Go.Value.string { data := #[48] })), (7, .const (Go.Value.string { data := #[49] })), (8, .const (Go.Value.string { data := #[50] }))]) ([] : List UInt8) [[97], [97, 45], [98], [98, 45], [99], [99, 45], [48], [49], [50]] el96 sz9 zr9 scs_len (by decide) rfl rfl rfl (by decide) (by decide) rfl fun _v6 _w_8 _q6 _lo6 _cw_8 => ?_
    have _cw_8z := _cw_8.size
    have E := E.trans _cw_8
    obtain ⟨_Av6, _Cv6, _ev6⟩ := _q6.val
    subst _ev6
    have _lv6 := _q6.len
    have _hiv6 := _q6.lt
    refine WL_step rfl rfl (r_move rfl) ?_
    refine WL_s rfl rfl ?_
    refine (s_index (j := n.toNat) _q6.ls scs_len el96 sz9 rfl rfl (by omega) (by first | omega | (simp; omega)) fun _p8 _y8 _hy8 _a8 => ?_)
    refine WL_step rfl rfl (r_loadAt0 _a8 agg9 rfl rfl) ?_
    refine WL_step rfl rfl (r_assign rfl) ?_
    refine WL_nil ?_
    refine thn_nrm (_hK_7 _ _ ?_)
    clear _hK_7
    refine W_ret ?_
    exact ret_intro [_] ⟨rfl, trivial⟩ ⟨congrArg bst (fmtL_y (by omega) _hy8), E⟩

/-- spec.ParseLetter -/
theorem c_spec_ParseLetter {w : World} (s : List UInt8) :
    Ctr Tryz.prog 107 #[(bst s)] w (fun v w' => v = .tuple #[.int .i64 ((plR s).1), .bool ((plR s).2)] ∧ Ch [] w w') := by
  have E := Ch.refl [] w
  refine Ctr_of_W (N := 14) (vs0 := [(bst s)]) Tryz.func107 rfl rfl rfl ?_
  refine W_seq fun _K_1 _hK_1 => ?_
  refine W_region ?_
  refine WL_step rfl rfl (r_assign rfl) ?_
  refine WL_step rfl rfl (r_assign rfl) ?_
  refine WL_nil ?_
  refine thn_nrm (_hK_1 _ _ ?_)
  clear _hK_1
  refine W_seq fun _K_2 _hK_2 => ?_
  refine W_seq fun _K_3 _hK_3 => ?_
  refine W_region ?_
  refine WL_step rfl rfl (r_assign rfl) ?_
  refine WL_nil ?_
  refine thn_nrm (_hK_3 _ _ ?_)
  clear _hK_3
  refine W_block ?_
  refine W_loop (σ := Nat) (fun (k : Nat) => [(0, (bst s)), (4, (.int .i64 ((k : Nat) : Int)))]) (fun (k : Nat) wx => Ch [] w wx ∧ w.heap.size ≤ wx.heap.size ∧ (k ≤ 9) ∧ (ltrI s k = none)) (fun (k : Nat) => 9 - k) 0 (Sub.cons rfl (Sub.cons rfl (Sub.nil _))) ⟨E, (Nat.le_refl _), (by omega), ltrI_zero⟩ ?_
  rintro k _wr_4 ⟨E, _zz0, _hk, hn⟩
  have _E0h := E
  have _E0hz := _E0h.size
  refine W_seq fun _K_5 _hK_5 => ?_
  refine W_seq fun _K_6 _hK_6 => ?_
  refine W_region ?_
  refine WL_step rfl rfl (r_move rfl) ?_
  refine WL_step rfl rfl (r_lss rfl rfl) ?_
  refine WL_nil ?_
  refine thn_nrm (_hK_6 _ _ ?_)
  clear _hK_6
  refine W_cond rfl (fun _h6 => ?_) (fun _h6 => ?_)
  · have _kb_7 := _h6
    have _h6 := bt_d _h6
    refine W_skip ?_
    refine thn_nrm (_hK_5 _ _ ?_)
    clear _hK_5
    refine W_seq fun _K_8 _hK_8 => ?_
    refine W_block ?_
    refine W_seq fun _K_9 _hK_9 => ?_
    refine W_region ?_
    refine WL_step rfl rfl (r_move rfl) ?_
    refine WL_s rfl rfl ?_
    refine Step.call (r_call (xs := [.tmp 9]) fk109 rfl) (c_spec_FormatLetter _ ) fun _v10 _w_10 _q10 => ?_
    obtain ⟨rfl, _cw_10⟩ := _q10
    have _cw_10z := _cw_10.size
    have E := E.trans _cw_10
    refine WL_step rfl rfl (r_move rfl) ?_
    refine WL_step rfl rfl (r_sEql rfl rfl) ?_
    refine WL_nil ?_
    refine thn_nrm (_hK_9 _ _ ?_)
    clear _hK_9
    refine W_cond rfl (fun _h12 => ?_) (fun _h12 => ?_)
    · have _kb_11 := _h12
      have _h12 := bt_d _h12
      refine W_seq fun _K_12 _hK_12 => ?_
      refine W_region ?_
      refine WL_step rfl rfl (r_move rfl) ?_
      refine WL_step rfl rfl (r_assign rfl) ?_
      refine WL_step rfl rfl (r_assign rfl) ?_
      refine WL_nil ?_
      refine thn_nrm (_hK_12 _ _ ?_)
      clear _hK_12
      refine W_ret (inB_ret (thn_ret (thn_ret (inB_ret (thn_ret ?_)))))
      clear _hK_2 _hK_8
      exact ret_intro [_, _] ⟨rfl, ⟨rfl, trivial⟩⟩ ⟨((congrArg (fun zq => (Value.tuple #[.int .i64 zq, .bool true])) (by first | exact congrArg Prod.fst (plR_y hn (by omega) _h12) | exact congrArg Prod.fst (plR_n hn (by omega) (by omega)))).trans (congrArg (fun zq => (Value.tuple #[.int .i64 ((plR s).1), .bool zq])) (by first | exact congrArg Prod.snd (plR_y hn (by omega) _h12) | exact congrArg Prod.snd (plR_n hn (by omega) (by omega))))), E⟩
    · have _kb_11 := _h12
      have _h12 := bf_d _h12
      refine W_skip ?_
      refine inB_nrm ?_
      refine thn_nrm (_hK_8 _ _ ?_)
      clear _hK_8
      refine W_region ?_
      refine WL_step rfl rfl (r_move rfl) ?_
      refine WL_step rfl rfl (r_add (by omega) rfl rfl) ?_
      refine WL_step rfl rfl (r_assign rfl) ?_
      refine WL_nil ?_
      exact thn_nrm (Exists.intro (k + 1) ⟨⟨E, (by omega), (by omega), (ltrI_n hn (by omega) _h12)⟩, Sub.cons rfl (Sub.cons rfl (Sub.nil _)), (by first | omega | (dsimp only; omega))⟩)
  · have _kb_7 := _h6
    have _h6 := bf_d _h6
    refine W_exit (thn_exit (thn_exit (inB_hit ?_)))
    refine thn_nrm (_hK_2 _ _ ?_)
    clear _hK_2
    refine W_seq fun _K_13 _hK_13 => ?_
    refine W_region ?_
    refine WL_step rfl rfl (r_assign rfl) ?_
    refine WL_step rfl rfl (r_assign rfl) ?_
    refine WL_nil ?_
    refine thn_nrm (_hK_13 _ _ ?_)
    clear _hK_13
    refine W_ret ?_
    clear _hK_5
    exact ret_intro [_, _] ⟨rfl, ⟨rfl, trivial⟩⟩ ⟨((congrArg (fun zq => (Value.tuple #[.int .i64 zq, .bool false])) (by first | exact congrArg Prod.fst (plR_y hn (by omega) _h12) | exact congrArg Prod.fst (plR_n hn (by omega) (by omega)))).trans (congrArg (fun zq => (Value.tuple #[.int .i64 ((plR s).1), .bool zq])) (by first | exact congrArg Prod.snd (plR_y hn (by omega) _h12) | exact congrArg Prod.snd (plR_n hn (by omega) (by omega))))), E⟩

/-- spec.FormatInt -/
theorem c_spec_FormatInt {w : World} (n : Int) (hr0 : -9223372036854775808 ≤ n ∧ n ≤ 9223372036854775807) :
    Ctr Tryz.prog 110 #[(.int .i64 n)] w (fun v w' => v = bst (fmtI n) ∧ Ch [] w w') := by
  have E := Ch.refl [] w
  refine Ctr_of_W (N := 31) (vs0 := [(.int .i64 n)]) Tryz.func110 rfl rfl rfl ?_
  refine W_seq fun _K_1 _hK_1 => ?_
  refine W_region ?_
  refine WL_step rfl rfl (r_assign rfl) ?_
  refine WL_nil ?_
  refine thn_nrm (_hK_1 _ _ ?_)
  clear _hK_1
  refine W_seq fun _K_2 _hK_2 => ?_
  refine W_seq fun _K_3 _hK_3 => ?_
  refine W_region ?_
  refine WL_step rfl rfl (r_move rfl) ?_
  refine WL_step rfl rfl (r_eql rfl rfl) ?_
  refine WL_nil ?_
  refine thn_nrm (_hK_3 _ _ ?_)
  clear _hK_3
  refine W_cond rfl (fun _h7 => ?_) (fun _h7 => ?_)
  · have _kb_4 := _h7
    have _h7 := bt_d _h7
    refine W_seq fun _K_5 _hK_5 => ?_
    refine W_region ?_
    refine WL_step rfl rfl (r_assign rfl) ?_
    refine WL_nil ?_
    refine thn_nrm (_hK_5 _ _ ?_)
    clear _hK_5
    refine W_ret (thn_ret ?_)
    clear _hK_2
    exact ret_intro [_] ⟨rfl, trivial⟩ ⟨congrArg bst (fmtI_0 _h7), E⟩
  · have _kb_4 := _h7
    have _h7 := bf_d _h7
    refine W_skip ?_
    refine thn_nrm (_hK_2 _ _ ?_)
    clear _hK_2
    refine W_seq fun _K_6 _hK_6 => ?_
    refine W_region ?_
    refine WL_step rfl rfl (r_assign rfl) ?_
    refine WL_nil ?_
    refine thn_nrm (_hK_6 _ _ ?_)
    clear _hK_6
    refine W_seq fun _K_7 _hK_7 => ?_
    refine W_region ?_
    refine WL_step rfl rfl (r_move rfl) ?_
    refine WL_step rfl rfl (r_lss rfl rfl) ?_
    refine WL_step rfl rfl (r_assign rfl) ?_
    refine WL_nil ?_
    refine thn_nrm (_hK_7 _ _ ?_)
    clear _hK_7
    refine W_seq fun _K_8 _hK_8 => ?_
    refine W_block ?_
    refine W_loop (σ := Int × List UInt8) (fun ⟨m, out⟩ => [(0, (.int .i64 m)), (2, (bst ([] : List UInt8))), (3, (bst out)), (4, (.bool (decide (n < 0))))]) (fun ⟨m, out⟩ wx => Ch [] w wx ∧ w.heap.size ≤ wx.heap.size ∧ (dgF 20 m.natAbs ++ out = dgF 20 n.natAbs) ∧ (-9223372036854775808 ≤ m ∧ m ≤ 9223372036854775807)) (fun ⟨m, out⟩ => m.natAbs) (n, ([] : List UInt8)) (Sub.cons rfl (Sub.cons rfl (Sub.cons rfl (Sub.cons rfl (Sub.nil _))))) ⟨E, (Nat.le_refl _), (by simp), hr0⟩ ?_
    rintro ⟨m, out⟩ _wr_9 ⟨E, _zz0, hm, hr⟩
    have _E0h := E
    have _E0hz := _E0h.size
    have ol9 := congrArg List.length hm
    have dl9 := dgF_len 20 n.natAbs
    rw [List.length_append] at ol9
    refine W_seq fun _K_10 _hK_10 => ?_
    refine W_seq fun _K_11 _hK_11 => ?_
    refine W_region ?_
    refine WL_step rfl rfl (r_move rfl) ?_
    refine WL_step rfl rfl (r_neq rfl rfl) ?_
    refine WL_nil ?_
    refine thn_nrm (_hK_11 _ _ ?_)
    clear _hK_11
    refine W_cond rfl (fun _h11 => ?_) (fun _h11 => ?_)
    · have _kb_12 := _h11
      have _h11 := bf_d (bt_n _h11)
      have tm9 := tm10 m
      refine W_skip ?_
      refine thn_nrm (_hK_10 _ _ ?_)
      clear _hK_10
      refine W_block ?_
      refine W_seq fun _K_13 _hK_13 => ?_
      refine W_region ?_
      refine WL_step rfl rfl (r_move rfl) ?_
      refine WL_step rfl rfl (r_rem (by omega) rfl rfl) ?_
      refine WL_step rfl rfl (r_assign rfl) ?_
      refine WL_nil ?_
      refine thn_nrm (_hK_13 _ _ ?_)
      clear _hK_13
      refine W_seq fun _K_14 _hK_14 => ?_
      refine W_seq fun _K_15 _hK_15 => ?_
      refine W_region ?_
      refine WL_step rfl rfl (r_move rfl) ?_
      refine WL_step rfl rfl (r_lss rfl rfl) ?_
      refine WL_nil ?_
      refine thn_nrm (_hK_15 _ _ ?_)
      clear _hK_15
      refine W_cond rfl (fun _h15 => ?_) (fun _h15 => ?_)
      · have _kb_16 := _h15
        have _h15 := bt_d _h15
        refine W_region ?_
        refine WL_step rfl rfl (r_move rfl) ?_
        refine WL_step rfl rfl (r_neg (by omega) rfl) ?_
        refine WL_step rfl rfl (r_assign rfl) ?_
        refine WL_nil ?_
        refine thn_nrm (_hK_14 _ _ ?_)
        clear _hK_14
        refine W_seq fun _K_17 _hK_17 => ?_
        refine W_region ?_
        refine WL_step rfl rfl (r_move rfl) ?_
        refine WL_step rfl rfl (r_add (by omega) rfl rfl) ?_
        refine WL_step rfl rfl (r_convert (by rw [un3]; rfl) un5 rfl) ?_
        refine WL_s rfl rfl ?_
        refine s_buildSlice (cs := ucs) (parts := [(0, .tmp 20)]) (0 : Int) [(w8 (48 + (-(m.tmod 10))))] el22 sz5 zr5 ucs_len (by decide) rfl rfl rfl (by decide) (by decide) rfl fun _v21 _w_18 _q21 _lo21 _cw_18 => ?_
        have _cw_18z := _cw_18.size
        have E := E.trans _cw_18
        obtain ⟨_Av21, _Cv21, _ev21⟩ := _q21.val
        subst _ev21
        have _lv21 := _q21.len
        have _hiv21 := _q21.lt
        refine WL_step rfl rfl (r_bytesStr _q21.ls el22 un5 un9 rfl) ?_
        refine WL_step rfl rfl (r_move rfl) ?_
        refine WL_step rfl rfl (r_sAdd (by (simp only [u8s, List.map_cons, List.map_nil, List.length_cons, List.length_nil]; omega)) rfl rfl) ?_
        refine WL_step rfl rfl (r_assign rfl) ?_
        refine WL_nil ?_
        refine thn_nrm (_hK_17 _ _ ?_)
        clear _hK_17
        refine W_region ?_
        refine WL_step rfl rfl (r_move rfl) ?_
        refine WL_step rfl rfl (r_quo (by omega) (td10 (by omega)) rfl rfl) ?_
        refine WL_step rfl rfl (r_assign rfl) ?_
        refine WL_nil ?_
        refine inB_nrm ?_
        exact thn_nrm (Exists.intro ((m.tdiv 10), ((u8s ([(w8 (48 + (-(m.tmod 10))))])) ++ out)) ⟨⟨E, (by omega), (dg_step hm _h11 hr (by first | exact .inl rfl | exact .inr rfl) (by omega)), (td10 hr)⟩, Sub.cons rfl (Sub.cons rfl (Sub.cons rfl (Sub.cons rfl (Sub.nil _)))), (td_lt _h11)⟩)
      · have _kb_16 := _h15
        have _h15 := bf_d _h15
        refine W_skip ?_
        refine thn_nrm (_hK_14 _ _ ?_)
        clear _hK_14
        refine W_seq fun _K_19 _hK_19 => ?_
        refine W_region ?_
        refine WL_step rfl rfl (r_move rfl) ?_
        refine WL_step rfl rfl (r_add (by omega) rfl rfl) ?_
        refine WL_step rfl rfl (r_convert (by rw [un3]; rfl) un5 rfl) ?_
        refine WL_s rfl rfl ?_
        refine s_buildSlice (cs := ucs) (parts := [(0, .tmp 20)]) (0 : Int) [(w8 (48 + (m.tmod 10)))] el22 sz5 zr5 ucs_len (by decide) rfl rfl rfl (by decide) (by decide) rfl fun _v21 _w_20 _q21 _lo21 _cw_20 => ?_
        have _cw_20z := _cw_20.size
        have E := E.trans _cw_20
        obtain ⟨_Av21, _Cv21, _ev21⟩ := _q21.val
        subst _ev21
        have _lv21 := _q21.len
        have _hiv21 := _q21.lt
        refine WL_step rfl rfl (r_bytesStr _q21.ls el22 un5 un9 rfl) ?_
        refine WL_step rfl rfl (r_move rfl) ?_
        refine WL_step rfl rfl (r_sAdd (by (simp only [u8s, List.map_cons, List.map_nil, List.length_cons, List.length_nil]; omega)) rfl rfl) ?_
        refine WL_step rfl rfl (r_assign rfl) ?_
        refine WL_nil ?_
        refine thn_nrm (_hK_19 _ _ ?_)
        clear _hK_19
        refine W_region ?_
        refine WL_step rfl rfl (r_move rfl) ?_
        refine WL_step rfl rfl (r_quo (by omega) (td10 (by omega)) rfl rfl) ?_
        refine WL_step rfl rfl (r_assign rfl) ?_
        refine WL_nil ?_
        refine inB_nrm ?_
        exact thn_nrm (Exists.intro ((m.tdiv 10), ((u8s ([(w8 (48 + (m.tmod 10)))])) ++ out)) ⟨⟨E, (by omega), (dg_step hm _h11 hr (by first | exact .inl rfl | exact .inr rfl) (by omega)), (td10 hr)⟩, Sub.cons rfl (Sub.cons rfl (Sub.cons rfl (Sub.cons rfl (Sub.nil _)))), (td_lt _h11)⟩)
    · have _kb_12 := _h11
      have _h11 := bt_d (bf_n _h11)
      refine W_exit (thn_exit (thn_exit (inB_hit ?_)))
      refine thn_nrm (_hK_8 _ _ ?_)
      clear _hK_8
      refine W_seq fun _K_21 _hK_21 => ?_
      refine W_seq fun _K_22 _hK_22 => ?_
      refine W_region ?_
      refine WL_step rfl rfl (r_move rfl) ?_
      refine WL_nil ?_
      refine thn_nrm (_hK_22 _ _ ?_)
      clear _hK_22
      refine W_cond rfl (fun _h27 => ?_) (fun _h27 => ?_)
      · have _kb_23 := _h27
        have _h27 := bt_d _h27
        refine W_seq fun _K_24 _hK_24 => ?_
        refine W_region ?_
        refine WL_step rfl rfl (r_move rfl) ?_
        refine WL_step rfl rfl (r_sAdd (by (simp only [u8s, List.map_cons, List.map_nil, List.length_cons, List.length_nil]; omega)) rfl rfl) ?_
        refine WL_step rfl rfl (r_assign rfl) ?_
        refine WL_nil ?_
        refine thn_nrm (_hK_24 _ _ ?_)
        clear _hK_24
        refine W_ret (thn_ret ?_)
        clear _hK_10 _hK_21
        exact ret_intro [_] ⟨rfl, trivial⟩ ⟨congrArg bst (fmtI_neg _h27 (dg_end hm _h11)), E⟩
      · have _kb_23 := _h27
        have _h27 := bf_d _h27
        refine W_skip ?_
        refine thn_nrm (_hK_21 _ _ ?_)
        clear _hK_21
        refine W_seq fun _K_25 _hK_25 => ?_
        refine W_region ?_
        refine WL_step rfl rfl (r_move rfl) ?_
        refine WL_step rfl rfl (r_assign rfl) ?_
        refine WL_nil ?_
        refine thn_nrm (_hK_25 _ _ ?_)
        clear _hK_25
        refine W_ret ?_
        clear _hK_10
        exact ret_intro [_] ⟨rfl, trivial⟩ ⟨congrArg bst (fmtI_pos _h27 _h7 (dg_end hm _h11)), E⟩

/-- spec.l8Token -/
theorem c_spec_l8Token {w : World} (t : Token) (hl : 0 ≤ t.low ∧ t.low ≤ 255) (hh : 0 ≤ t.high ∧ t.high ≤ 255) :
    Ctr Tryz.prog 106 #[(.agg #[(.int .i64 t.kind), (.int .i64 t.letter), (.int .i64 t.low), (.int .i64 t.high)])] w (fun v w' => v = bst (tokS t) ∧ Ch [] w w') := by
  have E := Ch.refl [] w
  have fl9 := fmtI_len t.low; have fh9 := fmtI_len t.high
  refine Ctr_of_W (N := 30) (vs0 := [(.agg #[(.int .i64 t.kind), (.int .i64 t.letter), (.int .i64 t.low), (.int .i64 t.high)])]) Tryz.func106 rfl rfl rfl ?_
  refine W_seq fun _K_1 _hK_1 => ?_
  refine W_region ?_
  refine WL_s rfl rfl ?_
  refine s_box rfl fun _b1 _w_2 _m1 _cw_2 _e1 => ?_
  have _cw_2z := _cw_2.size
  have E := E.trans _cw_2
  have _z1 := _m1.lt
  replace _m1 : Blk _w_2 _b1 52 [(.int .i64 t.kind), (.int .i64 t.letter), (.int .i64 t.low), (.int .i64 t.high)] := _m1
  refine WL_step rfl rfl (r_assign rfl) ?_
  refine WL_nil ?_
  refine thn_nrm (_hK_1 _ _ ?_)
  clear _hK_1
  refine W_seq fun _K_3 _hK_3 => ?_
  refine W_seq fun _K_4 _hK_4 => ?_
  refine W_region ?_
  refine WL_step rfl rfl (r_fieldAddr fa52_0 rfl) ?_
  refine WL_step rfl rfl (r_loadAt _m1.at_ agg3 rfl rfl) ?_
  refine WL_nil ?_
  refine thn_nrm (_hK_4 _ _ ?_)
  clear _hK_4
  refine W_block ?_
  refine W_seq fun _K_5 _hK_5 => ?_
  refine W_region ?_
  refine WL_step rfl rfl (r_eql rfl rfl) ?_
  refine WL_step rfl rfl (r_assign rfl) ?_
  refine WL_nil ?_
  refine thn_nrm (_hK_5 _ _ ?_)
  clear _hK_5
  refine W_cond rfl (fun _h5 => ?_) (fun _h5 => ?_)
  · have _kb_6 := _h5
    have _h5 := bt_d _h5
    refine W_seq fun _K_7 _hK_7 => ?_
    refine W_region ?_
    refine WL_step rfl rfl (r_assign rfl) ?_
    refine WL_nil ?_
    refine thn_nrm (_hK_7 _ _ ?_)
    clear _hK_7
    refine W_ret (inB_ret (thn_ret ?_))
    clear _hK_3
    exact ret_intro [_] ⟨rfl, trivial⟩ ⟨congrArg bst (by unfold tokS; rw [if_pos _h5]), E⟩
  · have _kb_6 := _h5
    have _h5 := bf_d _h5
    refine W_seq fun _K_8 _hK_8 => ?_
    refine W_region ?_
    refine WL_step rfl rfl (r_eql rfl rfl) ?_
    refine WL_step rfl rfl (r_assign rfl) ?_
    refine WL_nil ?_
    refine thn_nrm (_hK_8 _ _ ?_)
    clear _hK_8
    refine W_cond rfl (fun _h7 => ?_) (fun _h7 => ?_)
    · have _kb_9 := _h7
      have _h7 := bt_d _h7
      refine W_seq fun _K_10 _hK_10 => ?_
      refine W_region ?_
      refine WL_step rfl rfl (r_assign rfl) ?_
      refine WL_nil ?_
      refine thn_nrm (_hK_10 _ _ ?_)
      clear _hK_10
      refine W_ret (inB_ret (thn_ret ?_))
      clear _hK_3
      exact ret_intro [_] ⟨rfl, trivial⟩ ⟨congrArg bst (by unfold tokS; rw [if_neg _h5, if_pos _h7]), E⟩
    · have _kb_9 := _h7
      have _h7 := bf_d _h7
      refine W_seq fun _K_11 _hK_11 => ?_
      refine W_region ?_
      refine WL_step rfl rfl (r_eql rfl rfl) ?_
      refine WL_step rfl rfl (r_assign rfl) ?_
      refine WL_nil ?_
      refine thn_nrm (_hK_11 _ _ ?_)
      clear _hK_11
      refine W_cond rfl (fun _h9 => ?_) (fun _h9 => ?_)
      · have _kb_12 := _h9
        have _h9 := bt_d _h9
        refine W_seq fun _K_13 _hK_13 => ?_
        refine W_region ?_
        refine WL_step rfl rfl (r_fieldAddr fa52_1 rfl) ?_
        refine WL_step rfl rfl (r_loadAt _m1.at_ agg3 rfl rfl) ?_
        refine WL_s rfl rfl ?_
        refine Step.call (r_call (xs := [.tmp 12]) fk109 rfl) (c_spec_FormatLetter _ ) fun _v13 _w_14 _q13 => ?_
        obtain ⟨rfl, _cw_14⟩ := _q13
        have _cw_14z := _cw_14.size
        have E := E.trans _cw_14
        refine WL_step rfl rfl (r_assign rfl) ?_
        refine WL_nil ?_
        refine thn_nrm (_hK_13 _ _ ?_)
        clear _hK_13
        refine W_ret (inB_ret (thn_ret ?_))
        clear _hK_3
        exact ret_intro [_] ⟨rfl, trivial⟩ ⟨congrArg bst (by unfold tokS; rw [if_neg _h5, if_neg _h7, if_pos _h9]), E⟩
      · have _kb_12 := _h9
        have _h9 := bf_d _h9
        refine W_seq fun _K_15 _hK_15 => ?_
        refine W_region ?_
        refine WL_step rfl rfl (r_eql rfl rfl) ?_
        refine WL_step rfl rfl (r_assign rfl) ?_
        refine WL_nil ?_
        refine thn_nrm (_hK_15 _ _ ?_)
        clear _hK_15
        refine W_cond rfl (fun _h14 => ?_) (fun _h14 => ?_)
        · have _kb_16 := _h14
          have _h14 := bt_d _h14
          refine W_seq fun _K_17 _hK_17 => ?_
          refine W_region ?_
          refine WL_step rfl rfl (r_assign rfl) ?_
          refine WL_nil ?_
          refine thn_nrm (_hK_17 _ _ ?_)
          clear _hK_17
          refine W_ret (inB_ret (thn_ret ?_))
          clear _hK_3
          exact ret_intro [_] ⟨rfl, trivial⟩ ⟨congrArg bst (by unfold tokS; rw [if_neg _h5, if_neg _h7, if_neg _h9, if_pos _h14]), E⟩
        · have _kb_16 := _h14
          have _h14 := bf_d _h14
          refine W_seq fun _K_18 _hK_18 => ?_
          refine W_region ?_
          refine WL_step rfl rfl (r_eql rfl rfl) ?_
          refine WL_step rfl rfl (r_assign rfl) ?_
          refine WL_nil ?_
          refine thn_nrm (_hK_18 _ _ ?_)
          clear _hK_18
          refine W_cond rfl (fun _h16 => ?_) (fun _h16 => ?_)
          · have _kb_19 := _h16
            have _h16 := bt_d _h16
            refine W_seq fun _K_20 _hK_20 => ?_
            refine W_region ?_
            refine WL_step rfl rfl (r_assign rfl) ?_
            refine WL_nil ?_
            refine thn_nrm (_hK_20 _ _ ?_)
            clear _hK_20
            refine W_ret (inB_ret (thn_ret ?_))
            clear _hK_3
            exact ret_intro [_] ⟨rfl, trivial⟩ ⟨congrArg bst (by unfold tokS; rw [if_neg _h5, if_neg _h7, if_neg _h9, if_neg _h14, if_pos _h16]), E⟩
          · have _kb_19 := _h16
            have _h16 := bf_d _h16
            refine W_seq fun _K_21 _hK_21 => ?_
            refine W_region ?_
            refine WL_step rfl rfl (r_eql rfl rfl) ?_
            refine WL_step rfl rfl (r_assign rfl) ?_
            refine WL_nil ?_
            refine thn_nrm (_hK_21 _ _ ?_)
            clear _hK_21
            refine W_cond rfl (fun _h18 => ?_) (fun _h18 => ?_)
            · have _kb_22 := _h18
              have _h18 := bt_d _h18
              refine W_seq fun _K_23 _hK_23 => ?_
              refine W_region ?_
              refine WL_step rfl rfl (r_assign rfl) ?_
              refine WL_nil ?_
              refine thn_nrm (_hK_23 _ _ ?_)
              clear _hK_23
              refine W_ret (inB_ret (thn_ret ?_))
              clear _hK_3
              exact ret_intro [_] ⟨rfl, trivial⟩ ⟨congrArg bst (by unfold tokS; rw [if_neg _h5, if_neg _h7, if_neg _h9, if_neg _h14, if_neg _h16, if_pos _h18]), E⟩
            · have _kb_22 := _h18
              have _h18 := bf_d _h18
              refine W_skip ?_
              refine inB_nrm ?_
              refine thn_nrm (_hK_3 _ _ ?_)
              clear _hK_3
              refine W_seq fun _K_24 _hK_24 => ?_
              refine W_drawC [] 11 mixed rfl fun _w_25 _cw_25 => ?_
              have _cw_25z := _cw_25.size
              have E := E.trans _cw_25
              refine DR_s 0 rfl (by kernel_rfl) rfl rfl (t_v (fun _ => (r_fieldAddr fa52_2 rfl)) ?_)
              have _f_26 := (_m1.ch0 _cw_25)
              refine DR_s 1 rfl (by kernel_rfl) rfl rfl (t_loadAt _f_26.at_ (fun i hi => absurd hi List.not_mem_nil) agg3 rfl rfl ?_)
              refine DR_s 5 rfl (by kernel_rfl) rfl rfl (t_v (fun _ => (r_fieldAddr fa52_3 rfl)) ?_)
              refine DR_s 6 rfl (by kernel_rfl) rfl rfl (t_loadAt _f_26.at_ (fun i hi => absurd hi List.not_mem_nil) agg3 rfl rfl ?_)
              refine DR_one 2 (by kernel_rfl) ?_
              refine DO_s rfl rfl rfl ?_
              refine Step.call (r_call (xs := [.tmp 21]) fk110 rfl) (c_spec_FormatInt _ (by omega)) fun _v22 _w_27 _q22 => ?_
              obtain ⟨rfl, _cw_27⟩ := _q22
              have _cw_27z := _cw_27.size
              have E := E.trans _cw_27
              have _S_28 : Ch [] _w_25 _w_27 := ((Ch.refl _ _).trans _cw_27)
              refine ⟨_S_28, ?_⟩
              refine DR_s 3 rfl (by kernel_rfl) rfl rfl (t_v (fun _ => (r_sAdd (by (simp only [List.length_append, List.length_cons, List.length_nil]; omega)) rfl rfl)) ?_)
              refine DR_s 4 rfl (by kernel_rfl) rfl rfl (t_v (fun _ => (r_sAdd (by (simp only [List.length_append, List.length_cons, List.length_nil]; omega)) rfl rfl)) ?_)
              refine DR_one 7 (by kernel_rfl) ?_
              refine DO_s rfl rfl rfl ?_
              refine Step.call (r_call (xs := [.tmp 26]) fk110 rfl) (c_spec_FormatInt _ (by omega)) fun _v27 _w_29 _q27 => ?_
              obtain ⟨rfl, _cw_29⟩ := _q27
              have _cw_29z := _cw_29.size
              have E := E.trans _cw_29
              have _S_30 : Ch [] _w_25 _w_29 := (_S_28.trans _cw_29)
              refine ⟨_S_30, ?_⟩
              refine DR_s 8 rfl (by kernel_rfl) rfl rfl (t_v (fun _ => (r_sAdd (by (simp only [List.length_append, List.length_cons, List.length_nil]; omega)) rfl rfl)) ?_)
              refine DR_s 9 rfl (by kernel_rfl) rfl rfl (t_v (fun _ => (r_sAdd (by (simp only [List.length_append, List.length_cons, List.length_nil]; omega)) rfl rfl)) ?_)
              refine DR_s 10 rfl (by kernel_rfl) rfl rfl (t_v (fun _ => (r_assign rfl)) ?_)
              refine DR_done (by kernel_rfl) ?_
              refine thn_nrm (_hK_24 _ _ ?_)
              clear _hK_24
              refine W_ret ?_
              exact ret_intro [_] ⟨rfl, trivial⟩ ⟨congrArg bst (by unfold tokS; rw [if_neg _h5, if_neg _h7, if_neg _h9, if_neg _h14, if_neg _h16, if_neg _h18]), E⟩

/-- spec.l8Read -/
theorem c_spec_l8Read {w : World} (s : List UInt8) :
    Ctr Tryz.prog 99 #[(bst s)] w (fun v w' => v = .agg (Token.cs (rdT s)).toArray ∧ Ch [] w w') := by
  have E := Ch.refl [] w
  refine Ctr_of_W (N := 57) (vs0 := [(bst s)]) Tryz.func99 rfl rfl rfl ?_
  refine W_seq fun _K_1 _hK_1 => ?_
  refine W_region ?_
  refine WL_s rfl rfl ?_
  refine s_alloc zr52 fun _b2 _w_2 _m2 _cw_2 _e2 => ?_
  have _cw_2z := _cw_2.size
  have E := E.trans _cw_2
  have _z2 := _m2.lt
  replace _m2 : Blk _w_2 _b2 52 [(.int .i64 0), (.int .i64 0), (.int .i64 0), (.int .i64 0)] := _m2
  refine WL_nil ?_
  refine thn_nrm (_hK_1 _ _ ?_)
  clear _hK_1
  refine W_seq fun _K_3 _hK_3 => ?_
  refine W_seq fun _K_4 _hK_4 => ?_
  refine W_region ?_
  refine WL_step rfl rfl (r_assign rfl) ?_
  refine WL_nil ?_
  refine thn_nrm (_hK_4 _ _ ?_)
  clear _hK_4
  refine W_block ?_
  refine W_loop (σ := Nat) (fun (k : Nat) => [(0, (bst s)), (2, (.pointer (some ⟨_b2, 0, none⟩))), (3, (.int .i64 ((k : Nat) : Int)))]) (fun (k : Nat) wx => Ch [] w wx ∧ _w_2.heap.size ≤ wx.heap.size ∧ (1 ≤ k ∧ k ≤ 7) ∧ (rdK s k = none) ∧ Blk wx _b2 52 [(.int .i64 0), (.int .i64 0), (.int .i64 0), (.int .i64 0)]) (fun (k : Nat) => 7 - k) 1 (Sub.cons rfl (Sub.cons rfl (Sub.cons rfl (Sub.nil _)))) ⟨E, (Nat.le_refl _), (by omega), rdK_zero, _m2⟩ ?_
  rintro k _wr_5 ⟨E, _zz0, _hk, hn, _F0_0⟩
  have _E0h := E
  have _E0hz := _E0h.size
  have _F0_0z := _F0_0.lt
  refine W_seq fun _K_6 _hK_6 => ?_
  refine W_seq fun _K_7 _hK_7 => ?_
  refine W_region ?_
  refine WL_step rfl rfl (r_move rfl) ?_
  refine WL_step rfl rfl (r_leq rfl rfl) ?_
  refine WL_nil ?_
  refine thn_nrm (_hK_7 _ _ ?_)
  clear _hK_7
  refine W_cond rfl (fun _h7 => ?_) (fun _h7 => ?_)
  · have _kb_8 := _h7
    have _h7 := bt_d _h7
    refine W_skip ?_
    refine thn_nrm (_hK_6 _ _ ?_)
    clear _hK_6
    refine W_seq fun _K_9 _hK_9 => ?_
    refine W_block ?_
    refine W_seq fun _K_10 _hK_10 => ?_
    refine W_region ?_
    refine WL_step rfl rfl (r_move rfl) ?_
    refine WL_step rfl rfl (r_neq rfl rfl) ?_
    refine WL_step rfl rfl (r_move rfl) ?_
    refine WL_split (d := 12) rfl (fun _h12 => ?_) (fun _h12 => ?_)
    · have _kb_11 := _h12
      have _h12 := bf_d (bt_n _h12)
      refine WL_step rfl rfl (r_move rfl) ?_
      refine WL_step rfl rfl (r_build (parts := [(0, .tmp 13)]) (cells := [(.int .i64 ((k : Nat) : Int)), (.int .i64 0), (.int .i64 0), (.int .i64 0)]) zr52 pl52 rfl rfl) ?_
      refine WL_s rfl rfl ?_
      refine Step.call (r_call (xs := [.tmp 14]) fk106 rfl) (c_spec_l8Token ⟨((k : Nat) : Int), 0, 0, 0⟩ (by first | omega | (dsimp only; omega) | simp) (by first | omega | (dsimp only; omega) | simp)) fun _v15 _w_12 _q15 => ?_
      obtain ⟨rfl, _cw_12⟩ := _q15
      have _cw_12z := _cw_12.size
      have E := E.trans _cw_12
      refine WL_step rfl rfl (r_move rfl) ?_
      refine WL_step rfl rfl (r_sEql rfl rfl) ?_
      refine WL_step rfl rfl (r_pickT rfl rfl) ?_
      refine WL_nil ?_
      refine thn_nrm (_hK_10 _ _ ?_)
      clear _hK_10
      refine W_cond rfl (fun _h18 => ?_) (fun _h18 => ?_)
      · have _kb_13 := _h18
        have _h18 := bt_d _h18
        refine W_seq fun _K_14 _hK_14 => ?_
        refine W_region ?_
        refine WL_step rfl rfl (r_move rfl) ?_
        refine WL_step rfl rfl (r_build (parts := [(0, .tmp 19)]) (cells := [(.int .i64 ((k : Nat) : Int)), (.int .i64 0), (.int .i64 0), (.int .i64 0)]) zr52 pl52 rfl rfl) ?_
        refine WL_s rfl rfl ?_
        have _f_15 := (_F0_0.ch0 _cw_12)
        refine s_storeA (off := 0) 4 _f_15 sz52 rfl (us := [(.int .i64 ((k : Nat) : Int)), (.int .i64 0), (.int .i64 0), (.int .i64 0)]) rfl rfl rfl rfl fun _w_16 _m_17 _cw_16 => ?_
        have _cw_16z := _cw_16.size
        have E := E.step _cw_16 (fun i hi => .inl (by have _h1 := List.mem_singleton.1 hi; omega))
        replace _m_17 : Blk _w_16 _b2 52 [(.int .i64 ((k : Nat) : Int)), (.int .i64 0), (.int .i64 0), (.int .i64 0)] := _m_17
        refine WL_nil ?_
        refine thn_nrm (_hK_14 _ _ ?_)
        clear _hK_14
        refine W_ret (inB_ret (thn_ret (thn_ret (inB_ret (thn_ret ?_)))))
        clear _hK_3 _hK_9
        exact ret_intro [_] (resOf_loadA _m_17 rfl agg52 sz52 trivial) ⟨(by have key : ∀ z : Token, z = rdT s → Value.agg (Token.cs z).toArray = Value.agg (Token.cs (rdT s)).toArray := (fun z h => by rw [h]); first | exact key _ (rdT_k hn (by omega) (by omega) (by omega) _h18) | exact key _ (rdT_l (rdK_end hn _h7 (by omega)) _h26) | exact key _ (rdT_r (rdK_end hn _h7 (by omega)) _h26 ⟨by omega, _h37, _h42, _h46⟩) | exact key _ (rdT_0 (rdK_end hn _h7 (by omega)) _h26 (fun c => by first | exact _h46 c.2.2.2 | exact _h42 c.2.2.1 | exact _h37 c.2.1 | omega))), E⟩
      · have _kb_13 := _h18
        have _h18 := bf_d _h18
        refine W_skip ?_
        refine inB_nrm ?_
        refine thn_nrm (_hK_9 _ _ ?_)
        clear _hK_9
        refine W_region ?_
        refine WL_step rfl rfl (r_move rfl) ?_
        refine WL_step rfl rfl (r_add (by omega) rfl rfl) ?_
        refine WL_step rfl rfl (r_assign rfl) ?_
        refine WL_nil ?_
        have _f_18 := (_F0_0.ch0 _cw_12)
        exact thn_nrm (Exists.intro (k + 1) ⟨⟨E, (by omega), (by omega), (rdK_n hn (by first | exact .inr _h18 | (left; omega))), _f_18⟩, Sub.cons rfl (Sub.cons rfl (Sub.cons rfl (Sub.nil _))), (by first | omega | (dsimp only; omega))⟩)
    · have _kb_11 := _h12
      have _h12 := bt_d (bf_n _h12)
      refine WL_skip rfl rfl ?_
      refine WL_skip rfl rfl ?_
      refine WL_skip rfl rfl ?_
      refine WL_skip rfl rfl ?_
      refine WL_skip rfl rfl ?_
      refine WL_step rfl rfl (r_pickF rfl rfl) ?_
      refine WL_nil ?_
      refine thn_nrm (_hK_10 _ _ ?_)
      clear _hK_10
      refine W_condF rfl ?_
      refine W_skip ?_
      refine inB_nrm ?_
      refine thn_nrm (_hK_9 _ _ ?_)
      clear _hK_9
      refine W_region ?_
      refine WL_step rfl rfl (r_move rfl) ?_
      refine WL_step rfl rfl (r_add (by omega) rfl rfl) ?_
      refine WL_step rfl rfl (r_assign rfl) ?_
      refine WL_nil ?_
      exact thn_nrm (Exists.intro (k + 1) ⟨⟨E, (by omega), (by omega), (rdK_n hn (by first | exact .inr _h18 | (left; omega))), _F0_0⟩, Sub.cons rfl (Sub.cons rfl (Sub.cons rfl (Sub.nil _))), (by first | omega | (dsimp only; omega))⟩)
  · have _kb_8 := _h7
    have _h7 := bf_d _h7
    refine W_exit (thn_exit (thn_exit (inB_hit ?_)))
    refine thn_nrm (_hK_3 _ _ ?_)
    clear _hK_3
    refine W_seq fun _K_19 _hK_19 => ?_
    refine W_region ?_
    refine WL_step rfl rfl (r_move rfl) ?_
    refine WL_s rfl rfl ?_
    refine Step.call (r_call (xs := [.tmp 22]) fk107 rfl) (c_spec_ParseLetter s ) fun _v23 _w_20 _q23 => ?_
    obtain ⟨rfl, _cw_20⟩ := _q23
    have _cw_20z := _cw_20.size
    have E := E.trans _cw_20
    refine WL_step rfl rfl (r_move rfl) ?_
    refine WL_step rfl rfl (r_extract rfl rfl) ?_
    refine WL_step rfl rfl (r_extract rfl rfl) ?_
    refine WL_step rfl rfl (r_assign rfl) ?_
    refine WL_step rfl rfl (r_assign rfl) ?_
    refine WL_nil ?_
    refine thn_nrm (_hK_19 _ _ ?_)
    clear _hK_19
    refine W_seq fun _K_21 _hK_21 => ?_
    refine W_seq fun _K_22 _hK_22 => ?_
    refine W_region ?_
    refine WL_step rfl rfl (r_move rfl) ?_
    refine WL_nil ?_
    refine thn_nrm (_hK_22 _ _ ?_)
    clear _hK_22
    refine W_cond rfl (fun _h26 => ?_) (fun _h26 => ?_)
    · have _kb_23 := _h26
      refine W_seq fun _K_24 _hK_24 => ?_
      refine W_region ?_
      refine WL_step rfl rfl (r_move rfl) ?_
      refine WL_step rfl rfl (r_build (parts := [(0, .const (Go.Value.int Go.IntKind.i64 3)), (1, .tmp 27)]) (cells := [(.int .i64 3), (.int .i64 ((plR s).1)), (.int .i64 0), (.int .i64 0)]) zr52 pl52 rfl rfl) ?_
      refine WL_s rfl rfl ?_
      have _f_25 := (_F0_0.ch0 _cw_20)
      refine s_storeA (off := 0) 4 _f_25 sz52 rfl (us := [(.int .i64 3), (.int .i64 ((plR s).1)), (.int .i64 0), (.int .i64 0)]) rfl rfl rfl rfl fun _w_26 _m_27 _cw_26 => ?_
      have _cw_26z := _cw_26.size
      have E := E.step _cw_26 (fun i hi => .inl (by have _h1 := List.mem_singleton.1 hi; omega))
      replace _m_27 : Blk _w_26 _b2 52 [(.int .i64 3), (.int .i64 ((plR s).1)), (.int .i64 0), (.int .i64 0)] := _m_27
      refine WL_nil ?_
      refine thn_nrm (_hK_24 _ _ ?_)
      clear _hK_24
      refine W_ret (thn_ret ?_)
      clear _hK_6 _hK_21
      exact ret_intro [_] (resOf_loadA _m_27 rfl agg52 sz52 trivial) ⟨(by have key : ∀ z : Token, z = rdT s → Value.agg (Token.cs z).toArray = Value.agg (Token.cs (rdT s)).toArray := (fun z h => by rw [h]); first | exact key _ (rdT_k hn (by omega) (by omega) (by omega) _h18) | exact key _ (rdT_l (rdK_end hn _h7 (by omega)) _h26) | exact key _ (rdT_r (rdK_end hn _h7 (by omega)) _h26 ⟨by omega, _h37, _h42, _h46⟩) | exact key _ (rdT_0 (rdK_end hn _h7 (by omega)) _h26 (fun c => by first | exact _h46 c.2.2.2 | exact _h42 c.2.2.1 | exact _h37 c.2.1 | omega))), E⟩
    · have _kb_23 := _h26
      refine W_skip ?_
      refine thn_nrm (_hK_21 _ _ ?_)
      clear _hK_21
      refine W_seq fun _K_28 _hK_28 => ?_
      refine W_seq fun _K_29 _hK_29 => ?_
      refine W_region ?_
      refine WL_step rfl rfl (r_move rfl) ?_
      refine WL_step rfl rfl (r_lenB un9 rfl) ?_
      refine WL_step rfl rfl (r_eql rfl rfl) ?_
      refine WL_step rfl rfl (r_move rfl) ?_
      refine WL_split (d := 32) rfl (fun _h32 => ?_) (fun _h32 => ?_)
      · have _kb_30 := _h32
        have _h32 := bt_d _h32
        refine WL_step rfl rfl (r_move rfl) ?_
        refine WL_step rfl rfl (r_sIndex (by omega) un9 rfl rfl) ?_
        refine WL_step rfl rfl (r_eql rfl rfl) ?_
        refine WL_step rfl rfl (r_pickT rfl rfl) ?_
        refine WL_step rfl rfl (r_move rfl) ?_
        refine WL_split (d := 37) rfl (fun _h37 => ?_) (fun _h37 => ?_)
        · have _kb_31 := _h37
          have _h37 := bt_d _h37
          refine WL_step rfl rfl (r_move rfl) ?_
          refine WL_step rfl rfl (r_sIndex (by omega) un9 rfl rfl) ?_
          refine WL_step rfl rfl (r_eql rfl rfl) ?_
          refine WL_step rfl rfl (r_pickT rfl rfl) ?_
          refine WL_step rfl rfl (r_move rfl) ?_
          refine WL_split (d := 42) rfl (fun _h42 => ?_) (fun _h42 => ?_)
          · have _kb_32 := _h42
            have _h42 := bt_d _h42
            refine WL_step rfl rfl (r_move rfl) ?_
            refine WL_step rfl rfl (r_sIndex (by omega) un9 rfl rfl) ?_
            refine WL_step rfl rfl (r_eql rfl rfl) ?_
            refine WL_step rfl rfl (r_pickT rfl rfl) ?_
            refine WL_nil ?_
            refine thn_nrm (_hK_29 _ _ ?_)
            clear _hK_29
            refine W_cond rfl (fun _h46 => ?_) (fun _h46 => ?_)
            · have _kb_33 := _h46
              have _h46 := bt_d _h46
              refine W_seq fun _K_34 _hK_34 => ?_
              refine W_drawC [_b2] 10 mixed rfl fun _w_35 _cw_35 => ?_
              have _cw_35z := _cw_35.size
              have E := E.trans _cw_35
              refine DR_s 0 rfl (by kernel_rfl) rfl rfl (t_v (fun _ => (r_move rfl)) ?_)
              refine DR_s 1 rfl (by kernel_rfl) rfl rfl (t_v (fun _ => (r_sIndex (by omega) un9 rfl rfl)) ?_)
              refine DR_s 2 rfl (by kernel_rfl) rfl rfl (t_v (fun _ => (r_convert64 (bat_cv _ _) (by rw [un5]; rfl) un3 rfl)) ?_)
              refine DR_s 3 rfl (by kernel_rfl) rfl rfl (t_v (fun _ => (r_sub (by have _h8 := bat_rng s (Int.toNat 1); omega) rfl rfl)) ?_)
              refine DR_s 4 rfl (by kernel_rfl) rfl rfl (t_v (fun _ => (r_move rfl)) ?_)
              refine DR_s 5 rfl (by kernel_rfl) rfl rfl (t_v (fun _ => (r_sIndex (by omega) un9 rfl rfl)) ?_)
              refine DR_s 6 rfl (by kernel_rfl) rfl rfl (t_v (fun _ => (r_convert64 (bat_cv _ _) (by rw [un5]; rfl) un3 rfl)) ?_)
              refine DR_s 7 rfl (by kernel_rfl) rfl rfl (t_v (fun _ => (r_sub (by have _h8 := bat_rng s (Int.toNat 3); omega) rfl rfl)) ?_)
              refine DR_s 8 rfl (by kernel_rfl) rfl rfl (t_v (fun _ => (r_build (parts := [(0, .const (Go.Value.int Go.IntKind.i64 7)), (2, .tmp 50), (3, .tmp 54)]) (cells := [(.int .i64 7), (.int .i64 0), (.int .i64 ((bat s 1) - 48)), (.int .i64 ((bat s 3) - 48))]) zr52 pl52 rfl rfl)) ?_)
              refine DR_one 9 (by kernel_rfl) ?_
              refine DO_s rfl rfl rfl ?_
              have _f_36 := ((_F0_0.ch0 _cw_20).ch0 _cw_35)
              refine s_storeA (off := 0) 4 _f_36 sz52 rfl (us := [(.int .i64 7), (.int .i64 0), (.int .i64 ((bat s 1) - 48)), (.int .i64 ((bat s 3) - 48))]) rfl rfl rfl rfl fun _w_37 _m_38 _cw_37 => ?_
              have _cw_37z := _cw_37.size
              have E := E.step _cw_37 (fun i hi => .inl (by have _h1 := List.mem_singleton.1 hi; omega))
              replace _m_38 : Blk _w_37 _b2 52 [(.int .i64 7), (.int .i64 0), (.int .i64 ((bat s 1) - 48)), (.int .i64 ((bat s 3) - 48))] := _m_38
              have _S_39 : Ch [_b2] _w_35 _w_37 := ((Ch.refl _ _).step _cw_37 (fun i hm => by have _h0 := List.mem_singleton.1 hm; exact .inr (by rw [_h0]; exact (List.mem_singleton.2 rfl))))
              refine ⟨_S_39, ?_⟩
              refine DR_done (by kernel_rfl) ?_
              refine thn_nrm (_hK_34 _ _ ?_)
              clear _hK_34
              refine W_ret (thn_ret ?_)
              clear _hK_6 _hK_28
              exact ret_intro [_] (resOf_loadA _m_38 rfl agg52 sz52 trivial) ⟨(by have key : ∀ z : Token, z = rdT s → Value.agg (Token.cs z).toArray = Value.agg (Token.cs (rdT s)).toArray := (fun z h => by rw [h]); first | exact key _ (rdT_k hn (by omega) (by omega) (by omega) _h18) | exact key _ (rdT_l (rdK_end hn _h7 (by omega)) _h26) | exact key _ (rdT_r (rdK_end hn _h7 (by omega)) _h26 ⟨by omega, _h37, _h42, _h46⟩) | exact key _ (rdT_0 (rdK_end hn _h7 (by omega)) _h26 (fun c => by first | exact _h46 c.2.2.2 | exact _h42 c.2.2.1 | exact _h37 c.2.1 | omega))), E⟩
            · have _kb_33 := _h46
              have _h46 := bf_d _h46
              refine W_skip ?_
              refine thn_nrm (_hK_28 _ _ ?_)
              clear _hK_28
              refine W_seq fun _K_40 _hK_40 => ?_
              refine W_region ?_
              refine WL_step rfl rfl (r_build (parts := []) (cells := [(.int .i64 0), (.int .i64 0), (.int .i64 0), (.int .i64 0)]) zr52 pl52 rfl rfl) ?_
              refine WL_s rfl rfl ?_
              have _f_41 := (_F0_0.ch0 _cw_20)
              refine s_storeA (off := 0) 4 _f_41 sz52 rfl (us := [(.int .i64 0), (.int .i64 0), (.int .i64 0), (.int .i64 0)]) rfl rfl rfl rfl fun _w_42 _m_43 _cw_42 => ?_
              have _cw_42z := _cw_42.size
              have E := E.step _cw_42 (fun i hi => .inl (by have _h1 := List.mem_singleton.1 hi; omega))
              replace _m_43 : Blk _w_42 _b2 52 [(.int .i64 0), (.int .i64 0), (.int .i64 0), (.int .i64 0)] := _m_43
              refine WL_nil ?_
              refine thn_nrm (_hK_40 _ _ ?_)
              clear _hK_40
              refine W_ret ?_
              clear _hK_6
              exact ret_intro [_] (resOf_loadA _m_43 rfl agg52 sz52 trivial) ⟨(by have key : ∀ z : Token, z = rdT s → Value.agg (Token.cs z).toArray = Value.agg (Token.cs (rdT s)).toArray := (fun z h => by rw [h]); first | exact key _ (rdT_k hn (by omega) (by omega) (by omega) _h18) | exact key _ (rdT_l (rdK_end hn _h7 (by omega)) _h26) | exact key _ (rdT_r (rdK_end hn _h7 (by omega)) _h26 ⟨by omega, _h37, _h42, _h46⟩) | exact key _ (rdT_0 (rdK_end hn _h7 (by omega)) _h26 (fun c => by first | exact _h46 c.2.2.2 | exact _h42 c.2.2.1 | exact _h37 c.2.1 | omega))), E⟩
          · have _kb_32 := _h42
            have _h42 := bf_d _h42
            refine WL_skip rfl rfl ?_
            refine WL_skip rfl rfl ?_
            refine WL_skip rfl rfl ?_
            refine WL_step rfl rfl (r_pickF rfl rfl) ?_
            refine WL_nil ?_
            refine thn_nrm (_hK_29 _ _ ?_)
            clear _hK_29
            refine W_condF rfl ?_
            refine W_skip ?_
            refine thn_nrm (_hK_28 _ _ ?_)
            clear _hK_28
            refine W_seq fun _K_44 _hK_44 => ?_
            refine W_region ?_
            refine WL_step rfl rfl (r_build (parts := []) (cells := [(.int .i64 0), (.int .i64 0), (.int .i64 0), (.int .i64 0)]) zr52 pl52 rfl rfl) ?_
            refine WL_s rfl rfl ?_
            have _f_45 := (_F0_0.ch0 _cw_20)
            refine s_storeA (off := 0) 4 _f_45 sz52 rfl (us := [(.int .i64 0), (.int .i64 0), (.int .i64 0), (.int .i64 0)]) rfl rfl rfl rfl fun _w_46 _m_47 _cw_46 => ?_
            have _cw_46z := _cw_46.size
            have E := E.step _cw_46 (fun i hi => .inl (by have _h1 := List.mem_singleton.1 hi; omega))
            replace _m_47 : Blk _w_46 _b2 52 [(.int .i64 0), (.int .i64 0), (.int .i64 0), (.int .i64 0)] := _m_47
            refine WL_nil ?_
            refine thn_nrm (_hK_44 _ _ ?_)
            clear _hK_44
            refine W_ret ?_
            clear _hK_6
            exact ret_intro [_] (resOf_loadA _m_47 rfl agg52 sz52 trivial) ⟨(by have key : ∀ z : Token, z = rdT s → Value.agg (Token.cs z).toArray = Value.agg (Token.cs (rdT s)).toArray := (fun z h => by rw [h]); first | exact key _ (rdT_k hn (by omega) (by omega) (by omega) _h18) | exact key _ (rdT_l (rdK_end hn _h7 (by omega)) _h26) | exact key _ (rdT_r (rdK_end hn _h7 (by omega)) _h26 ⟨by omega, _h37, _h42, _h46⟩) | exact key _ (rdT_0 (rdK_end hn _h7 (by omega)) _h26 (fun c => by first | exact _h46 c.2.2.2 | exact _h42 c.2.2.1 | exact _h37 c.2.1 | omega))), E⟩
        · have _kb_31 := _h37
          have _h37 := bf_d _h37
          refine WL_skip rfl rfl ?_
          refine WL_skip rfl rfl ?_
          refine WL_skip rfl rfl ?_
          refine WL_step rfl rfl (r_pickF rfl rfl) ?_
          refine WL_step rfl rfl (r_move rfl) ?_
          refine WL_skip rfl rfl ?_
          refine WL_skip rfl rfl ?_
          refine WL_skip rfl rfl ?_
          refine WL_step rfl rfl (r_pickF rfl rfl) ?_
          refine WL_nil ?_
          refine thn_nrm (_hK_29 _ _ ?_)
          clear _hK_29
          refine W_condF rfl ?_
          refine W_skip ?_
          refine thn_nrm (_hK_28 _ _ ?_)
          clear _hK_28
          refine W_seq fun _K_48 _hK_48 => ?_
          refine W_region ?_
          refine WL_step rfl rfl (r_build (parts := []) (cells := [(.int .i64 0), (.int .i64 0), (.int .i64 0), (.int .i64 0)]) zr52 pl52 rfl rfl) ?_
          refine WL_s rfl rfl ?_
          have _f_49 := (_F0_0.ch0 _cw_20)
          refine s_storeA (off := 0) 4 _f_49 sz52 rfl (us := [(.int .i64 0), (.int .i64 0), (.int .i64 0), (.int .i64 0)]) rfl rfl rfl rfl fun _w_50 _m_51 _cw_50 => ?_
          have _cw_50z := _cw_50.size
          have E := E.step _cw_50 (fun i hi => .inl (by have _h1 := List.mem_singleton.1 hi; omega))
          replace _m_51 : Blk _w_50 _b2 52 [(.int .i64 0), (.int .i64 0), (.int .i64 0), (.int .i64 0)] := _m_51
          refine WL_nil ?_
          refine thn_nrm (_hK_48 _ _ ?_)
          clear _hK_48
          refine W_ret ?_
          clear _hK_6
          exact ret_intro [_] (resOf_loadA _m_51 rfl agg52 sz52 trivial) ⟨(by have key : ∀ z : Token, z = rdT s → Value.agg (Token.cs z).toArray = Value.agg (Token.cs (rdT s)).toArray := (fun z h => by rw [h]); first | exact key _ (rdT_k hn (by omega) (by omega) (by omega) _h18) | exact key _ (rdT_l (rdK_end hn _h7 (by omega)) _h26) | exact key _ (rdT_r (rdK_end hn _h7 (by omega)) _h26 ⟨by omega, _h37, _h42, _h46⟩) | exact key _ (rdT_0 (rdK_end hn _h7 (by omega)) _h26 (fun c => by first | exact _h46 c.2.2.2 | exact _h42 c.2.2.1 | exact _h37 c.2.1 | omega))), E⟩
      · have _kb_30 := _h32
        have _h32 := bf_d _h32
        refine WL_skip rfl rfl ?_
        refine WL_skip rfl rfl ?_
        refine WL_skip rfl rfl ?_
        refine WL_step rfl rfl (r_pickF rfl rfl) ?_
        refine WL_step rfl rfl (r_move rfl) ?_
        refine WL_skip rfl rfl ?_
        refine WL_skip rfl rfl ?_
        refine WL_skip rfl rfl ?_
        refine WL_step rfl rfl (r_pickF rfl rfl) ?_
        refine WL_step rfl rfl (r_move rfl) ?_
        refine WL_skip rfl rfl ?_
        refine WL_skip rfl rfl ?_
        refine WL_skip rfl rfl ?_
        refine WL_step rfl rfl (r_pickF rfl rfl) ?_
        refine WL_nil ?_
        refine thn_nrm (_hK_29 _ _ ?_)
        clear _hK_29
        refine W_condF rfl ?_
        refine W_skip ?_
        refine thn_nrm (_hK_28 _ _ ?_)
        clear _hK_28
        refine W_seq fun _K_52 _hK_52 => ?_
        refine W_region ?_
        refine WL_step rfl rfl (r_build (parts := []) (cells := [(.int .i64 0), (.int .i64 0), (.int .i64 0), (.int .i64 0)]) zr52 pl52 rfl rfl) ?_
        refine WL_s rfl rfl ?_
        have _f_53 := (_F0_0.ch0 _cw_20)
        refine s_storeA (off := 0) 4 _f_53 sz52 rfl (us := [(.int .i64 0), (.int .i64 0), (.int .i64 0), (.int .i64 0)]) rfl rfl rfl rfl fun _w_54 _m_55 _cw_54 => ?_
        have _cw_54z := _cw_54.size
        have E := E.step _cw_54 (fun i hi => .inl (by have _h1 := List.mem_singleton.1 hi; omega))
        replace _m_55 : Blk _w_54 _b2 52 [(.int .i64 0), (.int .i64 0), (.int .i64 0), (.int .i64 0)] := _m_55
        refine WL_nil ?_
        refine thn_nrm (_hK_52 _ _ ?_)
        clear _hK_52
        refine W_ret ?_
        clear _hK_6
        exact ret_intro [_] (resOf_loadA _m_55 rfl agg52 sz52 trivial) ⟨(by have key : ∀ z : Token, z = rdT s → Value.agg (Token.cs z).toArray = Value.agg (Token.cs (rdT s)).toArray := (fun z h => by rw [h]); first | exact key _ (rdT_k hn (by omega) (by omega) (by omega) _h18) | exact key _ (rdT_l (rdK_end hn _h7 (by omega)) _h26) | exact key _ (rdT_r (rdK_end hn _h7 (by omega)) _h26 ⟨by omega, _h37, _h42, _h46⟩) | exact key _ (rdT_0 (rdK_end hn _h7 (by omega)) _h26 (fun c => by first | exact _h46 c.2.2.2 | exact _h42 c.2.2.1 | exact _h37 c.2.1 | omega))), E⟩

/-- spec.ParseExpr -/
theorem c_spec_ParseExpr {w : World} (s : List UInt8) (hb : s.length ≤ 4194304) :
    Ctr Tryz.prog 83 #[(bst s)] w (fun v w' => ∃ (u0x0 : Value), v = .tuple #[.agg #[u0x0], .bool ((parS s).2)] ∧ Ol Token.cs 52 4 w' u0x0 ((parS s).1) ∧ Lo w.heap.size u0x0 ∧ Ch [] w w') := by
  have E := Ch.refl [] w
  have cl9 := cutR_len s 32 []
  refine Ctr_of_W (N := 35) (vs0 := [(bst s)]) Tryz.func83 rfl rfl rfl ?_
  refine W_seq fun _K_1 _hK_1 => ?_
  refine W_region ?_
  refine WL_s rfl rfl ?_
  refine s_alloc zr26 fun _b2 _w_2 _m2 _cw_2 _e2 => ?_
  have _cw_2z := _cw_2.size
  have E := E.trans _cw_2
  have _z2 := _m2.lt
  replace _m2 : Blk _w_2 _b2 26 [(.slice none 0 0)] := _m2
  refine WL_step rfl rfl (r_assign rfl) ?_
  refine WL_nil ?_
  refine thn_nrm (_hK_1 _ _ ?_)
  clear _hK_1
  refine W_seq fun _K_3 _hK_3 => ?_
  refine W_region ?_
  refine WL_step rfl rfl (r_build (parts := []) (cells := [(.slice none 0 0)]) zr26 pl26 rfl rfl) ?_
  refine WL_s rfl rfl ?_
  refine s_alloc zr26 fun _b4 _w_4 _m4 _cw_4 _e4 => ?_
  have _cw_4z := _cw_4.size
  have E := E.trans _cw_4
  have _z4 := _m4.lt
  replace _m4 : Blk _w_4 _b4 26 [(.slice none 0 0)] := _m4
  refine WL_s rfl rfl ?_
  refine s_storeA (off := 0) 1 _m4 sz26 rfl (us := [(.slice none 0 0)]) rfl rfl rfl rfl fun _w_5 _m_6 _cw_5 => ?_
  have _cw_5z := _cw_5.size
  have E := E.step _cw_5 (fun i hi => .inl (by have _h1 := List.mem_singleton.1 hi; omega))
  replace _m_6 : Blk _w_5 _b4 26 [(.slice none 0 0)] := _m_6
  refine WL_nil ?_
  refine thn_nrm (_hK_3 _ _ ?_)
  clear _hK_3
  refine W_seq fun _K_7 _hK_7 => ?_
  refine W_region ?_
  refine WL_step rfl rfl (r_move rfl) ?_
  refine WL_s rfl rfl ?_
  refine Step.call (r_call (xs := [.tmp 8, .const (Go.Value.int Go.IntKind.u8 32)]) fk98 rfl) (c_spec_l2Cut s _ (by omega)) fun _v9 _w_8 _q9 => ?_
  obtain ⟨_q9, _lo9, _cw_8⟩ := _q9
  have _cw_8z := _cw_8.size
  have E := E.trans _cw_8
  obtain ⟨_Av9, _Cv9, _ev9⟩ := _q9.val
  subst _ev9
  have _lv9 := _q9.len
  have _hiv9 := _q9.lt
  have lsr9 := Ol.lsR _q9 (lo := _w_5.heap.size) (hi := _w_8.heap.size) _lo9 _hiv9
  refine WL_step rfl rfl (r_assign rfl) ?_
  refine WL_nil ?_
  refine thn_nrm (_hK_7 _ _ ?_)
  clear _hK_7
  refine W_seq fun _K_9 _hK_9 => ?_
  refine W_seq fun _K_10 _hK_10 => ?_
  refine W_region ?_
  refine WL_step rfl rfl (r_assign rfl) ?_
  refine WL_nil ?_
  refine thn_nrm (_hK_10 _ _ ?_)
  clear _hK_10
  refine W_block ?_
  have _oi_11 : Ol Token.cs 52 4 _w_8 (.slice none 0 0) (((cutR s 32 []).take 0).map rdT) := by
    have hx := (Ol.nil (cs := Token.cs) (e := 52) (k := 4) _w_8)
    simpa using hx
  have _f_12 := (_m_6.ch0 _cw_8)
  have _f_13 := (((_m2.ch0 _cw_4).ch _cw_5 (fun hm => by have _h1 := List.mem_singleton.1 hm; omega)).ch0 _cw_8)
  refine W_loop (σ := Nat × Value) (fun ⟨i, tv⟩ => [(2, (.pointer (some ⟨_b2, 0, none⟩))), (3, (.bool false)), (4, (.pointer (some ⟨_b4, 0, none⟩))), (5, (.slice _Av9 (cutR s 32 []).length _Cv9)), (6, (.int .i64 ((i : Nat) : Int)))]) (fun ⟨i, tv⟩ wx => Ch [] w wx ∧ _w_8.heap.size ≤ wx.heap.size ∧ (i ≤ (cutR s 32 []).length ∧ i ≤ 25) ∧ Blk wx _b2 26 [(.slice none 0 0)] ∧ Ls scs 1 wx _w_5.heap.size _w_8.heap.size (.slice _Av9 (cutR s 32 []).length _Cv9) (cutR s 32 []) ∧ Ol Token.cs 52 4 wx tv (((cutR s 32 []).take i).map rdT) ∧ Lo _w_8.heap.size tv ∧ Blk wx _b4 26 [tv] ∧ (_b4 ∉ bl tv)) (fun ⟨i, tv⟩ => (cutR s 32 []).length - i) (0, (.slice none 0 0)) (Sub.cons rfl (Sub.cons rfl (Sub.cons rfl (Sub.cons rfl (Sub.cons rfl (Sub.nil _)))))) ⟨E, (Nat.le_refl _), (by omega), _f_13, lsr9, _oi_11, (Lo.nil _), _f_12, (fun hm => by cases hm)⟩ ?_
  rintro ⟨i, tv⟩ _wr_14 ⟨E, _zz0, hi, _F0_0, _F0_1, _o0_4, _lo0_4, _m0_4, _nb0_4⟩
  have _E0h := E
  have _E0hz := _E0h.size
  have _F0_0z := _F0_0.lt
  obtain ⟨Atv, Ctv, etv⟩ := _o0_4.val
  subst etv
  have ltv := _o0_4.len
  have _hitv := _o0_4.lt
  refine W_seq fun _K_15 _hK_15 => ?_
  refine W_seq fun _K_16 _hK_16 => ?_
  refine W_region ?_
  refine WL_step rfl rfl (r_move rfl) ?_
  refine WL_step rfl rfl (r_move rfl) ?_
  refine WL_step rfl rfl (r_len (by rw [el96]; rfl) rfl) ?_
  refine WL_step rfl rfl (r_lss rfl rfl) ?_
  refine WL_step rfl rfl (r_move rfl) ?_
  refine WL_split (d := 14) rfl (fun _h14 => ?_) (fun _h14 => ?_)
  · have _kb_17 := _h14
    have _h14 := bt_d _h14
    refine WL_step rfl rfl (r_move rfl) ?_
    refine WL_step rfl rfl (r_leq rfl rfl) ?_
    refine WL_step rfl rfl (r_pickT rfl rfl) ?_
    refine WL_nil ?_
    refine thn_nrm (_hK_16 _ _ ?_)
    clear _hK_16
    refine W_cond rfl (fun _h17 => ?_) (fun _h17 => ?_)
    · have _kb_18 := _h17
      have _h17 := bt_d _h17
      refine W_skip ?_
      refine thn_nrm (_hK_15 _ _ ?_)
      clear _hK_15
      refine W_seq fun _K_19 _hK_19 => ?_
      refine W_block ?_
      refine W_drawC ((bl (.slice Atv (((cutR s 32 []).take i).map rdT).length Ctv)) ++ [_b4]) 11 mixed rfl fun _w_20 _cw_20 => ?_
      have _cw_20z := _cw_20.size
      have E := E.trans _cw_20
      refine DR_s 0 rfl (by kernel_rfl) rfl rfl (t_v (fun _ => (r_fieldAddr fa26_0 rfl)) ?_)
      refine DR_s 2 rfl (by kernel_rfl) rfl rfl (t_v (fun _ => (r_move rfl)) ?_)
      refine DR_s 3 rfl (by kernel_rfl) rfl rfl (t_v (fun _ => (r_move rfl)) ?_)
      have _f_21 := (_F0_1.ch0 _cw_20)
      refine DR_s 4 rfl (by kernel_rfl) rfl rfl (t_index _f_21 scs_len el96 sz9 rfl rfl rfl (by omega) fun _p24 _y24 _hy24 _a24 => ?_)
      refine DR_s 5 rfl (by kernel_rfl) rfl rfl (t_loadAt0 _a24 (fun i hm => by rcases List.mem_append.1 hm with hm | hm; (have _h1 := _lo0_4 _ hm; have _h2 := _hitv _ hm; omega); (have _h1 := List.mem_singleton.1 hm; omega)) agg9 rfl rfl ?_)
      refine DR_two 1 6 (by kernel_rfl) ?_ ?_
      · refine DO_s rfl rfl rfl ?_
        have _f_22 := (_m0_4.ch0 _cw_20)
        refine s_v (r_loadAt _f_22.at_ agg24 rfl rfl) ?_
        refine ⟨(Ch.refl _ _), ?_⟩
        refine DR_one 6 (by kernel_rfl) ?_
        refine DO_s rfl rfl rfl ?_
        refine Step.call (r_call (xs := [.tmp 25]) fk99 rfl) (c_spec_l8Read _y24 ) fun _v26 _w_23 _q26 => ?_
        obtain ⟨rfl, _cw_23⟩ := _q26
        have _cw_23z := _cw_23.size
        have E := E.trans _cw_23
        have _S_24 : Ch ((bl (.slice Atv (((cutR s 32 []).take i).map rdT).length Ctv)) ++ [_b4]) _w_20 _w_23 := ((Ch.refl _ _).trans _cw_23.of_nil)
        refine ⟨_S_24, ?_⟩
        refine DR_one 7 (by kernel_rfl) ?_
        refine DO_s rfl rfl rfl ?_
        refine s_buildSlice (cs := Token.cs) (parts := [(0, .tmp 26)]) (⟨0, 0, 0, 0⟩ : Token) [(rdT _y24)] el24 sz52 zr52 Token.len (by decide) rfl rfl rfl (by decide) (by decide) rfl fun _v27 _w_25 _q27 _lo27 _cw_25 => ?_
        have _cw_25z := _cw_25.size
        have E := E.trans _cw_25
        obtain ⟨_Av27, _Cv27, _ev27⟩ := _q27.val
        subst _ev27
        have _lv27 := _q27.len
        have _hiv27 := _q27.lt
        have _S_26 : Ch ((bl (.slice Atv (((cutR s 32 []).take i).map rdT).length Ctv)) ++ [_b4]) _w_20 _w_25 := (_S_24.trans _cw_25.of_nil)
        refine ⟨_S_26, ?_⟩
        refine DR_one 8 (by kernel_rfl) ?_
        refine DO_s rfl rfl rfl ?_
        have _f_28 := (((_o0_4.ch0 _cw_20).ch0 _cw_23).ch0 _cw_25)
        refine s_append (cs := Token.cs) el24 sz52 by52 zr52 rfl (by decide) Token.one _f_28 _q27.ls rfl rfl (by first | omega | (simp only [List.length_append, List.length_nil, List.length_cons, List.length_replicate, List.length_set, List.length_reverse, List.length_map] at *; omega) | (simp at *; omega)) (by first | omega | (simp only [List.length_append, List.length_nil, List.length_cons, List.length_replicate, List.length_set, List.length_reverse, List.length_map] at *; omega) | (simp at *; omega)) _lo0_4 (by omega) fun _v28 _w_27 _q28 _lo28 _ap28 _cw_27 => ?_
        have _cw_27z := _cw_27.size
        have E := E.step _cw_27 (fun i hi => .inl (by have _h1 := _lo0_4 _ hi; omega))
        obtain ⟨_Av28, _Cv28, _ev28⟩ := _q28.val
        subst _ev28
        have _lv28 := _q28.len
        have _hiv28 := _q28.lt
        have _S_29 : Ch ((bl (.slice Atv (((cutR s 32 []).take i).map rdT).length Ctv)) ++ [_b4]) _w_20 _w_27 := (_S_26.step _cw_27 (fun i hm => by exact .inr (List.mem_append_left _ hm)))
        refine ⟨_S_29, ?_⟩
        refine DR_s 9 rfl (by kernel_rfl) rfl rfl (t_v (fun _ => (r_fieldAddr fa26_0 rfl)) ?_)
        refine DR_one 10 (by kernel_rfl) ?_
        refine DO_s rfl rfl rfl ?_
        have _f_30 := (((_f_22.ch0 _cw_23).ch0 _cw_25).ch _cw_27 (fun hm => by exact _nb0_4 (by first | exact hm | exact _h0 ▸ hm)))
        refine s_store1 (off := 0) _f_30 sz24 rfl rfl rfl rfl fun _w_31 _m_32 _cw_31 => ?_
        have _cw_31z := _cw_31.size
        have E := E.step _cw_31 (fun i hi => .inl (by have _h1 := List.mem_singleton.1 hi; omega))
        replace _m_32 : Blk _w_31 _b4 26 [(.slice _Av28 ((((cutR s 32 []).take i).map rdT ++ [(rdT _y24)])).length _Cv28)] := _m_32
        have _S_33 : Ch ((bl (.slice Atv (((cutR s 32 []).take i).map rdT).length Ctv)) ++ [_b4]) _w_20 _w_31 := (_S_29.step _cw_31 (fun i hm => by have _h0 := List.mem_singleton.1 hm; exact .inr (by rw [_h0]; exact (List.mem_append_right _ (List.mem_singleton.2 rfl)))))
        refine ⟨_S_33, ?_⟩
        refine DR_done (by kernel_rfl) ?_
        refine inB_nrm ?_
        refine thn_nrm (_hK_19 _ _ ?_)
        clear _hK_19
        refine W_region ?_
        refine WL_step rfl rfl (r_move rfl) ?_
        refine WL_step rfl rfl (r_add (by omega) rfl rfl) ?_
        refine WL_step rfl rfl (r_assign rfl) ?_
        refine WL_nil ?_
        have _f_35 := (_q28.ch _cw_31 (fun g hg hm => by have _h0 := List.mem_singleton.1 hm; rcases _ap28 with ea | ea; (rw [ea] at hg; exact _nb0_4 (by first | exact hg | exact _h0 ▸ hg)); (rw [ea] at hg; have _z1 := List.mem_singleton.1 hg; omega)))
        have _on_34 : Ol Token.cs 52 4 _w_31 (.slice _Av28 ((((cutR s 32 []).take i).map rdT ++ [(rdT _y24)])).length _Cv28) (((cutR s 32 []).take (i + 1)).map rdT) := by
          have hx := _f_35
          exact hx.eq (map_take_step _hy24)
        have _f_36 := (((((_F0_0.ch0 _cw_20).ch0 _cw_23).ch0 _cw_25).ch _cw_27 (fun hm => by have _h1 := _lo0_4 _ hm; have _h2 := _hitv _ hm; omega)).ch _cw_31 (fun hm => by have _h1 := List.mem_singleton.1 hm; omega))
        have _f_37 := ((((_f_21.ch0 _cw_23).ch0 _cw_25).ch _cw_27 (fun i hi => by have _h1 := _lo0_4 _ hi; omega)).ch _cw_31 (fun i hi => by have _h1 := List.mem_singleton.1 hi; omega))
        exact thn_nrm (Exists.intro ((i + 1), (.slice _Av28 ((((cutR s 32 []).take i).map rdT ++ [(rdT _y24)])).length _Cv28)) ⟨⟨E, (by omega), (by omega), _f_36, _f_37, _on_34, (Lo.down _lo28 (by omega)), _m_32, (fun hm => by rcases _ap28 with ea | ea; (rw [ea] at hm; exact _nb0_4 (by first | exact hm | exact _h0 ▸ hm)); (rw [ea] at hm; have _z1 := List.mem_singleton.1 hm; omega))⟩, Sub.cons rfl (Sub.cons rfl (Sub.cons rfl (Sub.cons rfl (Sub.cons rfl (Sub.nil _))))), (by first | omega | (dsimp only; omega))⟩)
      · refine DO_s rfl rfl rfl ?_
        refine Step.call (r_call (xs := [.tmp 25]) fk99 rfl) (c_spec_l8Read _y24 ) fun _v26 _w_38 _q26 => ?_
        obtain ⟨rfl, _cw_38⟩ := _q26
        have _cw_38z := _cw_38.size
        have E := E.trans _cw_38
        have _S_39 : Ch ((bl (.slice Atv (((cutR s 32 []).take i).map rdT).length Ctv)) ++ [_b4]) _w_20 _w_38 := ((Ch.refl _ _).trans _cw_38.of_nil)
        refine ⟨_S_39, ?_⟩
        refine DR_two 1 7 (by kernel_rfl) ?_ ?_
        · refine DO_s rfl rfl rfl ?_
          have _f_40 := ((_m0_4.ch0 _cw_20).ch0 _cw_38)
          refine s_v (r_loadAt _f_40.at_ agg24 rfl rfl) ?_
          refine ⟨_S_39, ?_⟩
          refine DR_one 7 (by kernel_rfl) ?_
          refine DO_s rfl rfl rfl ?_
          refine s_buildSlice (cs := Token.cs) (parts := [(0, .tmp 26)]) (⟨0, 0, 0, 0⟩ : Token) [(rdT _y24)] el24 sz52 zr52 Token.len (by decide) rfl rfl rfl (by decide) (by decide) rfl fun _v27 _w_41 _q27 _lo27 _cw_41 => ?_
          have _cw_41z := _cw_41.size
          have E := E.trans _cw_41
          obtain ⟨_Av27, _Cv27, _ev27⟩ := _q27.val
          subst _ev27
          have _lv27 := _q27.len
          have _hiv27 := _q27.lt
          have _S_42 : Ch ((bl (.slice Atv (((cutR s 32 []).take i).map rdT).length Ctv)) ++ [_b4]) _w_20 _w_41 := (_S_39.trans _cw_41.of_nil)
          refine ⟨_S_42, ?_⟩
          refine DR_one 8 (by kernel_rfl) ?_
          refine DO_s rfl rfl rfl ?_
          have _f_44 := (((_o0_4.ch0 _cw_20).ch0 _cw_38).ch0 _cw_41)
          refine s_append (cs := Token.cs) el24 sz52 by52 zr52 rfl (by decide) Token.one _f_44 _q27.ls rfl rfl (by first | omega | (simp only [List.length_append, List.length_nil, List.length_cons, List.length_replicate, List.length_set, List.length_reverse, List.length_map] at *; omega) | (simp at *; omega)) (by first | omega | (simp only [List.length_append, List.length_nil, List.length_cons, List.length_replicate, List.length_set, List.length_reverse, List.length_map] at *; omega) | (simp at *; omega)) _lo0_4 (by omega) fun _v28 _w_43 _q28 _lo28 _ap28 _cw_43 => ?_
          have _cw_43z := _cw_43.size
          have E := E.step _cw_43 (fun i hi => .inl (by have _h1 := _lo0_4 _ hi; omega))
          obtain ⟨_Av28, _Cv28, _ev28⟩ := _q28.val
          subst _ev28
          have _lv28 := _q28.len
          have _hiv28 := _q28.lt
          have _S_45 : Ch ((bl (.slice Atv (((cutR s 32 []).take i).map rdT).length Ctv)) ++ [_b4]) _w_20 _w_43 := (_S_42.step _cw_43 (fun i hm => by exact .inr (List.mem_append_left _ hm)))
          refine ⟨_S_45, ?_⟩
          refine DR_s 9 rfl (by kernel_rfl) rfl rfl (t_v (fun _ => (r_fieldAddr fa26_0 rfl)) ?_)
          refine DR_one 10 (by kernel_rfl) ?_
          refine DO_s rfl rfl rfl ?_
          have _f_46 := ((_f_40.ch0 _cw_41).ch _cw_43 (fun hm => by exact _nb0_4 (by first | exact hm | exact _h0 ▸ hm)))
          refine s_store1 (off := 0) _f_46 sz24 rfl rfl rfl rfl fun _w_47 _m_48 _cw_47 => ?_
          have _cw_47z := _cw_47.size
          have E := E.step _cw_47 (fun i hi => .inl (by have _h1 := List.mem_singleton.1 hi; omega))
          replace _m_48 : Blk _w_47 _b4 26 [(.slice _Av28 ((((cutR s 32 []).take i).map rdT ++ [(rdT _y24)])).length _Cv28)] := _m_48
          have _S_49 : Ch ((bl (.slice Atv (((cutR s 32 []).take i).map rdT).length Ctv)) ++ [_b4]) _w_20 _w_47 := (_S_45.step _cw_47 (fun i hm => by have _h0 := List.mem_singleton.1 hm; exact .inr (by rw [_h0]; exact (List.mem_append_right _ (List.mem_singleton.2 rfl)))))
          refine ⟨_S_49, ?_⟩
          refine DR_done (by kernel_rfl) ?_
          refine inB_nrm ?_
          refine thn_nrm (_hK_19 _ _ ?_)
          clear _hK_19
          refine W_region ?_
          refine WL_step rfl rfl (r_move rfl) ?_
          refine WL_step rfl rfl (r_add (by omega) rfl rfl) ?_
          refine WL_step rfl rfl (r_assign rfl) ?_
          refine WL_nil ?_
          have _f_51 := (_q28.ch _cw_47 (fun g hg hm => by have _h0 := List.mem_singleton.1 hm; rcases _ap28 with ea | ea; (rw [ea] at hg; exact _nb0_4 (by first | exact hg | exact _h0 ▸ hg)); (rw [ea] at hg; have _z1 := List.mem_singleton.1 hg; omega)))
          have _on_50 : Ol Token.cs 52 4 _w_47 (.slice _Av28 ((((cutR s 32 []).take i).map rdT ++ [(rdT _y24)])).length _Cv28) (((cutR s 32 []).take (i + 1)).map rdT) := by
            have hx := _f_51
            exact hx.eq (map_take_step _hy24)
          have _f_52 := (((((_F0_0.ch0 _cw_20).ch0 _cw_38).ch0 _cw_41).ch _cw_43 (fun hm => by have _h1 := _lo0_4 _ hm; have _h2 := _hitv _ hm; omega)).ch _cw_47 (fun hm => by have _h1 := List.mem_singleton.1 hm; omega))
          have _f_53 := ((((_f_21.ch0 _cw_38).ch0 _cw_41).ch _cw_43 (fun i hi => by have _h1 := _lo0_4 _ hi; omega)).ch _cw_47 (fun i hi => by have _h1 := List.mem_singleton.1 hi; omega))
          exact thn_nrm (Exists.intro ((i + 1), (.slice _Av28 ((((cutR s 32 []).take i).map rdT ++ [(rdT _y24)])).length _Cv28)) ⟨⟨E, (by omega), (by omega), _f_52, _f_53, _on_50, (Lo.down _lo28 (by omega)), _m_48, (fun hm => by rcases _ap28 with ea | ea; (rw [ea] at hm; exact _nb0_4 (by first | exact hm | exact _h0 ▸ hm)); (rw [ea] at hm; have _z1 := List.mem_singleton.1 hm; omega))⟩, Sub.cons rfl (Sub.cons rfl (Sub.cons rfl (Sub.cons rfl (Sub.cons rfl (Sub.nil _))))), (by first | omega | (dsimp only; omega))⟩)
        · refine DO_s rfl rfl rfl ?_
          refine s_buildSlice (cs := Token.cs) (parts := [(0, .tmp 26)]) (⟨0, 0, 0, 0⟩ : Token) [(rdT _y24)] el24 sz52 zr52 Token.len (by decide) rfl rfl rfl (by decide) (by decide) rfl fun _v27 _w_54 _q27 _lo27 _cw_54 => ?_
          have _cw_54z := _cw_54.size
          have E := E.trans _cw_54
          obtain ⟨_Av27, _Cv27, _ev27⟩ := _q27.val
          subst _ev27
          have _lv27 := _q27.len
          have _hiv27 := _q27.lt
          have _S_55 : Ch ((bl (.slice Atv (((cutR s 32 []).take i).map rdT).length Ctv)) ++ [_b4]) _w_20 _w_54 := (_S_39.trans _cw_54.of_nil)
          refine ⟨_S_55, ?_⟩
          refine DR_one 1 (by kernel_rfl) ?_
          refine DO_s rfl rfl rfl ?_
          have _f_56 := (((_m0_4.ch0 _cw_20).ch0 _cw_38).ch0 _cw_54)
          refine s_v (r_loadAt _f_56.at_ agg24 rfl rfl) ?_
          refine ⟨_S_55, ?_⟩
          refine DR_one 8 (by kernel_rfl) ?_
          refine DO_s rfl rfl rfl ?_
          have _f_58 := (((_o0_4.ch0 _cw_20).ch0 _cw_38).ch0 _cw_54)
          refine s_append (cs := Token.cs) el24 sz52 by52 zr52 rfl (by decide) Token.one _f_58 _q27.ls rfl rfl (by first | omega | (simp only [List.length_append, List.length_nil, List.length_cons, List.length_replicate, List.length_set, List.length_reverse, List.length_map] at *; omega) | (simp at *; omega)) (by first | omega | (simp only [List.length_append, List.length_nil, List.length_cons, List.length_replicate, List.length_set, List.length_reverse, List.length_map] at *; omega) | (simp at *; omega)) _lo0_4 (by omega) fun _v28 _w_57 _q28 _lo28 _ap28 _cw_57 => ?_
          have _cw_57z := _cw_57.size
          have E := E.step _cw_57 (fun i hi => .inl (by have _h1 := _lo0_4 _ hi; omega))
          obtain ⟨_Av28, _Cv28, _ev28⟩ := _q28.val
          subst _ev28
          have _lv28 := _q28.len
          have _hiv28 := _q28.lt
          have _S_59 : Ch ((bl (.slice Atv (((cutR s 32 []).take i).map rdT).length Ctv)) ++ [_b4]) _w_20 _w_57 := (_S_55.step _cw_57 (fun i hm => by exact .inr (List.mem_append_left _ hm)))
          refine ⟨_S_59, ?_⟩
          refine DR_s 9 rfl (by kernel_rfl) rfl rfl (t_v (fun _ => (r_fieldAddr fa26_0 rfl)) ?_)
          refine DR_one 10 (by kernel_rfl) ?_
          refine DO_s rfl rfl rfl ?_
          have _f_60 := (_f_56.ch _cw_57 (fun hm => by exact _nb0_4 (by first | exact hm | exact _h0 ▸ hm)))
          refine s_store1 (off := 0) _f_60 sz24 rfl rfl rfl rfl fun _w_61 _m_62 _cw_61 => ?_
          have _cw_61z := _cw_61.size
          have E := E.step _cw_61 (fun i hi => .inl (by have _h1 := List.mem_singleton.1 hi; omega))
          replace _m_62 : Blk _w_61 _b4 26 [(.slice _Av28 ((((cutR s 32 []).take i).map rdT ++ [(rdT _y24)])).length _Cv28)] := _m_62
          have _S_63 : Ch ((bl (.slice Atv (((cutR s 32 []).take i).map rdT).length Ctv)) ++ [_b4]) _w_20 _w_61 := (_S_59.step _cw_61 (fun i hm => by have _h0 := List.mem_singleton.1 hm; exact .inr (by rw [_h0]; exact (List.mem_append_right _ (List.mem_singleton.2 rfl)))))
          refine ⟨_S_63, ?_⟩
          refine DR_done (by kernel_rfl) ?_
          refine inB_nrm ?_
          refine thn_nrm (_hK_19 _ _ ?_)
          clear _hK_19
          refine W_region ?_
          refine WL_step rfl rfl (r_move rfl) ?_
          refine WL_step rfl rfl (r_add (by omega) rfl rfl) ?_
          refine WL_step rfl rfl (r_assign rfl) ?_
          refine WL_nil ?_
          have _f_65 := (_q28.ch _cw_61 (fun g hg hm => by have _h0 := List.mem_singleton.1 hm; rcases _ap28 with ea | ea; (rw [ea] at hg; exact _nb0_4 (by first | exact hg | exact _h0 ▸ hg)); (rw [ea] at hg; have _z1 := List.mem_singleton.1 hg; omega)))
          have _on_64 : Ol Token.cs 52 4 _w_61 (.slice _Av28 ((((cutR s 32 []).take i).map rdT ++ [(rdT _y24)])).length _Cv28) (((cutR s 32 []).take (i + 1)).map rdT) := by
            have hx := _f_65
            exact hx.eq (map_take_step _hy24)
          have _f_66 := (((((_F0_0.ch0 _cw_20).ch0 _cw_38).ch0 _cw_54).ch _cw_57 (fun hm => by have _h1 := _lo0_4 _ hm; have _h2 := _hitv _ hm; omega)).ch _cw_61 (fun hm => by have _h1 := List.mem_singleton.1 hm; omega))
          have _f_67 := ((((_f_21.ch0 _cw_38).ch0 _cw_54).ch _cw_57 (fun i hi => by have _h1 := _lo0_4 _ hi; omega)).ch _cw_61 (fun i hi => by have _h1 := List.mem_singleton.1 hi; omega))
          exact thn_nrm (Exists.intro ((i + 1), (.slice _Av28 ((((cutR s 32 []).take i).map rdT ++ [(rdT _y24)])).length _Cv28)) ⟨⟨E, (by omega), (by omega), _f_66, _f_67, _on_64, (Lo.down _lo28 (by omega)), _m_62, (fun hm => by rcases _ap28 with ea | ea; (rw [ea] at hm; exact _nb0_4 (by first | exact hm | exact _h0 ▸ hm)); (rw [ea] at hm; have _z1 := List.mem_singleton.1 hm; omega))⟩, Sub.cons rfl (Sub.cons rfl (Sub.cons rfl (Sub.cons rfl (Sub.cons rfl (Sub.nil _))))), (by first | omega | (dsimp only; omega))⟩)
    · have _kb_18 := _h17
      have _h17 := bf_d _h17
      refine W_exit (thn_exit (thn_exit (inB_hit ?_)))
      refine thn_nrm (_hK_9 _ _ ?_)
      clear _hK_9
      refine W_seq fun _K_68 _hK_68 => ?_
      refine W_seq fun _K_69 _hK_69 => ?_
      refine W_region ?_
      refine WL_step rfl rfl (r_loadAtA0 _m0_4.at_ agg26 sz26 rfl) ?_
      refine WL_s rfl rfl ?_
      refine Step.call (r_call (xs := [.tmp 30]) fk11 rfl) (c_spec_IsValidExpr _o0_4.ls ) fun _v31 _w_70 _q31 => ?_
      obtain ⟨rfl, _cw_70⟩ := _q31
      have _cw_70z := _cw_70.size
      have E := E.trans _cw_70
      refine WL_step rfl rfl (r_not rfl) ?_
      refine WL_nil ?_
      refine thn_nrm (_hK_69 _ _ ?_)
      clear _hK_69
      refine W_cond rfl (fun _h32 => ?_) (fun _h32 => ?_)
      · have _kb_71 := _h32
        have _h32 := bt_n _h32
        refine W_seq fun _K_72 _hK_72 => ?_
        refine W_region ?_
        refine WL_step rfl rfl (r_build (parts := []) (cells := [(.slice none 0 0)]) zr26 pl26 rfl rfl) ?_
        refine WL_s rfl rfl ?_
        have _f_73 := (_F0_0.ch0 _cw_70)
        refine s_storeA (off := 0) 1 _f_73 sz26 rfl (us := [(.slice none 0 0)]) rfl rfl rfl rfl fun _w_74 _m_75 _cw_74 => ?_
        have _cw_74z := _cw_74.size
        have E := E.step _cw_74 (fun i hi => .inl (by have _h1 := List.mem_singleton.1 hi; omega))
        replace _m_75 : Blk _w_74 _b2 26 [(.slice none 0 0)] := _m_75
        refine WL_step rfl rfl (r_assign rfl) ?_
        refine WL_nil ?_
        refine thn_nrm (_hK_72 _ _ ?_)
        clear _hK_72
        refine W_ret (thn_ret ?_)
        clear _hK_15 _hK_68
        have _o_76 : Ol Token.cs 52 4 _w_74 (.slice none 0 0) ((parS s).1) := by
          have hx := (Ol.nil (cs := Token.cs) (e := 52) (k := 4) _w_74)
          first | (rw [parS_n (congrArg (List.map rdT) (take_stop (by omega) (by omega))) _h32]; exact hx) | (rw [parS_y (congrArg (List.map rdT) (take_stop (by omega) (by omega))) _h32]; exact hx)
        exact ret_intro [_, _] (resOf_loadA _m_75 rfl agg26 sz26 ⟨rfl, trivial⟩) ⟨(.slice none 0 0), (congrArg (fun zq => (Value.tuple #[.agg #[(.slice none 0 0)], .bool zq])) (by first | rw [parS_n (congrArg (List.map rdT) (take_stop (by omega) (by omega))) _h32] | rw [parS_y (congrArg (List.map rdT) (take_stop (by omega) (by omega))) _h32])), _o_76, (Lo.nil _), E⟩
      · have _kb_71 := _h32
        have _h32 := bf_n _h32
        refine W_skip ?_
        refine thn_nrm (_hK_68 _ _ ?_)
        clear _hK_68
        refine W_seq fun _K_77 _hK_77 => ?_
        refine W_region ?_
        have _f_78 := (_m0_4.ch0 _cw_70)
        refine WL_step rfl rfl (r_loadAtA0 _f_78.at_ agg26 sz26 rfl) ?_
        refine WL_s rfl rfl ?_
        have _f_79 := (_F0_0.ch0 _cw_70)
        refine s_storeA (off := 0) 1 _f_79 sz26 rfl (us := [(.slice Atv (((cutR s 32 []).take i).map rdT).length Ctv)]) rfl rfl rfl rfl fun _w_80 _m_81 _cw_80 => ?_
        have _cw_80z := _cw_80.size
        have E := E.step _cw_80 (fun i hi => .inl (by have _h1 := List.mem_singleton.1 hi; omega))
        replace _m_81 : Blk _w_80 _b2 26 [(.slice Atv (((cutR s 32 []).take i).map rdT).length Ctv)] := _m_81
        refine WL_step rfl rfl (r_assign rfl) ?_
        refine WL_nil ?_
        refine thn_nrm (_hK_77 _ _ ?_)
        clear _hK_77
        refine W_ret ?_
        clear _hK_15
        have _f_82 := ((_o0_4.ch0 _cw_70).ch _cw_80 (fun g hg hm => by have _h0 := List.mem_singleton.1 hm; have _h2 := _lo0_4 _ hg; have _h3 := _hitv _ hg; omega))
        have _o_83 : Ol Token.cs 52 4 _w_80 (.slice Atv (((cutR s 32 []).take i).map rdT).length Ctv) ((parS s).1) := by
          have hx := _f_82
          first | (rw [parS_n (congrArg (List.map rdT) (take_stop (by omega) (by omega))) _h32]; exact hx) | (rw [parS_y (congrArg (List.map rdT) (take_stop (by omega) (by omega))) _h32]; exact hx)
        exact ret_intro [_, _] (resOf_loadA _m_81 rfl agg26 sz26 ⟨rfl, trivial⟩) ⟨(.slice Atv (((cutR s 32 []).take i).map rdT).length Ctv), (congrArg (fun zq => (Value.tuple #[.agg #[(.slice Atv (((cutR s 32 []).take i).map rdT).length Ctv)], .bool zq])) (by first | rw [parS_n (congrArg (List.map rdT) (take_stop (by omega) (by omega))) _h32] | rw [parS_y (congrArg (List.map rdT) (take_stop (by omega) (by omega))) _h32])), _o_83, (Lo.down _lo0_4 (by omega)), E⟩
  · have _kb_17 := _h14
    have _h14 := bf_d _h14
    refine WL_skip rfl rfl ?_
    refine WL_skip rfl rfl ?_
    refine WL_step rfl rfl (r_pickF rfl rfl) ?_
    refine WL_nil ?_
    refine thn_nrm (_hK_16 _ _ ?_)
    clear _hK_16
    refine W_condF rfl ?_
    refine W_exit (thn_exit (thn_exit (inB_hit ?_)))
    refine thn_nrm (_hK_9 _ _ ?_)
    clear _hK_9
    refine W_seq fun _K_84 _hK_84 => ?_
    refine W_seq fun _K_85 _hK_85 => ?_
    refine W_region ?_
    refine WL_step rfl rfl (r_loadAtA0 _m0_4.at_ agg26 sz26 rfl) ?_
    refine WL_s rfl rfl ?_
    refine Step.call (r_call (xs := [.tmp 30]) fk11 rfl) (c_spec_IsValidExpr _o0_4.ls ) fun _v31 _w_86 _q31 => ?_
    obtain ⟨rfl, _cw_86⟩ := _q31
    have _cw_86z := _cw_86.size
    have E := E.trans _cw_86
    refine WL_step rfl rfl (r_not rfl) ?_
    refine WL_nil ?_
    refine thn_nrm (_hK_85 _ _ ?_)
    clear _hK_85
    refine W_cond rfl (fun _h32 => ?_) (fun _h32 => ?_)
    · have _kb_87 := _h32
      have _h32 := bt_n _h32
      refine W_seq fun _K_88 _hK_88 => ?_
      refine W_region ?_
      refine WL_step rfl rfl (r_build (parts := []) (cells := [(.slice none 0 0)]) zr26 pl26 rfl rfl) ?_
      refine WL_s rfl rfl ?_
      have _f_89 := (_F0_0.ch0 _cw_86)
      refine s_storeA (off := 0) 1 _f_89 sz26 rfl (us := [(.slice none 0 0)]) rfl rfl rfl rfl fun _w_90 _m_91 _cw_90 => ?_
      have _cw_90z := _cw_90.size
      have E := E.step _cw_90 (fun i hi => .inl (by have _h1 := List.mem_singleton.1 hi; omega))
      replace _m_91 : Blk _w_90 _b2 26 [(.slice none 0 0)] := _m_91
      refine WL_step rfl rfl (r_assign rfl) ?_
      refine WL_nil ?_
      refine thn_nrm (_hK_88 _ _ ?_)
      clear _hK_88
      refine W_ret (thn_ret ?_)
      clear _hK_15 _hK_84
      have _o_92 : Ol Token.cs 52 4 _w_90 (.slice none 0 0) ((parS s).1) := by
        have hx := (Ol.nil (cs := Token.cs) (e := 52) (k := 4) _w_90)
        first | (rw [parS_n (congrArg (List.map rdT) (take_stop (by omega) (by omega))) _h32]; exact hx) | (rw [parS_y (congrArg (List.map rdT) (take_stop (by omega) (by omega))) _h32]; exact hx)
      exact ret_intro [_, _] (resOf_loadA _m_91 rfl agg26 sz26 ⟨rfl, trivial⟩) ⟨(.slice none 0 0), (congrArg (fun zq => (Value.tuple #[.agg #[(.slice none 0 0)], .bool zq])) (by first | rw [parS_n (congrArg (List.map rdT) (take_stop (by omega) (by omega))) _h32] | rw [parS_y (congrArg (List.map rdT) (take_stop (by omega) (by omega))) _h32])), _o_92, (Lo.nil _), E⟩
    · have _kb_87 := _h32
      have _h32 := bf_n _h32
      refine W_skip ?_
      refine thn_nrm (_hK_84 _ _ ?_)
      clear _hK_84
      refine W_seq fun _K_93 _hK_93 => ?_
      refine W_region ?_
      have _f_94 := (_m0_4.ch0 _cw_86)
      refine WL_step rfl rfl (r_loadAtA0 _f_94.at_ agg26 sz26 rfl) ?_
      refine WL_s rfl rfl ?_
      have _f_95 := (_F0_0.ch0 _cw_86)
      refine s_storeA (off := 0) 1 _f_95 sz26 rfl (us := [(.slice Atv (((cutR s 32 []).take i).map rdT).length Ctv)]) rfl rfl rfl rfl fun _w_96 _m_97 _cw_96 => ?_
      have _cw_96z := _cw_96.size
      have E := E.step _cw_96 (fun i hi => .inl (by have _h1 := List.mem_singleton.1 hi; omega))
      replace _m_97 : Blk _w_96 _b2 26 [(.slice Atv (((cutR s 32 []).take i).map rdT).length Ctv)] := _m_97
      refine WL_step rfl rfl (r_assign rfl) ?_
      refine WL_nil ?_
      refine thn_nrm (_hK_93 _ _ ?_)
      clear _hK_93
      refine W_ret ?_
      clear _hK_15
      have _f_98 := ((_o0_4.ch0 _cw_86).ch _cw_96 (fun g hg hm => by have _h0 := List.mem_singleton.1 hm; have _h2 := _lo0_4 _ hg; have _h3 := _hitv _ hg; omega))
      have _o_99 : Ol Token.cs 52 4 _w_96 (.slice Atv (((cutR s 32 []).take i).map rdT).length Ctv) ((parS s).1) := by
        have hx := _f_98
        first | (rw [parS_n (congrArg (List.map rdT) (take_stop (by omega) (by omega))) _h32]; exact hx) | (rw [parS_y (congrArg (List.map rdT) (take_stop (by omega) (by omega))) _h32]; exact hx)
      exact ret_intro [_, _] (resOf_loadA _m_97 rfl agg26 sz26 ⟨rfl, trivial⟩) ⟨(.slice Atv (((cutR s 32 []).take i).map rdT).length Ctv), (congrArg (fun zq => (Value.tuple #[.agg #[(.slice Atv (((cutR s 32 []).take i).map rdT).length Ctv)], .bool zq])) (by first | rw [parS_n (congrArg (List.map rdT) (take_stop (by omega) (by omega))) _h32] | rw [parS_y (congrArg (List.map rdT) (take_stop (by omega) (by omega))) _h32])), _o_99, (Lo.down _lo0_4 (by omega)), E⟩

/-- spec.l1Pick -/
theorem c_spec_l1Pick {w : World} {b_c : Nat} (_h_c : Cu w b_c) {e_list : Nat} {_v_list : Value} {list : List (List UInt8)} (_h_list : Ol scs e_list 1 w _v_list list) (hl : 0 < list.length ∧ list.length ≤ 4096) (K9 : Nat) (_hk1 : b_c < K9) (_hk3 : Lo K9 _v_list) :
    Ctr Tryz.prog 84 #[(.pointer (some ⟨b_c, 0, none⟩)), _v_list] w (fun v w' => ∃ (xq0 : List UInt8) , v = .string (bys xq0) ∧ (xq0 ∈ list) ∧ Cu w' b_c ∧ Ch [b_c] w w') := by
  have _zb_c := _h_c.lt
  obtain ⟨_A_list, _C_list, _e1_list⟩ := _h_list.val
  subst _e1_list
  have _l_list := _h_list.len
  have _lt_list := _h_list.lt
  have E := Ch.refl [b_c] w
  refine Ctr_of_W (N := 12) (vs0 := [(.pointer (some ⟨b_c, 0, none⟩)), (.slice _A_list list.length _C_list)]) Tryz.func84 rfl rfl rfl ?_
  refine W_seq fun _K_1 _hK_1 => ?_
  refine W_region ?_
  refine WL_step rfl rfl (r_assign rfl) ?_
  refine WL_nil ?_
  refine thn_nrm (_hK_1 _ _ ?_)
  clear _hK_1
  refine W_seq fun _K_2 _hK_2 => ?_
  refine W_region ?_
  refine WL_step rfl rfl (r_move rfl) ?_
  refine WL_step rfl rfl (r_move rfl) ?_
  refine WL_step rfl rfl (r_move rfl) ?_
  refine WL_step rfl rfl (r_len (by rw [el96]; rfl) rfl) ?_
  refine WL_s rfl rfl ?_
  refine Step.call (r_call (xs := [.tmp 6, .tmp 8]) fk40 rfl) (c_spec_l1Below _h_c _ (by omega)) fun _v9 _w_3 _q9 => ?_
  obtain ⟨x9q0, rfl, pt9_0, cu9, _cw_3⟩ := _q9
  have _cw_3z := _cw_3.size
  have E := E.trans _cw_3
  refine WL_s rfl rfl ?_
  have _f_4 := (_h_list.ch _cw_3 (fun g hg hm => by have _h0 := List.mem_singleton.1 hm; have _h2 := _hk3 _ hg; have _h3 := _lt_list _ hg; omega))
  refine (s_index (j := x9q0.toNat) _f_4.ls scs_len el96 sz9 rfl rfl (by omega) (by omega) fun _p10 _y10 _hy10 _a10 => ?_)
  refine WL_step rfl rfl (r_loadAt0 _a10 agg9 rfl rfl) ?_
  refine WL_step rfl rfl (r_assign rfl) ?_
  refine WL_nil ?_
  refine thn_nrm (_hK_2 _ _ ?_)
  clear _hK_2
  refine W_ret ?_
  exact ret_intro [_] ⟨rfl, trivial⟩ ⟨_y10, (congrArg (fun zq => (Value.string (bys zq))) (by first | rfl | simp_all)), (mem_of_get _hy10), cu9, E⟩

/-- spec.l8Known -/
theorem c_spec_l8Known {w : World} {b_c : Nat} (_h_c : Cu w b_c) :
    Ctr Tryz.prog 68 #[(.pointer (some ⟨b_c, 0, none⟩))] w (fun v w' => ∃ (xq0 : List Token) (ud0x0 : Value), v = .agg #[ud0x0] ∧ Ol Token.cs 52 4 w' ud0x0 (xq0) ∧ Lo w.heap.size ud0x0 ∧ (1 ≤ xq0.length ∧ xq0.length ≤ 24) ∧ Cu w' b_c ∧ Ch [b_c] w w') := by
  have _zb_c := _h_c.lt
  have E := Ch.refl [b_c] w
  refine Ctr_of_W (N := 13) (vs0 := [(.pointer (some ⟨b_c, 0, none⟩))]) Tryz.func68 rfl rfl rfl ?_
  refine W_seq fun _K_1 _hK_1 => ?_
  refine W_region ?_
  refine WL_s rfl rfl ?_
  refine s_alloc zr26 fun _b2 _w_2 _m2 _cw_2 _e2 => ?_
  have _cw_2z := _cw_2.size
  have E := E.trans _cw_2.of_nil
  have _z2 := _m2.lt
  replace _m2 : Blk _w_2 _b2 26 [(.slice none 0 0)] := _m2
  refine WL_nil ?_
  refine thn_nrm (_hK_1 _ _ ?_)
  clear _hK_1
  refine W_seq fun _K_3 _hK_3 => ?_
  refine W_region ?_
  refine WL_step rfl rfl (r_move rfl) ?_
  refine WL_s rfl rfl ?_
  refine s_buildSlice (cs := scs) (parts := [(0, .const (Go.Value.string { data := #[97] })), (1, .const (Go.Value.string { data := #[97, 32, 98, 32, 46] })), (2, .const (Go.Value.string { data := #[97, 32, 42] })), (3, .const (Go.Value.string { data := #[97, 32, 98, 32, 124, 32, 42] })), (4, .const (Go.Value.string { data := #[97, 32, 97, 45, 32, 46] })), (5, .const (Go.Value.string { data := #[97, 32, 42, 32, 98, 32, 46] })), (6, .const (Go.Value.string { data := #[97, 32, 98, 32, 42, 32, 46, 32, 99, 32, 46] })), (7, .const (Go.Value.string { data := #[97, 32, 97, 32, 124, 32, 42] })), (8, .const (Go.Value.string { data := #[97, 32, 98, 32, 46, 32, 42] })), (9, .const (Go.Value.string { data := #[48, 32, 97, 32, 46, 32, 42] })), (10, .const (Go.Value.string { data := #[97, 32, 49, 32, 46, 32, 98, 32, 46] })), (11, .const (Go.Value.string { data := #[97, 32, 123, 48, 44, 50, 125] })), (12, .const (Go.Value.string { data := #[97, 32, 98, 32, 124, 32, 123, 49, 44, 51, 125] })), (13, .const (Go.Value.string { data := #[40, 41] })), (14, .const (Go.Value.string { data := #[33] })), (15, .const (Go.Value.string { data := #[97, 45, 32, 42, 32, 97, 32, 46] })), (16, .const (Go.Value.string { data := #[97, 32, 98, 45, 32, 46, 32, 42, 32, 99, 32, 124] })), (17, .const (Go.Value.string { data := #[97, 32, 42, 32, 97, 32, 42, 32, 46] })), (18, .const (Go.Value.string { data := #[97, 32, 48, 32, 124, 32, 42, 32, 98, 32, 46] })), (19, .const (Go.Value.string { data := #[97, 32, 97, 32, 46, 32, 42] })), (20, .const (Go.Value.string { data := #[97, 32, 98, 32, 46, 32, 98, 32, 97, 32, 46, 32, 124, 32, 42] }))]) ([] : List UInt8) [[97], [97, 32, 98, 32, 46], [97, 32, 42], [97, 32, 98, 32, 124, 32, 42], [97, 32, 97, 45, 32, 46], [97, 32, 42, 32, 98, 32, 46], [97, 32, 98, 32, 42, 32, 46, 32, 99, 32, 46], [97, 32, 97, 32, 124, 32, 42], [97, 32, 98, 32, 46, 32, 42], [48, 32, 97, 32, 46, 32, 42], [97, 32, 49, 32, 46, 32, 98, 32, 46], [97, 32, 123, 48, 44, 50, 125], [97, 32, 98, 32, 124, 32, 123, 49, 44, 51, 125], [40, 41], [33], [97, 45, 32, 42, 32, 97, 32, 46], [97, 32, 98, 45, 32, 46, 32, 42, 32, 99, 32, 124], [97, 32, 42, 32, 97, 32, 42, 32, 46], [97, 32, 48, 32, 124, 32, 42, 32, 98, 32, 46], [97, 32, 97, 32, 46, 32, 42], [97, 32, 98, 32, 46, 32, 98, 32, 97, 32, 46, 32, 124, 32, 42]] el96 sz9 zr9 scs_len (by decide) rfl rfl rfl (by decide) (by decide) rfl fun _v7 _w_4 _q7 _lo7 _cw_4 => ?_
  have _cw_4z := _cw_4.size
  have E := E.trans _cw_4.of_nil
  obtain ⟨_Av7, _Cv7, _ev7⟩ := _q7.val
  subst _ev7
  have _lv7 := _q7.len
  have _hiv7 := _q7.lt
  refine WL_s rfl rfl ?_
  have _f_5 := ((_h_c.ch0 _cw_2).ch0 _cw_4)
  refine Step.call (r_call (xs := [.tmp 6, .tmp 7]) fk84 rfl) (c_spec_l1Pick _f_5 _q7 (by decide) _w_2.heap.size (by omega) _lo7) fun _v8 _w_6 _q8 => ?_
  obtain ⟨x8q0, rfl, pt8_0, cu8, _cw_6⟩ := _q8
  have _cw_6z := _cw_6.size
  have E := E.trans _cw_6
  refine WL_s rfl rfl ?_
  refine Step.call (r_call (xs := [.tmp 8]) fk83 rfl) (c_spec_ParseExpr x8q0 (by have _h9 := known_len _ pt8_0; omega)) fun _v9 _w_7 _q9 => ?_
  obtain ⟨u9_0x0, rfl, _q_u9_0x0, _lo_u9_0x0, _cw_7⟩ := _q9
  have _cw_7z := _cw_7.size
  have E := E.trans _cw_7.of_nil
  obtain ⟨Au9_0x0, Cu9_0x0, eu9_0x0⟩ := _q_u9_0x0.val
  subst eu9_0x0
  have lu9_0x0 := _q_u9_0x0.len
  have _hiu9_0x0 := _q_u9_0x0.lt
  refine WL_step rfl rfl (r_move rfl) ?_
  refine WL_step rfl rfl (r_extract rfl rfl) ?_
  refine WL_step rfl rfl (r_extract rfl rfl) ?_
  refine WL_s rfl rfl ?_
  refine s_alloc zr26 fun _b3 _w_8 _m3 _cw_8 _e3 => ?_
  have _cw_8z := _cw_8.size
  have E := E.trans _cw_8.of_nil
  have _z3 := _m3.lt
  replace _m3 : Blk _w_8 _b3 26 [(.slice none 0 0)] := _m3
  refine WL_s rfl rfl ?_
  refine s_storeA (off := 0) 1 _m3 sz26 rfl (us := [(.slice Au9_0x0 ((parS x8q0).1).length Cu9_0x0)]) rfl rfl rfl rfl fun _w_9 _m_10 _cw_9 => ?_
  have _cw_9z := _cw_9.size
  have E := E.step _cw_9 (fun i hi => .inl (by have _h1 := List.mem_singleton.1 hi; omega))
  replace _m_10 : Blk _w_9 _b3 26 [(.slice Au9_0x0 ((parS x8q0).1).length Cu9_0x0)] := _m_10
  refine WL_step rfl rfl (r_assign rfl) ?_
  refine WL_nil ?_
  refine thn_nrm (_hK_3 _ _ ?_)
  clear _hK_3
  refine W_seq fun _K_11 _hK_11 => ?_
  refine W_region ?_
  refine WL_step rfl rfl (r_loadAtA0 _m_10.at_ agg26 sz26 rfl) ?_
  refine WL_s rfl rfl ?_
  have _f_12 := (((((_m2.ch0 _cw_4).ch _cw_6 (fun hm => by have _h1 := List.mem_singleton.1 hm; omega)).ch0 _cw_7).ch0 _cw_8).ch _cw_9 (fun hm => by have _h1 := List.mem_singleton.1 hm; omega))
  refine s_storeA (off := 0) 1 _f_12 sz26 rfl (us := [(.slice Au9_0x0 ((parS x8q0).1).length Cu9_0x0)]) rfl rfl rfl rfl fun _w_13 _m_14 _cw_13 => ?_
  have _cw_13z := _cw_13.size
  have E := E.step _cw_13 (fun i hi => .inl (by have _h1 := List.mem_singleton.1 hi; omega))
  replace _m_14 : Blk _w_13 _b2 26 [(.slice Au9_0x0 ((parS x8q0).1).length Cu9_0x0)] := _m_14
  refine WL_nil ?_
  refine thn_nrm (_hK_11 _ _ ?_)
  clear _hK_11
  refine W_ret ?_
  have _f_15 := (((_q_u9_0x0.ch0 _cw_8).ch _cw_9 (fun g hg hm => by have _h0 := List.mem_singleton.1 hm; have _h2 := _lo_u9_0x0 _ hg; have _h3 := _hiu9_0x0 _ hg; omega)).ch _cw_13 (fun g hg hm => by have _h0 := List.mem_singleton.1 hm; have _h2 := _lo_u9_0x0 _ hg; have _h3 := _hiu9_0x0 _ hg; omega))
  have _o_16 : Ol Token.cs 52 4 _w_13 (.slice Au9_0x0 ((parS x8q0).1).length Cu9_0x0) ((parS x8q0).1) := by
    have hx := _f_15
    first | exact hx | simpa using hx
  have _f_17 := ((((cu8.ch0 _cw_7).ch0 _cw_8).ch _cw_9 (fun i hm => by have _h1 := List.mem_singleton.1 hm; omega)).ch _cw_13 (fun i hm => by have _h1 := List.mem_singleton.1 hm; omega))
  exact ret_intro [_] (resOf_loadA _m_14 rfl agg26 sz26 trivial) ⟨((parS x8q0).1), (.slice Au9_0x0 ((parS x8q0).1).length Cu9_0x0), rfl, _o_16, (Lo.down _lo_u9_0x0 (by omega)), (known_ok _ pt8_0), _f_17, E⟩

/-- spec.LetterExpr -/
theorem c_spec_LetterExpr {w : World} (l : Int) :
    Ctr Tryz.prog 85 #[(.int .i64 l)] w (fun v w' => ∃ u, v = .agg #[u] ∧ Ol Token.cs 52 4 w' u ([(⟨3, l, 0, 0⟩ : Token)]) ∧ Lo w.heap.size u ∧ Ch [] w w') := by
  have E := Ch.refl [] w
  refine Ctr_of_W (N := 7) (vs0 := [(.int .i64 l)]) Tryz.func85 rfl rfl rfl ?_
  refine W_seq fun _K_1 _hK_1 => ?_
  refine W_region ?_
  refine WL_s rfl rfl ?_
  refine s_alloc zr26 fun _b2 _w_2 _m2 _cw_2 _e2 => ?_
  have _cw_2z := _cw_2.size
  have E := E.trans _cw_2
  have _z2 := _m2.lt
  replace _m2 : Blk _w_2 _b2 26 [(.slice none 0 0)] := _m2
  refine WL_nil ?_
  refine thn_nrm (_hK_1 _ _ ?_)
  clear _hK_1
  refine W_seq fun _K_3 _hK_3 => ?_
  refine W_region ?_
  refine WL_step rfl rfl (r_move rfl) ?_
  refine WL_step rfl rfl (r_build (parts := [(0, .const (Go.Value.int Go.IntKind.i64 3)), (1, .tmp 3)]) (cells := [(.int .i64 3), (.int .i64 l), (.int .i64 0), (.int .i64 0)]) zr52 pl52 rfl rfl) ?_
  refine WL_s rfl rfl ?_
  refine s_buildSlice (cs := Token.cs) (parts := [(0, .tmp 4)]) (⟨0, 0, 0, 0⟩ : Token) [(⟨3, l, 0, 0⟩ : Token)] el24 sz52 zr52 Token.len (by decide) rfl rfl rfl (by decide) (by decide) rfl fun _v5 _w_4 _q5 _lo5 _cw_4 => ?_
  have _cw_4z := _cw_4.size
  have E := E.trans _cw_4
  obtain ⟨_Av5, _Cv5, _ev5⟩ := _q5.val
  subst _ev5
  have _lv5 := _q5.len
  have _hiv5 := _q5.lt
  refine WL_step rfl rfl (r_build (parts := [(0, .tmp 5)]) (cells := [(.slice _Av5 ([(⟨3, l, 0, 0⟩ : Token)]).length _Cv5)]) zr26 pl26 rfl rfl) ?_
  refine WL_s rfl rfl ?_
  have _f_5 := (_m2.ch0 _cw_4)
  refine s_storeA (off := 0) 1 _f_5 sz26 rfl (us := [(.slice _Av5 ([(⟨3, l, 0, 0⟩ : Token)]).length _Cv5)]) rfl rfl rfl rfl fun _w_6 _m_7 _cw_6 => ?_
  have _cw_6z := _cw_6.size
  have E := E.step _cw_6 (fun i hi => .inl (by have _h1 := List.mem_singleton.1 hi; omega))
  replace _m_7 : Blk _w_6 _b2 26 [(.slice _Av5 ([(⟨3, l, 0, 0⟩ : Token)]).length _Cv5)] := _m_7
  refine WL_nil ?_
  refine thn_nrm (_hK_3 _ _ ?_)
  clear _hK_3
  refine W_ret ?_
  have _f_9 := (_q5.ch _cw_6 (fun g hg hm => by have _h0 := List.mem_singleton.1 hm; have _h2 := _lo5 _ hg; have _h3 := _hiv5 _ hg; omega))
  have _o_8 : Ol Token.cs 52 4 _w_6 (.slice _Av5 ([(⟨3, l, 0, 0⟩ : Token)]).length _Cv5) ([(⟨3, l, 0, 0⟩ : Token)]) := by
    have hx := _f_9
    first | exact hx | simpa using hx
  exact ret_intro [_] (resOf_loadA _m_7 rfl agg26 sz26 trivial) ⟨_, rfl, _o_8, Lo.down _lo5 (by omega), E⟩

/-- spec.l8Make -/
theorem c_spec_l8Make_n : ∀ (n : Nat) {w : World} {b_c : Nat} (_h_c : Cu w b_c) (deep : Int) (hd : 0 ≤ deep ∧ deep ≤ 3) (hsz : deep.toNat < n),
    Ctr Tryz.prog 69 #[(.pointer (some ⟨b_c, 0, none⟩)), (.int .i64 deep)] w (fun v w' => ∃ (xq0 : List Token) (ud0x0 : Value), v = .agg #[ud0x0] ∧ Ol Token.cs 52 4 w' ud0x0 (xq0) ∧ Lo w.heap.size ud0x0 ∧ (1 ≤ xq0.length ∧ xq0.length + 1 ≤ 2 ^ (deep.toNat + 1)) ∧ Cu w' b_c ∧ Ch [b_c] w w') := by
  intro n
  induction n with
  | zero => intros; omega
  | succ n ih =>
  intro w b_c _h_c deep hd hsz
  have _zb_c := _h_c.lt
  have E := Ch.refl [b_c] w
  refine Ctr_of_W (N := 70) (vs0 := [(.pointer (some ⟨b_c, 0, none⟩)), (.int .i64 deep)]) Tryz.func69 rfl rfl rfl ?_
  refine W_seq fun _K_1 _hK_1 => ?_
  refine W_region ?_
  refine WL_s rfl rfl ?_
  refine s_alloc zr26 fun _b4 _w_2 _m4 _cw_2 _e4 => ?_
  have _cw_2z := _cw_2.size
  have E := E.trans _cw_2.of_nil
  have _z4 := _m4.lt
  replace _m4 : Blk _w_2 _b4 26 [(.slice none 0 0)] := _m4
  refine WL_nil ?_
  refine thn_nrm (_hK_1 _ _ ?_)
  clear _hK_1
  refine W_seq fun _K_3 _hK_3 => ?_
  refine W_seq fun _K_4 _hK_4 => ?_
  refine W_region ?_
  refine WL_step rfl rfl (r_move rfl) ?_
  refine WL_step rfl rfl (r_eql rfl rfl) ?_
  refine WL_nil ?_
  refine thn_nrm (_hK_4 _ _ ?_)
  clear _hK_4
  refine W_cond rfl (fun _h7 => ?_) (fun _h7 => ?_)
  · have _kb_5 := _h7
    have _h7 := bt_d _h7
    refine W_seq fun _K_6 _hK_6 => ?_
    refine W_seq fun _K_7 _hK_7 => ?_
    refine W_region ?_
    refine WL_step rfl rfl (r_move rfl) ?_
    refine WL_s rfl rfl ?_
    have _f_8 := (_h_c.ch0 _cw_2)
    refine Step.call (r_call (xs := [.tmp 8, .const (Go.Value.int Go.IntKind.i64 12)]) fk41 rfl) (c_spec_l1Once _f_8 _ (by omega)) fun _v9 _w_9 _q9 => ?_
    obtain ⟨x9q0, rfl, cu9, _cw_9⟩ := _q9
    have _cw_9z := _cw_9.size
    have E := E.trans _cw_9
    refine WL_nil ?_
    refine thn_nrm (_hK_7 _ _ ?_)
    clear _hK_7
    refine W_cond rfl (fun _h9 => ?_) (fun _h9 => ?_)
    · have _kb_10 := _h9
      refine W_seq fun _K_11 _hK_11 => ?_
      refine W_region ?_
      refine WL_step rfl rfl (r_move rfl) ?_
      refine WL_s rfl rfl ?_
      refine s_buildSlice (cs := ics) (parts := [(0, .const (Go.Value.int Go.IntKind.i64 1)), (1, .const (Go.Value.int Go.IntKind.i64 2))]) (0 : Int) [1, 2] el27 sz3 zr3 ics_len (by decide) rfl rfl rfl (by decide) (by decide) rfl fun _v11 _w_12 _q11 _lo11 _cw_12 => ?_
      have _cw_12z := _cw_12.size
      have E := E.trans _cw_12.of_nil
      obtain ⟨_Av11, _Cv11, _ev11⟩ := _q11.val
      subst _ev11
      have _lv11 := _q11.len
      have _hiv11 := _q11.lt
      refine WL_s rfl rfl ?_
      have _f_13 := (cu9.ch0 _cw_12)
      refine Step.call (r_call (xs := [.tmp 10, .tmp 11]) fk52 rfl) (c_spec_l1PickInt _f_13 _q11 (by decide) _w_9.heap.size (by omega) _lo11) fun _v12 _w_14 _q12 => ?_
      obtain ⟨x12q0, rfl, pt12_0, cu12, _cw_14⟩ := _q12
      have _cw_14z := _cw_14.size
      have E := E.trans _cw_14
      refine WL_s rfl rfl ?_
      refine Step.call (r_call (xs := [.tmp 12]) fk59 rfl) (c_spec_l8Leaf _ ) fun _v13 _w_15 _q13 => ?_
      obtain ⟨_u13, rfl, _q13, _lo13, _cw_15⟩ := _q13
      have _cw_15z := _cw_15.size
      have E := E.trans _cw_15.of_nil
      obtain ⟨_Au13, _Cu13, _eu13⟩ := _q13.val
      subst _eu13
      have _lu13 := _q13.len
      have _hiu13 := _q13.lt
      refine WL_s rfl rfl ?_
      have _f_16 := ((((_m4.ch _cw_9 (fun hm => by have _h1 := List.mem_singleton.1 hm; omega)).ch0 _cw_12).ch _cw_14 (fun hm => by have _h1 := List.mem_singleton.1 hm; omega)).ch0 _cw_15)
      refine s_storeA (off := 0) 1 _f_16 sz26 rfl (us := [(.slice _Au13 ([(⟨x12q0, 0, 0, 0⟩ : Token)]).length _Cu13)]) rfl rfl rfl rfl fun _w_17 _m_18 _cw_17 => ?_
      have _cw_17z := _cw_17.size
      have E := E.step _cw_17 (fun i hi => .inl (by have _h1 := List.mem_singleton.1 hi; omega))
      replace _m_18 : Blk _w_17 _b4 26 [(.slice _Au13 ([(⟨x12q0, 0, 0, 0⟩ : Token)]).length _Cu13)] := _m_18
      refine WL_nil ?_
      refine thn_nrm (_hK_11 _ _ ?_)
      clear _hK_11
      refine W_ret (thn_ret (thn_ret ?_))
      clear _hK_3 _hK_6
      have _f_19 := (_q13.ch _cw_17 (fun g hg hm => by have _h0 := List.mem_singleton.1 hm; have _h2 := _lo13 _ hg; have _h3 := _hiu13 _ hg; omega))
      have _o_20 : Ol Token.cs 52 4 _w_17 (.slice _Au13 ([(⟨x12q0, 0, 0, 0⟩ : Token)]).length _Cu13) ([(⟨x12q0, 0, 0, 0⟩ : Token)]) := by
        have hx := _f_19
        first | exact hx | simpa using hx
      have _f_21 := ((cu12.ch0 _cw_15).ch _cw_17 (fun i hm => by have _h1 := List.mem_singleton.1 hm; omega))
      exact ret_intro [_] (resOf_loadA _m_18 rfl agg26 sz26 trivial) ⟨([(⟨x12q0, 0, 0, 0⟩ : Token)]), (.slice _Au13 ([(⟨x12q0, 0, 0, 0⟩ : Token)]).length _Cu13), rfl, _o_20, (Lo.down _lo13 (by omega)), (by first | exact mk_leaf (by omega) | exact mk_two pt26_0 pt30_0 rfl (by omega) | exact mk_two pt39_0 pt43_0 rfl (by omega) | exact mk_one pt51_0 rfl (by omega) | exact mk_one pt61_0 rfl (by omega)), _f_21, E⟩
    · have _kb_10 := _h9
      refine W_skip ?_
      refine thn_nrm (_hK_6 _ _ ?_)
      clear _hK_6
      refine W_seq fun _K_22 _hK_22 => ?_
      refine W_region ?_
      refine WL_step rfl rfl (r_move rfl) ?_
      refine WL_s rfl rfl ?_
      refine s_buildSlice (cs := ics) (parts := [(0, .const (Go.Value.int Go.IntKind.i64 0)), (1, .const (Go.Value.int Go.IntKind.i64 0)), (2, .const (Go.Value.int Go.IntKind.i64 2)), (3, .const (Go.Value.int Go.IntKind.i64 2)), (4, .const (Go.Value.int Go.IntKind.i64 1)), (5, .const (Go.Value.int Go.IntKind.i64 4)), (6, .const (Go.Value.int Go.IntKind.i64 3)), (7, .const (Go.Value.int Go.IntKind.i64 6)), (8, .const (Go.Value.int Go.IntKind.i64 7))]) (0 : Int) [0, 0, 2, 2, 1, 4, 3, 6, 7] el27 sz3 zr3 ics_len (by decide) rfl rfl rfl (by decide) (by decide) rfl fun _v15 _w_23 _q15 _lo15 _cw_23 => ?_
      have _cw_23z := _cw_23.size
      have E := E.trans _cw_23.of_nil
      obtain ⟨_Av15, _Cv15, _ev15⟩ := _q15.val
      subst _ev15
      have _lv15 := _q15.len
      have _hiv15 := _q15.lt
      refine WL_s rfl rfl ?_
      have _f_24 := (cu9.ch0 _cw_23)
      refine Step.call (r_call (xs := [.tmp 14, .tmp 15]) fk52 rfl) (c_spec_l1PickInt _f_24 _q15 (by decide) _w_9.heap.size (by omega) _lo15) fun _v16 _w_25 _q16 => ?_
      obtain ⟨x16q0, rfl, pt16_0, cu16, _cw_25⟩ := _q16
      have _cw_25z := _cw_25.size
      have E := E.trans _cw_25
      refine WL_s rfl rfl ?_
      refine Step.call (r_call (xs := [.tmp 16]) fk85 rfl) (c_spec_LetterExpr _ ) fun _v17 _w_26 _q17 => ?_
      obtain ⟨_u17, rfl, _q17, _lo17, _cw_26⟩ := _q17
      have _cw_26z := _cw_26.size
      have E := E.trans _cw_26.of_nil
      obtain ⟨_Au17, _Cu17, _eu17⟩ := _q17.val
      subst _eu17
      have _lu17 := _q17.len
      have _hiu17 := _q17.lt
      refine WL_s rfl rfl ?_
      have _f_27 := ((((_m4.ch _cw_9 (fun hm => by have _h1 := List.mem_singleton.1 hm; omega)).ch0 _cw_23).ch _cw_25 (fun hm => by have _h1 := List.mem_singleton.1 hm; omega)).ch0 _cw_26)
      refine s_storeA (off := 0) 1 _f_27 sz26 rfl (us := [(.slice _Au17 ([(⟨3, x16q0, 0, 0⟩ : Token)]).length _Cu17)]) rfl rfl rfl rfl fun _w_28 _m_29 _cw_28 => ?_
      have _cw_28z := _cw_28.size
      have E := E.step _cw_28 (fun i hi => .inl (by have _h1 := List.mem_singleton.1 hi; omega))
      replace _m_29 : Blk _w_28 _b4 26 [(.slice _Au17 ([(⟨3, x16q0, 0, 0⟩ : Token)]).length _Cu17)] := _m_29
      refine WL_nil ?_
      refine thn_nrm (_hK_22 _ _ ?_)
      clear _hK_22
      refine W_ret (thn_ret ?_)
      clear _hK_3
      have _f_30 := (_q17.ch _cw_28 (fun g hg hm => by have _h0 := List.mem_singleton.1 hm; have _h2 := _lo17 _ hg; have _h3 := _hiu17 _ hg; omega))
      have _o_31 : Ol Token.cs 52 4 _w_28 (.slice _Au17 ([(⟨3, x16q0, 0, 0⟩ : Token)]).length _Cu17) ([(⟨3, x16q0, 0, 0⟩ : Token)]) := by
        have hx := _f_30
        first | exact hx | simpa using hx
      have _f_32 := ((cu16.ch0 _cw_26).ch _cw_28 (fun i hm => by have _h1 := List.mem_singleton.1 hm; omega))
      exact ret_intro [_] (resOf_loadA _m_29 rfl agg26 sz26 trivial) ⟨([(⟨3, x16q0, 0, 0⟩ : Token)]), (.slice _Au17 ([(⟨3, x16q0, 0, 0⟩ : Token)]).length _Cu17), rfl, _o_31, (Lo.down _lo17 (by omega)), (by first | exact mk_leaf (by omega) | exact mk_two pt26_0 pt30_0 rfl (by omega) | exact mk_two pt39_0 pt43_0 rfl (by omega) | exact mk_one pt51_0 rfl (by omega) | exact mk_one pt61_0 rfl (by omega)), _f_32, E⟩
  · have _kb_5 := _h7
    have _h7 := bf_d _h7
    refine W_skip ?_
    refine thn_nrm (_hK_3 _ _ ?_)
    clear _hK_3
    refine W_seq fun _K_33 _hK_33 => ?_
    refine W_seq fun _K_34 _hK_34 => ?_
    refine W_region ?_
    refine WL_step rfl rfl (r_move rfl) ?_
    refine WL_s rfl rfl ?_
    have _f_35 := (_h_c.ch0 _cw_2)
    refine Step.call (r_call (xs := [.tmp 18, .const (Go.Value.int Go.IntKind.i64 6)]) fk40 rfl) (c_spec_l1Below _f_35 _ (by omega)) fun _v19 _w_36 _q19 => ?_
    obtain ⟨x19q0, rfl, pt19_0, cu19, _cw_36⟩ := _q19
    have _cw_36z := _cw_36.size
    have E := E.trans _cw_36
    refine WL_nil ?_
    refine thn_nrm (_hK_34 _ _ ?_)
    clear _hK_34
    refine W_block ?_
    refine W_seq fun _K_37 _hK_37 => ?_
    refine W_seq fun _K_38 _hK_38 => ?_
    refine W_region ?_
    refine WL_step rfl rfl (r_eql rfl rfl) ?_
    refine WL_step rfl rfl (r_assign rfl) ?_
    refine WL_nil ?_
    refine thn_nrm (_hK_38 _ _ ?_)
    clear _hK_38
    refine W_cond rfl (fun _h20 => ?_) (fun _h20 => ?_)
    · have _kb_39 := _h20
      have _h20 := bt_d _h20
      refine W_skip ?_
      refine thn_nrm (_hK_37 _ _ ?_)
      clear _hK_37
      refine W_condTk rfl _kb_39 ?_
      refine W_seq fun _K_40 _hK_40 => ?_
      refine W_region ?_
      refine WL_step rfl rfl (r_move rfl) ?_
      refine WL_step rfl rfl (r_move rfl) ?_
      refine WL_step rfl rfl (r_sub (by omega) rfl rfl) ?_
      refine WL_s rfl rfl ?_
      refine Step.call (r_call (xs := [.tmp 23, .tmp 25]) fk69 rfl) (ih cu19 _ (by omega) (by omega)) fun _v26 _w_41 _q26 => ?_
      obtain ⟨x26q0, u26d0x0, rfl, _q_u26d0x0, _lo_u26d0x0, pt26_0, cu26, _cw_41⟩ := _q26
      have _cw_41z := _cw_41.size
      have E := E.trans _cw_41
      obtain ⟨Au26d0x0, Cu26d0x0, eu26d0x0⟩ := _q_u26d0x0.val
      subst eu26d0x0
      have lu26d0x0 := _q_u26d0x0.len
      have _hiu26d0x0 := _q_u26d0x0.lt
      have mb26 := mk_le pt26_0 (by omega)
      refine WL_step rfl rfl (r_move rfl) ?_
      refine WL_step rfl rfl (r_move rfl) ?_
      refine WL_step rfl rfl (r_sub (by omega) rfl rfl) ?_
      refine WL_s rfl rfl ?_
      refine Step.call (r_call (xs := [.tmp 27, .tmp 29]) fk69 rfl) (ih cu26 _ (by omega) (by omega)) fun _v30 _w_42 _q30 => ?_
      obtain ⟨x30q0, u30d0x0, rfl, _q_u30d0x0, _lo_u30d0x0, pt30_0, cu30, _cw_42⟩ := _q30
      have _cw_42z := _cw_42.size
      have E := E.trans _cw_42
      obtain ⟨Au30d0x0, Cu30d0x0, eu30d0x0⟩ := _q_u30d0x0.val
      subst eu30d0x0
      have lu30d0x0 := _q_u30d0x0.len
      have _hiu30d0x0 := _q_u30d0x0.lt
      have mb30 := mk_le pt30_0 (by omega)
      refine WL_step rfl rfl (r_build (parts := [(0, .const (Go.Value.int Go.IntKind.i64 4))]) (cells := [(.int .i64 4), (.int .i64 0), (.int .i64 0), (.int .i64 0)]) zr52 pl52 rfl rfl) ?_
      refine WL_s rfl rfl ?_
      have _f_43 := (_q_u26d0x0.ch _cw_42 (fun g hg hm => by have _h0 := List.mem_singleton.1 hm; have _h2 := _lo_u26d0x0 _ hg; have _h3 := _hiu26d0x0 _ hg; omega))
      refine Step.call (r_call (xs := [.tmp 26, .tmp 30, .tmp 31]) fk80 rfl) (c_spec_l8Join _f_43.ls _q_u30d0x0.ls ⟨4, 0, 0, 0⟩ (by first | omega | (simp only [List.length_nil]; omega))) fun _v32 _w_44 _q32 => ?_
      obtain ⟨_u32, rfl, _q32, _lo32, _cw_44⟩ := _q32
      have _cw_44z := _cw_44.size
      have E := E.trans _cw_44.of_nil
      obtain ⟨_Au32, _Cu32, _eu32⟩ := _q32.val
      subst _eu32
      have _lu32 := _q32.len
      have _hiu32 := _q32.lt
      refine WL_s rfl rfl ?_
      have _f_45 := ((((_m4.ch _cw_36 (fun hm => by have _h1 := List.mem_singleton.1 hm; omega)).ch _cw_41 (fun hm => by have _h1 := List.mem_singleton.1 hm; omega)).ch _cw_42 (fun hm => by have _h1 := List.mem_singleton.1 hm; omega)).ch0 _cw_44)
      refine s_storeA (off := 0) 1 _f_45 sz26 rfl (us := [(.slice _Au32 (x26q0 ++ x30q0 ++ [(⟨4, 0, 0, 0⟩ : Token)]).length _Cu32)]) rfl rfl rfl rfl fun _w_46 _m_47 _cw_46 => ?_
      have _cw_46z := _cw_46.size
      have E := E.step _cw_46 (fun i hi => .inl (by have _h1 := List.mem_singleton.1 hi; omega))
      replace _m_47 : Blk _w_46 _b4 26 [(.slice _Au32 (x26q0 ++ x30q0 ++ [(⟨4, 0, 0, 0⟩ : Token)]).length _Cu32)] := _m_47
      refine WL_nil ?_
      refine thn_nrm (_hK_40 _ _ ?_)
      clear _hK_40
      refine W_ret (inB_ret (thn_ret ?_))
      clear _hK_33
      have _f_48 := (_q32.ch _cw_46 (fun g hg hm => by have _h0 := List.mem_singleton.1 hm; have _h2 := _lo32 _ hg; have _h3 := _hiu32 _ hg; omega))
      have _o_49 : Ol Token.cs 52 4 _w_46 (.slice _Au32 (x26q0 ++ x30q0 ++ [(⟨4, 0, 0, 0⟩ : Token)]).length _Cu32) (x26q0 ++ x30q0 ++ [(⟨4, 0, 0, 0⟩ : Token)]) := by
        have hx := _f_48
        first | exact hx | simpa using hx
      have _f_50 := ((cu30.ch0 _cw_44).ch _cw_46 (fun i hm => by have _h1 := List.mem_singleton.1 hm; omega))
      exact ret_intro [_] (resOf_loadA _m_47 rfl agg26 sz26 trivial) ⟨(x26q0 ++ x30q0 ++ [(⟨4, 0, 0, 0⟩ : Token)]), (.slice _Au32 (x26q0 ++ x30q0 ++ [(⟨4, 0, 0, 0⟩ : Token)]).length _Cu32), rfl, _o_49, (Lo.down _lo32 (by omega)), (by first | exact mk_leaf (by omega) | exact mk_two pt26_0 pt30_0 rfl (by omega) | exact mk_two pt39_0 pt43_0 rfl (by omega) | exact mk_one pt51_0 rfl (by omega) | exact mk_one pt61_0 rfl (by omega)), _f_50, E⟩
    · have _kb_39 := _h20
      have _h20 := bf_d _h20
      refine W_region ?_
      refine WL_step rfl rfl (r_eql rfl rfl) ?_
      refine WL_step rfl rfl (r_assign rfl) ?_
      refine WL_nil ?_
      refine thn_nrm (_hK_37 _ _ ?_)
      clear _hK_37
      refine W_cond rfl (fun _h20 => ?_) (fun _h20 => ?_)
      · have _kb_51 := _h20
        have _h20 := bt_d _h20
        refine W_seq fun _K_52 _hK_52 => ?_
        refine W_region ?_
        refine WL_step rfl rfl (r_move rfl) ?_
        refine WL_step rfl rfl (r_move rfl) ?_
        refine WL_step rfl rfl (r_sub (by omega) rfl rfl) ?_
        refine WL_s rfl rfl ?_
        refine Step.call (r_call (xs := [.tmp 23, .tmp 25]) fk69 rfl) (ih cu19 _ (by omega) (by omega)) fun _v26 _w_53 _q26 => ?_
        obtain ⟨x26q0, u26d0x0, rfl, _q_u26d0x0, _lo_u26d0x0, pt26_0, cu26, _cw_53⟩ := _q26
        have _cw_53z := _cw_53.size
        have E := E.trans _cw_53
        obtain ⟨Au26d0x0, Cu26d0x0, eu26d0x0⟩ := _q_u26d0x0.val
        subst eu26d0x0
        have lu26d0x0 := _q_u26d0x0.len
        have _hiu26d0x0 := _q_u26d0x0.lt
        have mb26 := mk_le pt26_0 (by omega)
        refine WL_step rfl rfl (r_move rfl) ?_
        refine WL_step rfl rfl (r_move rfl) ?_
        refine WL_step rfl rfl (r_sub (by omega) rfl rfl) ?_
        refine WL_s rfl rfl ?_
        refine Step.call (r_call (xs := [.tmp 27, .tmp 29]) fk69 rfl) (ih cu26 _ (by omega) (by omega)) fun _v30 _w_54 _q30 => ?_
        obtain ⟨x30q0, u30d0x0, rfl, _q_u30d0x0, _lo_u30d0x0, pt30_0, cu30, _cw_54⟩ := _q30
        have _cw_54z := _cw_54.size
        have E := E.trans _cw_54
        obtain ⟨Au30d0x0, Cu30d0x0, eu30d0x0⟩ := _q_u30d0x0.val
        subst eu30d0x0
        have lu30d0x0 := _q_u30d0x0.len
        have _hiu30d0x0 := _q_u30d0x0.lt
        have mb30 := mk_le pt30_0 (by omega)
        refine WL_step rfl rfl (r_build (parts := [(0, .const (Go.Value.int Go.IntKind.i64 4))]) (cells := [(.int .i64 4), (.int .i64 0), (.int .i64 0), (.int .i64 0)]) zr52 pl52 rfl rfl) ?_
        refine WL_s rfl rfl ?_
        have _f_55 := (_q_u26d0x0.ch _cw_54 (fun g hg hm => by have _h0 := List.mem_singleton.1 hm; have _h2 := _lo_u26d0x0 _ hg; have _h3 := _hiu26d0x0 _ hg; omega))
        refine Step.call (r_call (xs := [.tmp 26, .tmp 30, .tmp 31]) fk80 rfl) (c_spec_l8Join _f_55.ls _q_u30d0x0.ls ⟨4, 0, 0, 0⟩ (by first | omega | (simp only [List.length_nil]; omega))) fun _v32 _w_56 _q32 => ?_
        obtain ⟨_u32, rfl, _q32, _lo32, _cw_56⟩ := _q32
        have _cw_56z := _cw_56.size
        have E := E.trans _cw_56.of_nil
        obtain ⟨_Au32, _Cu32, _eu32⟩ := _q32.val
        subst _eu32
        have _lu32 := _q32.len
        have _hiu32 := _q32.lt
        refine WL_s rfl rfl ?_
        have _f_57 := ((((_m4.ch _cw_36 (fun hm => by have _h1 := List.mem_singleton.1 hm; omega)).ch _cw_53 (fun hm => by have _h1 := List.mem_singleton.1 hm; omega)).ch _cw_54 (fun hm => by have _h1 := List.mem_singleton.1 hm; omega)).ch0 _cw_56)
        refine s_storeA (off := 0) 1 _f_57 sz26 rfl (us := [(.slice _Au32 (x26q0 ++ x30q0 ++ [(⟨4, 0, 0, 0⟩ : Token)]).length _Cu32)]) rfl rfl rfl rfl fun _w_58 _m_59 _cw_58 => ?_
        have _cw_58z := _cw_58.size
        have E := E.step _cw_58 (fun i hi => .inl (by have _h1 := List.mem_singleton.1 hi; omega))
        replace _m_59 : Blk _w_58 _b4 26 [(.slice _Au32 (x26q0 ++ x30q0 ++ [(⟨4, 0, 0, 0⟩ : Token)]).length _Cu32)] := _m_59
        refine WL_nil ?_
        refine thn_nrm (_hK_52 _ _ ?_)
        clear _hK_52
        refine W_ret (inB_ret (thn_ret ?_))
        clear _hK_33
        have _f_60 := (_q32.ch _cw_58 (fun g hg hm => by have _h0 := List.mem_singleton.1 hm; have _h2 := _lo32 _ hg; have _h3 := _hiu32 _ hg; omega))
        have _o_61 : Ol Token.cs 52 4 _w_58 (.slice _Au32 (x26q0 ++ x30q0 ++ [(⟨4, 0, 0, 0⟩ : Token)]).length _Cu32) (x26q0 ++ x30q0 ++ [(⟨4, 0, 0, 0⟩ : Token)]) := by
          have hx := _f_60
          first | exact hx | simpa using hx
        have _f_62 := ((cu30.ch0 _cw_56).ch _cw_58 (fun i hm => by have _h1 := List.mem_singleton.1 hm; omega))
        exact ret_intro [_] (resOf_loadA _m_59 rfl agg26 sz26 trivial) ⟨(x26q0 ++ x30q0 ++ [(⟨4, 0, 0, 0⟩ : Token)]), (.slice _Au32 (x26q0 ++ x30q0 ++ [(⟨4, 0, 0, 0⟩ : Token)]).length _Cu32), rfl, _o_61, (Lo.down _lo32 (by omega)), (by first | exact mk_leaf (by omega) | exact mk_two pt26_0 pt30_0 rfl (by omega) | exact mk_two pt39_0 pt43_0 rfl (by omega) | exact mk_one pt51_0 rfl (by omega) | exact mk_one pt61_0 rfl (by omega)), _f_62, E⟩
      · have _kb_51 := _h20
        have _h20 := bf_d _h20
        refine W_seq fun _K_63 _hK_63 => ?_
        refine W_seq fun _K_64 _hK_64 => ?_
        refine W_region ?_
        refine WL_step rfl rfl (r_eql rfl rfl) ?_
        refine WL_step rfl rfl (r_assign rfl) ?_
        refine WL_nil ?_
        refine thn_nrm (_hK_64 _ _ ?_)
        clear _hK_64
        refine W_cond rfl (fun _h33 => ?_) (fun _h33 => ?_)
        · have _kb_65 := _h33
          have _h33 := bt_d _h33
          refine W_skip ?_
          refine thn_nrm (_hK_63 _ _ ?_)
          clear _hK_63
          refine W_condTk rfl _kb_65 ?_
          refine W_seq fun _K_66 _hK_66 => ?_
          refine W_region ?_
          refine WL_step rfl rfl (r_move rfl) ?_
          refine WL_step rfl rfl (r_move rfl) ?_
          refine WL_step rfl rfl (r_sub (by omega) rfl rfl) ?_
          refine WL_s rfl rfl ?_
          refine Step.call (r_call (xs := [.tmp 36, .tmp 38]) fk69 rfl) (ih cu19 _ (by omega) (by omega)) fun _v39 _w_67 _q39 => ?_
          obtain ⟨x39q0, u39d0x0, rfl, _q_u39d0x0, _lo_u39d0x0, pt39_0, cu39, _cw_67⟩ := _q39
          have _cw_67z := _cw_67.size
          have E := E.trans _cw_67
          obtain ⟨Au39d0x0, Cu39d0x0, eu39d0x0⟩ := _q_u39d0x0.val
          subst eu39d0x0
          have lu39d0x0 := _q_u39d0x0.len
          have _hiu39d0x0 := _q_u39d0x0.lt
          have mb39 := mk_le pt39_0 (by omega)
          refine WL_step rfl rfl (r_move rfl) ?_
          refine WL_step rfl rfl (r_move rfl) ?_
          refine WL_step rfl rfl (r_sub (by omega) rfl rfl) ?_
          refine WL_s rfl rfl ?_
          refine Step.call (r_call (xs := [.tmp 40, .tmp 42]) fk69 rfl) (ih cu39 _ (by omega) (by omega)) fun _v43 _w_68 _q43 => ?_
          obtain ⟨x43q0, u43d0x0, rfl, _q_u43d0x0, _lo_u43d0x0, pt43_0, cu43, _cw_68⟩ := _q43
          have _cw_68z := _cw_68.size
          have E := E.trans _cw_68
          obtain ⟨Au43d0x0, Cu43d0x0, eu43d0x0⟩ := _q_u43d0x0.val
          subst eu43d0x0
          have lu43d0x0 := _q_u43d0x0.len
          have _hiu43d0x0 := _q_u43d0x0.lt
          have mb43 := mk_le pt43_0 (by omega)
          refine WL_step rfl rfl (r_build (parts := [(0, .const (Go.Value.int Go.IntKind.i64 5))]) (cells := [(.int .i64 5), (.int .i64 0), (.int .i64 0), (.int .i64 0)]) zr52 pl52 rfl rfl) ?_
          refine WL_s rfl rfl ?_
          have _f_69 := (_q_u39d0x0.ch _cw_68 (fun g hg hm => by have _h0 := List.mem_singleton.1 hm; have _h2 := _lo_u39d0x0 _ hg; have _h3 := _hiu39d0x0 _ hg; omega))
          refine Step.call (r_call (xs := [.tmp 39, .tmp 43, .tmp 44]) fk80 rfl) (c_spec_l8Join _f_69.ls _q_u43d0x0.ls ⟨5, 0, 0, 0⟩ (by first | omega | (simp only [List.length_nil]; omega))) fun _v45 _w_70 _q45 => ?_
          obtain ⟨_u45, rfl, _q45, _lo45, _cw_70⟩ := _q45
          have _cw_70z := _cw_70.size
          have E := E.trans _cw_70.of_nil
          obtain ⟨_Au45, _Cu45, _eu45⟩ := _q45.val
          subst _eu45
          have _lu45 := _q45.len
          have _hiu45 := _q45.lt
          refine WL_s rfl rfl ?_
          have _f_71 := ((((_m4.ch _cw_36 (fun hm => by have _h1 := List.mem_singleton.1 hm; omega)).ch _cw_67 (fun hm => by have _h1 := List.mem_singleton.1 hm; omega)).ch _cw_68 (fun hm => by have _h1 := List.mem_singleton.1 hm; omega)).ch0 _cw_70)
          refine s_storeA (off := 0) 1 _f_71 sz26 rfl (us := [(.slice _Au45 (x39q0 ++ x43q0 ++ [(⟨5, 0, 0, 0⟩ : Token)]).length _Cu45)]) rfl rfl rfl rfl fun _w_72 _m_73 _cw_72 => ?_
          have _cw_72z := _cw_72.size
          have E := E.step _cw_72 (fun i hi => .inl (by have _h1 := List.mem_singleton.1 hi; omega))
          replace _m_73 : Blk _w_72 _b4 26 [(.slice _Au45 (x39q0 ++ x43q0 ++ [(⟨5, 0, 0, 0⟩ : Token)]).length _Cu45)] := _m_73
          refine WL_nil ?_
          refine thn_nrm (_hK_66 _ _ ?_)
          clear _hK_66
          refine W_ret (inB_ret (thn_ret ?_))
          clear _hK_33
          have _f_74 := (_q45.ch _cw_72 (fun g hg hm => by have _h0 := List.mem_singleton.1 hm; have _h2 := _lo45 _ hg; have _h3 := _hiu45 _ hg; omega))
          have _o_75 : Ol Token.cs 52 4 _w_72 (.slice _Au45 (x39q0 ++ x43q0 ++ [(⟨5, 0, 0, 0⟩ : Token)]).length _Cu45) (x39q0 ++ x43q0 ++ [(⟨5, 0, 0, 0⟩ : Token)]) := by
            have hx := _f_74
            first | exact hx | simpa using hx
          have _f_76 := ((cu43.ch0 _cw_70).ch _cw_72 (fun i hm => by have _h1 := List.mem_singleton.1 hm; omega))
          exact ret_intro [_] (resOf_loadA _m_73 rfl agg26 sz26 trivial) ⟨(x39q0 ++ x43q0 ++ [(⟨5, 0, 0, 0⟩ : Token)]), (.slice _Au45 (x39q0 ++ x43q0 ++ [(⟨5, 0, 0, 0⟩ : Token)]).length _Cu45), rfl, _o_75, (Lo.down _lo45 (by omega)), (by first | exact mk_leaf (by omega) | exact mk_two pt26_0 pt30_0 rfl (by omega) | exact mk_two pt39_0 pt43_0 rfl (by omega) | exact mk_one pt51_0 rfl (by omega) | exact mk_one pt61_0 rfl (by omega)), _f_76, E⟩
        · have _kb_65 := _h33
          have _h33 := bf_d _h33
          refine W_region ?_
          refine WL_step rfl rfl (r_eql rfl rfl) ?_
          refine WL_step rfl rfl (r_assign rfl) ?_
          refine WL_nil ?_
          refine thn_nrm (_hK_63 _ _ ?_)
          clear _hK_63
          refine W_cond rfl (fun _h33 => ?_) (fun _h33 => ?_)
          · have _kb_77 := _h33
            have _h33 := bt_d _h33
            refine W_seq fun _K_78 _hK_78 => ?_
            refine W_region ?_
            refine WL_step rfl rfl (r_move rfl) ?_
            refine WL_step rfl rfl (r_move rfl) ?_
            refine WL_step rfl rfl (r_sub (by omega) rfl rfl) ?_
            refine WL_s rfl rfl ?_
            refine Step.call (r_call (xs := [.tmp 36, .tmp 38]) fk69 rfl) (ih cu19 _ (by omega) (by omega)) fun _v39 _w_79 _q39 => ?_
            obtain ⟨x39q0, u39d0x0, rfl, _q_u39d0x0, _lo_u39d0x0, pt39_0, cu39, _cw_79⟩ := _q39
            have _cw_79z := _cw_79.size
            have E := E.trans _cw_79
            obtain ⟨Au39d0x0, Cu39d0x0, eu39d0x0⟩ := _q_u39d0x0.val
            subst eu39d0x0
            have lu39d0x0 := _q_u39d0x0.len
            have _hiu39d0x0 := _q_u39d0x0.lt
            have mb39 := mk_le pt39_0 (by omega)
            refine WL_step rfl rfl (r_move rfl) ?_
            refine WL_step rfl rfl (r_move rfl) ?_
            refine WL_step rfl rfl (r_sub (by omega) rfl rfl) ?_
            refine WL_s rfl rfl ?_
            refine Step.call (r_call (xs := [.tmp 40, .tmp 42]) fk69 rfl) (ih cu39 _ (by omega) (by omega)) fun _v43 _w_80 _q43 => ?_
            obtain ⟨x43q0, u43d0x0, rfl, _q_u43d0x0, _lo_u43d0x0, pt43_0, cu43, _cw_80⟩ := _q43
            have _cw_80z := _cw_80.size
            have E := E.trans _cw_80
            obtain ⟨Au43d0x0, Cu43d0x0, eu43d0x0⟩ := _q_u43d0x0.val
            subst eu43d0x0
            have lu43d0x0 := _q_u43d0x0.len
            have _hiu43d0x0 := _q_u43d0x0.lt
            have mb43 := mk_le pt43_0 (by omega)
            refine WL_step rfl rfl (r_build (parts := [(0, .const (Go.Value.int Go.IntKind.i64 5))]) (cells := [(.int .i64 5), (.int .i64 0), (.int .i64 0), (.int .i64 0)]) zr52 pl52 rfl rfl) ?_
            refine WL_s rfl rfl ?_
            have _f_81 := (_q_u39d0x0.ch _cw_80 (fun g hg hm => by have _h0 := List.mem_singleton.1 hm; have _h2 := _lo_u39d0x0 _ hg; have _h3 := _hiu39d0x0 _ hg; omega))
            refine Step.call (r_call (xs := [.tmp 39, .tmp 43, .tmp 44]) fk80 rfl) (c_spec_l8Join _f_81.ls _q_u43d0x0.ls ⟨5, 0, 0, 0⟩ (by first | omega | (simp only [List.length_nil]; omega))) fun _v45 _w_82 _q45 => ?_
            obtain ⟨_u45, rfl, _q45, _lo45, _cw_82⟩ := _q45
            have _cw_82z := _cw_82.size
            have E := E.trans _cw_82.of_nil
            obtain ⟨_Au45, _Cu45, _eu45⟩ := _q45.val
            subst _eu45
            have _lu45 := _q45.len
            have _hiu45 := _q45.lt
            refine WL_s rfl rfl ?_
            have _f_83 := ((((_m4.ch _cw_36 (fun hm => by have _h1 := List.mem_singleton.1 hm; omega)).ch _cw_79 (fun hm => by have _h1 := List.mem_singleton.1 hm; omega)).ch _cw_80 (fun hm => by have _h1 := List.mem_singleton.1 hm; omega)).ch0 _cw_82)
            refine s_storeA (off := 0) 1 _f_83 sz26 rfl (us := [(.slice _Au45 (x39q0 ++ x43q0 ++ [(⟨5, 0, 0, 0⟩ : Token)]).length _Cu45)]) rfl rfl rfl rfl fun _w_84 _m_85 _cw_84 => ?_
            have _cw_84z := _cw_84.size
            have E := E.step _cw_84 (fun i hi => .inl (by have _h1 := List.mem_singleton.1 hi; omega))
            replace _m_85 : Blk _w_84 _b4 26 [(.slice _Au45 (x39q0 ++ x43q0 ++ [(⟨5, 0, 0, 0⟩ : Token)]).length _Cu45)] := _m_85
            refine WL_nil ?_
            refine thn_nrm (_hK_78 _ _ ?_)
            clear _hK_78
            refine W_ret (inB_ret (thn_ret ?_))
            clear _hK_33
            have _f_86 := (_q45.ch _cw_84 (fun g hg hm => by have _h0 := List.mem_singleton.1 hm; have _h2 := _lo45 _ hg; have _h3 := _hiu45 _ hg; omega))
            have _o_87 : Ol Token.cs 52 4 _w_84 (.slice _Au45 (x39q0 ++ x43q0 ++ [(⟨5, 0, 0, 0⟩ : Token)]).length _Cu45) (x39q0 ++ x43q0 ++ [(⟨5, 0, 0, 0⟩ : Token)]) := by
              have hx := _f_86
              first | exact hx | simpa using hx
            have _f_88 := ((cu43.ch0 _cw_82).ch _cw_84 (fun i hm => by have _h1 := List.mem_singleton.1 hm; omega))
            exact ret_intro [_] (resOf_loadA _m_85 rfl agg26 sz26 trivial) ⟨(x39q0 ++ x43q0 ++ [(⟨5, 0, 0, 0⟩ : Token)]), (.slice _Au45 (x39q0 ++ x43q0 ++ [(⟨5, 0, 0, 0⟩ : Token)]).length _Cu45), rfl, _o_87, (Lo.down _lo45 (by omega)), (by first | exact mk_leaf (by omega) | exact mk_two pt26_0 pt30_0 rfl (by omega) | exact mk_two pt39_0 pt43_0 rfl (by omega) | exact mk_one pt51_0 rfl (by omega) | exact mk_one pt61_0 rfl (by omega)), _f_88, E⟩
          · have _kb_77 := _h33
            have _h33 := bf_d _h33
            refine W_seq fun _K_89 _hK_89 => ?_
            refine W_region ?_
            refine WL_step rfl rfl (r_eql rfl rfl) ?_
            refine WL_step rfl rfl (r_assign rfl) ?_
            refine WL_nil ?_
            refine thn_nrm (_hK_89 _ _ ?_)
            clear _hK_89
            refine W_cond rfl (fun _h46 => ?_) (fun _h46 => ?_)
            · have _kb_90 := _h46
              have _h46 := bt_d _h46
              refine W_seq fun _K_91 _hK_91 => ?_
              refine W_region ?_
              refine WL_step rfl rfl (r_move rfl) ?_
              refine WL_step rfl rfl (r_move rfl) ?_
              refine WL_step rfl rfl (r_sub (by omega) rfl rfl) ?_
              refine WL_s rfl rfl ?_
              refine Step.call (r_call (xs := [.tmp 48, .tmp 50]) fk69 rfl) (ih cu19 _ (by omega) (by omega)) fun _v51 _w_92 _q51 => ?_
              obtain ⟨x51q0, u51d0x0, rfl, _q_u51d0x0, _lo_u51d0x0, pt51_0, cu51, _cw_92⟩ := _q51
              have _cw_92z := _cw_92.size
              have E := E.trans _cw_92
              obtain ⟨Au51d0x0, Cu51d0x0, eu51d0x0⟩ := _q_u51d0x0.val
              subst eu51d0x0
              have lu51d0x0 := _q_u51d0x0.len
              have _hiu51d0x0 := _q_u51d0x0.lt
              have mb51 := mk_le pt51_0 (by omega)
              refine WL_step rfl rfl (r_build (parts := []) (cells := [(.slice none 0 0)]) zr26 pl26 rfl rfl) ?_
              refine WL_step rfl rfl (r_build (parts := [(0, .const (Go.Value.int Go.IntKind.i64 6))]) (cells := [(.int .i64 6), (.int .i64 0), (.int .i64 0), (.int .i64 0)]) zr52 pl52 rfl rfl) ?_
              refine WL_s rfl rfl ?_
              refine Step.call (r_call (xs := [.tmp 51, .tmp 52, .tmp 53]) fk80 rfl) (c_spec_l8Join _q_u51d0x0.ls (Ls.nil (cs := Token.cs) (k := 4) _ 0 0) ⟨6, 0, 0, 0⟩ (by first | omega | (simp only [List.length_nil]; omega))) fun _v54 _w_93 _q54 => ?_
              obtain ⟨_u54, rfl, _q54, _lo54, _cw_93⟩ := _q54
              have _cw_93z := _cw_93.size
              have E := E.trans _cw_93.of_nil
              obtain ⟨_Au54, _Cu54, _eu54⟩ := _q54.val
              subst _eu54
              have _lu54 := _q54.len
              have _hiu54 := _q54.lt
              refine WL_s rfl rfl ?_
              have _f_94 := (((_m4.ch _cw_36 (fun hm => by have _h1 := List.mem_singleton.1 hm; omega)).ch _cw_92 (fun hm => by have _h1 := List.mem_singleton.1 hm; omega)).ch0 _cw_93)
              refine s_storeA (off := 0) 1 _f_94 sz26 rfl (us := [(.slice _Au54 (x51q0 ++ [] ++ [(⟨6, 0, 0, 0⟩ : Token)]).length _Cu54)]) rfl rfl rfl rfl fun _w_95 _m_96 _cw_95 => ?_
              have _cw_95z := _cw_95.size
              have E := E.step _cw_95 (fun i hi => .inl (by have _h1 := List.mem_singleton.1 hi; omega))
              replace _m_96 : Blk _w_95 _b4 26 [(.slice _Au54 (x51q0 ++ [] ++ [(⟨6, 0, 0, 0⟩ : Token)]).length _Cu54)] := _m_96
              refine WL_nil ?_
              refine thn_nrm (_hK_91 _ _ ?_)
              clear _hK_91
              refine W_ret (inB_ret (thn_ret ?_))
              clear _hK_33
              have _f_97 := (_q54.ch _cw_95 (fun g hg hm => by have _h0 := List.mem_singleton.1 hm; have _h2 := _lo54 _ hg; have _h3 := _hiu54 _ hg; omega))
              have _o_98 : Ol Token.cs 52 4 _w_95 (.slice _Au54 (x51q0 ++ [] ++ [(⟨6, 0, 0, 0⟩ : Token)]).length _Cu54) (x51q0 ++ [] ++ [(⟨6, 0, 0, 0⟩ : Token)]) := by
                have hx := _f_97
                first | exact hx | simpa using hx
              have _f_99 := ((cu51.ch0 _cw_93).ch _cw_95 (fun i hm => by have _h1 := List.mem_singleton.1 hm; omega))
              exact ret_intro [_] (resOf_loadA _m_96 rfl agg26 sz26 trivial) ⟨(x51q0 ++ [] ++ [(⟨6, 0, 0, 0⟩ : Token)]), (.slice _Au54 (x51q0 ++ [] ++ [(⟨6, 0, 0, 0⟩ : Token)]).length _Cu54), rfl, _o_98, (Lo.down _lo54 (by omega)), (by first | exact mk_leaf (by omega) | exact mk_two pt26_0 pt30_0 rfl (by omega) | exact mk_two pt39_0 pt43_0 rfl (by omega) | exact mk_one pt51_0 rfl (by omega) | exact mk_one pt61_0 rfl (by omega)), _f_99, E⟩
            · have _kb_90 := _h46
              have _h46 := bf_d _h46
              refine W_skip ?_
              refine inB_nrm ?_
              refine thn_nrm (_hK_33 _ _ ?_)
              clear _hK_33
              refine W_seq fun _K_100 _hK_100 => ?_
              refine W_region ?_
              refine WL_step rfl rfl (r_move rfl) ?_
              refine WL_s rfl rfl ?_
              refine Step.call (r_call (xs := [.tmp 55, .const (Go.Value.int Go.IntKind.i64 3)]) fk40 rfl) (c_spec_l1Below cu19 _ (by omega)) fun _v56 _w_101 _q56 => ?_
              obtain ⟨x56q0, rfl, pt56_0, cu56, _cw_101⟩ := _q56
              have _cw_101z := _cw_101.size
              have E := E.trans _cw_101
              refine WL_step rfl rfl (r_add (by omega) rfl rfl) ?_
              refine WL_step rfl rfl (r_assign rfl) ?_
              refine WL_nil ?_
              refine thn_nrm (_hK_100 _ _ ?_)
              clear _hK_100
              refine W_seq fun _K_102 _hK_102 => ?_
              refine W_region ?_
              refine WL_step rfl rfl (r_move rfl) ?_
              refine WL_step rfl rfl (r_move rfl) ?_
              refine WL_step rfl rfl (r_sub (by omega) rfl rfl) ?_
              refine WL_s rfl rfl ?_
              refine Step.call (r_call (xs := [.tmp 58, .tmp 60]) fk69 rfl) (ih cu56 _ (by omega) (by omega)) fun _v61 _w_103 _q61 => ?_
              obtain ⟨x61q0, u61d0x0, rfl, _q_u61d0x0, _lo_u61d0x0, pt61_0, cu61, _cw_103⟩ := _q61
              have _cw_103z := _cw_103.size
              have E := E.trans _cw_103
              obtain ⟨Au61d0x0, Cu61d0x0, eu61d0x0⟩ := _q_u61d0x0.val
              subst eu61d0x0
              have lu61d0x0 := _q_u61d0x0.len
              have _hiu61d0x0 := _q_u61d0x0.lt
              have mb61 := mk_le pt61_0 (by omega)
              refine WL_step rfl rfl (r_build (parts := []) (cells := [(.slice none 0 0)]) zr26 pl26 rfl rfl) ?_
              refine WL_step rfl rfl (r_move rfl) ?_
              refine WL_step rfl rfl (r_move rfl) ?_
              refine WL_step rfl rfl (r_add (by omega) rfl rfl) ?_
              refine WL_s rfl rfl ?_
              refine Step.call (r_call (xs := [.tmp 63, .tmp 65]) fk40 rfl) (c_spec_l1Below cu61 _ (by omega)) fun _v66 _w_104 _q66 => ?_
              obtain ⟨x66q0, rfl, pt66_0, cu66, _cw_104⟩ := _q66
              have _cw_104z := _cw_104.size
              have E := E.trans _cw_104
              refine WL_step rfl rfl (r_move rfl) ?_
              refine WL_step rfl rfl (r_build (parts := [(0, .const (Go.Value.int Go.IntKind.i64 7)), (2, .tmp 66), (3, .tmp 67)]) (cells := [(.int .i64 7), (.int .i64 0), (.int .i64 x66q0), (.int .i64 (1 + x56q0))]) zr52 pl52 rfl rfl) ?_
              refine WL_s rfl rfl ?_
              have _f_105 := (_q_u61d0x0.ch _cw_104 (fun g hg hm => by have _h0 := List.mem_singleton.1 hm; have _h2 := _lo_u61d0x0 _ hg; have _h3 := _hiu61d0x0 _ hg; omega))
              refine Step.call (r_call (xs := [.tmp 61, .tmp 62, .tmp 68]) fk80 rfl) (c_spec_l8Join _f_105.ls (Ls.nil (cs := Token.cs) (k := 4) _ 0 0) ⟨7, 0, x66q0, (1 + x56q0)⟩ (by first | omega | (simp only [List.length_nil]; omega))) fun _v69 _w_106 _q69 => ?_
              obtain ⟨_u69, rfl, _q69, _lo69, _cw_106⟩ := _q69
              have _cw_106z := _cw_106.size
              have E := E.trans _cw_106.of_nil
              obtain ⟨_Au69, _Cu69, _eu69⟩ := _q69.val
              subst _eu69
              have _lu69 := _q69.len
              have _hiu69 := _q69.lt
              refine WL_s rfl rfl ?_
              have _f_107 := (((((_m4.ch _cw_36 (fun hm => by have _h1 := List.mem_singleton.1 hm; omega)).ch _cw_101 (fun hm => by have _h1 := List.mem_singleton.1 hm; omega)).ch _cw_103 (fun hm => by have _h1 := List.mem_singleton.1 hm; omega)).ch _cw_104 (fun hm => by have _h1 := List.mem_singleton.1 hm; omega)).ch0 _cw_106)
              refine s_storeA (off := 0) 1 _f_107 sz26 rfl (us := [(.slice _Au69 (x61q0 ++ [] ++ [(⟨7, 0, x66q0, (1 + x56q0)⟩ : Token)]).length _Cu69)]) rfl rfl rfl rfl fun _w_108 _m_109 _cw_108 => ?_
              have _cw_108z := _cw_108.size
              have E := E.step _cw_108 (fun i hi => .inl (by have _h1 := List.mem_singleton.1 hi; omega))
              replace _m_109 : Blk _w_108 _b4 26 [(.slice _Au69 (x61q0 ++ [] ++ [(⟨7, 0, x66q0, (1 + x56q0)⟩ : Token)]).length _Cu69)] := _m_109
              refine WL_nil ?_
              refine thn_nrm (_hK_102 _ _ ?_)
              clear _hK_102
              refine W_ret ?_
              have _f_110 := (_q69.ch _cw_108 (fun g hg hm => by have _h0 := List.mem_singleton.1 hm; have _h2 := _lo69 _ hg; have _h3 := _hiu69 _ hg; omega))
              have _o_111 : Ol Token.cs 52 4 _w_108 (.slice _Au69 (x61q0 ++ [] ++ [(⟨7, 0, x66q0, (1 + x56q0)⟩ : Token)]).length _Cu69) (x61q0 ++ [] ++ [(⟨7, 0, x66q0, (1 + x56q0)⟩ : Token)]) := by
                have hx := _f_110
                first | exact hx | simpa using hx
              have _f_112 := ((cu66.ch0 _cw_106).ch _cw_108 (fun i hm => by have _h1 := List.mem_singleton.1 hm; omega))
              exact ret_intro [_] (resOf_loadA _m_109 rfl agg26 sz26 trivial) ⟨(x61q0 ++ [] ++ [(⟨7, 0, x66q0, (1 + x56q0)⟩ : Token)]), (.slice _Au69 (x61q0 ++ [] ++ [(⟨7, 0, x66q0, (1 + x56q0)⟩ : Token)]).length _Cu69), rfl, _o_111, (Lo.down _lo69 (by omega)), (by first | exact mk_leaf (by omega) | exact mk_two pt26_0 pt30_0 rfl (by omega) | exact mk_two pt39_0 pt43_0 rfl (by omega) | exact mk_one pt51_0 rfl (by omega) | exact mk_one pt61_0 rfl (by omega)), _f_112, E⟩
theorem c_spec_l8Make {w : World} {b_c : Nat} (_h_c : Cu w b_c) (deep : Int) (hd : 0 ≤ deep ∧ deep ≤ 3) :
    Ctr Tryz.prog 69 #[(.pointer (some ⟨b_c, 0, none⟩)), (.int .i64 deep)] w (fun v w' => ∃ (xq0 : List Token) (ud0x0 : Value), v = .agg #[ud0x0] ∧ Ol Token.cs 52 4 w' ud0x0 (xq0) ∧ Lo w.heap.size ud0x0 ∧ (1 ≤ xq0.length ∧ xq0.length + 1 ≤ 2 ^ (deep.toNat + 1)) ∧ Cu w' b_c ∧ Ch [b_c] w w') := c_spec_l8Make_n _ _h_c deep hd (Nat.lt_succ_self _)

/-- spec.l8Expr -/
theorem c_spec_l8Expr {w : World} {b_c : Nat} (_h_c : Cu w b_c) :
    Ctr Tryz.prog 39 #[(.pointer (some ⟨b_c, 0, none⟩))] w (fun v w' => ∃ (xq0 : List Token) (ud0x0 : Value), v = .agg #[ud0x0] ∧ Ol Token.cs 52 4 w' ud0x0 (xq0) ∧ Lo w.heap.size ud0x0 ∧ (1 ≤ xq0.length ∧ xq0.length ≤ 24) ∧ Cu w' b_c ∧ Ch [b_c] w w') := by
  have _zb_c := _h_c.lt
  have E := Ch.refl [b_c] w
  refine Ctr_of_W (N := 12) (vs0 := [(.pointer (some ⟨b_c, 0, none⟩))]) Tryz.func39 rfl rfl rfl ?_
  refine W_seq fun _K_1 _hK_1 => ?_
  refine W_region ?_
  refine WL_s rfl rfl ?_
  refine s_alloc zr26 fun _b2 _w_2 _m2 _cw_2 _e2 => ?_
  have _cw_2z := _cw_2.size
  have E := E.trans _cw_2.of_nil
  have _z2 := _m2.lt
  replace _m2 : Blk _w_2 _b2 26 [(.slice none 0 0)] := _m2
  refine WL_nil ?_
  refine thn_nrm (_hK_1 _ _ ?_)
  clear _hK_1
  refine W_seq fun _K_3 _hK_3 => ?_
  refine W_seq fun _K_4 _hK_4 => ?_
  refine W_region ?_
  refine WL_step rfl rfl (r_move rfl) ?_
  refine WL_s rfl rfl ?_
  have _f_5 := (_h_c.ch0 _cw_2)
  refine Step.call (r_call (xs := [.tmp 3, .const (Go.Value.int Go.IntKind.i64 2)]) fk41 rfl) (c_spec_l1Once _f_5 _ (by omega)) fun _v4 _w_6 _q4 => ?_
  obtain ⟨x4q0, rfl, cu4, _cw_6⟩ := _q4
  have _cw_6z := _cw_6.size
  have E := E.trans _cw_6
  refine WL_nil ?_
  refine thn_nrm (_hK_4 _ _ ?_)
  clear _hK_4
  refine W_cond rfl (fun _h4 => ?_) (fun _h4 => ?_)
  · have _kb_7 := _h4
    refine W_seq fun _K_8 _hK_8 => ?_
    refine W_region ?_
    refine WL_step rfl rfl (r_move rfl) ?_
    refine WL_s rfl rfl ?_
    refine Step.call (r_call (xs := [.tmp 5]) fk68 rfl) (c_spec_l8Known cu4 ) fun _v6 _w_9 _q6 => ?_
    obtain ⟨x6q0, u6d0x0, rfl, _q_u6d0x0, _lo_u6d0x0, pt6_0, cu6, _cw_9⟩ := _q6
    have _cw_9z := _cw_9.size
    have E := E.trans _cw_9
    obtain ⟨Au6d0x0, Cu6d0x0, eu6d0x0⟩ := _q_u6d0x0.val
    subst eu6d0x0
    have lu6d0x0 := _q_u6d0x0.len
    have _hiu6d0x0 := _q_u6d0x0.lt
    refine WL_s rfl rfl ?_
    have _f_10 := ((_m2.ch _cw_6 (fun hm => by have _h1 := List.mem_singleton.1 hm; omega)).ch _cw_9 (fun hm => by have _h1 := List.mem_singleton.1 hm; omega))
    refine s_storeA (off := 0) 1 _f_10 sz26 rfl (us := [(.slice Au6d0x0 (x6q0).length Cu6d0x0)]) rfl rfl rfl rfl fun _w_11 _m_12 _cw_11 => ?_
    have _cw_11z := _cw_11.size
    have E := E.step _cw_11 (fun i hi => .inl (by have _h1 := List.mem_singleton.1 hi; omega))
    replace _m_12 : Blk _w_11 _b2 26 [(.slice Au6d0x0 (x6q0).length Cu6d0x0)] := _m_12
    refine WL_nil ?_
    refine thn_nrm (_hK_8 _ _ ?_)
    clear _hK_8
    refine W_ret (thn_ret ?_)
    clear _hK_3
    have _f_13 := (_q_u6d0x0.ch _cw_11 (fun g hg hm => by have _h0 := List.mem_singleton.1 hm; have _h2 := _lo_u6d0x0 _ hg; have _h3 := _hiu6d0x0 _ hg; omega))
    have _o_14 : Ol Token.cs 52 4 _w_11 (.slice Au6d0x0 (x6q0).length Cu6d0x0) (x6q0) := by
      have hx := _f_13
      first | exact hx | simpa using hx
    have _f_15 := (cu6.ch _cw_11 (fun i hm => by have _h1 := List.mem_singleton.1 hm; omega))
    exact ret_intro [_] (resOf_loadA _m_12 rfl agg26 sz26 trivial) ⟨x6q0, (.slice Au6d0x0 (x6q0).length Cu6d0x0), rfl, _o_14, (Lo.down _lo_u6d0x0 (by omega)), pt6_0, _f_15, E⟩
  · have _kb_7 := _h4
    refine W_skip ?_
    refine thn_nrm (_hK_3 _ _ ?_)
    clear _hK_3
    refine W_seq fun _K_16 _hK_16 => ?_
    refine W_region ?_
    refine WL_step rfl rfl (r_move rfl) ?_
    refine WL_step rfl rfl (r_move rfl) ?_
    refine WL_s rfl rfl ?_
    refine Step.call (r_call (xs := [.tmp 8, .const (Go.Value.int Go.IntKind.i64 3)]) fk40 rfl) (c_spec_l1Below cu4 _ (by omega)) fun _v9 _w_17 _q9 => ?_
    obtain ⟨x9q0, rfl, pt9_0, cu9, _cw_17⟩ := _q9
    have _cw_17z := _cw_17.size
    have E := E.trans _cw_17
    refine WL_step rfl rfl (r_add (by omega) rfl rfl) ?_
    refine WL_s rfl rfl ?_
    refine Step.call (r_call (xs := [.tmp 7, .tmp 10]) fk69 rfl) (c_spec_l8Make cu9 _ (by omega)) fun _v11 _w_18 _q11 => ?_
    obtain ⟨x11q0, u11d0x0, rfl, _q_u11d0x0, _lo_u11d0x0, pt11_0, cu11, _cw_18⟩ := _q11
    have _cw_18z := _cw_18.size
    have E := E.trans _cw_18
    obtain ⟨Au11d0x0, Cu11d0x0, eu11d0x0⟩ := _q_u11d0x0.val
    subst eu11d0x0
    have lu11d0x0 := _q_u11d0x0.len
    have _hiu11d0x0 := _q_u11d0x0.lt
    refine WL_s rfl rfl ?_
    have _f_19 := (((_m2.ch _cw_6 (fun hm => by have _h1 := List.mem_singleton.1 hm; omega)).ch _cw_17 (fun hm => by have _h1 := List.mem_singleton.1 hm; omega)).ch _cw_18 (fun hm => by have _h1 := List.mem_singleton.1 hm; omega))
    refine s_storeA (off := 0) 1 _f_19 sz26 rfl (us := [(.slice Au11d0x0 (x11q0).length Cu11d0x0)]) rfl rfl rfl rfl fun _w_20 _m_21 _cw_20 => ?_
    have _cw_20z := _cw_20.size
    have E := E.step _cw_20 (fun i hi => .inl (by have _h1 := List.mem_singleton.1 hi; omega))
    replace _m_21 : Blk _w_20 _b2 26 [(.slice Au11d0x0 (x11q0).length Cu11d0x0)] := _m_21
    refine WL_nil ?_
    refine thn_nrm (_hK_16 _ _ ?_)
    clear _hK_16
    refine W_ret ?_
    have _f_22 := (_q_u11d0x0.ch _cw_20 (fun g hg hm => by have _h0 := List.mem_singleton.1 hm; have _h2 := _lo_u11d0x0 _ hg; have _h3 := _hiu11d0x0 _ hg; omega))
    have _o_23 : Ol Token.cs 52 4 _w_20 (.slice Au11d0x0 (x11q0).length Cu11d0x0) (x11q0) := by
      have hx := _f_22
      first | exact hx | simpa using hx
    have _f_24 := (cu11.ch _cw_20 (fun i hm => by have _h1 := List.mem_singleton.1 hm; omega))
    exact ret_intro [_] (resOf_loadA _m_21 rfl agg26 sz26 trivial) ⟨x11q0, (.slice Au11d0x0 (x11q0).length Cu11d0x0), rfl, _o_23, (Lo.down _lo_u11d0x0 (by omega)), (by have _h9 := mk_le pt11_0 (by omega); omega), _f_24, E⟩

end Go.Proofs.YtholldndjafnpaaGreat
