/- Walks of functions that FnWords reaches: what each returns, and that it leaves the memory that was there alone. -/
import Derived.Test.YtholldndjafnpaaLibA
import Derived.Test.YtholldndjafnpaaLibB
import Derived.Test.YtholldndjafnpaaWWords
import Derived.Test.YtholldndjafnpaaWWordsb
import Derived.Test.YtholldndjafnpaaWWordsc
import Derived.Test.YtholldndjafnpaaWWordsd
import Derived.Test.YtholldndjafnpaaProg
namespace Go.Proofs.Ytholldndjafnpaa
open Go.KLib Go.Shelf
set_option maxHeartbeats 1000000
set_option maxRecDepth 20000
set_option linter.unusedVariables false
set_option linter.unusedSimpArgs false
namespace TWordse
theorem agg30 : aggB Try.prog 30 = some false := by kernel_rfl
theorem agg67 : aggB Try.prog 67 = some true := by kernel_rfl
theorem el25 : elB Try.prog 25 = some 30 := by kernel_rfl
theorem el30 : elB Try.prog 30 = some 3 := by kernel_rfl
theorem fk13 : fnB Try.prog 13 = true := by kernel_rfl
theorem fk56 : fnB Try.prog 56 = true := by kernel_rfl
theorem fk58 : fnB Try.prog 58 = true := by kernel_rfl
theorem fk59 : fnB Try.prog 59 = true := by kernel_rfl
theorem fk60 : fnB Try.prog 60 = true := by kernel_rfl
theorem fk61 : fnB Try.prog 61 = true := by kernel_rfl
theorem fk62 : fnB Try.prog 62 = true := by kernel_rfl
theorem fk63 : fnB Try.prog 63 = true := by kernel_rfl
theorem fk64 : fnB Try.prog 64 = true := by kernel_rfl
theorem fk9 : fnB Try.prog 9 = true := by kernel_rfl
theorem mixed : Try.prog.follows .mixedOrders = true := by kernel_rfl
theorem sz30 : sizeB Try.prog 30 = some 1 := by kernel_rfl
theorem sz67 : sizeB Try.prog 67 = some 1 := by kernel_rfl
theorem zr67 : zeroB Try.prog 67 = some (.agg #[.slice none 0 0]) := by kernel_rfl
end TWordse
open TWordse

/-- laws.FnWords -/
theorem c_laws_FnWords {w : World} {LL_code _B_code : Nat} {_v_code : Value} {code : List Int} (_h_code : Ls ucs 1 w LL_code _B_code _v_code code) :
    Ctr Try.prog 7 #[_v_code] w (fun v w' => v = .bool (true) ∧ Ch [] w w') := by
  obtain ⟨_A_code, _C_code, _e1_code⟩ := _h_code.val
  subst _e1_code
  have _l_code := _h_code.len
  have _h_code := _h_code.here (by decide)
  have E := Ch.refl [] w
  refine Ctr_of_W (N := 100) (vs0 := [(.slice _A_code code.length _C_code)]) Try.func7 rfl rfl rfl ?_
  refine W_seq fun _K_1 _hK_1 => ?_
  refine W_region ?_
  refine WL_step rfl rfl (r_assign rfl) ?_
  refine WL_nil ?_
  refine thn_nrm (_hK_1 _ _ ?_)
  clear _hK_1
  refine W_seq fun _K_2 _hK_2 => ?_
  refine W_seq fun _K_3 _hK_3 => ?_
  refine W_region ?_
  refine WL_step rfl rfl (r_move rfl) ?_
  refine WL_s rfl rfl ?_
  refine Step.call (r_call (xs := [.tmp 10]) fk9 rfl) (c_laws_big _h_code ) fun _v11 _w_4 _q11 => ?_
  obtain ⟨rfl, _cw_4⟩ := _q11
  have _cw_4z := _cw_4.size
  have E := E.trans _cw_4
  refine WL_nil ?_
  refine thn_nrm (_hK_3 _ _ ?_)
  clear _hK_3
  refine W_cond rfl (fun _h11 => ?_) (fun _h11 => ?_)
  · have _kb_5 := _h11
    have _h11 := bt_d _h11
    refine W_seq fun _K_6 _hK_6 => ?_
    refine W_region ?_
    refine WL_step rfl rfl (r_assign rfl) ?_
    refine WL_nil ?_
    refine thn_nrm (_hK_6 _ _ ?_)
    clear _hK_6
    refine W_ret (thn_ret ?_)
    clear _hK_2
    exact ret_intro [_] ⟨rfl, trivial⟩ ⟨congrArg Value.bool (by first | rfl | (exfalso; omega) | (exfalso; simp_all; done) | exact absurd (wu_has (by omega) (by omega) _h87) (nomem_end hn (by omega))), E⟩
  · have _kb_5 := _h11
    have _h11 := bf_d _h11
    refine W_skip ?_
    refine thn_nrm (_hK_2 _ _ ?_)
    clear _hK_2
    refine W_seq fun _K_7 _hK_7 => ?_
    refine W_region ?_
    refine WL_step rfl rfl (r_move rfl) ?_
    refine WL_s rfl rfl ?_
    have _f_8 := (_h_code.ch0 _cw_4)
    refine Step.call (r_call (xs := [.tmp 13]) fk60 rfl) (c_spec_DrawWordsUpTo _f_8 (by omega)) fun _v14 _w_9 _q14 => ?_
    obtain ⟨x14q0, x14q1, u14d0x0, rfl, _q_u14d0x0, _lo_u14d0x0, pt14_0, pt14_1, _cw_9⟩ := _q14
    have _cw_9z := _cw_9.size
    have E := E.trans _cw_9
    obtain ⟨Au14d0x0, Cu14d0x0, eu14d0x0⟩ := _q_u14d0x0.val
    subst eu14d0x0
    have lu14d0x0 := _q_u14d0x0.len
    have _hiu14d0x0 := _q_u14d0x0.lt
    refine WL_step rfl rfl (r_move rfl) ?_
    refine WL_step rfl rfl (r_extract rfl rfl) ?_
    refine WL_step rfl rfl (r_extract rfl rfl) ?_
    refine WL_s rfl rfl ?_
    refine s_alloc zr67 fun _b3 _w_10 _m3 _cw_10 _e3 => ?_
    have _cw_10z := _cw_10.size
    have E := E.trans _cw_10
    have _z3 := _m3.lt
    replace _m3 : Blk _w_10 _b3 67 [(.slice none 0 0)] := _m3
    refine WL_s rfl rfl ?_
    refine s_storeA (off := 0) 1 _m3 sz67 rfl (us := [(.slice Au14d0x0 (x14q0).length Cu14d0x0)]) rfl rfl rfl rfl fun _w_11 _m_12 _cw_11 => ?_
    have _cw_11z := _cw_11.size
    have E := E.step _cw_11 (fun i hi => .inl (by have _h1 := List.mem_singleton.1 hi; omega))
    replace _m_12 : Blk _w_11 _b3 67 [(.slice Au14d0x0 (x14q0).length Cu14d0x0)] := _m_12
    refine WL_step rfl rfl (r_assign rfl) ?_
    refine WL_nil ?_
    refine thn_nrm (_hK_7 _ _ ?_)
    clear _hK_7
    refine W_seq fun _K_13 _hK_13 => ?_
    refine W_region ?_
    refine WL_step rfl rfl (r_loadAtA0 _m_12.at_ agg67 sz67 rfl) ?_
    refine WL_step rfl rfl (r_move rfl) ?_
    refine WL_s rfl rfl ?_
    have _f_14 := ((_q_u14d0x0.ch0 _cw_10).ch _cw_11 (fun g hg hm => by have _h0 := List.mem_singleton.1 hm; have _h2 := _lo_u14d0x0 _ hg; have _h3 := _hiu14d0x0 _ hg; omega))
    refine Step.call (r_call (xs := [.tmp 17, .tmp 18]) fk61 rfl) (c_impl_WordsUpTo _f_14.ls _ (by omega)) fun _v19 _w_15 _q19 => ?_
    obtain ⟨u19_0, _vs19_0, rfl, _q_u19_0, _lo_u19_0, _od_vs19_0, _sep_vs19_0, _cw_15⟩ := _q19
    have _cw_15z := _cw_15.size
    have E := E.trans _cw_15
    obtain ⟨Au19_0, Cu19_0, eu19_0⟩ := _q_u19_0.val
    subst eu19_0
    have lu19_0 := _q_u19_0.len
    have _hiu19_0 := _q_u19_0.lt
    have lsr19 := Ol.lsR _q_u19_0 (lo := _w_11.heap.size) (hi := _w_15.heap.size) _lo_u19_0 _hiu19_0
    have rdr19 := Od.rdR _od_vs19_0
    have rlr19 := rdr19.1
    refine WL_step rfl rfl (r_assign rfl) ?_
    refine WL_nil ?_
    refine thn_nrm (_hK_13 _ _ ?_)
    clear _hK_13
    refine W_seq fun _K_16 _hK_16 => ?_
    refine W_seq fun _K_17 _hK_17 => ?_
    refine W_region ?_
    refine WL_step rfl rfl (r_move rfl) ?_
    have _f_18 := (_m_12.ch0 _cw_15)
    refine WL_step rfl rfl (r_loadAtA0 _f_18.at_ agg67 sz67 rfl) ?_
    refine WL_step rfl rfl (r_move rfl) ?_
    refine WL_s rfl rfl ?_
    have _f_19 := (_f_14.ch0 _cw_15)
    refine Step.call (r_call (xs := [.tmp 21, .tmp 22]) fk63 rfl) (c_spec_WordsUpTo _f_19.ls _ ) fun _v23 _w_20 _q23 => ?_
    obtain ⟨u23_0, _vs23_0, rfl, _q_u23_0, _lo_u23_0, _od_vs23_0, _sep_vs23_0, _cw_20⟩ := _q23
    have _cw_20z := _cw_20.size
    have E := E.trans _cw_20
    obtain ⟨Au23_0, Cu23_0, eu23_0⟩ := _q_u23_0.val
    subst eu23_0
    have lu23_0 := _q_u23_0.len
    have _hiu23_0 := _q_u23_0.lt
    refine WL_s rfl rfl ?_
    have _f_21 := (rdr19.ch0 _cw_20)
    have _f_22 := (lsr19.ch0 _cw_20)
    refine Step.call (r_call (xs := [.tmp 20, .tmp 23]) fk62 rfl) (c_laws_sameRows _f_22 _f_21 _q_u23_0.ls _od_vs23_0.rd ) fun _v24 _w_23 _q24 => ?_
    replace _q24 : _v24 = .bool (true) ∧ _ := ⟨_q24.1.trans (congrArg Value.bool (decide_eq_true rfl)), _q24.2⟩
    obtain ⟨rfl, _cw_23⟩ := _q24
    have _cw_23z := _cw_23.size
    have E := E.trans _cw_23
    refine WL_step rfl rfl (r_not rfl) ?_
    refine WL_nil ?_
    refine thn_nrm (_hK_17 _ _ ?_)
    clear _hK_17
    refine W_condF rfl ?_
    refine W_skip ?_
    refine thn_nrm (_hK_16 _ _ ?_)
    clear _hK_16
    refine W_seq fun _K_24 _hK_24 => ?_
    refine W_seq fun _K_25 _hK_25 => ?_
    refine W_region ?_
    refine WL_step rfl rfl (r_assign rfl) ?_
    refine WL_nil ?_
    refine thn_nrm (_hK_25 _ _ ?_)
    clear _hK_25
    refine W_block ?_
    have _f_26 := ((((((_f_8.ch0 _cw_9).ch0 _cw_10).ch _cw_11 (fun i hi => by have _h1 := List.mem_singleton.1 hi; omega)).ch0 _cw_15).ch0 _cw_20).ch0 _cw_23)
    have _f_27 := ((_f_18.ch0 _cw_20).ch0 _cw_23)
    have _f_28 := ((_f_19.ch0 _cw_20).ch0 _cw_23)
    have _f_29 := (_f_22.ch0 _cw_23)
    have _f_30 := (_f_21.ch0 _cw_23)
    refine W_loop (σ := Nat) (fun (i : Nat) => [(0, (.slice _A_code code.length _C_code)), (3, (.pointer (some ⟨_b3, 0, none⟩))), (4, (.int .i64 x14q1)), (5, (.slice Au19_0 (_vs19_0).length Cu19_0)), (6, (.int .i64 ((i : Nat) : Int)))]) (fun (i : Nat) wx => Ch [] w wx ∧ _w_23.heap.size ≤ wx.heap.size ∧ (i ≤ (wuR x14q0 x14q1).length) ∧ Ls ucs 1 wx LL_code w.heap.size (.slice _A_code code.length _C_code) code ∧ Blk wx _b3 67 [(.slice Au14d0x0 (x14q0).length Cu14d0x0)] ∧ Ol Token.cs 126 4 wx (.slice Au14d0x0 (x14q0).length Cu14d0x0) x14q0 ∧ Ls Sv.cs 1 wx _w_11.heap.size _w_15.heap.size (.slice Au19_0 (_vs19_0).length Cu19_0) _vs19_0 ∧ Rd ics 1 wx _w_11.heap.size _w_15.heap.size _vs19_0 (wuR x14q0 x14q1)) (fun (i : Nat) => (wuR x14q0 x14q1).length - i) 0 (Sub.cons rfl (Sub.cons rfl (Sub.cons rfl (Sub.cons rfl (Sub.cons rfl (Sub.nil _)))))) ⟨E, (Nat.le_refl _), (by omega), _f_26, _f_27, _f_28, _f_29, _f_30⟩ ?_
    rintro i _wr_31 ⟨E, _zz0, hi, _F0_0, _F0_1, _F0_2, _F0_3, _F0_4⟩
    have _E0h := E
    have _E0hz := _E0h.size
    have _F0_1z := _F0_1.lt
    refine W_seq fun _K_32 _hK_32 => ?_
    refine W_seq fun _K_33 _hK_33 => ?_
    refine W_region ?_
    refine WL_step rfl rfl (r_move rfl) ?_
    refine WL_step rfl rfl (r_move rfl) ?_
    refine WL_step rfl rfl (r_len (by rw [el25]; rfl) rfl) ?_
    refine WL_step rfl rfl (r_lss rfl rfl) ?_
    refine WL_nil ?_
    refine thn_nrm (_hK_33 _ _ ?_)
    clear _hK_33
    refine W_cond rfl (fun _h29 => ?_) (fun _h29 => ?_)
    · have _kb_34 := _h29
      have _h29 := bt_d _h29
      refine W_skip ?_
      refine thn_nrm (_hK_32 _ _ ?_)
      clear _hK_32
      refine W_seq fun _K_35 _hK_35 => ?_
      refine W_block ?_
      refine W_seq fun _K_36 _hK_36 => ?_
      refine W_drawC [] 37 mixed rfl fun _w_37 _cw_37 => ?_
      have _cw_37z := _cw_37.size
      have E := E.trans _cw_37
      refine DR_s 0 rfl (by kernel_rfl) rfl rfl (t_v (fun _ => (r_move rfl)) ?_)
      refine DR_s 1 rfl (by kernel_rfl) rfl rfl (t_v (fun _ => (r_move rfl)) ?_)
      have _f_38 := (_F0_3.ch0 _cw_37)
      have _f_39 := (_F0_4.ch0 _cw_37)
      refine DR_s 2 rfl (by kernel_rfl) rfl rfl (t_index _f_38 Sv.len el25 sz30 rfl rfl rfl (by omega) fun _p34 _y34 _hy34 _a34 => ?_)
      obtain ⟨_ys34, _hys34, _fs34⟩ := _f_39.get _hy34
      obtain ⟨_A34, _n34, _C34⟩ := _y34
      obtain rfl := _fs34.eqn
      have _l34 := _fs34.len
      replace _fs34 : Ls ics 1 _w_37 _w_11.heap.size _w_15.heap.size (.slice _A34 _ys34.length _C34) _ys34 := _fs34
      replace _a34 : At _w_37 _w_11.heap.size _w_15.heap.size _p34 ([(.slice _A34 _ys34.length _C34)]) := _a34
      have mm9 := (wu_mem (mem_of_get _hys34)).1
      refine DR_s 3 rfl (by kernel_rfl) rfl rfl (t_loadAt0 _a34 (fun i hi => absurd hi List.not_mem_nil) agg30 rfl rfl ?_)
      refine DR_s 4 rfl (by kernel_rfl) rfl rfl (t_v (fun _ => (r_len (by rw [el30]; rfl) rfl)) ?_)
      refine DR_s 5 rfl (by kernel_rfl) rfl rfl (t_v (fun _ => (r_move rfl)) ?_)
      refine DR_s 6 rfl (by kernel_rfl) rfl rfl (t_v (fun _ => (r_gtr rfl rfl)) ?_)
      refine DR_s 7 rfl (by kernel_rfl) rfl rfl (t_v (fun _ => (r_move rfl)) ?_)
      refine DR_split (d := 39) rfl (fun _h39 => ?_) (fun _h39 => ?_)
      · have _kb_40 := _h39
        have _h39 := bt_d _h39
        refine DR_skip 8 rfl (by kernel_rfl) rfl rfl ?_
        refine DR_skip 9 rfl (by kernel_rfl) rfl rfl ?_
        refine DR_skip 10 rfl (by kernel_rfl) rfl rfl ?_
        refine DR_skip 11 rfl (by kernel_rfl) rfl rfl ?_
        refine DR_skip 12 rfl (by kernel_rfl) rfl rfl ?_
        refine DR_skip 13 rfl (by kernel_rfl) rfl rfl ?_
        refine DR_skip 14 rfl (by kernel_rfl) rfl rfl ?_
        refine DR_skip 15 rfl (by kernel_rfl) rfl rfl ?_
        refine DR_skip 16 rfl (by kernel_rfl) rfl rfl ?_
        refine DR_skip 17 rfl (by kernel_rfl) rfl rfl ?_
        refine DR_skip 18 rfl (by kernel_rfl) rfl rfl ?_
        refine DR_s 19 rfl (by kernel_rfl) rfl rfl (t_v (fun _ => (r_pickT rfl rfl)) ?_)
        refine DR_s 20 rfl (by kernel_rfl) rfl rfl (t_v (fun _ => (r_move rfl)) ?_)
        refine DR_skip 21 rfl (by kernel_rfl) rfl rfl ?_
        refine DR_skip 22 rfl (by kernel_rfl) rfl rfl ?_
        refine DR_skip 23 rfl (by kernel_rfl) rfl rfl ?_
        refine DR_skip 24 rfl (by kernel_rfl) rfl rfl ?_
        refine DR_skip 25 rfl (by kernel_rfl) rfl rfl ?_
        refine DR_skip 26 rfl (by kernel_rfl) rfl rfl ?_
        refine DR_skip 27 rfl (by kernel_rfl) rfl rfl ?_
        refine DR_skip 28 rfl (by kernel_rfl) rfl rfl ?_
        refine DR_skip 29 rfl (by kernel_rfl) rfl rfl ?_
        refine DR_skip 30 rfl (by kernel_rfl) rfl rfl ?_
        refine DR_skip 31 rfl (by kernel_rfl) rfl rfl ?_
        refine DR_skip 32 rfl (by kernel_rfl) rfl rfl ?_
        refine DR_skip 33 rfl (by kernel_rfl) rfl rfl ?_
        refine DR_skip 34 rfl (by kernel_rfl) rfl rfl ?_
        refine DR_skip 35 rfl (by kernel_rfl) rfl rfl ?_
        refine DR_s 36 rfl (by kernel_rfl) rfl rfl (t_v (fun _ => (r_pickT rfl rfl)) ?_)
        refine DR_done (by kernel_rfl) ?_
        refine thn_nrm (_hK_36 _ _ ?_)
        clear _hK_36
        refine W_condT rfl ?_
        refine W_seq fun _K_41 _hK_41 => ?_
        refine W_region ?_
        refine WL_step rfl rfl (r_assign rfl) ?_
        refine WL_nil ?_
        refine thn_nrm (_hK_41 _ _ ?_)
        clear _hK_41
        refine W_ret (inB_ret (thn_ret (thn_ret (inB_ret (thn_ret ?_)))))
        clear _hK_24 _hK_35
        exact ret_intro [_] ⟨rfl, trivial⟩ ⟨congrArg Value.bool (by first | rfl | (exfalso; omega) | (exfalso; simp_all; done) | exact absurd (wu_has (by omega) (by omega) _h87) (nomem_end hn (by omega))), E⟩
      · have _kb_40 := _h39
        have _h39 := bf_d _h39
        refine DR_s 8 rfl (by kernel_rfl) rfl rfl (t_v (fun _ => (r_move rfl)) ?_)
        refine DR_s 9 rfl (by kernel_rfl) rfl rfl (t_v (fun _ => (r_lss rfl rfl)) ?_)
        refine DR_s 10 rfl (by kernel_rfl) rfl rfl (t_v (fun _ => (r_move rfl)) ?_)
        refine DR_split (d := 42) rfl (fun _h42 => ?_) (fun _h42 => ?_)
        · have _kb_42 := _h42
          have _h42 := bt_d _h42
          have _f_43 := (_F0_1.ch0 _cw_37)
          refine DR_s 11 rfl (by kernel_rfl) rfl rfl (t_loadAtA0 _f_43.at_ (fun i hi => absurd hi List.not_mem_nil) agg67 sz67 rfl ?_)
          refine DR_s 12 rfl (by kernel_rfl) rfl rfl (t_v (fun _ => (r_move rfl)) ?_)
          refine DR_s 13 rfl (by kernel_rfl) rfl rfl (t_v (fun _ => (r_move rfl)) ?_)
          refine DR_s 14 rfl (by kernel_rfl) rfl rfl (t_index _f_38 Sv.len el25 sz30 rfl rfl rfl (by omega) fun _p46 _y46 _hy46 _a46 => ?_)
          obtain ⟨_ys46, _hys46, _fs46⟩ := _f_39.get _hy46
          obtain ⟨_A46, _n46, _C46⟩ := _y46
          obtain rfl := _fs46.eqn
          have _l46 := _fs46.len
          replace _fs46 : Ls ics 1 _w_37 _w_11.heap.size _w_15.heap.size (.slice _A46 _ys46.length _C46) _ys46 := _fs46
          replace _a46 : At _w_37 _w_11.heap.size _w_15.heap.size _p46 ([(.slice _A46 _ys46.length _C46)]) := _a46
          refine DR_s 15 rfl (by kernel_rfl) rfl rfl (t_loadAt0 _a46 (fun i hi => absurd hi List.not_mem_nil) agg30 rfl rfl ?_)
          refine DR_one 16 (by kernel_rfl) ?_
          refine DO_s rfl rfl rfl ?_
          have _f_44 := (_F0_2.ch0 _cw_37)
          refine Step.call (r_call (xs := [.tmp 43, .tmp 47]) fk58 rfl) (c_impl_MatchesWord _f_44.ls _fs46 (by omega)) fun _v48 _w_45 _q48 => ?_
          replace _q48 : _v48 = .bool (true) ∧ _ := ⟨_q48.1.trans (congrArg Value.bool (wu_mem (mem_of_get _hys46)).2.2), _q48.2⟩
          obtain ⟨rfl, _cw_45⟩ := _q48
          have _cw_45z := _cw_45.size
          have E := E.trans _cw_45
          have _S_46 : Ch [] _w_37 _w_45 := ((Ch.refl _ _).trans _cw_45)
          refine ⟨_S_46, ?_⟩
          refine DR_s 17 rfl (by kernel_rfl) rfl rfl (t_v (fun _ => (r_not rfl)) ?_)
          refine DR_s 18 rfl (by kernel_rfl) rfl rfl (t_v (fun _ => (r_pickT rfl rfl)) ?_)
          refine DR_s 19 rfl (by kernel_rfl) rfl rfl (t_v (fun _ => (r_pickF rfl rfl)) ?_)
          refine DR_s 20 rfl (by kernel_rfl) rfl rfl (t_v (fun _ => (r_move rfl)) ?_)
          refine DR_s 21 rfl (by kernel_rfl) rfl rfl (t_v (fun _ => (r_move rfl)) ?_)
          refine DR_s 22 rfl (by kernel_rfl) rfl rfl (t_v (fun _ => (r_gtr rfl rfl)) ?_)
          refine DR_s 23 rfl (by kernel_rfl) rfl rfl (t_v (fun _ => (r_move rfl)) ?_)
          refine DR_split (d := 55) rfl (fun _h55 => ?_) (fun _h55 => ?_)
          · have _kb_47 := _h55
            have _h55 := bt_d _h55
            refine DR_s 24 rfl (by kernel_rfl) rfl rfl (t_v (fun _ => (r_move rfl)) ?_)
            refine DR_s 25 rfl (by kernel_rfl) rfl rfl (t_v (fun _ => (r_move rfl)) ?_)
            refine DR_s 26 rfl (by kernel_rfl) rfl rfl (t_v (fun _ => (r_sub (by omega) rfl rfl)) ?_)
            refine DR_s 27 rfl (by kernel_rfl) rfl rfl (t_index (j := (((i : Nat) : Int) - 1).toNat) _f_38 Sv.len el25 sz30 rfl rfl (by omega) (by omega) fun _p59 _y59 _hy59 _a59 => ?_)
            obtain ⟨_ys59, _hys59, _fs59⟩ := _f_39.get _hy59
            obtain ⟨_A59, _n59, _C59⟩ := _y59
            obtain rfl := _fs59.eqn
            have _l59 := _fs59.len
            replace _fs59 : Ls ics 1 _w_37 _w_11.heap.size _w_15.heap.size (.slice _A59 _ys59.length _C59) _ys59 := _fs59
            replace _a59 : At _w_37 _w_11.heap.size _w_15.heap.size _p59 ([(.slice _A59 _ys59.length _C59)]) := _a59
            refine DR_s 28 rfl (by kernel_rfl) rfl rfl (t_loadAt0 _a59 (fun i hi => absurd hi List.not_mem_nil) agg30 rfl rfl ?_)
            refine DR_s 29 rfl (by kernel_rfl) rfl rfl (t_v (fun _ => (r_move rfl)) ?_)
            refine DR_s 30 rfl (by kernel_rfl) rfl rfl (t_v (fun _ => (r_move rfl)) ?_)
            refine DR_s 31 rfl (by kernel_rfl) rfl rfl (t_index _f_38 Sv.len el25 sz30 rfl rfl rfl (by omega) fun _p63 _y63 _hy63 _a63 => ?_)
            obtain ⟨_ys63, _hys63, _fs63⟩ := _f_39.get _hy63
            obtain ⟨_A63, _n63, _C63⟩ := _y63
            obtain rfl := _fs63.eqn
            have _l63 := _fs63.len
            replace _fs63 : Ls ics 1 _w_37 _w_11.heap.size _w_15.heap.size (.slice _A63 _ys63.length _C63) _ys63 := _fs63
            replace _a63 : At _w_37 _w_11.heap.size _w_15.heap.size _p63 ([(.slice _A63 _ys63.length _C63)]) := _a63
            have adj9 := wu_adj (by have _g9 := _hys59; rwa [show (((i : Nat) : Int) - 1).toNat = i - 1 by omega] at _g9) _hys63 (by omega)
            refine DR_s 32 rfl (by kernel_rfl) rfl rfl (t_loadAt0 _a63 (fun i hi => absurd hi List.not_mem_nil) agg30 rfl rfl ?_)
            refine DR_one 33 (by kernel_rfl) ?_
            refine DO_s rfl rfl rfl ?_
            have _f_48 := (_fs59.ch0 _cw_45)
            have _f_49 := (_fs63.ch0 _cw_45)
            refine Step.call (r_call (xs := [.tmp 60, .tmp 64]) fk64 rfl) (c_spec_CompareWords _f_48 _f_49 ) fun _v65 _w_50 _q65 => ?_
            obtain ⟨rfl, _cw_50⟩ := _q65
            have _cw_50z := _cw_50.size
            have E := E.trans _cw_50
            have _S_51 : Ch [] _w_37 _w_50 := (_S_46.trans _cw_50)
            refine ⟨_S_51, ?_⟩
            refine DR_s 34 rfl (by kernel_rfl) rfl rfl (t_v (fun _ => (r_geq rfl rfl)) ?_)
            refine DR_s 35 rfl (by kernel_rfl) rfl rfl (t_v (fun _ => (r_pickT rfl rfl)) ?_)
            refine DR_s 36 rfl (by kernel_rfl) rfl rfl (t_v (fun _ => (r_pickF rfl rfl)) ?_)
            refine DR_done (by kernel_rfl) ?_
            refine thn_nrm (_hK_36 _ _ ?_)
            clear _hK_36
            refine W_cond rfl (fun _h68 => ?_) (fun _h68 => ?_)
            · have _kb_52 := _h68
              have _h68 := bt_d _h68
              refine W_seq fun _K_53 _hK_53 => ?_
              refine W_region ?_
              refine WL_step rfl rfl (r_assign rfl) ?_
              refine WL_nil ?_
              refine thn_nrm (_hK_53 _ _ ?_)
              clear _hK_53
              refine W_ret (inB_ret (thn_ret (thn_ret (inB_ret (thn_ret ?_)))))
              clear _hK_24 _hK_35
              exact ret_intro [_] ⟨rfl, trivial⟩ ⟨congrArg Value.bool (by first | rfl | (exfalso; omega) | (exfalso; simp_all; done) | exact absurd (wu_has (by omega) (by omega) _h87) (nomem_end hn (by omega))), E⟩
            · have _kb_52 := _h68
              have _h68 := bf_d _h68
              refine W_skip ?_
              refine inB_nrm ?_
              refine thn_nrm (_hK_35 _ _ ?_)
              clear _hK_35
              refine W_region ?_
              refine WL_step rfl rfl (r_move rfl) ?_
              refine WL_step rfl rfl (r_add (by omega) rfl rfl) ?_
              refine WL_step rfl rfl (r_assign rfl) ?_
              refine WL_nil ?_
              have _f_54 := (((_F0_0.ch0 _cw_37).ch0 _cw_45).ch0 _cw_50)
              have _f_55 := ((_f_43.ch0 _cw_45).ch0 _cw_50)
              have _f_56 := ((_f_44.ch0 _cw_45).ch0 _cw_50)
              have _f_57 := ((_f_38.ch0 _cw_45).ch0 _cw_50)
              have _f_58 := ((_f_39.ch0 _cw_45).ch0 _cw_50)
              exact thn_nrm (Exists.intro (i + 1) ⟨⟨E, (by omega), (by omega), _f_54, _f_55, _f_56, _f_57, _f_58⟩, Sub.cons rfl (Sub.cons rfl (Sub.cons rfl (Sub.cons rfl (Sub.cons rfl (Sub.nil _))))), (by first | omega | (dsimp only; omega))⟩)
          · have _kb_47 := _h55
            have _h55 := bf_d _h55
            refine DR_skip 24 rfl (by kernel_rfl) rfl rfl ?_
            refine DR_skip 25 rfl (by kernel_rfl) rfl rfl ?_
            refine DR_skip 26 rfl (by kernel_rfl) rfl rfl ?_
            refine DR_skip 27 rfl (by kernel_rfl) rfl rfl ?_
            refine DR_skip 28 rfl (by kernel_rfl) rfl rfl ?_
            refine DR_skip 29 rfl (by kernel_rfl) rfl rfl ?_
            refine DR_skip 30 rfl (by kernel_rfl) rfl rfl ?_
            refine DR_skip 31 rfl (by kernel_rfl) rfl rfl ?_
            refine DR_skip 32 rfl (by kernel_rfl) rfl rfl ?_
            refine DR_skip 33 rfl (by kernel_rfl) rfl rfl ?_
            refine DR_skip 34 rfl (by kernel_rfl) rfl rfl ?_
            refine DR_s 35 rfl (by kernel_rfl) rfl rfl (t_v (fun _ => (r_pickF rfl rfl)) ?_)
            refine DR_s 36 rfl (by kernel_rfl) rfl rfl (t_v (fun _ => (r_pickF rfl rfl)) ?_)
            refine DR_done (by kernel_rfl) ?_
            refine thn_nrm (_hK_36 _ _ ?_)
            clear _hK_36
            refine W_condF rfl ?_
            refine W_skip ?_
            refine inB_nrm ?_
            refine thn_nrm (_hK_35 _ _ ?_)
            clear _hK_35
            refine W_region ?_
            refine WL_step rfl rfl (r_move rfl) ?_
            refine WL_step rfl rfl (r_add (by omega) rfl rfl) ?_
            refine WL_step rfl rfl (r_assign rfl) ?_
            refine WL_nil ?_
            have _f_59 := ((_F0_0.ch0 _cw_37).ch0 _cw_45)
            have _f_60 := (_f_43.ch0 _cw_45)
            have _f_61 := (_f_44.ch0 _cw_45)
            have _f_62 := (_f_38.ch0 _cw_45)
            have _f_63 := (_f_39.ch0 _cw_45)
            exact thn_nrm (Exists.intro (i + 1) ⟨⟨E, (by omega), (by omega), _f_59, _f_60, _f_61, _f_62, _f_63⟩, Sub.cons rfl (Sub.cons rfl (Sub.cons rfl (Sub.cons rfl (Sub.cons rfl (Sub.nil _))))), (by first | omega | (dsimp only; omega))⟩)
        · have _kb_42 := _h42
          have _h42 := bf_d _h42
          refine DR_skip 11 rfl (by kernel_rfl) rfl rfl ?_
          refine DR_skip 12 rfl (by kernel_rfl) rfl rfl ?_
          refine DR_skip 13 rfl (by kernel_rfl) rfl rfl ?_
          refine DR_skip 14 rfl (by kernel_rfl) rfl rfl ?_
          refine DR_skip 15 rfl (by kernel_rfl) rfl rfl ?_
          refine DR_skip 16 rfl (by kernel_rfl) rfl rfl ?_
          refine DR_skip 17 rfl (by kernel_rfl) rfl rfl ?_
          refine DR_s 18 rfl (by kernel_rfl) rfl rfl (t_v (fun _ => (r_pickF rfl rfl)) ?_)
          refine DR_s 19 rfl (by kernel_rfl) rfl rfl (t_v (fun _ => (r_pickF rfl rfl)) ?_)
          refine DR_s 20 rfl (by kernel_rfl) rfl rfl (t_v (fun _ => (r_move rfl)) ?_)
          refine DR_s 21 rfl (by kernel_rfl) rfl rfl (t_v (fun _ => (r_move rfl)) ?_)
          refine DR_s 22 rfl (by kernel_rfl) rfl rfl (t_v (fun _ => (r_gtr rfl rfl)) ?_)
          refine DR_s 23 rfl (by kernel_rfl) rfl rfl (t_v (fun _ => (r_move rfl)) ?_)
          refine DR_split (d := 55) rfl (fun _h55 => ?_) (fun _h55 => ?_)
          · have _kb_64 := _h55
            have _h55 := bt_d _h55
            refine DR_s 24 rfl (by kernel_rfl) rfl rfl (t_v (fun _ => (r_move rfl)) ?_)
            refine DR_s 25 rfl (by kernel_rfl) rfl rfl (t_v (fun _ => (r_move rfl)) ?_)
            refine DR_s 26 rfl (by kernel_rfl) rfl rfl (t_v (fun _ => (r_sub (by omega) rfl rfl)) ?_)
            refine DR_s 27 rfl (by kernel_rfl) rfl rfl (t_index (j := (((i : Nat) : Int) - 1).toNat) _f_38 Sv.len el25 sz30 rfl rfl (by omega) (by omega) fun _p59 _y59 _hy59 _a59 => ?_)
            obtain ⟨_ys59, _hys59, _fs59⟩ := _f_39.get _hy59
            obtain ⟨_A59, _n59, _C59⟩ := _y59
            obtain rfl := _fs59.eqn
            have _l59 := _fs59.len
            replace _fs59 : Ls ics 1 _w_37 _w_11.heap.size _w_15.heap.size (.slice _A59 _ys59.length _C59) _ys59 := _fs59
            replace _a59 : At _w_37 _w_11.heap.size _w_15.heap.size _p59 ([(.slice _A59 _ys59.length _C59)]) := _a59
            refine DR_s 28 rfl (by kernel_rfl) rfl rfl (t_loadAt0 _a59 (fun i hi => absurd hi List.not_mem_nil) agg30 rfl rfl ?_)
            refine DR_s 29 rfl (by kernel_rfl) rfl rfl (t_v (fun _ => (r_move rfl)) ?_)
            refine DR_s 30 rfl (by kernel_rfl) rfl rfl (t_v (fun _ => (r_move rfl)) ?_)
            refine DR_s 31 rfl (by kernel_rfl) rfl rfl (t_index _f_38 Sv.len el25 sz30 rfl rfl rfl (by omega) fun _p63 _y63 _hy63 _a63 => ?_)
            obtain ⟨_ys63, _hys63, _fs63⟩ := _f_39.get _hy63
            obtain ⟨_A63, _n63, _C63⟩ := _y63
            obtain rfl := _fs63.eqn
            have _l63 := _fs63.len
            replace _fs63 : Ls ics 1 _w_37 _w_11.heap.size _w_15.heap.size (.slice _A63 _ys63.length _C63) _ys63 := _fs63
            replace _a63 : At _w_37 _w_11.heap.size _w_15.heap.size _p63 ([(.slice _A63 _ys63.length _C63)]) := _a63
            have adj9 := wu_adj (by have _g9 := _hys59; rwa [show (((i : Nat) : Int) - 1).toNat = i - 1 by omega] at _g9) _hys63 (by omega)
            refine DR_s 32 rfl (by kernel_rfl) rfl rfl (t_loadAt0 _a63 (fun i hi => absurd hi List.not_mem_nil) agg30 rfl rfl ?_)
            refine DR_one 33 (by kernel_rfl) ?_
            refine DO_s rfl rfl rfl ?_
            refine Step.call (r_call (xs := [.tmp 60, .tmp 64]) fk64 rfl) (c_spec_CompareWords _fs59 _fs63 ) fun _v65 _w_65 _q65 => ?_
            obtain ⟨rfl, _cw_65⟩ := _q65
            have _cw_65z := _cw_65.size
            have E := E.trans _cw_65
            have _S_66 : Ch [] _w_37 _w_65 := ((Ch.refl _ _).trans _cw_65)
            refine ⟨_S_66, ?_⟩
            refine DR_s 34 rfl (by kernel_rfl) rfl rfl (t_v (fun _ => (r_geq rfl rfl)) ?_)
            refine DR_s 35 rfl (by kernel_rfl) rfl rfl (t_v (fun _ => (r_pickT rfl rfl)) ?_)
            refine DR_s 36 rfl (by kernel_rfl) rfl rfl (t_v (fun _ => (r_pickF rfl rfl)) ?_)
            refine DR_done (by kernel_rfl) ?_
            refine thn_nrm (_hK_36 _ _ ?_)
            clear _hK_36
            refine W_cond rfl (fun _h68 => ?_) (fun _h68 => ?_)
            · have _kb_67 := _h68
              have _h68 := bt_d _h68
              refine W_seq fun _K_68 _hK_68 => ?_
              refine W_region ?_
              refine WL_step rfl rfl (r_assign rfl) ?_
              refine WL_nil ?_
              refine thn_nrm (_hK_68 _ _ ?_)
              clear _hK_68
              refine W_ret (inB_ret (thn_ret (thn_ret (inB_ret (thn_ret ?_)))))
              clear _hK_24 _hK_35
              exact ret_intro [_] ⟨rfl, trivial⟩ ⟨congrArg Value.bool (by first | rfl | (exfalso; omega) | (exfalso; simp_all; done) | exact absurd (wu_has (by omega) (by omega) _h87) (nomem_end hn (by omega))), E⟩
            · have _kb_67 := _h68
              have _h68 := bf_d _h68
              refine W_skip ?_
              refine inB_nrm ?_
              refine thn_nrm (_hK_35 _ _ ?_)
              clear _hK_35
              refine W_region ?_
              refine WL_step rfl rfl (r_move rfl) ?_
              refine WL_step rfl rfl (r_add (by omega) rfl rfl) ?_
              refine WL_step rfl rfl (r_assign rfl) ?_
              refine WL_nil ?_
              have _f_69 := ((_F0_0.ch0 _cw_37).ch0 _cw_65)
              have _f_70 := ((_F0_1.ch0 _cw_37).ch0 _cw_65)
              have _f_71 := ((_F0_2.ch0 _cw_37).ch0 _cw_65)
              have _f_72 := (_f_38.ch0 _cw_65)
              have _f_73 := (_f_39.ch0 _cw_65)
              exact thn_nrm (Exists.intro (i + 1) ⟨⟨E, (by omega), (by omega), _f_69, _f_70, _f_71, _f_72, _f_73⟩, Sub.cons rfl (Sub.cons rfl (Sub.cons rfl (Sub.cons rfl (Sub.cons rfl (Sub.nil _))))), (by first | omega | (dsimp only; omega))⟩)
          · have _kb_64 := _h55
            have _h55 := bf_d _h55
            refine DR_skip 24 rfl (by kernel_rfl) rfl rfl ?_
            refine DR_skip 25 rfl (by kernel_rfl) rfl rfl ?_
            refine DR_skip 26 rfl (by kernel_rfl) rfl rfl ?_
            refine DR_skip 27 rfl (by kernel_rfl) rfl rfl ?_
            refine DR_skip 28 rfl (by kernel_rfl) rfl rfl ?_
            refine DR_skip 29 rfl (by kernel_rfl) rfl rfl ?_
            refine DR_skip 30 rfl (by kernel_rfl) rfl rfl ?_
            refine DR_skip 31 rfl (by kernel_rfl) rfl rfl ?_
            refine DR_skip 32 rfl (by kernel_rfl) rfl rfl ?_
            refine DR_skip 33 rfl (by kernel_rfl) rfl rfl ?_
            refine DR_skip 34 rfl (by kernel_rfl) rfl rfl ?_
            refine DR_s 35 rfl (by kernel_rfl) rfl rfl (t_v (fun _ => (r_pickF rfl rfl)) ?_)
            refine DR_s 36 rfl (by kernel_rfl) rfl rfl (t_v (fun _ => (r_pickF rfl rfl)) ?_)
            refine DR_done (by kernel_rfl) ?_
            refine thn_nrm (_hK_36 _ _ ?_)
            clear _hK_36
            refine W_condF rfl ?_
            refine W_skip ?_
            refine inB_nrm ?_
            refine thn_nrm (_hK_35 _ _ ?_)
            clear _hK_35
            refine W_region ?_
            refine WL_step rfl rfl (r_move rfl) ?_
            refine WL_step rfl rfl (r_add (by omega) rfl rfl) ?_
            refine WL_step rfl rfl (r_assign rfl) ?_
            refine WL_nil ?_
            have _f_74 := (_F0_0.ch0 _cw_37)
            have _f_75 := (_F0_1.ch0 _cw_37)
            have _f_76 := (_F0_2.ch0 _cw_37)
            exact thn_nrm (Exists.intro (i + 1) ⟨⟨E, (by omega), (by omega), _f_74, _f_75, _f_76, _f_38, _f_39⟩, Sub.cons rfl (Sub.cons rfl (Sub.cons rfl (Sub.cons rfl (Sub.cons rfl (Sub.nil _))))), (by first | omega | (dsimp only; omega))⟩)
    · have _kb_34 := _h29
      have _h29 := bf_d _h29
      refine W_exit (thn_exit (thn_exit (inB_hit ?_)))
      refine thn_nrm (_hK_24 _ _ ?_)
      clear _hK_24
      refine W_seq fun _K_77 _hK_77 => ?_
      refine W_region ?_
      refine WL_step rfl rfl (r_move rfl) ?_
      refine WL_s rfl rfl ?_
      refine Step.call (r_call (xs := [.tmp 70]) fk56 rfl) (c_spec_DrawMatchesWord _F0_0 (by omega)) fun _v71 _w_78 _q71 => ?_
      obtain ⟨x71q0, x71q1, u71d0x0, u71d1, rfl, _q_u71d0x0, _lo_u71d0x0, _q_u71d1, _lo_u71d1, _dj_u71d0x0_u71d1, pt71_0, pt71_1, _cw_78⟩ := _q71
      have _cw_78z := _cw_78.size
      have E := E.trans _cw_78
      obtain ⟨Au71d0x0, Cu71d0x0, eu71d0x0⟩ := _q_u71d0x0.val
      subst eu71d0x0
      have lu71d0x0 := _q_u71d0x0.len
      have _hiu71d0x0 := _q_u71d0x0.lt
      obtain ⟨Au71d1, Cu71d1, eu71d1⟩ := _q_u71d1.val
      subst eu71d1
      have lu71d1 := _q_u71d1.len
      have _hiu71d1 := _q_u71d1.lt
      refine WL_step rfl rfl (r_move rfl) ?_
      refine WL_step rfl rfl (r_extract rfl rfl) ?_
      refine WL_step rfl rfl (r_extract rfl rfl) ?_
      refine WL_s rfl rfl ?_
      refine s_alloc zr67 fun _b7 _w_79 _m7 _cw_79 _e7 => ?_
      have _cw_79z := _cw_79.size
      have E := E.trans _cw_79
      have _z7 := _m7.lt
      replace _m7 : Blk _w_79 _b7 67 [(.slice none 0 0)] := _m7
      refine WL_s rfl rfl ?_
      refine s_storeA (off := 0) 1 _m7 sz67 rfl (us := [(.slice Au71d0x0 (x71q0).length Cu71d0x0)]) rfl rfl rfl rfl fun _w_80 _m_81 _cw_80 => ?_
      have _cw_80z := _cw_80.size
      have E := E.step _cw_80 (fun i hi => .inl (by have _h1 := List.mem_singleton.1 hi; omega))
      replace _m_81 : Blk _w_80 _b7 67 [(.slice Au71d0x0 (x71q0).length Cu71d0x0)] := _m_81
      refine WL_step rfl rfl (r_assign rfl) ?_
      refine WL_nil ?_
      refine thn_nrm (_hK_77 _ _ ?_)
      clear _hK_77
      refine W_seq fun _K_82 _hK_82 => ?_
      refine W_seq fun _K_83 _hK_83 => ?_
      refine W_region ?_
      refine WL_step rfl rfl (r_move rfl) ?_
      refine WL_step rfl rfl (r_len (by rw [el30]; rfl) rfl) ?_
      refine WL_step rfl rfl (r_move rfl) ?_
      refine WL_step rfl rfl (r_gtr rfl rfl) ?_
      refine WL_step rfl rfl (r_move rfl) ?_
      refine WL_split (d := 78) rfl (fun _h78 => ?_) (fun _h78 => ?_)
      · have _kb_84 := _h78
        have _h78 := bt_d _h78
        refine WL_skip rfl rfl ?_
        refine WL_skip rfl rfl ?_
        refine WL_step rfl rfl (r_pickT rfl rfl) ?_
        refine WL_step rfl rfl (r_move rfl) ?_
        refine WL_skip rfl rfl ?_
        refine WL_skip rfl rfl ?_
        refine WL_skip rfl rfl ?_
        refine WL_skip rfl rfl ?_
        refine WL_step rfl rfl (r_pickT rfl rfl) ?_
        refine WL_nil ?_
        refine thn_nrm (_hK_83 _ _ ?_)
        clear _hK_83
        refine W_condT rfl ?_
        refine W_seq fun _K_85 _hK_85 => ?_
        refine W_region ?_
        refine WL_step rfl rfl (r_assign rfl) ?_
        refine WL_nil ?_
        refine thn_nrm (_hK_85 _ _ ?_)
        clear _hK_85
        refine W_ret (thn_ret ?_)
        clear _hK_32 _hK_82
        exact ret_intro [_] ⟨rfl, trivial⟩ ⟨congrArg Value.bool (by first | rfl | (exfalso; omega) | (exfalso; simp_all; done) | exact absurd (wu_has (by omega) (by omega) _h87) (nomem_end hn (by omega))), E⟩
      · have _kb_84 := _h78
        have _h78 := bf_d _h78
        refine WL_step rfl rfl (r_move rfl) ?_
        refine WL_step rfl rfl (r_gtr rfl rfl) ?_
        refine WL_step rfl rfl (r_pickF rfl rfl) ?_
        refine WL_step rfl rfl (r_move rfl) ?_
        refine WL_split (d := 82) rfl (fun _h82 => ?_) (fun _h82 => ?_)
        · have _kb_86 := _h82
          have _h82 := bt_d _h82
          refine WL_skip rfl rfl ?_
          refine WL_skip rfl rfl ?_
          refine WL_skip rfl rfl ?_
          refine WL_skip rfl rfl ?_
          refine WL_step rfl rfl (r_pickT rfl rfl) ?_
          refine WL_nil ?_
          refine thn_nrm (_hK_83 _ _ ?_)
          clear _hK_83
          refine W_condT rfl ?_
          refine W_seq fun _K_87 _hK_87 => ?_
          refine W_region ?_
          refine WL_step rfl rfl (r_assign rfl) ?_
          refine WL_nil ?_
          refine thn_nrm (_hK_87 _ _ ?_)
          clear _hK_87
          refine W_ret (thn_ret ?_)
          clear _hK_32 _hK_82
          exact ret_intro [_] ⟨rfl, trivial⟩ ⟨congrArg Value.bool (by first | rfl | (exfalso; omega) | (exfalso; simp_all; done) | exact absurd (wu_has (by omega) (by omega) _h87) (nomem_end hn (by omega))), E⟩
        · have _kb_86 := _h82
          have _h82 := bf_d _h82
          have _f_88 := (((_F0_1.ch0 _cw_78).ch0 _cw_79).ch _cw_80 (fun hm => by have _h1 := List.mem_singleton.1 hm; omega))
          refine WL_step rfl rfl (r_loadAtA0 _f_88.at_ agg67 sz67 rfl) ?_
          refine WL_step rfl rfl (r_move rfl) ?_
          refine WL_s rfl rfl ?_
          have _f_89 := (((_F0_2.ch0 _cw_78).ch0 _cw_79).ch _cw_80 (fun g hg hm => by have _h0 := List.mem_singleton.1 hm; have _h2 := _lo_u14d0x0 _ hg; have _h3 := _hiu14d0x0 _ hg; omega))
          have _f_90 := ((_q_u71d1.ch0 _cw_79).ch _cw_80 (fun g hg hm => by have _h0 := List.mem_singleton.1 hm; have _h2 := _lo_u71d1 _ hg; have _h3 := _hiu71d1 _ hg; omega))
          refine Step.call (r_call (xs := [.tmp 83, .tmp 84]) fk59 rfl) (c_spec_MatchesWord _f_89.ls _f_90.ls (by omega)) fun _v85 _w_91 _q85 => ?_
          obtain ⟨rfl, _cw_91⟩ := _q85
          have _cw_91z := _cw_91.size
          have E := E.trans _cw_91
          refine WL_step rfl rfl (r_not rfl) ?_
          refine WL_step rfl rfl (r_pickF rfl rfl) ?_
          refine WL_nil ?_
          refine thn_nrm (_hK_83 _ _ ?_)
          clear _hK_83
          refine W_cond rfl (fun _h87 => ?_) (fun _h87 => ?_)
          · have _kb_92 := _h87
            have _h87 := bt_n _h87
            refine W_seq fun _K_93 _hK_93 => ?_
            refine W_region ?_
            refine WL_step rfl rfl (r_assign rfl) ?_
            refine WL_nil ?_
            refine thn_nrm (_hK_93 _ _ ?_)
            clear _hK_93
            refine W_ret (thn_ret ?_)
            clear _hK_32 _hK_82
            exact ret_intro [_] ⟨rfl, trivial⟩ ⟨congrArg Value.bool (by first | rfl | (exfalso; omega) | (exfalso; simp_all; done) | exact absurd (wu_has (by omega) (by omega) _h87) (nomem_end hn (by omega))), E⟩
          · have _kb_92 := _h87
            have _h87 := bf_n _h87
            refine W_skip ?_
            refine thn_nrm (_hK_82 _ _ ?_)
            clear _hK_82
            refine W_seq fun _K_94 _hK_94 => ?_
            refine W_seq fun _K_95 _hK_95 => ?_
            refine W_region ?_
            refine WL_step rfl rfl (r_assign rfl) ?_
            refine WL_nil ?_
            refine thn_nrm (_hK_95 _ _ ?_)
            clear _hK_95
            refine W_block ?_
            have _f_96 := ((((_F0_3.ch0 _cw_78).ch0 _cw_79).ch _cw_80 (fun i hi => by have _h1 := List.mem_singleton.1 hi; omega)).ch0 _cw_91)
            have _f_97 := ((((_F0_4.ch0 _cw_78).ch0 _cw_79).ch _cw_80 (fun i hi => by have _h1 := List.mem_singleton.1 hi; omega)).ch0 _cw_91)
            have _f_98 := (_f_90.ch0 _cw_91)
            refine W_loop (σ := Nat) (fun (j : Nat) => [(5, (.slice Au19_0 (_vs19_0).length Cu19_0)), (8, (.slice Au71d1 (x71q1).length Cu71d1)), (9, (.int .i64 ((j : Nat) : Int)))]) (fun (j : Nat) wx => Ch [] w wx ∧ _w_91.heap.size ≤ wx.heap.size ∧ (j ≤ (wuR x14q0 x14q1).length) ∧ (x71q1 ∉ (wuR x14q0 x14q1).take j) ∧ Ls Sv.cs 1 wx _w_11.heap.size _w_15.heap.size (.slice Au19_0 (_vs19_0).length Cu19_0) _vs19_0 ∧ Rd ics 1 wx _w_11.heap.size _w_15.heap.size _vs19_0 (wuR x14q0 x14q1) ∧ Ol ics 3 1 wx (.slice Au71d1 (x71q1).length Cu71d1) x71q1) (fun (j : Nat) => (wuR x14q0 x14q1).length - j) 0 (Sub.cons rfl (Sub.cons rfl (Sub.cons rfl (Sub.nil _)))) ⟨E, (Nat.le_refl _), (by omega), (by simp), _f_96, _f_97, _f_98⟩ ?_
            rintro j _wr_99 ⟨E, _zz1, hj, hn, _F1_0, _F1_1, _F1_2⟩
            have _E1h := E
            have _E1hz := _E1h.size
            refine W_seq fun _K_100 _hK_100 => ?_
            refine W_seq fun _K_101 _hK_101 => ?_
            refine W_region ?_
            refine WL_step rfl rfl (r_move rfl) ?_
            refine WL_step rfl rfl (r_move rfl) ?_
            refine WL_step rfl rfl (r_len (by rw [el25]; rfl) rfl) ?_
            refine WL_step rfl rfl (r_lss rfl rfl) ?_
            refine WL_nil ?_
            refine thn_nrm (_hK_101 _ _ ?_)
            clear _hK_101
            refine W_cond rfl (fun _h91 => ?_) (fun _h91 => ?_)
            · have _kb_102 := _h91
              have _h91 := bt_d _h91
              refine W_skip ?_
              refine thn_nrm (_hK_100 _ _ ?_)
              clear _hK_100
              refine W_seq fun _K_103 _hK_103 => ?_
              refine W_block ?_
              refine W_seq fun _K_104 _hK_104 => ?_
              refine W_region ?_
              refine WL_step rfl rfl (r_move rfl) ?_
              refine WL_step rfl rfl (r_move rfl) ?_
              refine WL_s rfl rfl ?_
              refine (s_index _F1_0 Sv.len el25 sz30 rfl rfl rfl (by omega) fun _p96 _y96 _hy96 _a96 => ?_)
              obtain ⟨_ys96, _hys96, _fs96⟩ := _F1_1.get _hy96
              obtain ⟨_A96, _n96, _C96⟩ := _y96
              obtain rfl := _fs96.eqn
              have _l96 := _fs96.len
              replace _fs96 : Ls ics 1 _wr_99 _w_11.heap.size _w_15.heap.size (.slice _A96 _ys96.length _C96) _ys96 := _fs96
              replace _a96 : At _wr_99 _w_11.heap.size _w_15.heap.size _p96 ([(.slice _A96 _ys96.length _C96)]) := _a96
              refine WL_step rfl rfl (r_loadAt0 _a96 agg30 rfl rfl) ?_
              refine WL_step rfl rfl (r_move rfl) ?_
              refine WL_s rfl rfl ?_
              refine Step.call (r_call (xs := [.tmp 97, .tmp 98]) fk13 rfl) (c_laws_sameInts _fs96 _F1_2.ls ) fun _v99 _w_105 _q99 => ?_
              obtain ⟨rfl, _cw_105⟩ := _q99
              have _cw_105z := _cw_105.size
              have E := E.trans _cw_105
              refine WL_nil ?_
              refine thn_nrm (_hK_104 _ _ ?_)
              clear _hK_104
              refine W_cond rfl (fun _h99 => ?_) (fun _h99 => ?_)
              · have _kb_106 := _h99
                have _h99 := bt_d _h99
                refine W_seq fun _K_107 _hK_107 => ?_
                refine W_region ?_
                refine WL_step rfl rfl (r_assign rfl) ?_
                refine WL_nil ?_
                refine thn_nrm (_hK_107 _ _ ?_)
                clear _hK_107
                refine W_ret (inB_ret (thn_ret (thn_ret (inB_ret (thn_ret ?_)))))
                clear _hK_32 _hK_94 _hK_103
                exact ret_intro [_] ⟨rfl, trivial⟩ ⟨congrArg Value.bool (by first | rfl | (exfalso; omega) | (exfalso; simp_all; done) | exact absurd (wu_has (by omega) (by omega) _h87) (nomem_end hn (by omega))), E⟩
              · have _kb_106 := _h99
                have _h99 := bf_d _h99
                refine W_skip ?_
                refine inB_nrm ?_
                refine thn_nrm (_hK_103 _ _ ?_)
                clear _hK_103
                refine W_region ?_
                refine WL_step rfl rfl (r_move rfl) ?_
                refine WL_step rfl rfl (r_add (by omega) rfl rfl) ?_
                refine WL_step rfl rfl (r_assign rfl) ?_
                refine WL_nil ?_
                have _f_108 := (_F1_0.ch0 _cw_105)
                have _f_109 := (_F1_1.ch0 _cw_105)
                have _f_110 := (_F1_2.ch0 _cw_105)
                exact thn_nrm (Exists.intro (j + 1) ⟨⟨E, (by omega), (by omega), (nomem_step hn _hys96 _h99), _f_108, _f_109, _f_110⟩, Sub.cons rfl (Sub.cons rfl (Sub.cons rfl (Sub.nil _))), (by first | omega | (dsimp only; omega))⟩)
            · have _kb_102 := _h91
              have _h91 := bf_d _h91
              refine W_exit (thn_exit (thn_exit (inB_hit ?_)))
              refine thn_nrm (_hK_94 _ _ ?_)
              clear _hK_94
              refine W_seq fun _K_111 _hK_111 => ?_
              refine W_region ?_
              refine WL_step rfl rfl (r_assign rfl) ?_
              refine WL_nil ?_
              refine thn_nrm (_hK_111 _ _ ?_)
              clear _hK_111
              refine W_ret ?_
              clear _hK_32 _hK_100
              exact ret_intro [_] ⟨rfl, trivial⟩ ⟨congrArg Value.bool (by first | rfl | (exfalso; omega) | (exfalso; simp_all; done) | exact absurd (wu_has (by omega) (by omega) _h87) (nomem_end hn (by omega))), E⟩

end Go.Proofs.Ytholldndjafnpaa
