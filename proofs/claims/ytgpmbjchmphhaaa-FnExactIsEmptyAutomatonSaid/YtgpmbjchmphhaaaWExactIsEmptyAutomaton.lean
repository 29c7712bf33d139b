/- The walks of all functions that FnExactIsEmptyAutomaton reaches: what each returns, and that it leaves the memory that was there alone. -/
import Derived.Test.YtgpmbjchmphhaaaKF
import Derived.Test.YtgpmbjchmphhaaaKG
import Derived.Test.YtgpmbjchmphhaaaKH
import Derived.Test.YtgpmbjchmphhaaaKI
import Derived.Test.YtgpmbjchmphhaaaKJ
import Derived.Test.YtgpmbjchmphhaaaKM
import Derived.Test.YtgpmbjchmphhaaaKN
import Derived.Test.YtgpmbjchmphhaaaKO
import Derived.Test.YtgpmbjchmphhaaaKP
import Derived.Test.YtgpmbjchmphhaaaKQ
import Derived.Test.YtgpmbjchmphhaaaKR
import Derived.Test.YtgpmbjchmphhaaaKS
import Derived.Test.YtgpmbjchmphhaaaProg
namespace Go.Proofs.Ytgpmbjchmphhaaa
open Go.KLib
set_option maxRecDepth 20000
theorem agg22 : aggB Try.prog 22 = some false := by kernel_rfl
theorem agg23 : aggB Try.prog 23 = some false := by kernel_rfl
theorem agg25 : aggB Try.prog 25 = some true := by kernel_rfl
theorem agg28 : aggB Try.prog 28 = some true := by kernel_rfl
theorem agg3 : aggB Try.prog 3 = some false := by kernel_rfl
theorem agg32 : aggB Try.prog 32 = some false := by kernel_rfl
theorem agg4 : aggB Try.prog 4 = some false := by kernel_rfl
theorem by3 : bytesB Try.prog 3 = some 8 := by kernel_rfl
theorem by32 : bytesB Try.prog 32 = some 24 := by kernel_rfl
theorem by4 : bytesB Try.prog 4 = some 1 := by kernel_rfl
theorem el22 : elB Try.prog 22 = some 4 := by kernel_rfl
theorem el23 : elB Try.prog 23 = some 32 := by kernel_rfl
theorem el32 : elB Try.prog 32 = some 3 := by kernel_rfl
theorem fa25_0 : faB Try.prog 25 0 = some 0 := by kernel_rfl
theorem fa25_1 : faB Try.prog 25 1 = some 1 := by kernel_rfl
theorem fa25_2 : faB Try.prog 25 2 = some 2 := by kernel_rfl
theorem fa28_0 : faB Try.prog 28 0 = some 0 := by kernel_rfl
theorem fa28_1 : faB Try.prog 28 1 = some 1 := by kernel_rfl
theorem fa28_2 : faB Try.prog 28 2 = some 2 := by kernel_rfl
theorem fk14 : fnB Try.prog 14 = true := by kernel_rfl
theorem fk15 : fnB Try.prog 15 = true := by kernel_rfl
theorem fk16 : fnB Try.prog 16 = true := by kernel_rfl
theorem fk17 : fnB Try.prog 17 = true := by kernel_rfl
theorem fk18 : fnB Try.prog 18 = true := by kernel_rfl
theorem fk22 : fnB Try.prog 22 = true := by kernel_rfl
theorem fk25 : fnB Try.prog 25 = true := by kernel_rfl
theorem fk47 : fnB Try.prog 47 = true := by kernel_rfl
theorem fk48 : fnB Try.prog 48 = true := by kernel_rfl
theorem fk49 : fnB Try.prog 49 = true := by kernel_rfl
theorem fk50 : fnB Try.prog 50 = true := by kernel_rfl
theorem fk51 : fnB Try.prog 51 = true := by kernel_rfl
theorem fk52 : fnB Try.prog 52 = true := by kernel_rfl
theorem fk53 : fnB Try.prog 53 = true := by kernel_rfl
theorem fk54 : fnB Try.prog 54 = true := by kernel_rfl
theorem fk55 : fnB Try.prog 55 = true := by kernel_rfl
theorem fk56 : fnB Try.prog 56 = true := by kernel_rfl
theorem fk57 : fnB Try.prog 57 = true := by kernel_rfl
theorem fk66 : fnB Try.prog 66 = true := by kernel_rfl
theorem fk70 : fnB Try.prog 70 = true := by kernel_rfl
theorem fk95 : fnB Try.prog 95 = true := by kernel_rfl
theorem fk96 : fnB Try.prog 96 = true := by kernel_rfl
theorem mixed : Try.prog.follows .mixedOrders = true := by kernel_rfl
theorem sz22 : sizeB Try.prog 22 = some 1 := by kernel_rfl
theorem sz23 : sizeB Try.prog 23 = some 1 := by kernel_rfl
theorem sz25 : sizeB Try.prog 25 = some 3 := by kernel_rfl
theorem sz28 : sizeB Try.prog 28 = some 3 := by kernel_rfl
theorem sz3 : sizeB Try.prog 3 = some 1 := by kernel_rfl
theorem sz32 : sizeB Try.prog 32 = some 1 := by kernel_rfl
theorem sz4 : sizeB Try.prog 4 = some 1 := by kernel_rfl
theorem un4 : Try.prog.underlying 4 = some (.bool) := by kernel_rfl
theorem zr28 : zeroB Try.prog 28 = some (.agg #[.int .i64 0, .slice none 0 0, .slice none 0 0]) := by kernel_rfl
theorem zr3 : zeroB Try.prog 3 = some (.int .i64 0) := by kernel_rfl
theorem zr32 : zeroB Try.prog 32 = some (.slice none 0 0) := by kernel_rfl
theorem zr4 : zeroB Try.prog 4 = some (.bool false) := by kernel_rfl

/-- slices.Clone[[]bool,bool] -/
theorem c_slices_Clone_bool_bool {w : World} {_B_s : Nat} {_v_s : Value} {s : List Bool} (_h_s : Ls bcs 1 w _B_s _v_s s) (hb : s.length ≤ 1048576) :
    Ctr Try.prog 96 #[_v_s] w (fun v w' => Ol bcs 4 1 w' v (s) ∧ Lo w.heap.size v ∧ Ch [] w w') := by
  obtain ⟨_A_s, _C_s, _e1_s⟩ := _h_s.val
  subst _e1_s
  have _l_s := _h_s.len
  have _h_s := _h_s.here (by decide)
  have E := Ch.refl [] w
  refine Ctr_of_W (N := 8) (vs0 := [(.slice _A_s s.length _C_s)]) Try.func96 rfl rfl rfl ?_
  refine W_seq fun _K_1 _hK_1 => ?_
  refine W_region ?_
  refine WL_step rfl rfl (r_assign rfl) ?_
  refine WL_nil ?_
  refine thn_nrm (_hK_1 _ _ ?_)
  clear _hK_1
  refine W_seq fun _K_2 _hK_2 => ?_
  refine W_seq fun _K_3 _hK_3 => ?_
  refine W_region ?_
  refine WL_step rfl rfl (r_move rfl) ?_
  refine WL_step rfl rfl (r_eqNil (by rw [el22]; rfl) rfl rfl) ?_
  refine WL_nil ?_
  refine thn_nrm (_hK_3 _ _ ?_)
  clear _hK_3
  refine W_cond rfl (fun _h4 => ?_) (fun _h4 => ?_)
  · refine W_seq fun _K_4 _hK_4 => ?_
    refine W_region ?_
    refine WL_step rfl rfl (r_assign rfl) ?_
    refine WL_nil ?_
    refine thn_nrm (_hK_4 _ _ ?_)
    clear _hK_4
    refine W_ret (thn_ret ?_)
    clear _hK_2
    have _o_5 : Ol bcs 4 1 w (.slice none 0 0) (s) := by
      have hx := (Ol.nil (cs := bcs) (e := 4) (k := 1) w)
      first | (have hn := Ls.none _h_s _h4; subst hn; exact hx) | exact hx
    exact ret_intro [_] ⟨rfl, trivial⟩ ⟨_o_5, Lo.nil _, E⟩
  · refine W_skip ?_
    refine thn_nrm (_hK_2 _ _ ?_)
    clear _hK_2
    refine W_seq fun _K_6 _hK_6 => ?_
    refine W_region ?_
    refine WL_s rfl rfl ?_
    refine s_buildSlice0 (k := 1) bcs el22 sz4 fun _v5 _w_7 _q5 _lo5 _cw_7 => ?_
    have _cw_7z := _cw_7.size
    have E := E.trans _cw_7
    obtain ⟨_Av5, _Cv5, _ev5⟩ := _q5.val
    subst _ev5
    have _lv5 := _q5.len
    have _hiv5 := _q5.lt
    refine WL_step rfl rfl (r_move rfl) ?_
    refine WL_s rfl rfl ?_
    have _f_9 := (_h_s.ch0 _cw_7)
    refine s_append (cs := bcs) el22 sz4 by4 zr4 rfl (by decide) bcs_one _q5 _f_9 rfl rfl (by first | omega | (simp only [List.length_append, List.length_nil, List.length_cons, List.length_replicate, List.length_set, List.length_reverse, List.length_map] at *; omega) | (simp at *; omega)) (by first | omega | (simp only [List.length_append, List.length_nil, List.length_cons, List.length_replicate, List.length_set, List.length_reverse, List.length_map] at *; omega) | (simp at *; omega)) _lo5 (by omega) fun _v7 _w_8 _q7 _lo7 _ap7 _cw_8 => ?_
    have _cw_8z := _cw_8.size
    have E := E.step _cw_8 (fun i hi => .inl (by have _h1 := _lo5 _ hi; omega))
    replace _q7 : Ol bcs 4 1 _w_8 _v7 s := _q7
    obtain ⟨_Av7, _Cv7, _ev7⟩ := _q7.val
    subst _ev7
    have _lv7 := _q7.len
    have _hiv7 := _q7.lt
    refine WL_step rfl rfl (r_assign rfl) ?_
    refine WL_nil ?_
    refine thn_nrm (_hK_6 _ _ ?_)
    clear _hK_6
    refine W_ret ?_
    have _o_10 : Ol bcs 4 1 _w_8 (.slice _Av7 (s).length _Cv7) (s) := by
      have hx := _q7
      first | (have hn := Ls.none _h_s _h4; subst hn; exact hx) | exact hx
    exact ret_intro [_] ⟨rfl, trivial⟩ ⟨_o_10, Lo.down _lo7 (by omega), E⟩

/-- impl.Automaton).live -/
theorem c_impl_Automaton_live {w : World} (aS : Int) {_B_aA : Nat} {_v_aA : Value} {aA : List Bool} (_h_aA : Ls bcs 1 w _B_aA _v_aA aA) {_B_saN : Nat} {_v_saN : Value} {saN : List Sv} (_h_saN : Ls Sv.cs 1 w _B_saN _v_saN saN) {BB_aN : Nat} {aN : List (List Int)} (_rd_aN : Rd ics 1 w BB_aN saN aN) (hv : ValidA aS aA aN) :
    Ctr Try.prog 54 #[(.agg #[(.int .i64 aS), _v_aA, _v_saN])] w (fun v w' => Ol bcs 4 1 w' v (liveL aA aN) ∧ Lo w.heap.size v ∧ Ch [] w w') := by
  obtain ⟨_A_aA, _C_aA, _e1_aA⟩ := _h_aA.val
  subst _e1_aA
  have _l_aA := _h_aA.len
  have _h_aA := _h_aA.here (by decide)
  obtain ⟨_A_saN, _C_saN, _e1_saN⟩ := _h_saN.val
  subst _e1_saN
  have _l_saN := _h_saN.len
  have _h_saN := _h_saN.here (by decide)
  have _rd_aN := _rd_aN.here (by decide)
  have _rl_aN := _rd_aN.1
  have E := Ch.refl [] w
  have hv2 := hv.2.2.1; have hv1 := hv.1
  refine Ctr_of_W (N := 48) (vs0 := [(.agg #[(.int .i64 aS), (.slice _A_aA aA.length _C_aA), (.slice _A_saN saN.length _C_saN)])]) Try.func54 rfl rfl rfl ?_
  refine W_seq fun _K_1 _hK_1 => ?_
  refine W_region ?_
  refine WL_s rfl rfl ?_
  refine s_box rfl fun _b1 _w_2 _m1 _cw_2 _e1 => ?_
  have _cw_2z := _cw_2.size
  have E := E.trans _cw_2
  have _z1 := _m1.lt
  replace _m1 : Blk _w_2 _b1 28 [(.int .i64 aS), (.slice _A_aA aA.length _C_aA), (.slice _A_saN saN.length _C_saN)] := _m1
  refine WL_step rfl rfl (r_assign rfl) ?_
  refine WL_nil ?_
  refine thn_nrm (_hK_1 _ _ ?_)
  clear _hK_1
  refine W_seq fun _K_3 _hK_3 => ?_
  refine W_region ?_
  refine WL_step rfl rfl (r_fieldAddr fa28_1 rfl) ?_
  refine WL_step rfl rfl (r_loadAt _m1.at_ agg22 rfl rfl) ?_
  refine WL_s rfl rfl ?_
  have _f_4 := (_h_aA.ch0 _cw_2)
  refine Step.call (r_call (xs := [.tmp 10]) fk96 rfl) (c_slices_Clone_bool_bool _f_4 (by omega)) fun _v11 _w_5 _q11 => ?_
  obtain ⟨_q11, _lo11, _cw_5⟩ := _q11
  have _cw_5z := _cw_5.size
  have E := E.trans _cw_5
  obtain ⟨_Av11, _Cv11, _ev11⟩ := _q11.val
  subst _ev11
  have _lv11 := _q11.len
  have _hiv11 := _q11.lt
  refine WL_step rfl rfl (r_assign rfl) ?_
  refine WL_nil ?_
  refine thn_nrm (_hK_3 _ _ ?_)
  clear _hK_3
  refine W_seq fun _K_6 _hK_6 => ?_
  refine W_seq fun _K_7 _hK_7 => ?_
  refine W_region ?_
  refine WL_step rfl rfl (r_assign rfl) ?_
  refine WL_nil ?_
  refine thn_nrm (_hK_7 _ _ ?_)
  clear _hK_7
  refine W_block ?_
  have _oi_8 : Ol bcs 4 1 _w_5 (.slice _Av11 (aA).length _Cv11) (aA) := by
    have hx := _q11
    exact hx
  have _f_9 := (_m1.ch0 _cw_5)
  have _f_10 := (_f_4.ch0 _cw_5)
  refine W_loop (σ := Bool × List Bool) (fun ⟨ag1, _o1⟩ => [(1, (.pointer (some ⟨_b1, 0, none⟩))), (2, (.slice none 0 0)), (3, (.slice _Av11 (aA).length _Cv11)), (4, (.bool ag1))]) (fun ⟨ag1, _o1⟩ wx => Ch [] w wx ∧ _w_5.heap.size ≤ wx.heap.size ∧ (_o1.length = aA.length) ∧ (ClBelow (LiveB aA) (EdgeA aN) _o1) ∧ (∀ q, LiveB aA q → _o1[q]? = some true) ∧ (ag1 = false → PUp aN _o1 aN.length) ∧ Blk wx _b1 28 [(.int .i64 aS), (.slice _A_aA aA.length _C_aA), (.slice _A_saN saN.length _C_saN)] ∧ Ls bcs 1 wx w.heap.size (.slice _A_aA aA.length _C_aA) aA ∧ Ol bcs 4 1 wx (.slice _Av11 (aA).length _Cv11) _o1) (fun ⟨ag1, _o1⟩ => 2 * _o1.count false + (if ag1 = true then 1 else 0)) (true, aA) (Sub.cons rfl (Sub.cons rfl (Sub.cons rfl (Sub.cons rfl (Sub.nil _))))) ⟨E, (Nat.le_refl _), rfl, (fun s h => .base h), (fun s h => h), (fun h => by cases h), _f_9, _f_10, _oi_8⟩ ?_
  rintro ⟨ag1, _o1⟩ _wr_11 ⟨E, _zz0, hl1, hb1, hB1, _hc1, _F0_0, _F0_1, _o0_3⟩
  have _E0h := E
  have _E0hz := _E0h.size
  have _F0_0z := _F0_0.lt
  refine W_seq fun _K_12 _hK_12 => ?_
  refine W_seq fun _K_13 _hK_13 => ?_
  refine W_region ?_
  refine WL_step rfl rfl (r_move rfl) ?_
  refine WL_nil ?_
  refine thn_nrm (_hK_13 _ _ ?_)
  clear _hK_13
  refine W_cond rfl (fun _h12 => ?_) (fun _h12 => ?_)
  · refine W_skip ?_
    refine thn_nrm (_hK_12 _ _ ?_)
    clear _hK_12
    refine W_block ?_
    refine W_seq fun _K_14 _hK_14 => ?_
    refine W_region ?_
    refine WL_step rfl rfl (r_assign rfl) ?_
    refine WL_nil ?_
    refine thn_nrm (_hK_14 _ _ ?_)
    clear _hK_14
    refine W_seq fun _K_15 _hK_15 => ?_
    refine W_region ?_
    refine WL_step rfl rfl (r_fieldAddr fa28_2 rfl) ?_
    refine WL_step rfl rfl (r_loadAt _F0_0.at_ agg23 rfl rfl) ?_
    refine WL_step rfl rfl (r_len (by rw [el23]; rfl) rfl) ?_
    refine WL_step rfl rfl (r_move rfl) ?_
    refine WL_nil ?_
    refine thn_nrm (_hK_15 _ _ ?_)
    clear _hK_15
    refine W_block ?_
    have _oi_16 : Ol bcs 4 1 _wr_11 (.slice _Av11 (aA).length _Cv11) (_o1) := by
      have hx := _o0_3
      exact hx
    refine W_loop (σ := Nat × Bool × List Bool) (fun ⟨s, ag2, _o2⟩ => [(1, (.pointer (some ⟨_b1, 0, none⟩))), (2, (.slice none 0 0)), (3, (.slice _Av11 (aA).length _Cv11)), (4, (.bool ag2)), (12, (.bool ag1)), (13, (.pointer (some (Addr.add ⟨_b1, 0, none⟩ 2)))), (14, (.slice _A_saN saN.length _C_saN)), (15, (.int .i64 ((saN.length : Nat) : Int))), (16, (.int .i64 ((s : Nat) : Int)))]) (fun ⟨s, ag2, _o2⟩ wx => Ch [] w wx ∧ _wr_11.heap.size ≤ wx.heap.size ∧ (s ≤ aN.length) ∧ (_o2.length = aA.length) ∧ (ClBelow (LiveB aA) (EdgeA aN) _o2) ∧ (∀ q, LiveB aA q → _o2[q]? = some true) ∧ (ag2 = false → PUp aN _o2 s) ∧ (_o2.count false + (if ag2 = true then 1 else 0) ≤ _o1.count false) ∧ Blk wx _b1 28 [(.int .i64 aS), (.slice _A_aA aA.length _C_aA), (.slice _A_saN saN.length _C_saN)] ∧ Ls bcs 1 wx w.heap.size (.slice _A_aA aA.length _C_aA) aA ∧ Ol bcs 4 1 wx (.slice _Av11 (aA).length _Cv11) _o2) (fun ⟨s, ag2, _o2⟩ => aN.length - s) (0, false, _o1) (Sub.cons rfl (Sub.cons rfl (Sub.cons rfl (Sub.cons rfl (Sub.cons rfl (Sub.cons rfl (Sub.cons rfl (Sub.cons rfl (Sub.cons rfl (Sub.nil _)))))))))) ⟨E, (Nat.le_refl _), (by omega), hl1, hb1, hB1, (fun _ => pup_zero), (by simp), _F0_0, _F0_1, _oi_16⟩ ?_
    rintro ⟨s, ag2, _o2⟩ _wr_17 ⟨E, _zz1, hs, hl2, hb2, hB2, hu2, hf2, _F1_0, _F1_1, _o1_3⟩
    have _E1h := E
    have _E1hz := _E1h.size
    have _F1_0z := _F1_0.lt
    refine W_seq fun _K_18 _hK_18 => ?_
    refine W_region ?_
    refine WL_step rfl rfl (r_lss rfl rfl) ?_
    refine WL_nil ?_
    refine thn_nrm (_hK_18 _ _ ?_)
    clear _hK_18
    refine W_seq fun _K_19 _hK_19 => ?_
    refine W_cond rfl (fun _h17 => ?_) (fun _h17 => ?_)
    · have _h17 := bt_d _h17
      refine W_skip ?_
      refine thn_nrm (_hK_19 _ _ ?_)
      clear _hK_19
      refine W_seq fun _K_20 _hK_20 => ?_
      refine W_block ?_
      refine W_seq fun _K_21 _hK_21 => ?_
      refine W_region ?_
      refine WL_step rfl rfl (r_move rfl) ?_
      refine WL_s rfl rfl ?_
      have _f_22 := (_h_saN.ch0 _E1h)
      refine (s_index _f_22 Sv.len el23 sz32 rfl rfl rfl (by omega) fun _p19 _y19 _hy19 _a19 => ?_)
      have _f_23 := (_rd_aN.ch0 _E1h)
      obtain ⟨_ys19, _hys19, _fs19⟩ := _f_23.get _hy19
      obtain ⟨_A19, _n19, _C19⟩ := _y19
      obtain rfl := _fs19.eqn
      have _l19 := _fs19.len
      replace _fs19 : Ls ics 1 _wr_17 w.heap.size (.slice _A19 _ys19.length _C19) _ys19 := _fs19
      replace _a19 : At _wr_17 w.heap.size _p19 ([(.slice _A19 _ys19.length _C19)]) := _a19
      have _e19 := (fits_row hv.2 _hys19).1
      refine WL_step rfl rfl (r_loadAt0 _a19 agg32 rfl rfl) ?_
      refine WL_step rfl rfl (r_assign rfl) ?_
      refine WL_step rfl rfl (r_assign rfl) ?_
      refine WL_nil ?_
      refine thn_nrm (_hK_21 _ _ ?_)
      clear _hK_21
      refine W_seq fun _K_24 _hK_24 => ?_
      refine W_region ?_
      refine WL_step rfl rfl (r_move rfl) ?_
      refine WL_step rfl rfl (r_len (by rw [el32]; rfl) rfl) ?_
      refine WL_step rfl rfl (r_move rfl) ?_
      refine WL_nil ?_
      refine thn_nrm (_hK_24 _ _ ?_)
      clear _hK_24
      refine W_block ?_
      have _oi_25 : Ol bcs 4 1 _wr_17 (.slice _Av11 (aA).length _Cv11) (_o2) := by
        have hx := _o1_3
        exact hx
      refine W_loop (σ := Nat × Bool × List Bool) (fun ⟨k, ag3, _o3⟩ => [(1, (.pointer (some ⟨_b1, 0, none⟩))), (2, (.slice none 0 0)), (3, (.slice _Av11 (aA).length _Cv11)), (4, (.bool ag3)), (5, (.int .i64 ((s : Nat) : Int))), (6, (.slice _A19 _ys19.length _C19)), (12, (.bool ag1)), (13, (.pointer (some (Addr.add ⟨_b1, 0, none⟩ 2)))), (14, (.slice _A_saN saN.length _C_saN)), (15, (.int .i64 ((saN.length : Nat) : Int))), (16, (.int .i64 ((s : Nat) : Int))), (17, (.bool (decide (((s : Nat) : Int) < ((saN.length : Nat) : Int))))), (18, (.int .i64 ((s : Nat) : Int))), (19, (.pointer (some _p19))), (20, (.slice _A19 _ys19.length _C19)), (21, (.slice _A19 _ys19.length _C19)), (22, (.int .i64 ((_ys19.length : Nat) : Int))), (23, (.int .i64 ((k : Nat) : Int)))]) (fun ⟨k, ag3, _o3⟩ wx => Ch [] w wx ∧ _wr_17.heap.size ≤ wx.heap.size ∧ (k ≤ _ys19.length) ∧ (_o3.length = aA.length) ∧ (ClBelow (LiveB aA) (EdgeA aN) _o3) ∧ (∀ q, LiveB aA q → _o3[q]? = some true) ∧ (ag3 = false → PUp aN _o3 s ∧ PRow aN _o3 s k) ∧ (_o3.count false + (if ag3 = true then 1 else 0) ≤ _o1.count false) ∧ Blk wx _b1 28 [(.int .i64 aS), (.slice _A_aA aA.length _C_aA), (.slice _A_saN saN.length _C_saN)] ∧ Ls bcs 1 wx w.heap.size (.slice _A_aA aA.length _C_aA) aA ∧ Ls Sv.cs 1 wx w.heap.size (.slice _A_saN saN.length _C_saN) saN ∧ Rd ics 1 wx w.heap.size saN aN ∧ At wx w.heap.size _p19 ([(.slice _A19 _ys19.length _C19)]) ∧ Ls ics 1 wx w.heap.size (.slice _A19 _ys19.length _C19) _ys19 ∧ Ol bcs 4 1 wx (.slice _Av11 (aA).length _Cv11) _o3) (fun ⟨k, ag3, _o3⟩ => _ys19.length - k) (0, ag2, _o2) (Sub.cons rfl (Sub.cons rfl (Sub.cons rfl (Sub.cons rfl (Sub.cons rfl (Sub.cons rfl (Sub.cons rfl (Sub.cons rfl (Sub.cons rfl (Sub.cons rfl (Sub.cons rfl (Sub.cons rfl (Sub.cons rfl (Sub.cons rfl (Sub.cons rfl (Sub.cons rfl (Sub.cons rfl (Sub.cons rfl (Sub.nil _))))))))))))))))))) ⟨E, (Nat.le_refl _), (by omega), hl2, hb2, hB2, (fun e => ⟨hu2 e, prow_zero⟩), hf2, _F1_0, _F1_1, _f_22, _f_23, _a19, _fs19, _oi_25⟩ ?_
      rintro ⟨k, ag3, _o3⟩ _wr_26 ⟨E, _zz2, _hk, hl3, hb3, hB3, hu3, hf3, _F2_0, _F2_1, _F2_2, _F2_3, _F2_4, _F2_5, _o2_3⟩
      have _E2h := E
      have _E2hz := _E2h.size
      have _F2_0z := _F2_0.lt
      refine W_seq fun _K_27 _hK_27 => ?_
      refine W_region ?_
      refine WL_step rfl rfl (r_lss rfl rfl) ?_
      refine WL_nil ?_
      refine thn_nrm (_hK_27 _ _ ?_)
      clear _hK_27
      refine W_seq fun _K_28 _hK_28 => ?_
      refine W_cond rfl (fun _h24 => ?_) (fun _h24 => ?_)
      · have _h24 := bt_d _h24
        refine W_skip ?_
        refine thn_nrm (_hK_28 _ _ ?_)
        clear _hK_28
        refine W_seq fun _K_29 _hK_29 => ?_
        refine W_block ?_
        refine W_seq fun _K_30 _hK_30 => ?_
        refine W_region ?_
        refine WL_s rfl rfl ?_
        refine (s_index _F2_5 ics_len el32 sz3 rfl rfl rfl (by omega) fun _p25 _y25 _hy25 _a25 => ?_)
        have f25 := fits_el hv.2 _hys19 _hy25
        refine WL_step rfl rfl (r_loadAt0 _a25 agg3 rfl rfl) ?_
        refine WL_step rfl rfl (r_assign rfl) ?_
        refine WL_nil ?_
        refine thn_nrm (_hK_30 _ _ ?_)
        clear _hK_30
        refine W_seq fun _K_31 _hK_31 => ?_
        refine W_region ?_
        refine WL_step rfl rfl (r_move rfl) ?_
        refine WL_step rfl rfl (r_geq rfl rfl) ?_
        refine WL_step rfl rfl (r_move rfl) ?_
        refine WL_split (d := 29) rfl (fun _h29 => ?_) (fun _h29 => ?_)
        · have _h29 := bt_d _h29
          refine WL_step rfl rfl (r_move rfl) ?_
          refine WL_step rfl rfl (r_move rfl) ?_
          refine WL_s rfl rfl ?_
          refine (s_index (j := _y25.toNat) _o2_3.ls bcs_len el22 sz4 rfl rfl (by omega) (by omega) fun _p32 _y32 _hy32 _a32 => ?_)
          refine WL_step rfl rfl (r_loadAt0 _a32 agg4 rfl rfl) ?_
          refine WL_step rfl rfl (r_pickT rfl rfl) ?_
          refine WL_step rfl rfl (r_move rfl) ?_
          refine WL_split (d := 35) rfl (fun _h35 => ?_) (fun _h35 => ?_)
          · refine WL_step rfl rfl (r_move rfl) ?_
            refine WL_step rfl rfl (r_move rfl) ?_
            refine WL_s rfl rfl ?_
            refine (s_index _o2_3.ls bcs_len el22 sz4 rfl rfl rfl (by omega) fun _p38 _y38 _hy38 _a38 => ?_)
            refine WL_step rfl rfl (r_loadAt0 _a38 agg4 rfl rfl) ?_
            refine WL_step rfl rfl (r_not rfl) ?_
            refine WL_step rfl rfl (r_pickT rfl rfl) ?_
            refine WL_nil ?_
            refine thn_nrm (_hK_31 _ _ ?_)
            clear _hK_31
            refine W_cond rfl (fun _h41 => ?_) (fun _h41 => ?_)
            · refine W_seq fun _K_32 _hK_32 => ?_
              refine W_region ?_
              refine WL_step rfl rfl (r_move rfl) ?_
              refine WL_step rfl rfl (r_move rfl) ?_
              refine WL_s rfl rfl ?_
              refine s_indexO (j := s) _o2_3 el22 sz4 rfl rfl rfl (by omega) fun _g44 _o44 _cp44 _q44 => ?_
              refine WL_s rfl rfl ?_
              refine s_storeO (j := s) true _o2_3 _q44 bcs_len sz4 rfl rfl rfl rfl (by omega) fun _w_33 _o_34 _cw_33 => ?_
              have _cw_33z := _cw_33.size
              have E := E.step _cw_33 (fun i hi => .inl (by have _h1 := _lo11 _ hi; omega))
              refine WL_nil ?_
              refine thn_nrm (_hK_32 _ _ ?_)
              clear _hK_32
              refine W_region ?_
              refine WL_step rfl rfl (r_assign rfl) ?_
              refine WL_nil ?_
              refine inB_nrm ?_
              refine thn_nrm (_hK_29 _ _ ?_)
              clear _hK_29
              refine W_region ?_
              refine WL_step rfl rfl (r_add (by omega) rfl rfl) ?_
              refine WL_step rfl rfl (r_move rfl) ?_
              refine WL_nil ?_
              have _on_35 : Ol bcs 4 1 _w_33 (.slice _Av11 (aA).length _Cv11) ((_o3.set s true)) := by
                have hx := _o_34
                exact hx
              have _f_36 := (_F2_0.ch _cw_33 (fun hm => by have _h1 := _lo11 _ hm; have _h2 := _hiv11 _ hm; omega))
              have _f_37 := (_F2_1.ch _cw_33 (fun i hi => by have _h1 := _lo11 _ hi; omega))
              have _f_38 := (_F2_2.ch _cw_33 (fun i hi => by have _h1 := _lo11 _ hi; omega))
              have _f_39 := (_F2_3.ch _cw_33 (fun i hi => by have _h1 := _lo11 _ hi; omega))
              have _f_40 := (_F2_4.ch _cw_33 (fun i hi => by have _h1 := _lo11 _ hi; omega))
              have _f_41 := (_F2_5.ch _cw_33 (fun i hi => by have _h1 := _lo11 _ hi; omega))
              exact thn_nrm (Exists.intro ((k + 1), true, (_o3.set s true)) ⟨⟨E, (by omega), (by omega), (by first | exact hl3 | simpa using hl3), (by first | exact hb3 | exact set_below hb3 (.step (t := _y25.toNat) ⟨k, _ys19, _hys19, by rw [_hy25, Int.toNat_of_nonneg (by omega)]⟩ (hb3 _ (by rw [_hy32, _h35])))), (by first | exact hB3 | exact fun q hq => set_true (hB3 q hq)), (by first | exact (fun e => absurd e Bool.noConfusion) | exact (fun e => ⟨(hu3 e).1, prow_step (hu3 e).2 _hys19 _hy25 (fun t _e2 _ => by omega)⟩) | exact (fun e => ⟨(hu3 e).1, prow_step (hu3 e).2 _hys19 _hy25 (fun t _e2 q => by obtain rfl : t = _y25.toNat := (by omega); first | (rw [_hy32, _h35] at q; cases q; done) | (rw [_hy38, show _y38 = true from (by simpa using _h41)]; done))⟩)), (by first | exact hf3 | (have hq := count_set (l := _o3) (s := s) (by rw [_hy38, show _y38 = false from (by simpa using _h41)]); simp only [if_true]; split at hf3 <;> omega)), _f_36, _f_37, _f_38, _f_39, _f_40, _f_41, _on_35⟩, Sub.cons rfl (Sub.cons rfl (Sub.cons rfl (Sub.cons rfl (Sub.cons rfl (Sub.cons rfl (Sub.cons rfl (Sub.cons rfl (Sub.cons rfl (Sub.cons rfl (Sub.cons rfl (Sub.cons rfl (Sub.cons rfl (Sub.cons rfl (Sub.cons rfl (Sub.cons rfl (Sub.cons rfl (Sub.cons rfl (Sub.nil _)))))))))))))))))), (by first | omega | (dsimp only; omega))⟩)
            · refine W_skip ?_
              refine inB_nrm ?_
              refine thn_nrm (_hK_29 _ _ ?_)
              clear _hK_29
              refine W_region ?_
              refine WL_step rfl rfl (r_add (by omega) rfl rfl) ?_
              refine WL_step rfl rfl (r_move rfl) ?_
              refine WL_nil ?_
              have _on_42 : Ol bcs 4 1 _wr_26 (.slice _Av11 (aA).length _Cv11) (_o3) := by
                have hx := _o2_3
                exact hx
              exact thn_nrm (Exists.intro ((k + 1), ag3, _o3) ⟨⟨E, (by omega), (by omega), (by first | exact hl3 | simpa using hl3), (by first | exact hb3 | exact set_below hb3 (.step (t := _y25.toNat) ⟨k, _ys19, _hys19, by rw [_hy25, Int.toNat_of_nonneg (by omega)]⟩ (hb3 _ (by rw [_hy32, _h35])))), (by first | exact hB3 | exact fun q hq => set_true (hB3 q hq)), (by first | exact (fun e => absurd e Bool.noConfusion) | exact (fun e => ⟨(hu3 e).1, prow_step (hu3 e).2 _hys19 _hy25 (fun t _e2 _ => by omega)⟩) | exact (fun e => ⟨(hu3 e).1, prow_step (hu3 e).2 _hys19 _hy25 (fun t _e2 q => by obtain rfl : t = _y25.toNat := (by omega); first | (rw [_hy32, _h35] at q; cases q; done) | (rw [_hy38, show _y38 = true from (by simpa using _h41)]; done))⟩)), (by first | exact hf3 | (have hq := count_set (l := _o3) (s := s) (by rw [_hy38, show _y38 = false from (by simpa using _h41)]); simp only [if_true]; split at hf3 <;> omega)), _F2_0, _F2_1, _F2_2, _F2_3, _F2_4, _F2_5, _on_42⟩, Sub.cons rfl (Sub.cons rfl (Sub.cons rfl (Sub.cons rfl (Sub.cons rfl (Sub.cons rfl (Sub.cons rfl (Sub.cons rfl (Sub.cons rfl (Sub.cons rfl (Sub.cons rfl (Sub.cons rfl (Sub.cons rfl (Sub.cons rfl (Sub.cons rfl (Sub.cons rfl (Sub.cons rfl (Sub.cons rfl (Sub.nil _)))))))))))))))))), (by first | omega | (dsimp only; omega))⟩)
          · refine WL_skip rfl rfl ?_
            refine WL_skip rfl rfl ?_
            refine WL_skip rfl rfl ?_
            refine WL_skip rfl rfl ?_
            refine WL_skip rfl rfl ?_
            refine WL_step rfl rfl (r_pickF rfl rfl) ?_
            refine WL_nil ?_
            refine thn_nrm (_hK_31 _ _ ?_)
            clear _hK_31
            refine W_condF rfl ?_
            refine W_skip ?_
            refine inB_nrm ?_
            refine thn_nrm (_hK_29 _ _ ?_)
            clear _hK_29
            refine W_region ?_
            refine WL_step rfl rfl (r_add (by omega) rfl rfl) ?_
            refine WL_step rfl rfl (r_move rfl) ?_
            refine WL_nil ?_
            have _on_43 : Ol bcs 4 1 _wr_26 (.slice _Av11 (aA).length _Cv11) (_o3) := by
              have hx := _o2_3
              exact hx
            exact thn_nrm (Exists.intro ((k + 1), ag3, _o3) ⟨⟨E, (by omega), (by omega), (by first | exact hl3 | simpa using hl3), (by first | exact hb3 | exact set_below hb3 (.step (t := _y25.toNat) ⟨k, _ys19, _hys19, by rw [_hy25, Int.toNat_of_nonneg (by omega)]⟩ (hb3 _ (by rw [_hy32, _h35])))), (by first | exact hB3 | exact fun q hq => set_true (hB3 q hq)), (by first | exact (fun e => absurd e Bool.noConfusion) | exact (fun e => ⟨(hu3 e).1, prow_step (hu3 e).2 _hys19 _hy25 (fun t _e2 _ => by omega)⟩) | exact (fun e => ⟨(hu3 e).1, prow_step (hu3 e).2 _hys19 _hy25 (fun t _e2 q => by obtain rfl : t = _y25.toNat := (by omega); first | (rw [_hy32, _h35] at q; cases q; done) | (rw [_hy38, show _y38 = true from (by simpa using _h41)]; done))⟩)), (by first | exact hf3 | (have hq := count_set (l := _o3) (s := s) (by rw [_hy38, show _y38 = false from (by simpa using _h41)]); simp only [if_true]; split at hf3 <;> omega)), _F2_0, _F2_1, _F2_2, _F2_3, _F2_4, _F2_5, _on_43⟩, Sub.cons rfl (Sub.cons rfl (Sub.cons rfl (Sub.cons rfl (Sub.cons rfl (Sub.cons rfl (Sub.cons rfl (Sub.cons rfl (Sub.cons rfl (Sub.cons rfl (Sub.cons rfl (Sub.cons rfl (Sub.cons rfl (Sub.cons rfl (Sub.cons rfl (Sub.cons rfl (Sub.cons rfl (Sub.cons rfl (Sub.nil _)))))))))))))))))), (by first | omega | (dsimp only; omega))⟩)
        · have _h29 := bf_d _h29
          refine WL_skip rfl rfl ?_
          refine WL_skip rfl rfl ?_
          refine WL_skip rfl rfl ?_
          refine WL_skip rfl rfl ?_
          refine WL_step rfl rfl (r_pickF rfl rfl) ?_
          refine WL_step rfl rfl (r_move rfl) ?_
          refine WL_skip rfl rfl ?_
          refine WL_skip rfl rfl ?_
          refine WL_skip rfl rfl ?_
          refine WL_skip rfl rfl ?_
          refine WL_skip rfl rfl ?_
          refine WL_step rfl rfl (r_pickF rfl rfl) ?_
          refine WL_nil ?_
          refine thn_nrm (_hK_31 _ _ ?_)
          clear _hK_31
          refine W_condF rfl ?_
          refine W_skip ?_
          refine inB_nrm ?_
          refine thn_nrm (_hK_29 _ _ ?_)
          clear _hK_29
          refine W_region ?_
          refine WL_step rfl rfl (r_add (by omega) rfl rfl) ?_
          refine WL_step rfl rfl (r_move rfl) ?_
          refine WL_nil ?_
          have _on_44 : Ol bcs 4 1 _wr_26 (.slice _Av11 (aA).length _Cv11) (_o3) := by
            have hx := _o2_3
            exact hx
          exact thn_nrm (Exists.intro ((k + 1), ag3, _o3) ⟨⟨E, (by omega), (by omega), (by first | exact hl3 | simpa using hl3), (by first | exact hb3 | exact set_below hb3 (.step (t := _y25.toNat) ⟨k, _ys19, _hys19, by rw [_hy25, Int.toNat_of_nonneg (by omega)]⟩ (hb3 _ (by rw [_hy32, _h35])))), (by first | exact hB3 | exact fun q hq => set_true (hB3 q hq)), (by first | exact (fun e => absurd e Bool.noConfusion) | exact (fun e => ⟨(hu3 e).1, prow_step (hu3 e).2 _hys19 _hy25 (fun t _e2 _ => by omega)⟩) | exact (fun e => ⟨(hu3 e).1, prow_step (hu3 e).2 _hys19 _hy25 (fun t _e2 q => by obtain rfl : t = _y25.toNat := (by omega); first | (rw [_hy32, _h35] at q; cases q; done) | (rw [_hy38, show _y38 = true from (by simpa using _h41)]; done))⟩)), (by first | exact hf3 | (have hq := count_set (l := _o3) (s := s) (by rw [_hy38, show _y38 = false from (by simpa using _h41)]); simp only [if_true]; split at hf3 <;> omega)), _F2_0, _F2_1, _F2_2, _F2_3, _F2_4, _F2_5, _on_44⟩, Sub.cons rfl (Sub.cons rfl (Sub.cons rfl (Sub.cons rfl (Sub.cons rfl (Sub.cons rfl (Sub.cons rfl (Sub.cons rfl (Sub.cons rfl (Sub.cons rfl (Sub.cons rfl (Sub.cons rfl (Sub.cons rfl (Sub.cons rfl (Sub.cons rfl (Sub.cons rfl (Sub.cons rfl (Sub.cons rfl (Sub.nil _)))))))))))))))))), (by first | omega | (dsimp only; omega))⟩)
      · have _h24 := bf_d _h24
        refine W_exit (thn_exit (thn_exit (inB_hit ?_)))
        refine inB_nrm ?_
        refine thn_nrm (_hK_20 _ _ ?_)
        clear _hK_20
        refine W_region ?_
        refine WL_step rfl rfl (r_add (by omega) rfl rfl) ?_
        refine WL_step rfl rfl (r_move rfl) ?_
        refine WL_nil ?_
        have _on_45 : Ol bcs 4 1 _wr_26 (.slice _Av11 (aA).length _Cv11) (_o3) := by
          have hx := _o2_3
          exact hx
        exact thn_nrm (Exists.intro ((s + 1), ag3, _o3) ⟨⟨E, (by omega), (by omega), hl3, hb3, hB3, (fun e => pup_row (hu3 e).1 (hu3 e).2 (fun r hr => by have _h1 := (fits_row hv.2 hr).1; omega)), hf3, _F2_0, _F2_1, _on_45⟩, Sub.cons rfl (Sub.cons rfl (Sub.cons rfl (Sub.cons rfl (Sub.cons rfl (Sub.cons rfl (Sub.cons rfl (Sub.cons rfl (Sub.cons rfl (Sub.nil _))))))))), (by first | omega | (dsimp only; omega))⟩)
    · have _h17 := bf_d _h17
      refine W_exit (thn_exit (thn_exit (inB_hit ?_)))
      refine inB_nrm ?_
      have _on_46 : Ol bcs 4 1 _wr_17 (.slice _Av11 (aA).length _Cv11) (_o2) := by
        have hx := _o1_3
        exact hx
      exact thn_nrm (Exists.intro (ag2, _o2) ⟨⟨E, (by omega), hl2, hb2, hB2, (fun e => (show s = aN.length by omega) ▸ hu2 e), _F1_0, _F1_1, _on_46⟩, Sub.cons rfl (Sub.cons rfl (Sub.cons rfl (Sub.cons rfl (Sub.nil _)))), (by have hf := hf2; rw [_h12] ; simp only [if_true]; split at hf <;> simp_all <;> omega)⟩)
  · refine W_exit (thn_exit (thn_exit (inB_hit ?_)))
    refine thn_nrm (_hK_6 _ _ ?_)
    clear _hK_6
    refine W_seq fun _K_47 _hK_47 => ?_
    refine W_region ?_
    refine WL_step rfl rfl (r_move rfl) ?_
    refine WL_step rfl rfl (r_assign rfl) ?_
    refine WL_nil ?_
    refine thn_nrm (_hK_47 _ _ ?_)
    clear _hK_47
    refine W_ret ?_
    clear _hK_12
    have _o_48 : Ol bcs 4 1 _wr_11 (.slice _Av11 (aA).length _Cv11) (liveL aA aN) := by
      have hx := _o0_3
      (rw [← live_of_closed hl1 hb1 hB1 (_hc1 _h12)]; exact hx)
    exact ret_intro [_] ⟨rfl, trivial⟩ ⟨_o_48, Lo.down _lo11 (by omega), E⟩

/-- impl.within -/
theorem c_impl_within {w : World} (n : Int) (a : Int) (b : Int) :
    Ctr Try.prog 70 #[(.int .i64 n), (.int .i64 a), (.int .i64 b)] w (fun v w' => v = .bool (decide (a ≤ n ∧ n ≤ b)) ∧ Ch [] w w') := by
  have E := Ch.refl [] w
  refine Ctr_of_W (N := 15) (vs0 := [(.int .i64 n), (.int .i64 a), (.int .i64 b)]) Try.func70 rfl rfl rfl ?_
  refine W_seq fun _K_1 _hK_1 => ?_
  refine W_region ?_
  refine WL_step rfl rfl (r_assign rfl) ?_
  refine WL_nil ?_
  refine thn_nrm (_hK_1 _ _ ?_)
  clear _hK_1
  refine W_seq fun _K_2 _hK_2 => ?_
  refine W_region ?_
  refine WL_step rfl rfl (r_move rfl) ?_
  refine WL_step rfl rfl (r_move rfl) ?_
  refine WL_step rfl rfl (r_geq rfl rfl) ?_
  refine WL_step rfl rfl (r_move rfl) ?_
  refine WL_split (d := 10) rfl (fun _h10 => ?_) (fun _h10 => ?_)
  · have _h10 := bt_d _h10
    refine WL_step rfl rfl (r_move rfl) ?_
    refine WL_step rfl rfl (r_move rfl) ?_
    refine WL_step rfl rfl (r_leq rfl rfl) ?_
    refine WL_step rfl rfl (r_pickT rfl rfl) ?_
    refine WL_step rfl rfl (r_assign rfl) ?_
    refine WL_nil ?_
    refine thn_nrm (_hK_2 _ _ ?_)
    clear _hK_2
    refine W_ret ?_
    exact ret_intro [_] ⟨rfl, trivial⟩ ⟨congrArg Value.bool (by first | rfl | (rw [Bool.eq_iff_iff]; simp <;> omega) | (rw [Bool.eq_iff_iff]; simp_all; done) | simp_all), E⟩
  · have _h10 := bf_d _h10
    refine WL_skip rfl rfl ?_
    refine WL_skip rfl rfl ?_
    refine WL_skip rfl rfl ?_
    refine WL_step rfl rfl (r_pickF rfl rfl) ?_
    refine WL_step rfl rfl (r_assign rfl) ?_
    refine WL_nil ?_
    refine thn_nrm (_hK_2 _ _ ?_)
    clear _hK_2
    refine W_ret ?_
    exact ret_intro [_] ⟨rfl, trivial⟩ ⟨congrArg Value.bool (by first | rfl | (rw [Bool.eq_iff_iff]; simp <;> omega) | (rw [Bool.eq_iff_iff]; simp_all; done) | simp_all), E⟩

/-- impl.IsValidAutomaton -/
theorem c_impl_IsValidAutomaton {w : World} (aS : Int) {_B_aA : Nat} {_v_aA : Value} {aA : List Bool} (_h_aA : Ls bcs 1 w _B_aA _v_aA aA) {_B_saN : Nat} {_v_saN : Value} {saN : List Sv} (_h_saN : Ls Sv.cs 1 w _B_saN _v_saN saN) {BB_aN : Nat} {aN : List (List Int)} (_rd_aN : Rd ics 1 w BB_aN saN aN) :
    Ctr Try.prog 53 #[(.agg #[(.int .i64 aS), _v_aA, _v_saN])] w (fun v w' => v = .bool (tt (ValidA aS aA aN)) ∧ Ch [] w w') := by
  obtain ⟨_A_aA, _C_aA, _e1_aA⟩ := _h_aA.val
  subst _e1_aA
  have _l_aA := _h_aA.len
  have _h_aA := _h_aA.here (by decide)
  obtain ⟨_A_saN, _C_saN, _e1_saN⟩ := _h_saN.val
  subst _e1_saN
  have _l_saN := _h_saN.len
  have _h_saN := _h_saN.here (by decide)
  have _rd_aN := _rd_aN.here (by decide)
  have _rl_aN := _rd_aN.1
  have E := Ch.refl [] w
  refine Ctr_of_W (N := 52) (vs0 := [(.agg #[(.int .i64 aS), (.slice _A_aA aA.length _C_aA), (.slice _A_saN saN.length _C_saN)])]) Try.func53 rfl rfl rfl ?_
  refine W_seq fun _K_1 _hK_1 => ?_
  refine W_region ?_
  refine WL_s rfl rfl ?_
  refine s_box rfl fun _b1 _w_2 _m1 _cw_2 _e1 => ?_
  have _cw_2z := _cw_2.size
  have E := E.trans _cw_2
  have _z1 := _m1.lt
  replace _m1 : Blk _w_2 _b1 28 [(.int .i64 aS), (.slice _A_aA aA.length _C_aA), (.slice _A_saN saN.length _C_saN)] := _m1
  refine WL_step rfl rfl (r_assign rfl) ?_
  refine WL_nil ?_
  refine thn_nrm (_hK_1 _ _ ?_)
  clear _hK_1
  refine W_seq fun _K_3 _hK_3 => ?_
  refine W_region ?_
  refine WL_step rfl rfl (r_fieldAddr fa28_1 rfl) ?_
  refine WL_step rfl rfl (r_loadAt _m1.at_ agg22 rfl rfl) ?_
  refine WL_step rfl rfl (r_len (by rw [el22]; rfl) rfl) ?_
  refine WL_step rfl rfl (r_assign rfl) ?_
  refine WL_nil ?_
  refine thn_nrm (_hK_3 _ _ ?_)
  clear _hK_3
  refine W_seq fun _K_4 _hK_4 => ?_
  refine W_seq fun _K_5 _hK_5 => ?_
  refine W_region ?_
  refine WL_step rfl rfl (r_move rfl) ?_
  refine WL_s rfl rfl ?_
  refine Step.call (r_call (xs := [.tmp 11, .const (Go.Value.int Go.IntKind.i64 1), .const (Go.Value.int Go.IntKind.i64 12)]) fk70 rfl) (c_impl_within _ _ _ ) fun _v12 _w_6 _q12 => ?_
  obtain ⟨rfl, _cw_6⟩ := _q12
  have _cw_6z := _cw_6.size
  have E := E.trans _cw_6
  refine WL_step rfl rfl (r_not rfl) ?_
  refine WL_step rfl rfl (r_move rfl) ?_
  refine WL_split (d := 14) rfl (fun _h14 => ?_) (fun _h14 => ?_)
  · have _h14 := bf_d (bt_n _h14)
    refine WL_skip rfl rfl ?_
    refine WL_skip rfl rfl ?_
    refine WL_skip rfl rfl ?_
    refine WL_skip rfl rfl ?_
    refine WL_skip rfl rfl ?_
    refine WL_skip rfl rfl ?_
    refine WL_step rfl rfl (r_pickT rfl rfl) ?_
    refine WL_step rfl rfl (r_move rfl) ?_
    refine WL_skip rfl rfl ?_
    refine WL_skip rfl rfl ?_
    refine WL_skip rfl rfl ?_
    refine WL_skip rfl rfl ?_
    refine WL_skip rfl rfl ?_
    refine WL_step rfl rfl (r_pickT rfl rfl) ?_
    refine WL_nil ?_
    refine thn_nrm (_hK_5 _ _ ?_)
    clear _hK_5
    refine W_condT rfl ?_
    refine W_seq fun _K_7 _hK_7 => ?_
    refine W_region ?_
    refine WL_step rfl rfl (r_assign rfl) ?_
    refine WL_nil ?_
    refine thn_nrm (_hK_7 _ _ ?_)
    clear _hK_7
    refine W_ret (thn_ret ?_)
    clear _hK_4
    exact ret_intro [_] ⟨rfl, trivial⟩ ⟨congrArg Value.bool (by first | exact tt_true ⟨by omega, _h22, by omega, rows_all _ht (by omega)⟩ | exact tt_false (fun e => _h14 (by have _h1 := e.1; have _h2 := e.2.1; omega)) | exact tt_false (fun e => _h22 e.2.1) | exact tt_false (fun e => _h28 (by have _h1 := e.2.2.1; omega)) | exact tt_false (fun e => _h46 (fits_el e.2 _hys34 _hy40)) | exact tt_false (fun e => _h50 (by have _h1 := (fits_row e.2 _hys34).1; omega))), E⟩
  · have _h14 := bt_d (bf_n _h14)
    refine WL_step rfl rfl (r_fieldAddr fa28_0 rfl) ?_
    have _f_8 := (_m1.ch0 _cw_6)
    refine WL_step rfl rfl (r_loadAt _f_8.at_ agg3 rfl rfl) ?_
    refine WL_step rfl rfl (r_move rfl) ?_
    refine WL_step rfl rfl (r_sub (by omega) rfl rfl) ?_
    refine WL_s rfl rfl ?_
    refine Step.call (r_call (xs := [.tmp 16, .const (Go.Value.int Go.IntKind.i64 0), .tmp 18]) fk70 rfl) (c_impl_within _ _ _ ) fun _v19 _w_9 _q19 => ?_
    obtain ⟨rfl, _cw_9⟩ := _q19
    have _cw_9z := _cw_9.size
    have E := E.trans _cw_9
    refine WL_step rfl rfl (r_not rfl) ?_
    refine WL_step rfl rfl (r_pickF rfl rfl) ?_
    refine WL_step rfl rfl (r_move rfl) ?_
    refine WL_split (d := 22) rfl (fun _h22 => ?_) (fun _h22 => ?_)
    · have _h22 := bf_d (bt_n _h22)
      refine WL_skip rfl rfl ?_
      refine WL_skip rfl rfl ?_
      refine WL_skip rfl rfl ?_
      refine WL_skip rfl rfl ?_
      refine WL_skip rfl rfl ?_
      refine WL_step rfl rfl (r_pickT rfl rfl) ?_
      refine WL_nil ?_
      refine thn_nrm (_hK_5 _ _ ?_)
      clear _hK_5
      refine W_condT rfl ?_
      refine W_seq fun _K_10 _hK_10 => ?_
      refine W_region ?_
      refine WL_step rfl rfl (r_assign rfl) ?_
      refine WL_nil ?_
      refine thn_nrm (_hK_10 _ _ ?_)
      clear _hK_10
      refine W_ret (thn_ret ?_)
      clear _hK_4
      exact ret_intro [_] ⟨rfl, trivial⟩ ⟨congrArg Value.bool (by first | exact tt_true ⟨by omega, _h22, by omega, rows_all _ht (by omega)⟩ | exact tt_false (fun e => _h14 (by have _h1 := e.1; have _h2 := e.2.1; omega)) | exact tt_false (fun e => _h22 e.2.1) | exact tt_false (fun e => _h28 (by have _h1 := e.2.2.1; omega)) | exact tt_false (fun e => _h46 (fits_el e.2 _hys34 _hy40)) | exact tt_false (fun e => _h50 (by have _h1 := (fits_row e.2 _hys34).1; omega))), E⟩
    · have _h22 := bt_d (bf_n _h22)
      refine WL_step rfl rfl (r_fieldAddr fa28_2 rfl) ?_
      have _f_11 := (_f_8.ch0 _cw_9)
      refine WL_step rfl rfl (r_loadAt _f_11.at_ agg23 rfl rfl) ?_
      refine WL_step rfl rfl (r_len (by rw [el23]; rfl) rfl) ?_
      refine WL_step rfl rfl (r_move rfl) ?_
      refine WL_step rfl rfl (r_neq rfl rfl) ?_
      refine WL_step rfl rfl (r_pickF rfl rfl) ?_
      refine WL_nil ?_
      refine thn_nrm (_hK_5 _ _ ?_)
      clear _hK_5
      refine W_cond rfl (fun _h28 => ?_) (fun _h28 => ?_)
      · have _h28 := bf_d (bt_n _h28)
        refine W_seq fun _K_12 _hK_12 => ?_
        refine W_region ?_
        refine WL_step rfl rfl (r_assign rfl) ?_
        refine WL_nil ?_
        refine thn_nrm (_hK_12 _ _ ?_)
        clear _hK_12
        refine W_ret (thn_ret ?_)
        clear _hK_4
        exact ret_intro [_] ⟨rfl, trivial⟩ ⟨congrArg Value.bool (by first | exact tt_true ⟨by omega, _h22, by omega, rows_all _ht (by omega)⟩ | exact tt_false (fun e => _h14 (by have _h1 := e.1; have _h2 := e.2.1; omega)) | exact tt_false (fun e => _h22 e.2.1) | exact tt_false (fun e => _h28 (by have _h1 := e.2.2.1; omega)) | exact tt_false (fun e => _h46 (fits_el e.2 _hys34 _hy40)) | exact tt_false (fun e => _h50 (by have _h1 := (fits_row e.2 _hys34).1; omega))), E⟩
      · have _h28 := bt_d (bf_n _h28)
        refine W_skip ?_
        refine thn_nrm (_hK_4 _ _ ?_)
        clear _hK_4
        refine W_seq fun _K_13 _hK_13 => ?_
        refine W_seq fun _K_14 _hK_14 => ?_
        refine W_region ?_
        refine WL_step rfl rfl (r_fieldAddr fa28_2 rfl) ?_
        refine WL_step rfl rfl (r_loadAt _f_11.at_ agg23 rfl rfl) ?_
        refine WL_step rfl rfl (r_len (by rw [el23]; rfl) rfl) ?_
        refine WL_step rfl rfl (r_move rfl) ?_
        refine WL_nil ?_
        refine thn_nrm (_hK_14 _ _ ?_)
        clear _hK_14
        refine W_block ?_
        refine W_loop (σ := Nat) (fun (s : Nat) => [(3, (.int .i64 ((aA.length : Nat) : Int))), (30, (.slice _A_saN saN.length _C_saN)), (31, (.int .i64 ((saN.length : Nat) : Int))), (32, (.int .i64 ((s : Nat) : Int)))]) (fun (s : Nat) wx => Ch [] w wx ∧ _w_9.heap.size ≤ wx.heap.size ∧ (s ≤ aN.length) ∧ (RowsP aA.length aN s)) (fun (s : Nat) => aN.length - s) 0 (Sub.cons rfl (Sub.cons rfl (Sub.cons rfl (Sub.cons rfl (Sub.nil _))))) ⟨E, (Nat.le_refl _), (by omega), (rows_zero _ _)⟩ ?_
        rintro s _wr_15 ⟨E, _zz0, hs, _ht⟩
        have _E0h := E
        have _E0hz := _E0h.size
        refine W_seq fun _K_16 _hK_16 => ?_
        refine W_region ?_
        refine WL_step rfl rfl (r_lss rfl rfl) ?_
        refine WL_nil ?_
        refine thn_nrm (_hK_16 _ _ ?_)
        clear _hK_16
        refine W_seq fun _K_17 _hK_17 => ?_
        refine W_cond rfl (fun _h33 => ?_) (fun _h33 => ?_)
        · have _h33 := bt_d _h33
          refine W_skip ?_
          refine thn_nrm (_hK_17 _ _ ?_)
          clear _hK_17
          refine W_seq fun _K_18 _hK_18 => ?_
          refine W_block ?_
          refine W_seq fun _K_19 _hK_19 => ?_
          refine W_region ?_
          refine WL_s rfl rfl ?_
          have _f_20 := (_h_saN.ch0 _E0h)
          refine (s_index _f_20 Sv.len el23 sz32 rfl rfl rfl (by omega) fun _p34 _y34 _hy34 _a34 => ?_)
          have _f_21 := (_rd_aN.ch0 _E0h)
          obtain ⟨_ys34, _hys34, _fs34⟩ := _f_21.get _hy34
          obtain ⟨_A34, _n34, _C34⟩ := _y34
          obtain rfl := _fs34.eqn
          have _l34 := _fs34.len
          replace _fs34 : Ls ics 1 _wr_15 w.heap.size (.slice _A34 _ys34.length _C34) _ys34 := _fs34
          replace _a34 : At _wr_15 w.heap.size _p34 ([(.slice _A34 _ys34.length _C34)]) := _a34
          refine WL_step rfl rfl (r_loadAt0 _a34 agg32 rfl rfl) ?_
          refine WL_step rfl rfl (r_assign rfl) ?_
          refine WL_nil ?_
          refine thn_nrm (_hK_19 _ _ ?_)
          clear _hK_19
          refine W_seq fun _K_22 _hK_22 => ?_
          refine W_seq fun _K_23 _hK_23 => ?_
          refine W_region ?_
          refine WL_step rfl rfl (r_move rfl) ?_
          refine WL_step rfl rfl (r_len (by rw [el32]; rfl) rfl) ?_
          refine WL_step rfl rfl (r_move rfl) ?_
          refine WL_nil ?_
          refine thn_nrm (_hK_23 _ _ ?_)
          clear _hK_23
          refine W_block ?_
          refine W_loop (σ := Nat) (fun (k : Nat) => [(3, (.int .i64 ((aA.length : Nat) : Int))), (5, (.slice _A34 _ys34.length _C34)), (30, (.slice _A_saN saN.length _C_saN)), (31, (.int .i64 ((saN.length : Nat) : Int))), (32, (.int .i64 ((s : Nat) : Int))), (33, (.bool (decide (((s : Nat) : Int) < ((saN.length : Nat) : Int))))), (34, (.pointer (some _p34))), (35, (.slice _A34 _ys34.length _C34)), (36, (.slice _A34 _ys34.length _C34)), (37, (.int .i64 ((_ys34.length : Nat) : Int))), (38, (.int .i64 ((k : Nat) : Int)))]) (fun (k : Nat) wx => Ch [] w wx ∧ _wr_15.heap.size ≤ wx.heap.size ∧ (k ≤ _ys34.length) ∧ (RowP aA.length _ys34 k) ∧ Ls Sv.cs 1 wx w.heap.size (.slice _A_saN saN.length _C_saN) saN ∧ Rd ics 1 wx w.heap.size saN aN ∧ At wx w.heap.size _p34 ([(.slice _A34 _ys34.length _C34)]) ∧ Ls ics 1 wx w.heap.size (.slice _A34 _ys34.length _C34) _ys34) (fun (k : Nat) => _ys34.length - k) 0 (Sub.cons rfl (Sub.cons rfl (Sub.cons rfl (Sub.cons rfl (Sub.cons rfl (Sub.cons rfl (Sub.cons rfl (Sub.cons rfl (Sub.cons rfl (Sub.cons rfl (Sub.cons rfl (Sub.nil _)))))))))))) ⟨E, (Nat.le_refl _), (by omega), (rowp_zero _ _), _f_20, _f_21, _a34, _fs34⟩ ?_
          rintro k _wr_24 ⟨E, _zz1, _hk, hp, _F1_0, _F1_1, _F1_2, _F1_3⟩
          have _E1h := E
          have _E1hz := _E1h.size
          refine W_seq fun _K_25 _hK_25 => ?_
          refine W_region ?_
          refine WL_step rfl rfl (r_lss rfl rfl) ?_
          refine WL_nil ?_
          refine thn_nrm (_hK_25 _ _ ?_)
          clear _hK_25
          refine W_seq fun _K_26 _hK_26 => ?_
          refine W_cond rfl (fun _h39 => ?_) (fun _h39 => ?_)
          · have _h39 := bt_d _h39
            refine W_skip ?_
            refine thn_nrm (_hK_26 _ _ ?_)
            clear _hK_26
            refine W_seq fun _K_27 _hK_27 => ?_
            refine W_block ?_
            refine W_seq fun _K_28 _hK_28 => ?_
            refine W_region ?_
            refine WL_s rfl rfl ?_
            refine (s_index _F1_3 ics_len el32 sz3 rfl rfl rfl (by omega) fun _p40 _y40 _hy40 _a40 => ?_)
            refine WL_step rfl rfl (r_loadAt0 _a40 agg3 rfl rfl) ?_
            refine WL_step rfl rfl (r_assign rfl) ?_
            refine WL_nil ?_
            refine thn_nrm (_hK_28 _ _ ?_)
            clear _hK_28
            refine W_seq fun _K_29 _hK_29 => ?_
            refine W_region ?_
            refine WL_step rfl rfl (r_move rfl) ?_
            refine WL_step rfl rfl (r_move rfl) ?_
            refine WL_step rfl rfl (r_sub (by omega) rfl rfl) ?_
            refine WL_s rfl rfl ?_
            refine Step.call (r_call (xs := [.tmp 42, .const (Go.Value.int Go.IntKind.i64 (-1)), .tmp 44]) fk70 rfl) (c_impl_within _ _ _ ) fun _v45 _w_30 _q45 => ?_
            obtain ⟨rfl, _cw_30⟩ := _q45
            have _cw_30z := _cw_30.size
            have E := E.trans _cw_30
            refine WL_step rfl rfl (r_not rfl) ?_
            refine WL_nil ?_
            refine thn_nrm (_hK_29 _ _ ?_)
            clear _hK_29
            refine W_cond rfl (fun _h46 => ?_) (fun _h46 => ?_)
            · have _h46 := bf_d (bt_n _h46)
              refine W_seq fun _K_31 _hK_31 => ?_
              refine W_region ?_
              refine WL_step rfl rfl (r_assign rfl) ?_
              refine WL_nil ?_
              refine thn_nrm (_hK_31 _ _ ?_)
              clear _hK_31
              refine W_ret (inB_ret (thn_ret (thn_ret (inB_ret (thn_ret (inB_ret (thn_ret (thn_ret (inB_ret (thn_ret ?_))))))))))
              clear _hK_13 _hK_18 _hK_22 _hK_27
              exact ret_intro [_] ⟨rfl, trivial⟩ ⟨congrArg Value.bool (by first | exact tt_true ⟨by omega, _h22, by omega, rows_all _ht (by omega)⟩ | exact tt_false (fun e => _h14 (by have _h1 := e.1; have _h2 := e.2.1; omega)) | exact tt_false (fun e => _h22 e.2.1) | exact tt_false (fun e => _h28 (by have _h1 := e.2.2.1; omega)) | exact tt_false (fun e => _h46 (fits_el e.2 _hys34 _hy40)) | exact tt_false (fun e => _h50 (by have _h1 := (fits_row e.2 _hys34).1; omega))), E⟩
            · have _h46 := bt_d (bf_n _h46)
              refine W_skip ?_
              refine inB_nrm ?_
              refine thn_nrm (_hK_27 _ _ ?_)
              clear _hK_27
              refine W_region ?_
              refine WL_step rfl rfl (r_add (by omega) rfl rfl) ?_
              refine WL_step rfl rfl (r_move rfl) ?_
              refine WL_nil ?_
              have _f_32 := (_F1_0.ch0 _cw_30)
              have _f_33 := (_F1_1.ch0 _cw_30)
              have _f_34 := (_F1_2.ch0 _cw_30)
              have _f_35 := (_F1_3.ch0 _cw_30)
              exact thn_nrm (Exists.intro (k + 1) ⟨⟨E, (by omega), (by omega), (rowp_step hp _hy40 _h46), _f_32, _f_33, _f_34, _f_35⟩, Sub.cons rfl (Sub.cons rfl (Sub.cons rfl (Sub.cons rfl (Sub.cons rfl (Sub.cons rfl (Sub.cons rfl (Sub.cons rfl (Sub.cons rfl (Sub.cons rfl (Sub.cons rfl (Sub.nil _))))))))))), (by first | omega | (dsimp only; omega))⟩)
          · have _h39 := bf_d _h39
            refine W_exit (thn_exit (thn_exit (inB_hit ?_)))
            refine thn_nrm (_hK_22 _ _ ?_)
            clear _hK_22
            refine W_seq fun _K_36 _hK_36 => ?_
            refine W_region ?_
            refine WL_step rfl rfl (r_move rfl) ?_
            refine WL_step rfl rfl (r_len (by rw [el32]; rfl) rfl) ?_
            refine WL_step rfl rfl (r_neq rfl rfl) ?_
            refine WL_nil ?_
            refine thn_nrm (_hK_36 _ _ ?_)
            clear _hK_36
            refine W_cond rfl (fun _h50 => ?_) (fun _h50 => ?_)
            · have _h50 := bf_d (bt_n _h50)
              refine W_seq fun _K_37 _hK_37 => ?_
              refine W_region ?_
              refine WL_step rfl rfl (r_assign rfl) ?_
              refine WL_nil ?_
              refine thn_nrm (_hK_37 _ _ ?_)
              clear _hK_37
              refine W_ret (inB_ret (thn_ret (thn_ret (inB_ret (thn_ret ?_)))))
              clear _hK_13 _hK_18 _hK_26
              exact ret_intro [_] ⟨rfl, trivial⟩ ⟨congrArg Value.bool (by first | exact tt_true ⟨by omega, _h22, by omega, rows_all _ht (by omega)⟩ | exact tt_false (fun e => _h14 (by have _h1 := e.1; have _h2 := e.2.1; omega)) | exact tt_false (fun e => _h22 e.2.1) | exact tt_false (fun e => _h28 (by have _h1 := e.2.2.1; omega)) | exact tt_false (fun e => _h46 (fits_el e.2 _hys34 _hy40)) | exact tt_false (fun e => _h50 (by have _h1 := (fits_row e.2 _hys34).1; omega))), E⟩
            · have _h50 := bt_d (bf_n _h50)
              refine W_skip ?_
              refine inB_nrm ?_
              refine thn_nrm (_hK_18 _ _ ?_)
              clear _hK_18
              refine W_region ?_
              refine WL_step rfl rfl (r_add (by omega) rfl rfl) ?_
              refine WL_step rfl rfl (r_move rfl) ?_
              refine WL_nil ?_
              exact thn_nrm (Exists.intro (s + 1) ⟨⟨E, (by omega), (by omega), (rows_step _ht _hys34 ⟨by omega, rowp_all hp (by omega)⟩)⟩, Sub.cons rfl (Sub.cons rfl (Sub.cons rfl (Sub.cons rfl (Sub.nil _)))), (by first | omega | (dsimp only; omega))⟩)
        · have _h33 := bf_d _h33
          refine W_exit (thn_exit (thn_exit (inB_hit ?_)))
          refine thn_nrm (_hK_13 _ _ ?_)
          clear _hK_13
          refine W_seq fun _K_38 _hK_38 => ?_
          refine W_region ?_
          refine WL_step rfl rfl (r_assign rfl) ?_
          refine WL_nil ?_
          refine thn_nrm (_hK_38 _ _ ?_)
          clear _hK_38
          refine W_ret ?_
          clear _hK_17
          exact ret_intro [_] ⟨rfl, trivial⟩ ⟨congrArg Value.bool (by first | exact tt_true ⟨by omega, _h22, by omega, rows_all _ht (by omega)⟩ | exact tt_false (fun e => _h14 (by have _h1 := e.1; have _h2 := e.2.1; omega)) | exact tt_false (fun e => _h22 e.2.1) | exact tt_false (fun e => _h28 (by have _h1 := e.2.2.1; omega)) | exact tt_false (fun e => _h46 (fits_el e.2 _hys34 _hy40)) | exact tt_false (fun e => _h50 (by have _h1 := (fits_row e.2 _hys34).1; omega))), E⟩

/-- impl.IsEmptyAutomaton -/
theorem c_impl_IsEmptyAutomaton {w : World} (aS : Int) {_B_aA : Nat} {_v_aA : Value} {aA : List Bool} (_h_aA : Ls bcs 1 w _B_aA _v_aA aA) {_B_saN : Nat} {_v_saN : Value} {saN : List Sv} (_h_saN : Ls Sv.cs 1 w _B_saN _v_saN saN) {BB_aN : Nat} {aN : List (List Int)} (_rd_aN : Rd ics 1 w BB_aN saN aN) :
    Ctr Try.prog 17 #[(.agg #[(.int .i64 aS), _v_aA, _v_saN])] w (fun v w' => v = .bool (emR aS aA aN) ∧ Ch [] w w') := by
  obtain ⟨_A_aA, _C_aA, _e1_aA⟩ := _h_aA.val
  subst _e1_aA
  have _l_aA := _h_aA.len
  have _h_aA := _h_aA.here (by decide)
  obtain ⟨_A_saN, _C_saN, _e1_saN⟩ := _h_saN.val
  subst _e1_saN
  have _l_saN := _h_saN.len
  have _h_saN := _h_saN.here (by decide)
  have _rd_aN := _rd_aN.here (by decide)
  have _rl_aN := _rd_aN.1
  have E := Ch.refl [] w
  refine Ctr_of_W (N := 14) (vs0 := [(.agg #[(.int .i64 aS), (.slice _A_aA aA.length _C_aA), (.slice _A_saN saN.length _C_saN)])]) Try.func17 rfl rfl rfl ?_
  refine W_seq fun _K_1 _hK_1 => ?_
  refine W_region ?_
  refine WL_s rfl rfl ?_
  refine s_box rfl fun _b1 _w_2 _m1 _cw_2 _e1 => ?_
  have _cw_2z := _cw_2.size
  have E := E.trans _cw_2
  have _z1 := _m1.lt
  replace _m1 : Blk _w_2 _b1 28 [(.int .i64 aS), (.slice _A_aA aA.length _C_aA), (.slice _A_saN saN.length _C_saN)] := _m1
  refine WL_step rfl rfl (r_assign rfl) ?_
  refine WL_nil ?_
  refine thn_nrm (_hK_1 _ _ ?_)
  clear _hK_1
  refine W_seq fun _K_3 _hK_3 => ?_
  refine W_drawC [] 12 mixed rfl fun _w_4 _cw_4 => ?_
  have _cw_4z := _cw_4.size
  have E := E.trans _cw_4
  have _f_5 := (_m1.ch0 _cw_4)
  refine DR_s 0 rfl (by kernel_rfl) rfl rfl (t_loadAtA0 _f_5.at_ (fun i hi => by first | exact absurd hi (List.not_mem_nil) | (have _h1 := List.mem_singleton.1 hi; omega)) agg28 sz28 rfl ?_)
  refine DR_one 1 (by kernel_rfl) ?_
  refine DO_s rfl rfl rfl ?_
  have _f_6 := ((_h_aA.ch0 _cw_2).ch0 _cw_4)
  have _f_7 := ((_rd_aN.ch0 _cw_2).ch0 _cw_4)
  have _f_8 := ((_h_saN.ch0 _cw_2).ch0 _cw_4)
  refine Step.call (r_call (xs := [.tmp 3]) fk53 rfl) (c_impl_IsValidAutomaton _ _f_6 _f_8 _f_7 ) fun _v4 _w_9 _q4 => ?_
  obtain ⟨rfl, _cw_9⟩ := _q4
  have _cw_9z := _cw_9.size
  have E := E.trans _cw_9
  have _S_10 : Ch [] _w_4 _w_9 := ((Ch.refl _ _).trans _cw_9.of_nil)
  refine ⟨_S_10, ?_⟩
  refine DR_s 2 rfl (by kernel_rfl) rfl rfl (t_v (fun _ => (r_move rfl)) ?_)
  refine DR_split (d := 5) rfl (fun _h5 => ?_) (fun _h5 => ?_)
  · have _h5 := bt_t _h5
    refine DR_s 3 rfl (by kernel_rfl) rfl rfl (t_loadAtA0 _f_5.at_ (fun i hi => by first | exact absurd hi (List.not_mem_nil) | (have _h1 := List.mem_singleton.1 hi; omega)) agg28 sz28 rfl ?_)
    refine DR_s 5 rfl (by kernel_rfl) rfl rfl (t_v (fun _ => (r_fieldAddr fa28_0 rfl)) ?_)
    refine DR_s 6 rfl (by kernel_rfl) rfl rfl (t_loadAt _f_5.at_ (fun i hi => by first | exact absurd hi (List.not_mem_nil) | (have _h1 := List.mem_singleton.1 hi; omega)) agg3 rfl rfl ?_)
    refine DR_one 4 (by kernel_rfl) ?_
    refine DO_s rfl rfl rfl ?_
    have _f_11 := (_f_6.ch0 _cw_9)
    have _f_12 := (_f_7.ch0 _cw_9)
    have _f_13 := (_f_8.ch0 _cw_9)
    refine Step.call (r_call (xs := [.tmp 6]) fk54 rfl) (c_impl_Automaton_live _ _f_11 _f_13 _f_12 _h5) fun _v7 _w_14 _q7 => ?_
    obtain ⟨_q7, _lo7, _cw_14⟩ := _q7
    have _cw_14z := _cw_14.size
    have E := E.trans _cw_14
    obtain ⟨_Av7, _Cv7, _ev7⟩ := _q7.val
    subst _ev7
    have _lv7 := _q7.len
    have _hiv7 := _q7.lt
    have _e7 := liveL_len aA aN
    have f7 := _h5.2.1
    have _S_15 : Ch [] _w_4 _w_14 := (_S_10.trans _cw_14.of_nil)
    refine ⟨_S_15, ?_⟩
    refine DR_one 7 (by kernel_rfl) ?_
    refine DO_s rfl rfl rfl ?_
    refine (s_index (j := aS.toNat) _q7.ls bcs_len el22 sz4 rfl rfl (by omega) (by omega) fun _p10 _y10 _hy10 _a10 => ?_)
    refine ⟨_S_15, ?_⟩
    refine DR_one 8 (by kernel_rfl) ?_
    refine DO_s rfl rfl rfl ?_
    refine s_v (r_loadAt0 _a10 agg4 rfl rfl) ?_
    refine ⟨_S_15, ?_⟩
    refine DR_s 9 rfl (by kernel_rfl) rfl rfl (t_v (fun _ => (r_not rfl)) ?_)
    refine DR_s 10 rfl (by kernel_rfl) rfl rfl (t_v (fun _ => (r_pickT rfl rfl)) ?_)
    refine DR_s 11 rfl (by kernel_rfl) rfl rfl (t_v (fun _ => (r_assign rfl)) ?_)
    refine DR_done (by kernel_rfl) ?_
    refine thn_nrm (_hK_3 _ _ ?_)
    clear _hK_3
    refine W_ret ?_
    exact ret_intro [_] ⟨rfl, trivial⟩ ⟨congrArg Value.bool (by first | exact em_y _h5 _hy10 | exact em_n _h5), E⟩
  · have _h5 := bf_t _h5
    refine DR_skip 3 rfl (by kernel_rfl) rfl rfl ?_
    refine DR_skip 4 rfl (by kernel_rfl) rfl rfl ?_
    refine DR_skip 5 rfl (by kernel_rfl) rfl rfl ?_
    refine DR_skip 6 rfl (by kernel_rfl) rfl rfl ?_
    refine DR_skip 7 rfl (by kernel_rfl) rfl rfl ?_
    refine DR_skip 8 rfl (by kernel_rfl) rfl rfl ?_
    refine DR_skip 9 rfl (by kernel_rfl) rfl rfl ?_
    refine DR_s 10 rfl (by kernel_rfl) rfl rfl (t_v (fun _ => (r_pickF rfl rfl)) ?_)
    refine DR_s 11 rfl (by kernel_rfl) rfl rfl (t_v (fun _ => (r_assign rfl)) ?_)
    refine DR_done (by kernel_rfl) ?_
    refine thn_nrm (_hK_3 _ _ ?_)
    clear _hK_3
    refine W_ret ?_
    exact ret_intro [_] ⟨rfl, trivial⟩ ⟨congrArg Value.bool (by first | exact em_y _h5 _hy10 | exact em_n _h5), E⟩

/-- laws.eqBoolS -/
theorem c_laws_eqBoolS {w : World} {_B_a : Nat} {_v_a : Value} {a : List Bool} (_h_a : Ls bcs 1 w _B_a _v_a a) {_B_b : Nat} {_v_b : Value} {b : List Bool} (_h_b : Ls bcs 1 w _B_b _v_b b) :
    Ctr Try.prog 55 #[_v_a, _v_b] w (fun v w' => v = .bool (decide (a = b)) ∧ Ch [] w w') := by
  obtain ⟨_A_a, _C_a, _e1_a⟩ := _h_a.val
  subst _e1_a
  have _l_a := _h_a.len
  have _h_a := _h_a.here (by decide)
  obtain ⟨_A_b, _C_b, _e1_b⟩ := _h_b.val
  subst _e1_b
  have _l_b := _h_b.len
  have _h_b := _h_b.here (by decide)
  have E := Ch.refl [] w
  refine Ctr_of_W (N := 26) (vs0 := [(.slice _A_a a.length _C_a), (.slice _A_b b.length _C_b)]) Try.func55 rfl rfl rfl ?_
  refine W_seq fun _K_1 _hK_1 => ?_
  refine W_region ?_
  refine WL_step rfl rfl (r_assign rfl) ?_
  refine WL_nil ?_
  refine thn_nrm (_hK_1 _ _ ?_)
  clear _hK_1
  refine W_seq fun _K_2 _hK_2 => ?_
  refine W_seq fun _K_3 _hK_3 => ?_
  refine W_region ?_
  refine WL_step rfl rfl (r_move rfl) ?_
  refine WL_step rfl rfl (r_len (by rw [el22]; rfl) rfl) ?_
  refine WL_step rfl rfl (r_move rfl) ?_
  refine WL_step rfl rfl (r_len (by rw [el22]; rfl) rfl) ?_
  refine WL_step rfl rfl (r_neq rfl rfl) ?_
  refine WL_nil ?_
  refine thn_nrm (_hK_3 _ _ ?_)
  clear _hK_3
  refine W_cond rfl (fun _h10 => ?_) (fun _h10 => ?_)
  · have _h10 := bf_d (bt_n _h10)
    refine W_seq fun _K_4 _hK_4 => ?_
    refine W_region ?_
    refine WL_step rfl rfl (r_assign rfl) ?_
    refine WL_nil ?_
    refine thn_nrm (_hK_4 _ _ ?_)
    clear _hK_4
    refine W_ret (thn_ret ?_)
    clear _hK_2
    exact ret_intro [_] ⟨rfl, trivial⟩ ⟨congrArg Value.bool (decide_eq_false (fun e => _h10 (by rw [e]))).symm, E⟩
  · have _h10 := bt_d (bf_n _h10)
    refine W_skip ?_
    refine thn_nrm (_hK_2 _ _ ?_)
    clear _hK_2
    refine W_seq fun _K_5 _hK_5 => ?_
    refine W_seq fun _K_6 _hK_6 => ?_
    refine W_region ?_
    refine WL_step rfl rfl (r_assign rfl) ?_
    refine WL_nil ?_
    refine thn_nrm (_hK_6 _ _ ?_)
    clear _hK_6
    refine W_block ?_
    refine W_loop (σ := Nat) (fun (k : Nat) => [(0, (.slice _A_a a.length _C_a)), (1, (.slice _A_b b.length _C_b)), (5, (.int .i64 ((k : Nat) : Int)))]) (fun (k : Nat) wx => Ch [] w wx ∧ w.heap.size ≤ wx.heap.size ∧ (k ≤ a.length) ∧ (a.take k = b.take k)) (fun (k : Nat) => a.length - k) 0 (Sub.cons rfl (Sub.cons rfl (Sub.cons rfl (Sub.nil _)))) ⟨E, (Nat.le_refl _), (by omega), rfl⟩ ?_
    rintro k _wr_7 ⟨E, _zz0, _hk, _ht⟩
    have _E0h := E
    have _E0hz := _E0h.size
    refine W_seq fun _K_8 _hK_8 => ?_
    refine W_seq fun _K_9 _hK_9 => ?_
    refine W_region ?_
    refine WL_step rfl rfl (r_move rfl) ?_
    refine WL_step rfl rfl (r_move rfl) ?_
    refine WL_step rfl rfl (r_len (by rw [el22]; rfl) rfl) ?_
    refine WL_step rfl rfl (r_lss rfl rfl) ?_
    refine WL_nil ?_
    refine thn_nrm (_hK_9 _ _ ?_)
    clear _hK_9
    refine W_cond rfl (fun _h14 => ?_) (fun _h14 => ?_)
    · have _h14 := bt_d _h14
      refine W_skip ?_
      refine thn_nrm (_hK_8 _ _ ?_)
      clear _hK_8
      refine W_seq fun _K_10 _hK_10 => ?_
      refine W_block ?_
      refine W_seq fun _K_11 _hK_11 => ?_
      refine W_drawC [] 9 mixed rfl fun _w_12 _cw_12 => ?_
      have _cw_12z := _cw_12.size
      have E := E.trans _cw_12
      refine DR_s 0 rfl (by kernel_rfl) rfl rfl (t_v (fun _ => (r_move rfl)) ?_)
      refine DR_s 1 rfl (by kernel_rfl) rfl rfl (t_v (fun _ => (r_move rfl)) ?_)
      have _f_13 := ((_h_a.ch0 _E0h).ch0 _cw_12)
      refine DR_s 2 rfl (by kernel_rfl) rfl rfl (t_index _f_13 bcs_len el22 sz4 rfl rfl rfl (by omega) fun _p19 _y19 _hy19 _a19 => ?_)
      refine DR_s 3 rfl (by kernel_rfl) rfl rfl (t_loadAt0 _a19 (fun i hi => by first | exact absurd hi (List.not_mem_nil) | (have _h1 := List.mem_singleton.1 hi; omega)) agg4 rfl rfl ?_)
      refine DR_s 4 rfl (by kernel_rfl) rfl rfl (t_v (fun _ => (r_move rfl)) ?_)
      refine DR_s 5 rfl (by kernel_rfl) rfl rfl (t_v (fun _ => (r_move rfl)) ?_)
      have _f_14 := ((_h_b.ch0 _E0h).ch0 _cw_12)
      refine DR_s 6 rfl (by kernel_rfl) rfl rfl (t_index _f_14 bcs_len el22 sz4 rfl rfl rfl (by omega) fun _p23 _y23 _hy23 _a23 => ?_)
      refine DR_s 7 rfl (by kernel_rfl) rfl rfl (t_loadAt0 _a23 (fun i hi => by first | exact absurd hi (List.not_mem_nil) | (have _h1 := List.mem_singleton.1 hi; omega)) agg4 rfl rfl ?_)
      refine DR_s 8 rfl (by kernel_rfl) rfl rfl (t_v (fun _ => (r_neqB un4 rfl rfl)) ?_)
      refine DR_done (by kernel_rfl) ?_
      refine thn_nrm (_hK_11 _ _ ?_)
      clear _hK_11
      refine W_cond rfl (fun _h25 => ?_) (fun _h25 => ?_)
      · have _h25 := bf_e (bt_n _h25)
        refine W_seq fun _K_15 _hK_15 => ?_
        refine W_region ?_
        refine WL_step rfl rfl (r_assign rfl) ?_
        refine WL_nil ?_
        refine thn_nrm (_hK_15 _ _ ?_)
        clear _hK_15
        refine W_ret (inB_ret (thn_ret (thn_ret (inB_ret (thn_ret ?_)))))
        clear _hK_5 _hK_10
        exact ret_intro [_] ⟨rfl, trivial⟩ ⟨congrArg Value.bool (decide_eq_false (ne_of_get _hy19 _hy23 _h25)).symm, E⟩
      · have _h25 := bt_e (bf_n _h25)
        refine W_skip ?_
        refine inB_nrm ?_
        refine thn_nrm (_hK_10 _ _ ?_)
        clear _hK_10
        refine W_region ?_
        refine WL_step rfl rfl (r_move rfl) ?_
        refine WL_step rfl rfl (r_add (by omega) rfl rfl) ?_
        refine WL_step rfl rfl (r_assign rfl) ?_
        refine WL_nil ?_
        exact thn_nrm (Exists.intro (k + 1) ⟨⟨E, (by omega), (by omega), (take_eq_succ _ht _hy19 _hy23 _h25)⟩, Sub.cons rfl (Sub.cons rfl (Sub.cons rfl (Sub.nil _))), (by first | omega | (dsimp only; omega))⟩)
    · have _h14 := bf_d _h14
      refine W_exit (thn_exit (thn_exit (inB_hit ?_)))
      refine thn_nrm (_hK_5 _ _ ?_)
      clear _hK_5
      refine W_seq fun _K_16 _hK_16 => ?_
      refine W_region ?_
      refine WL_step rfl rfl (r_assign rfl) ?_
      refine WL_nil ?_
      refine thn_nrm (_hK_16 _ _ ?_)
      clear _hK_16
      refine W_ret ?_
      clear _hK_8
      exact ret_intro [_] ⟨rfl, trivial⟩ ⟨congrArg Value.bool (decide_eq_true (eq_of_take _ht (by omega) (by omega))).symm, E⟩

/-- laws.eqIntS -/
theorem c_laws_eqIntS {w : World} {_B_a : Nat} {_v_a : Value} {a : List Int} (_h_a : Ls ics 1 w _B_a _v_a a) {_B_b : Nat} {_v_b : Value} {b : List Int} (_h_b : Ls ics 1 w _B_b _v_b b) :
    Ctr Try.prog 25 #[_v_a, _v_b] w (fun v w' => v = .bool (decide (a = b)) ∧ Ch [] w w') := by
  obtain ⟨_A_a, _C_a, _e1_a⟩ := _h_a.val
  subst _e1_a
  have _l_a := _h_a.len
  have _h_a := _h_a.here (by decide)
  obtain ⟨_A_b, _C_b, _e1_b⟩ := _h_b.val
  subst _e1_b
  have _l_b := _h_b.len
  have _h_b := _h_b.here (by decide)
  have E := Ch.refl [] w
  refine Ctr_of_W (N := 26) (vs0 := [(.slice _A_a a.length _C_a), (.slice _A_b b.length _C_b)]) Try.func25 rfl rfl rfl ?_
  refine W_seq fun _K_1 _hK_1 => ?_
  refine W_region ?_
  refine WL_step rfl rfl (r_assign rfl) ?_
  refine WL_nil ?_
  refine thn_nrm (_hK_1 _ _ ?_)
  clear _hK_1
  refine W_seq fun _K_2 _hK_2 => ?_
  refine W_seq fun _K_3 _hK_3 => ?_
  refine W_region ?_
  refine WL_step rfl rfl (r_move rfl) ?_
  refine WL_step rfl rfl (r_len (by rw [el32]; rfl) rfl) ?_
  refine WL_step rfl rfl (r_move rfl) ?_
  refine WL_step rfl rfl (r_len (by rw [el32]; rfl) rfl) ?_
  refine WL_step rfl rfl (r_neq rfl rfl) ?_
  refine WL_nil ?_
  refine thn_nrm (_hK_3 _ _ ?_)
  clear _hK_3
  refine W_cond rfl (fun _h10 => ?_) (fun _h10 => ?_)
  · have _h10 := bf_d (bt_n _h10)
    refine W_seq fun _K_4 _hK_4 => ?_
    refine W_region ?_
    refine WL_step rfl rfl (r_assign rfl) ?_
    refine WL_nil ?_
    refine thn_nrm (_hK_4 _ _ ?_)
    clear _hK_4
    refine W_ret (thn_ret ?_)
    clear _hK_2
    exact ret_intro [_] ⟨rfl, trivial⟩ ⟨congrArg Value.bool (decide_eq_false (fun e => _h10 (by rw [e]))).symm, E⟩
  · have _h10 := bt_d (bf_n _h10)
    refine W_skip ?_
    refine thn_nrm (_hK_2 _ _ ?_)
    clear _hK_2
    refine W_seq fun _K_5 _hK_5 => ?_
    refine W_seq fun _K_6 _hK_6 => ?_
    refine W_region ?_
    refine WL_step rfl rfl (r_assign rfl) ?_
    refine WL_nil ?_
    refine thn_nrm (_hK_6 _ _ ?_)
    clear _hK_6
    refine W_block ?_
    refine W_loop (σ := Nat) (fun (k : Nat) => [(0, (.slice _A_a a.length _C_a)), (1, (.slice _A_b b.length _C_b)), (5, (.int .i64 ((k : Nat) : Int)))]) (fun (k : Nat) wx => Ch [] w wx ∧ w.heap.size ≤ wx.heap.size ∧ (k ≤ a.length) ∧ (a.take k = b.take k)) (fun (k : Nat) => a.length - k) 0 (Sub.cons rfl (Sub.cons rfl (Sub.cons rfl (Sub.nil _)))) ⟨E, (Nat.le_refl _), (by omega), rfl⟩ ?_
    rintro k _wr_7 ⟨E, _zz0, _hk, _ht⟩
    have _E0h := E
    have _E0hz := _E0h.size
    refine W_seq fun _K_8 _hK_8 => ?_
    refine W_seq fun _K_9 _hK_9 => ?_
    refine W_region ?_
    refine WL_step rfl rfl (r_move rfl) ?_
    refine WL_step rfl rfl (r_move rfl) ?_
    refine WL_step rfl rfl (r_len (by rw [el32]; rfl) rfl) ?_
    refine WL_step rfl rfl (r_lss rfl rfl) ?_
    refine WL_nil ?_
    refine thn_nrm (_hK_9 _ _ ?_)
    clear _hK_9
    refine W_cond rfl (fun _h14 => ?_) (fun _h14 => ?_)
    · have _h14 := bt_d _h14
      refine W_skip ?_
      refine thn_nrm (_hK_8 _ _ ?_)
      clear _hK_8
      refine W_seq fun _K_10 _hK_10 => ?_
      refine W_block ?_
      refine W_seq fun _K_11 _hK_11 => ?_
      refine W_drawC [] 9 mixed rfl fun _w_12 _cw_12 => ?_
      have _cw_12z := _cw_12.size
      have E := E.trans _cw_12
      refine DR_s 0 rfl (by kernel_rfl) rfl rfl (t_v (fun _ => (r_move rfl)) ?_)
      refine DR_s 1 rfl (by kernel_rfl) rfl rfl (t_v (fun _ => (r_move rfl)) ?_)
      have _f_13 := ((_h_a.ch0 _E0h).ch0 _cw_12)
      refine DR_s 2 rfl (by kernel_rfl) rfl rfl (t_index _f_13 ics_len el32 sz3 rfl rfl rfl (by omega) fun _p19 _y19 _hy19 _a19 => ?_)
      refine DR_s 3 rfl (by kernel_rfl) rfl rfl (t_loadAt0 _a19 (fun i hi => by first | exact absurd hi (List.not_mem_nil) | (have _h1 := List.mem_singleton.1 hi; omega)) agg3 rfl rfl ?_)
      refine DR_s 4 rfl (by kernel_rfl) rfl rfl (t_v (fun _ => (r_move rfl)) ?_)
      refine DR_s 5 rfl (by kernel_rfl) rfl rfl (t_v (fun _ => (r_move rfl)) ?_)
      have _f_14 := ((_h_b.ch0 _E0h).ch0 _cw_12)
      refine DR_s 6 rfl (by kernel_rfl) rfl rfl (t_index _f_14 ics_len el32 sz3 rfl rfl rfl (by omega) fun _p23 _y23 _hy23 _a23 => ?_)
      refine DR_s 7 rfl (by kernel_rfl) rfl rfl (t_loadAt0 _a23 (fun i hi => by first | exact absurd hi (List.not_mem_nil) | (have _h1 := List.mem_singleton.1 hi; omega)) agg3 rfl rfl ?_)
      refine DR_s 8 rfl (by kernel_rfl) rfl rfl (t_v (fun _ => (r_neq rfl rfl)) ?_)
      refine DR_done (by kernel_rfl) ?_
      refine thn_nrm (_hK_11 _ _ ?_)
      clear _hK_11
      refine W_cond rfl (fun _h25 => ?_) (fun _h25 => ?_)
      · have _h25 := bf_d (bt_n _h25)
        refine W_seq fun _K_15 _hK_15 => ?_
        refine W_region ?_
        refine WL_step rfl rfl (r_assign rfl) ?_
        refine WL_nil ?_
        refine thn_nrm (_hK_15 _ _ ?_)
        clear _hK_15
        refine W_ret (inB_ret (thn_ret (thn_ret (inB_ret (thn_ret ?_)))))
        clear _hK_5 _hK_10
        exact ret_intro [_] ⟨rfl, trivial⟩ ⟨congrArg Value.bool (decide_eq_false (ne_of_get _hy19 _hy23 _h25)).symm, E⟩
      · have _h25 := bt_d (bf_n _h25)
        refine W_skip ?_
        refine inB_nrm ?_
        refine thn_nrm (_hK_10 _ _ ?_)
        clear _hK_10
        refine W_region ?_
        refine WL_step rfl rfl (r_move rfl) ?_
        refine WL_step rfl rfl (r_add (by omega) rfl rfl) ?_
        refine WL_step rfl rfl (r_assign rfl) ?_
        refine WL_nil ?_
        exact thn_nrm (Exists.intro (k + 1) ⟨⟨E, (by omega), (by omega), (take_eq_succ _ht _hy19 _hy23 _h25)⟩, Sub.cons rfl (Sub.cons rfl (Sub.cons rfl (Sub.nil _))), (by first | omega | (dsimp only; omega))⟩)
    · have _h14 := bf_d _h14
      refine W_exit (thn_exit (thn_exit (inB_hit ?_)))
      refine thn_nrm (_hK_5 _ _ ?_)
      clear _hK_5
      refine W_seq fun _K_16 _hK_16 => ?_
      refine W_region ?_
      refine WL_step rfl rfl (r_assign rfl) ?_
      refine WL_nil ?_
      refine thn_nrm (_hK_16 _ _ ?_)
      clear _hK_16
      refine W_ret ?_
      clear _hK_8
      exact ret_intro [_] ⟨rfl, trivial⟩ ⟨congrArg Value.bool (decide_eq_true (eq_of_take _ht (by omega) (by omega))).symm, E⟩

/-- laws.eqIntSS -/
theorem c_laws_eqIntSS {w : World} {_B_sa : Nat} {_v_sa : Value} {sa : List Sv} (_h_sa : Ls Sv.cs 1 w _B_sa _v_sa sa) {BB_a : Nat} {a : List (List Int)} (_rd_a : Rd ics 1 w BB_a sa a) {_B_sb : Nat} {_v_sb : Value} {sb : List Sv} (_h_sb : Ls Sv.cs 1 w _B_sb _v_sb sb) {BB_b : Nat} {b : List (List Int)} (_rd_b : Rd ics 1 w BB_b sb b) :
    Ctr Try.prog 56 #[_v_sa, _v_sb] w (fun v w' => v = .bool (decide (a = b)) ∧ Ch [] w w') := by
  obtain ⟨_A_sa, _C_sa, _e1_sa⟩ := _h_sa.val
  subst _e1_sa
  have _l_sa := _h_sa.len
  have _h_sa := _h_sa.here (by decide)
  have _rd_a := _rd_a.here (by decide)
  have _rl_a := _rd_a.1
  obtain ⟨_A_sb, _C_sb, _e1_sb⟩ := _h_sb.val
  subst _e1_sb
  have _l_sb := _h_sb.len
  have _h_sb := _h_sb.here (by decide)
  have _rd_b := _rd_b.here (by decide)
  have _rl_b := _rd_b.1
  have E := Ch.refl [] w
  refine Ctr_of_W (N := 27) (vs0 := [(.slice _A_sa sa.length _C_sa), (.slice _A_sb sb.length _C_sb)]) Try.func56 rfl rfl rfl ?_
  refine W_seq fun _K_1 _hK_1 => ?_
  refine W_region ?_
  refine WL_step rfl rfl (r_assign rfl) ?_
  refine WL_nil ?_
  refine thn_nrm (_hK_1 _ _ ?_)
  clear _hK_1
  refine W_seq fun _K_2 _hK_2 => ?_
  refine W_seq fun _K_3 _hK_3 => ?_
  refine W_region ?_
  refine WL_step rfl rfl (r_move rfl) ?_
  refine WL_step rfl rfl (r_len (by rw [el23]; rfl) rfl) ?_
  refine WL_step rfl rfl (r_move rfl) ?_
  refine WL_step rfl rfl (r_len (by rw [el23]; rfl) rfl) ?_
  refine WL_step rfl rfl (r_neq rfl rfl) ?_
  refine WL_nil ?_
  refine thn_nrm (_hK_3 _ _ ?_)
  clear _hK_3
  refine W_cond rfl (fun _h10 => ?_) (fun _h10 => ?_)
  · have _h10 := bf_d (bt_n _h10)
    refine W_seq fun _K_4 _hK_4 => ?_
    refine W_region ?_
    refine WL_step rfl rfl (r_assign rfl) ?_
    refine WL_nil ?_
    refine thn_nrm (_hK_4 _ _ ?_)
    clear _hK_4
    refine W_ret (thn_ret ?_)
    clear _hK_2
    exact ret_intro [_] ⟨rfl, trivial⟩ ⟨congrArg Value.bool (decide_eq_false (fun e => _h10 (by rw [_rl_a, _rl_b, e]))).symm, E⟩
  · have _h10 := bt_d (bf_n _h10)
    refine W_skip ?_
    refine thn_nrm (_hK_2 _ _ ?_)
    clear _hK_2
    refine W_seq fun _K_5 _hK_5 => ?_
    refine W_seq fun _K_6 _hK_6 => ?_
    refine W_region ?_
    refine WL_step rfl rfl (r_assign rfl) ?_
    refine WL_nil ?_
    refine thn_nrm (_hK_6 _ _ ?_)
    clear _hK_6
    refine W_block ?_
    refine W_loop (σ := Nat) (fun (k : Nat) => [(0, (.slice _A_sa sa.length _C_sa)), (1, (.slice _A_sb sb.length _C_sb)), (5, (.int .i64 ((k : Nat) : Int)))]) (fun (k : Nat) wx => Ch [] w wx ∧ w.heap.size ≤ wx.heap.size ∧ (k ≤ a.length) ∧ (a.take k = b.take k)) (fun (k : Nat) => a.length - k) 0 (Sub.cons rfl (Sub.cons rfl (Sub.cons rfl (Sub.nil _)))) ⟨E, (Nat.le_refl _), (by omega), rfl⟩ ?_
    rintro k _wr_7 ⟨E, _zz0, _hk, _ht⟩
    have _E0h := E
    have _E0hz := _E0h.size
    refine W_seq fun _K_8 _hK_8 => ?_
    refine W_seq fun _K_9 _hK_9 => ?_
    refine W_region ?_
    refine WL_step rfl rfl (r_move rfl) ?_
    refine WL_step rfl rfl (r_move rfl) ?_
    refine WL_step rfl rfl (r_len (by rw [el23]; rfl) rfl) ?_
    refine WL_step rfl rfl (r_lss rfl rfl) ?_
    refine WL_nil ?_
    refine thn_nrm (_hK_9 _ _ ?_)
    clear _hK_9
    refine W_cond rfl (fun _h14 => ?_) (fun _h14 => ?_)
    · have _h14 := bt_d _h14
      refine W_skip ?_
      refine thn_nrm (_hK_8 _ _ ?_)
      clear _hK_8
      refine W_seq fun _K_10 _hK_10 => ?_
      refine W_block ?_
      refine W_seq fun _K_11 _hK_11 => ?_
      refine W_drawC [] 10 mixed rfl fun _w_12 _cw_12 => ?_
      have _cw_12z := _cw_12.size
      have E := E.trans _cw_12
      refine DR_s 0 rfl (by kernel_rfl) rfl rfl (t_v (fun _ => (r_move rfl)) ?_)
      refine DR_s 1 rfl (by kernel_rfl) rfl rfl (t_v (fun _ => (r_move rfl)) ?_)
      have _f_13 := ((_h_sa.ch0 _E0h).ch0 _cw_12)
      have _f_14 := ((_rd_a.ch0 _E0h).ch0 _cw_12)
      refine DR_s 2 rfl (by kernel_rfl) rfl rfl (t_index _f_13 Sv.len el23 sz32 rfl rfl rfl (by omega) fun _p19 _y19 _hy19 _a19 => ?_)
      obtain ⟨_ys19, _hys19, _fs19⟩ := _f_14.get _hy19
      obtain ⟨_A19, _n19, _C19⟩ := _y19
      obtain rfl := _fs19.eqn
      have _l19 := _fs19.len
      replace _fs19 : Ls ics 1 _w_12 w.heap.size (.slice _A19 _ys19.length _C19) _ys19 := _fs19
      replace _a19 : At _w_12 w.heap.size _p19 ([(.slice _A19 _ys19.length _C19)]) := _a19
      refine DR_s 3 rfl (by kernel_rfl) rfl rfl (t_loadAt0 _a19 (fun i hi => by first | exact absurd hi (List.not_mem_nil) | (have _h1 := List.mem_singleton.1 hi; omega)) agg32 rfl rfl ?_)
      refine DR_s 4 rfl (by kernel_rfl) rfl rfl (t_v (fun _ => (r_move rfl)) ?_)
      refine DR_s 5 rfl (by kernel_rfl) rfl rfl (t_v (fun _ => (r_move rfl)) ?_)
      have _f_15 := ((_h_sb.ch0 _E0h).ch0 _cw_12)
      have _f_16 := ((_rd_b.ch0 _E0h).ch0 _cw_12)
      refine DR_s 6 rfl (by kernel_rfl) rfl rfl (t_index _f_15 Sv.len el23 sz32 rfl rfl rfl (by omega) fun _p23 _y23 _hy23 _a23 => ?_)
      obtain ⟨_ys23, _hys23, _fs23⟩ := _f_16.get _hy23
      obtain ⟨_A23, _n23, _C23⟩ := _y23
      obtain rfl := _fs23.eqn
      have _l23 := _fs23.len
      replace _fs23 : Ls ics 1 _w_12 w.heap.size (.slice _A23 _ys23.length _C23) _ys23 := _fs23
      replace _a23 : At _w_12 w.heap.size _p23 ([(.slice _A23 _ys23.length _C23)]) := _a23
      refine DR_s 7 rfl (by kernel_rfl) rfl rfl (t_loadAt0 _a23 (fun i hi => by first | exact absurd hi (List.not_mem_nil) | (have _h1 := List.mem_singleton.1 hi; omega)) agg32 rfl rfl ?_)
      refine DR_one 8 (by kernel_rfl) ?_
      refine DO_s rfl rfl rfl ?_
      refine Step.call (r_call (xs := [.tmp 20, .tmp 24]) fk25 rfl) (c_laws_eqIntS _fs19 _fs23 ) fun _v25 _w_17 _q25 => ?_
      obtain ⟨rfl, _cw_17⟩ := _q25
      have _cw_17z := _cw_17.size
      have E := E.trans _cw_17
      have _S_18 : Ch [] _w_12 _w_17 := ((Ch.refl _ _).trans _cw_17.of_nil)
      refine ⟨_S_18, ?_⟩
      refine DR_s 9 rfl (by kernel_rfl) rfl rfl (t_v (fun _ => (r_not rfl)) ?_)
      refine DR_done (by kernel_rfl) ?_
      refine thn_nrm (_hK_11 _ _ ?_)
      clear _hK_11
      refine W_cond rfl (fun _h26 => ?_) (fun _h26 => ?_)
      · have _h26 := bf_d (bt_n _h26)
        refine W_seq fun _K_19 _hK_19 => ?_
        refine W_region ?_
        refine WL_step rfl rfl (r_assign rfl) ?_
        refine WL_nil ?_
        refine thn_nrm (_hK_19 _ _ ?_)
        clear _hK_19
        refine W_ret (inB_ret (thn_ret (thn_ret (inB_ret (thn_ret ?_)))))
        clear _hK_5 _hK_10
        exact ret_intro [_] ⟨rfl, trivial⟩ ⟨congrArg Value.bool (decide_eq_false (ne_of_get _hys19 _hys23 _h26)).symm, E⟩
      · have _h26 := bt_d (bf_n _h26)
        refine W_skip ?_
        refine inB_nrm ?_
        refine thn_nrm (_hK_10 _ _ ?_)
        clear _hK_10
        refine W_region ?_
        refine WL_step rfl rfl (r_move rfl) ?_
        refine WL_step rfl rfl (r_add (by omega) rfl rfl) ?_
        refine WL_step rfl rfl (r_assign rfl) ?_
        refine WL_nil ?_
        exact thn_nrm (Exists.intro (k + 1) ⟨⟨E, (by omega), (by omega), (take_eq_succ _ht _hys19 _hys23 _h26)⟩, Sub.cons rfl (Sub.cons rfl (Sub.cons rfl (Sub.nil _))), (by first | omega | (dsimp only; omega))⟩)
    · have _h14 := bf_d _h14
      refine W_exit (thn_exit (thn_exit (inB_hit ?_)))
      refine thn_nrm (_hK_5 _ _ ?_)
      clear _hK_5
      refine W_seq fun _K_20 _hK_20 => ?_
      refine W_region ?_
      refine WL_step rfl rfl (r_assign rfl) ?_
      refine WL_nil ?_
      refine thn_nrm (_hK_20 _ _ ?_)
      clear _hK_20
      refine W_ret ?_
      clear _hK_8
      exact ret_intro [_] ⟨rfl, trivial⟩ ⟨congrArg Value.bool (decide_eq_true (eq_of_take _ht (by omega) (by omega))).symm, E⟩

/-- laws.eqAutomaton -/
theorem c_laws_eqAutomaton {w : World} (aS : Int) {_B_aA : Nat} {_v_aA : Value} {aA : List Bool} (_h_aA : Ls bcs 1 w _B_aA _v_aA aA) {_B_saN : Nat} {_v_saN : Value} {saN : List Sv} (_h_saN : Ls Sv.cs 1 w _B_saN _v_saN saN) {BB_aN : Nat} {aN : List (List Int)} (_rd_aN : Rd ics 1 w BB_aN saN aN) (bS : Int) {_B_bA : Nat} {_v_bA : Value} {bA : List Bool} (_h_bA : Ls bcs 1 w _B_bA _v_bA bA) {_B_sbN : Nat} {_v_sbN : Value} {sbN : List Sv} (_h_sbN : Ls Sv.cs 1 w _B_sbN _v_sbN sbN) {BB_bN : Nat} {bN : List (List Int)} (_rd_bN : Rd ics 1 w BB_bN sbN bN) :
    Ctr Try.prog 18 #[(.agg #[(.int .i64 aS), _v_aA, _v_saN]), (.agg #[(.int .i64 bS), _v_bA, _v_sbN])] w (fun v w' => v = .bool (decide (aS = bS ∧ aA = bA ∧ aN = bN)) ∧ Ch [] w w') := by
  obtain ⟨_A_aA, _C_aA, _e1_aA⟩ := _h_aA.val
  subst _e1_aA
  have _l_aA := _h_aA.len
  have _h_aA := _h_aA.here (by decide)
  obtain ⟨_A_saN, _C_saN, _e1_saN⟩ := _h_saN.val
  subst _e1_saN
  have _l_saN := _h_saN.len
  have _h_saN := _h_saN.here (by decide)
  have _rd_aN := _rd_aN.here (by decide)
  have _rl_aN := _rd_aN.1
  obtain ⟨_A_bA, _C_bA, _e1_bA⟩ := _h_bA.val
  subst _e1_bA
  have _l_bA := _h_bA.len
  have _h_bA := _h_bA.here (by decide)
  obtain ⟨_A_sbN, _C_sbN, _e1_sbN⟩ := _h_sbN.val
  subst _e1_sbN
  have _l_sbN := _h_sbN.len
  have _h_sbN := _h_sbN.here (by decide)
  have _rd_bN := _rd_bN.here (by decide)
  have _rl_bN := _rd_bN.1
  have E := Ch.refl [] w
  refine Ctr_of_W (N := 22) (vs0 := [(.agg #[(.int .i64 aS), (.slice _A_aA aA.length _C_aA), (.slice _A_saN saN.length _C_saN)]), (.agg #[(.int .i64 bS), (.slice _A_bA bA.length _C_bA), (.slice _A_sbN sbN.length _C_sbN)])]) Try.func18 rfl rfl rfl ?_
  refine W_seq fun _K_1 _hK_1 => ?_
  refine W_region ?_
  refine WL_s rfl rfl ?_
  refine s_box rfl fun _b2 _w_2 _m2 _cw_2 _e2 => ?_
  have _cw_2z := _cw_2.size
  have E := E.trans _cw_2
  have _z2 := _m2.lt
  replace _m2 : Blk _w_2 _b2 28 [(.int .i64 aS), (.slice _A_aA aA.length _C_aA), (.slice _A_saN saN.length _C_saN)] := _m2
  refine WL_s rfl rfl ?_
  refine s_box rfl fun _b3 _w_3 _m3 _cw_3 _e3 => ?_
  have _cw_3z := _cw_3.size
  have E := E.trans _cw_3
  have _z3 := _m3.lt
  replace _m3 : Blk _w_3 _b3 28 [(.int .i64 bS), (.slice _A_bA bA.length _C_bA), (.slice _A_sbN sbN.length _C_sbN)] := _m3
  refine WL_step rfl rfl (r_assign rfl) ?_
  refine WL_nil ?_
  refine thn_nrm (_hK_1 _ _ ?_)
  clear _hK_1
  refine W_seq fun _K_4 _hK_4 => ?_
  refine W_seq fun _K_5 _hK_5 => ?_
  refine W_region ?_
  refine WL_step rfl rfl (r_fieldAddr fa28_0 rfl) ?_
  have _f_6 := (_m2.ch0 _cw_3)
  refine WL_step rfl rfl (r_loadAt _f_6.at_ agg3 rfl rfl) ?_
  refine WL_step rfl rfl (r_fieldAddr fa28_0 rfl) ?_
  refine WL_step rfl rfl (r_loadAt _m3.at_ agg3 rfl rfl) ?_
  refine WL_step rfl rfl (r_neq rfl rfl) ?_
  refine WL_nil ?_
  refine thn_nrm (_hK_5 _ _ ?_)
  clear _hK_5
  refine W_cond rfl (fun _h9 => ?_) (fun _h9 => ?_)
  · have _h9 := bf_d (bt_n _h9)
    refine W_seq fun _K_7 _hK_7 => ?_
    refine W_region ?_
    refine WL_step rfl rfl (r_assign rfl) ?_
    refine WL_nil ?_
    refine thn_nrm (_hK_7 _ _ ?_)
    clear _hK_7
    refine W_ret (thn_ret ?_)
    clear _hK_4
    exact ret_intro [_] ⟨rfl, trivial⟩ ⟨congrArg Value.bool (by simp_all), E⟩
  · have _h9 := bt_d (bf_n _h9)
    refine W_skip ?_
    refine thn_nrm (_hK_4 _ _ ?_)
    clear _hK_4
    refine W_seq fun _K_8 _hK_8 => ?_
    refine W_seq fun _K_9 _hK_9 => ?_
    refine W_region ?_
    refine WL_step rfl rfl (r_fieldAddr fa28_1 rfl) ?_
    refine WL_step rfl rfl (r_loadAt _f_6.at_ agg22 rfl rfl) ?_
    refine WL_step rfl rfl (r_fieldAddr fa28_1 rfl) ?_
    refine WL_step rfl rfl (r_loadAt _m3.at_ agg22 rfl rfl) ?_
    refine WL_s rfl rfl ?_
    have _f_10 := ((_h_aA.ch0 _cw_2).ch0 _cw_3)
    have _f_11 := ((_h_bA.ch0 _cw_2).ch0 _cw_3)
    refine Step.call (r_call (xs := [.tmp 11, .tmp 13]) fk55 rfl) (c_laws_eqBoolS _f_10 _f_11 ) fun _v14 _w_12 _q14 => ?_
    obtain ⟨rfl, _cw_12⟩ := _q14
    have _cw_12z := _cw_12.size
    have E := E.trans _cw_12
    refine WL_step rfl rfl (r_not rfl) ?_
    refine WL_nil ?_
    refine thn_nrm (_hK_9 _ _ ?_)
    clear _hK_9
    refine W_cond rfl (fun _h15 => ?_) (fun _h15 => ?_)
    · have _h15 := bf_d (bt_n _h15)
      refine W_seq fun _K_13 _hK_13 => ?_
      refine W_region ?_
      refine WL_step rfl rfl (r_assign rfl) ?_
      refine WL_nil ?_
      refine thn_nrm (_hK_13 _ _ ?_)
      clear _hK_13
      refine W_ret (thn_ret ?_)
      clear _hK_8
      exact ret_intro [_] ⟨rfl, trivial⟩ ⟨congrArg Value.bool (by simp_all), E⟩
    · have _h15 := bt_d (bf_n _h15)
      refine W_skip ?_
      refine thn_nrm (_hK_8 _ _ ?_)
      clear _hK_8
      refine W_seq fun _K_14 _hK_14 => ?_
      refine W_seq fun _K_15 _hK_15 => ?_
      refine W_region ?_
      refine WL_step rfl rfl (r_fieldAddr fa28_2 rfl) ?_
      have _f_16 := (_f_6.ch0 _cw_12)
      refine WL_step rfl rfl (r_loadAt _f_16.at_ agg23 rfl rfl) ?_
      refine WL_step rfl rfl (r_fieldAddr fa28_2 rfl) ?_
      have _f_17 := (_m3.ch0 _cw_12)
      refine WL_step rfl rfl (r_loadAt _f_17.at_ agg23 rfl rfl) ?_
      refine WL_s rfl rfl ?_
      have _f_18 := (((_rd_aN.ch0 _cw_2).ch0 _cw_3).ch0 _cw_12)
      have _f_19 := (((_h_saN.ch0 _cw_2).ch0 _cw_3).ch0 _cw_12)
      have _f_20 := (((_rd_bN.ch0 _cw_2).ch0 _cw_3).ch0 _cw_12)
      have _f_21 := (((_h_sbN.ch0 _cw_2).ch0 _cw_3).ch0 _cw_12)
      refine Step.call (r_call (xs := [.tmp 17, .tmp 19]) fk56 rfl) (c_laws_eqIntSS _f_19 _f_18 _f_21 _f_20 ) fun _v20 _w_22 _q20 => ?_
      obtain ⟨rfl, _cw_22⟩ := _q20
      have _cw_22z := _cw_22.size
      have E := E.trans _cw_22
      refine WL_step rfl rfl (r_not rfl) ?_
      refine WL_nil ?_
      refine thn_nrm (_hK_15 _ _ ?_)
      clear _hK_15
      refine W_cond rfl (fun _h21 => ?_) (fun _h21 => ?_)
      · have _h21 := bf_d (bt_n _h21)
        refine W_seq fun _K_23 _hK_23 => ?_
        refine W_region ?_
        refine WL_step rfl rfl (r_assign rfl) ?_
        refine WL_nil ?_
        refine thn_nrm (_hK_23 _ _ ?_)
        clear _hK_23
        refine W_ret (thn_ret ?_)
        clear _hK_14
        exact ret_intro [_] ⟨rfl, trivial⟩ ⟨congrArg Value.bool (by simp_all), E⟩
      · have _h21 := bt_d (bf_n _h21)
        refine W_skip ?_
        refine thn_nrm (_hK_14 _ _ ?_)
        clear _hK_14
        refine W_seq fun _K_24 _hK_24 => ?_
        refine W_region ?_
        refine WL_step rfl rfl (r_assign rfl) ?_
        refine WL_nil ?_
        refine thn_nrm (_hK_24 _ _ ?_)
        clear _hK_24
        refine W_ret ?_
        exact ret_intro [_] ⟨rfl, trivial⟩ ⟨congrArg Value.bool (by simp_all), E⟩

/-- laws.szBoolS -/
theorem c_laws_szBoolS {w : World} {_B_a : Nat} {_v_a : Value} {a : List Bool} (_h_a : Ls bcs 1 w _B_a _v_a a) (left : Int) (hl : left ≤ 1048576) (_h0 : 0 ≤ left) :
    Ctr Try.prog 47 #[_v_a, (.int .i64 left)] w (fun v w' => v = .int .i64 (if left < a.length then -1 else left - a.length) ∧ Ch [] w w') := by
  obtain ⟨_A_a, _C_a, _e1_a⟩ := _h_a.val
  subst _e1_a
  have _l_a := _h_a.len
  have _h_a := _h_a.here (by decide)
  have E := Ch.refl [] w
  refine Ctr_of_W (N := 12) (vs0 := [(.slice _A_a a.length _C_a), (.int .i64 left)]) Try.func47 rfl rfl rfl ?_
  refine W_seq fun _K_1 _hK_1 => ?_
  refine W_region ?_
  refine WL_step rfl rfl (r_assign rfl) ?_
  refine WL_nil ?_
  refine thn_nrm (_hK_1 _ _ ?_)
  clear _hK_1
  refine W_seq fun _K_2 _hK_2 => ?_
  refine W_region ?_
  refine WL_step rfl rfl (r_move rfl) ?_
  refine WL_step rfl rfl (r_move rfl) ?_
  refine WL_step rfl rfl (r_len (by rw [el22]; rfl) rfl) ?_
  refine WL_step rfl rfl (r_sub (by omega) rfl rfl) ?_
  refine WL_step rfl rfl (r_assign rfl) ?_
  refine WL_nil ?_
  refine thn_nrm (_hK_2 _ _ ?_)
  clear _hK_2
  refine W_seq fun _K_3 _hK_3 => ?_
  refine W_seq fun _K_4 _hK_4 => ?_
  refine W_region ?_
  refine WL_step rfl rfl (r_move rfl) ?_
  refine WL_step rfl rfl (r_lss rfl rfl) ?_
  refine WL_nil ?_
  refine thn_nrm (_hK_4 _ _ ?_)
  clear _hK_4
  refine W_cond rfl (fun _h10 => ?_) (fun _h10 => ?_)
  · have _h10 := bt_d _h10
    refine W_seq fun _K_5 _hK_5 => ?_
    refine W_region ?_
    refine WL_step rfl rfl (r_assign rfl) ?_
    refine WL_nil ?_
    refine thn_nrm (_hK_5 _ _ ?_)
    clear _hK_5
    refine W_ret (thn_ret ?_)
    clear _hK_3
    exact ret_intro [_] ⟨rfl, trivial⟩ ⟨congrArg (Value.int .i64) (if_pos (by omega)).symm, E⟩
  · have _h10 := bf_d _h10
    refine W_skip ?_
    refine thn_nrm (_hK_3 _ _ ?_)
    clear _hK_3
    refine W_seq fun _K_6 _hK_6 => ?_
    refine W_region ?_
    refine WL_step rfl rfl (r_move rfl) ?_
    refine WL_step rfl rfl (r_assign rfl) ?_
    refine WL_nil ?_
    refine thn_nrm (_hK_6 _ _ ?_)
    clear _hK_6
    refine W_ret ?_
    exact ret_intro [_] ⟨rfl, trivial⟩ ⟨congrArg (Value.int .i64) (if_neg (by omega)).symm, E⟩

/-- laws.szIntS -/
theorem c_laws_szIntS {w : World} {_B_a : Nat} {_v_a : Value} {a : List Int} (_h_a : Ls ics 1 w _B_a _v_a a) (left : Int) (hl : left ≤ 1048576) (_h0 : 0 ≤ left) :
    Ctr Try.prog 57 #[_v_a, (.int .i64 left)] w (fun v w' => v = .int .i64 (if left < a.length then -1 else left - a.length) ∧ Ch [] w w') := by
  obtain ⟨_A_a, _C_a, _e1_a⟩ := _h_a.val
  subst _e1_a
  have _l_a := _h_a.len
  have _h_a := _h_a.here (by decide)
  have E := Ch.refl [] w
  refine Ctr_of_W (N := 12) (vs0 := [(.slice _A_a a.length _C_a), (.int .i64 left)]) Try.func57 rfl rfl rfl ?_
  refine W_seq fun _K_1 _hK_1 => ?_
  refine W_region ?_
  refine WL_step rfl rfl (r_assign rfl) ?_
  refine WL_nil ?_
  refine thn_nrm (_hK_1 _ _ ?_)
  clear _hK_1
  refine W_seq fun _K_2 _hK_2 => ?_
  refine W_region ?_
  refine WL_step rfl rfl (r_move rfl) ?_
  refine WL_step rfl rfl (r_move rfl) ?_
  refine WL_step rfl rfl (r_len (by rw [el32]; rfl) rfl) ?_
  refine WL_step rfl rfl (r_sub (by omega) rfl rfl) ?_
  refine WL_step rfl rfl (r_assign rfl) ?_
  refine WL_nil ?_
  refine thn_nrm (_hK_2 _ _ ?_)
  clear _hK_2
  refine W_seq fun _K_3 _hK_3 => ?_
  refine W_seq fun _K_4 _hK_4 => ?_
  refine W_region ?_
  refine WL_step rfl rfl (r_move rfl) ?_
  refine WL_step rfl rfl (r_lss rfl rfl) ?_
  refine WL_nil ?_
  refine thn_nrm (_hK_4 _ _ ?_)
  clear _hK_4
  refine W_cond rfl (fun _h10 => ?_) (fun _h10 => ?_)
  · have _h10 := bt_d _h10
    refine W_seq fun _K_5 _hK_5 => ?_
    refine W_region ?_
    refine WL_step rfl rfl (r_assign rfl) ?_
    refine WL_nil ?_
    refine thn_nrm (_hK_5 _ _ ?_)
    clear _hK_5
    refine W_ret (thn_ret ?_)
    clear _hK_3
    exact ret_intro [_] ⟨rfl, trivial⟩ ⟨congrArg (Value.int .i64) (if_pos (by omega)).symm, E⟩
  · have _h10 := bf_d _h10
    refine W_skip ?_
    refine thn_nrm (_hK_3 _ _ ?_)
    clear _hK_3
    refine W_seq fun _K_6 _hK_6 => ?_
    refine W_region ?_
    refine WL_step rfl rfl (r_move rfl) ?_
    refine WL_step rfl rfl (r_assign rfl) ?_
    refine WL_nil ?_
    refine thn_nrm (_hK_6 _ _ ?_)
    clear _hK_6
    refine W_ret ?_
    exact ret_intro [_] ⟨rfl, trivial⟩ ⟨congrArg (Value.int .i64) (if_neg (by omega)).symm, E⟩

/-- laws.szIntSS -/
theorem c_laws_szIntSS {w : World} {_B_sa : Nat} {_v_sa : Value} {sa : List Sv} (_h_sa : Ls Sv.cs 1 w _B_sa _v_sa sa) {BB_a : Nat} {a : List (List Int)} (_rd_a : Rd ics 1 w BB_a sa a) (left : Int) (hl : left ≤ 1048576) (_h0 : 0 ≤ left) :
    Ctr Try.prog 48 #[_v_sa, (.int .i64 left)] w (fun v w' => v = .int .i64 (if left < a.length + a.flatten.length then -1 else left - a.length - a.flatten.length) ∧ Ch [] w w') := by
  obtain ⟨_A_sa, _C_sa, _e1_sa⟩ := _h_sa.val
  subst _e1_sa
  have _l_sa := _h_sa.len
  have _h_sa := _h_sa.here (by decide)
  have _rd_a := _rd_a.here (by decide)
  have _rl_a := _rd_a.1
  have E := Ch.refl [] w
  refine Ctr_of_W (N := 27) (vs0 := [(.slice _A_sa sa.length _C_sa), (.int .i64 left)]) Try.func48 rfl rfl rfl ?_
  refine W_seq fun _K_1 _hK_1 => ?_
  refine W_region ?_
  refine WL_step rfl rfl (r_assign rfl) ?_
  refine WL_nil ?_
  refine thn_nrm (_hK_1 _ _ ?_)
  clear _hK_1
  refine W_seq fun _K_2 _hK_2 => ?_
  refine W_region ?_
  refine WL_step rfl rfl (r_move rfl) ?_
  refine WL_step rfl rfl (r_move rfl) ?_
  refine WL_step rfl rfl (r_len (by rw [el23]; rfl) rfl) ?_
  refine WL_step rfl rfl (r_sub (by omega) rfl rfl) ?_
  refine WL_step rfl rfl (r_assign rfl) ?_
  refine WL_nil ?_
  refine thn_nrm (_hK_2 _ _ ?_)
  clear _hK_2
  refine W_seq fun _K_3 _hK_3 => ?_
  refine W_seq fun _K_4 _hK_4 => ?_
  refine W_region ?_
  refine WL_step rfl rfl (r_move rfl) ?_
  refine WL_step rfl rfl (r_lss rfl rfl) ?_
  refine WL_nil ?_
  refine thn_nrm (_hK_4 _ _ ?_)
  clear _hK_4
  refine W_cond rfl (fun _h11 => ?_) (fun _h11 => ?_)
  · have _h11 := bt_d _h11
    refine W_seq fun _K_5 _hK_5 => ?_
    refine W_region ?_
    refine WL_step rfl rfl (r_assign rfl) ?_
    refine WL_nil ?_
    refine thn_nrm (_hK_5 _ _ ?_)
    clear _hK_5
    refine W_ret (thn_ret ?_)
    clear _hK_3
    exact ret_intro [_] ⟨rfl, trivial⟩ ⟨congrArg (Value.int .i64) (if_pos (by omega)).symm, E⟩
  · have _h11 := bf_d _h11
    refine W_skip ?_
    refine thn_nrm (_hK_3 _ _ ?_)
    clear _hK_3
    refine W_seq fun _K_6 _hK_6 => ?_
    refine W_seq fun _K_7 _hK_7 => ?_
    refine W_region ?_
    refine WL_step rfl rfl (r_assign rfl) ?_
    refine WL_nil ?_
    refine thn_nrm (_hK_7 _ _ ?_)
    clear _hK_7
    refine W_block ?_
    refine W_loop (σ := Nat × Int) (fun ⟨k, m⟩ => [(0, (.slice _A_sa sa.length _C_sa)), (1, (.int .i64 m)), (5, (.int .i64 ((k : Nat) : Int)))]) (fun ⟨k, m⟩ wx => Ch [] w wx ∧ w.heap.size ≤ wx.heap.size ∧ (k ≤ a.length) ∧ (m = left - a.length - (a.take k).flatten.length) ∧ (0 ≤ m)) (fun ⟨k, m⟩ => a.length - k) (0, (left - ((sa.length : Nat) : Int))) (Sub.cons rfl (Sub.cons rfl (Sub.cons rfl (Sub.nil _)))) ⟨E, (Nat.le_refl _), (by omega), (by simp; omega), (by omega)⟩ ?_
    rintro ⟨k, m⟩ _wr_8 ⟨E, _zz0, _hk, hm, hn⟩
    have _E0h := E
    have _E0hz := _E0h.size
    refine W_seq fun _K_9 _hK_9 => ?_
    refine W_seq fun _K_10 _hK_10 => ?_
    refine W_region ?_
    refine WL_step rfl rfl (r_move rfl) ?_
    refine WL_step rfl rfl (r_move rfl) ?_
    refine WL_step rfl rfl (r_len (by rw [el23]; rfl) rfl) ?_
    refine WL_step rfl rfl (r_lss rfl rfl) ?_
    refine WL_nil ?_
    refine thn_nrm (_hK_10 _ _ ?_)
    clear _hK_10
    refine W_cond rfl (fun _h15 => ?_) (fun _h15 => ?_)
    · have _h15 := bt_d _h15
      refine W_skip ?_
      refine thn_nrm (_hK_9 _ _ ?_)
      clear _hK_9
      refine W_seq fun _K_11 _hK_11 => ?_
      refine W_block ?_
      refine W_seq fun _K_12 _hK_12 => ?_
      refine W_region ?_
      refine WL_step rfl rfl (r_move rfl) ?_
      refine WL_step rfl rfl (r_move rfl) ?_
      refine WL_s rfl rfl ?_
      have _f_13 := (_h_sa.ch0 _E0h)
      refine (s_index _f_13 Sv.len el23 sz32 rfl rfl rfl (by omega) fun _p20 _y20 _hy20 _a20 => ?_)
      have _f_14 := (_rd_a.ch0 _E0h)
      obtain ⟨_ys20, _hys20, _fs20⟩ := _f_14.get _hy20
      obtain ⟨_A20, _n20, _C20⟩ := _y20
      obtain rfl := _fs20.eqn
      have _l20 := _fs20.len
      replace _fs20 : Ls ics 1 _wr_8 w.heap.size (.slice _A20 _ys20.length _C20) _ys20 := _fs20
      replace _a20 : At _wr_8 w.heap.size _p20 ([(.slice _A20 _ys20.length _C20)]) := _a20
      refine WL_step rfl rfl (r_loadAt0 _a20 agg32 rfl rfl) ?_
      refine WL_step rfl rfl (r_move rfl) ?_
      refine WL_s rfl rfl ?_
      refine Step.call (r_call (xs := [.tmp 21, .tmp 22]) fk57 rfl) (c_laws_szIntS _fs20 _ (by omega) (by omega)) fun _v23 _w_15 _q23 => ?_
      obtain ⟨rfl, _cw_15⟩ := _q23
      have _cw_15z := _cw_15.size
      have E := E.trans _cw_15
      refine WL_step rfl rfl (r_assign rfl) ?_
      refine WL_nil ?_
      refine thn_nrm (_hK_12 _ _ ?_)
      clear _hK_12
      refine W_seq fun _K_16 _hK_16 => ?_
      refine W_region ?_
      refine WL_step rfl rfl (r_move rfl) ?_
      refine WL_step rfl rfl (r_lss rfl rfl) ?_
      refine WL_nil ?_
      refine thn_nrm (_hK_16 _ _ ?_)
      clear _hK_16
      refine W_cond rfl (fun _h25 => ?_) (fun _h25 => ?_)
      · have _h25 := bt_d _h25
        refine W_seq fun _K_17 _hK_17 => ?_
        refine W_region ?_
        refine WL_step rfl rfl (r_assign rfl) ?_
        refine WL_nil ?_
        refine thn_nrm (_hK_17 _ _ ?_)
        clear _hK_17
        refine W_ret (inB_ret (thn_ret (thn_ret (inB_ret (thn_ret ?_)))))
        clear _hK_6 _hK_11
        exact ret_intro [_] ⟨rfl, trivial⟩ ⟨congrArg (Value.int .i64) (if_pos (by have _h9 := fl_le _hys20; omega)).symm, E⟩
      · have _h25 := bf_d _h25
        refine W_skip ?_
        refine inB_nrm ?_
        refine thn_nrm (_hK_11 _ _ ?_)
        clear _hK_11
        refine W_region ?_
        refine WL_step rfl rfl (r_move rfl) ?_
        refine WL_step rfl rfl (r_add (by omega) rfl rfl) ?_
        refine WL_step rfl rfl (r_assign rfl) ?_
        refine WL_nil ?_
        exact thn_nrm (Exists.intro ((k + 1), if m < _ys20.length then -1 else m - _ys20.length) ⟨⟨E, (by omega), (by omega), (by have _h9 := fl_add _hys20; omega), (by omega)⟩, Sub.cons rfl (Sub.cons rfl (Sub.cons rfl (Sub.nil _))), (by first | omega | (dsimp only; omega))⟩)
    · have _h15 := bf_d _h15
      refine W_exit (thn_exit (thn_exit (inB_hit ?_)))
      refine thn_nrm (_hK_6 _ _ ?_)
      clear _hK_6
      refine W_seq fun _K_18 _hK_18 => ?_
      refine W_region ?_
      refine WL_step rfl rfl (r_move rfl) ?_
      refine WL_step rfl rfl (r_assign rfl) ?_
      refine WL_nil ?_
      refine thn_nrm (_hK_18 _ _ ?_)
      clear _hK_18
      refine W_ret ?_
      clear _hK_9
      exact ret_intro [_] ⟨rfl, trivial⟩ ⟨congrArg (Value.int .i64) (by have _h9 := fl_take (show a.length ≤ k by omega); omega), E⟩

/-- laws.szAutomaton -/
theorem c_laws_szAutomaton {w : World} (aS : Int) {_B_aA : Nat} {_v_aA : Value} {aA : List Bool} (_h_aA : Ls bcs 1 w _B_aA _v_aA aA) {_B_saN : Nat} {_v_saN : Value} {saN : List Sv} (_h_saN : Ls Sv.cs 1 w _B_saN _v_saN saN) {BB_aN : Nat} {aN : List (List Int)} (_rd_aN : Rd ics 1 w BB_aN saN aN) (left : Int) (hl : left ≤ 1048576) (_h0 : 0 ≤ left) :
    Ctr Try.prog 14 #[(.agg #[(.int .i64 aS), _v_aA, _v_saN]), (.int .i64 left)] w (fun v w' => v = .int .i64 (if left < aA.length + aN.length + aN.flatten.length then -1 else left - aA.length - aN.length - aN.flatten.length) ∧ Ch [] w w') := by
  obtain ⟨_A_aA, _C_aA, _e1_aA⟩ := _h_aA.val
  subst _e1_aA
  have _l_aA := _h_aA.len
  have _h_aA := _h_aA.here (by decide)
  obtain ⟨_A_saN, _C_saN, _e1_saN⟩ := _h_saN.val
  subst _e1_saN
  have _l_saN := _h_saN.len
  have _h_saN := _h_saN.here (by decide)
  have _rd_aN := _rd_aN.here (by decide)
  have _rl_aN := _rd_aN.1
  have E := Ch.refl [] w
  refine Ctr_of_W (N := 18) (vs0 := [(.agg #[(.int .i64 aS), (.slice _A_aA aA.length _C_aA), (.slice _A_saN saN.length _C_saN)]), (.int .i64 left)]) Try.func14 rfl rfl rfl ?_
  refine W_seq fun _K_1 _hK_1 => ?_
  refine W_region ?_
  refine WL_s rfl rfl ?_
  refine s_box rfl fun _b2 _w_2 _m2 _cw_2 _e2 => ?_
  have _cw_2z := _cw_2.size
  have E := E.trans _cw_2
  have _z2 := _m2.lt
  replace _m2 : Blk _w_2 _b2 25 [(.int .i64 aS), (.slice _A_aA aA.length _C_aA), (.slice _A_saN saN.length _C_saN)] := _m2
  refine WL_step rfl rfl (r_assign rfl) ?_
  refine WL_nil ?_
  refine thn_nrm (_hK_1 _ _ ?_)
  clear _hK_1
  refine W_seq fun _K_3 _hK_3 => ?_
  refine W_region ?_
  refine WL_step rfl rfl (r_fieldAddr fa25_1 rfl) ?_
  refine WL_step rfl rfl (r_loadAt _m2.at_ agg22 rfl rfl) ?_
  refine WL_step rfl rfl (r_move rfl) ?_
  refine WL_s rfl rfl ?_
  have _f_4 := (_h_aA.ch0 _cw_2)
  refine Step.call (r_call (xs := [.tmp 6, .tmp 7]) fk47 rfl) (c_laws_szBoolS _f_4 _ (by omega) (by omega)) fun _v8 _w_5 _q8 => ?_
  obtain ⟨rfl, _cw_5⟩ := _q8
  have _cw_5z := _cw_5.size
  have E := E.trans _cw_5
  refine WL_step rfl rfl (r_assign rfl) ?_
  refine WL_nil ?_
  refine thn_nrm (_hK_3 _ _ ?_)
  clear _hK_3
  refine W_seq fun _K_6 _hK_6 => ?_
  refine W_seq fun _K_7 _hK_7 => ?_
  refine W_region ?_
  refine WL_step rfl rfl (r_move rfl) ?_
  refine WL_step rfl rfl (r_lss rfl rfl) ?_
  refine WL_nil ?_
  refine thn_nrm (_hK_7 _ _ ?_)
  clear _hK_7
  refine W_cond rfl (fun _h10 => ?_) (fun _h10 => ?_)
  · have _h10 := bt_d _h10
    refine W_seq fun _K_8 _hK_8 => ?_
    refine W_region ?_
    refine WL_step rfl rfl (r_assign rfl) ?_
    refine WL_nil ?_
    refine thn_nrm (_hK_8 _ _ ?_)
    clear _hK_8
    refine W_ret (thn_ret ?_)
    clear _hK_6
    exact ret_intro [_] ⟨rfl, trivial⟩ ⟨congrArg (Value.int .i64) (by omega), E⟩
  · have _h10 := bf_d _h10
    refine W_skip ?_
    refine thn_nrm (_hK_6 _ _ ?_)
    clear _hK_6
    refine W_seq fun _K_9 _hK_9 => ?_
    refine W_region ?_
    refine WL_step rfl rfl (r_fieldAddr fa25_2 rfl) ?_
    have _f_10 := (_m2.ch0 _cw_5)
    refine WL_step rfl rfl (r_loadAt _f_10.at_ agg23 rfl rfl) ?_
    refine WL_step rfl rfl (r_move rfl) ?_
    refine WL_s rfl rfl ?_
    have _f_11 := ((_rd_aN.ch0 _cw_2).ch0 _cw_5)
    have _f_12 := ((_h_saN.ch0 _cw_2).ch0 _cw_5)
    refine Step.call (r_call (xs := [.tmp 12, .tmp 13]) fk48 rfl) (c_laws_szIntSS _f_12 _f_11 _ (by omega) (by omega)) fun _v14 _w_13 _q14 => ?_
    obtain ⟨rfl, _cw_13⟩ := _q14
    have _cw_13z := _cw_13.size
    have E := E.trans _cw_13
    refine WL_step rfl rfl (r_assign rfl) ?_
    refine WL_nil ?_
    refine thn_nrm (_hK_9 _ _ ?_)
    clear _hK_9
    refine W_seq fun _K_14 _hK_14 => ?_
    refine W_seq fun _K_15 _hK_15 => ?_
    refine W_region ?_
    refine WL_step rfl rfl (r_move rfl) ?_
    refine WL_step rfl rfl (r_lss rfl rfl) ?_
    refine WL_nil ?_
    refine thn_nrm (_hK_15 _ _ ?_)
    clear _hK_15
    refine W_cond rfl (fun _h16 => ?_) (fun _h16 => ?_)
    · have _h16 := bt_d _h16
      refine W_seq fun _K_16 _hK_16 => ?_
      refine W_region ?_
      refine WL_step rfl rfl (r_assign rfl) ?_
      refine WL_nil ?_
      refine thn_nrm (_hK_16 _ _ ?_)
      clear _hK_16
      refine W_ret (thn_ret ?_)
      clear _hK_14
      exact ret_intro [_] ⟨rfl, trivial⟩ ⟨congrArg (Value.int .i64) (by omega), E⟩
    · have _h16 := bf_d _h16
      refine W_skip ?_
      refine thn_nrm (_hK_14 _ _ ?_)
      clear _hK_14
      refine W_seq fun _K_17 _hK_17 => ?_
      refine W_region ?_
      refine WL_step rfl rfl (r_move rfl) ?_
      refine WL_step rfl rfl (r_assign rfl) ?_
      refine WL_nil ?_
      refine thn_nrm (_hK_17 _ _ ?_)
      clear _hK_17
      refine W_ret ?_
      exact ret_intro [_] ⟨rfl, trivial⟩ ⟨congrArg (Value.int .i64) (by omega), E⟩

/-- laws.toBoolS -/
theorem c_laws_toBoolS {w : World} {_B_a : Nat} {_v_a : Value} {a : List Bool} (_h_a : Ls bcs 1 w _B_a _v_a a) (hb : a.length ≤ 1048576) :
    Ctr Try.prog 51 #[_v_a] w (fun v w' => Ol bcs 4 1 w' v (a) ∧ Lo w.heap.size v ∧ Ch [] w w') := by
  obtain ⟨_A_a, _C_a, _e1_a⟩ := _h_a.val
  subst _e1_a
  have _l_a := _h_a.len
  have _h_a := _h_a.here (by decide)
  have E := Ch.refl [] w
  refine Ctr_of_W (N := 22) (vs0 := [(.slice _A_a a.length _C_a)]) Try.func51 rfl rfl rfl ?_
  refine W_seq fun _K_1 _hK_1 => ?_
  refine W_region ?_
  refine WL_step rfl rfl (r_assign rfl) ?_
  refine WL_nil ?_
  refine thn_nrm (_hK_1 _ _ ?_)
  clear _hK_1
  refine W_seq fun _K_2 _hK_2 => ?_
  refine W_region ?_
  refine WL_step rfl rfl (r_move rfl) ?_
  refine WL_step rfl rfl (r_len (by rw [el22]; rfl) rfl) ?_
  refine WL_s rfl rfl ?_
  refine s_make (cs := bcs) false el22 sz4 by4 zr4 bcs_len (by decide) rfl rfl (by omega) (by omega) fun _v7 _w_3 _q7 _lo7 _cw_3 => ?_
  have _cw_3z := _cw_3.size
  have E := E.trans _cw_3
  obtain ⟨_Av7, _Cv7, _ev7⟩ := _q7.val
  subst _ev7
  have _lv7 := _q7.len
  have _hiv7 := _q7.lt
  refine WL_step rfl rfl (r_assign rfl) ?_
  refine WL_nil ?_
  refine thn_nrm (_hK_2 _ _ ?_)
  clear _hK_2
  refine W_seq fun _K_4 _hK_4 => ?_
  refine W_seq fun _K_5 _hK_5 => ?_
  refine W_region ?_
  refine WL_step rfl rfl (r_assign rfl) ?_
  refine WL_nil ?_
  refine thn_nrm (_hK_5 _ _ ?_)
  clear _hK_5
  refine W_block ?_
  have _oi_6 : Ol bcs 4 1 _w_3 (.slice _Av7 ((List.replicate a.length false)).length _Cv7) (a.take 0 ++ List.replicate (a.length - 0) false) := by
    have hx := _q7
    simpa using hx
  refine W_loop (σ := Nat) (fun (k : Nat) => [(0, (.slice _A_a a.length _C_a)), (2, (.slice none 0 0)), (3, (.slice _Av7 ((List.replicate a.length false)).length _Cv7)), (4, (.int .i64 ((k : Nat) : Int)))]) (fun (k : Nat) wx => Ch [] w wx ∧ _w_3.heap.size ≤ wx.heap.size ∧ (k ≤ a.length) ∧ Ol bcs 4 1 wx (.slice _Av7 ((List.replicate a.length false)).length _Cv7) (a.take k ++ List.replicate (a.length - k) false)) (fun (k : Nat) => a.length - k) 0 (Sub.cons rfl (Sub.cons rfl (Sub.cons rfl (Sub.cons rfl (Sub.nil _))))) ⟨E, (Nat.le_refl _), (by omega), _oi_6⟩ ?_
  rintro k _wr_7 ⟨E, _zz0, _hk, _o0_3⟩
  have _E0h := E
  have _E0hz := _E0h.size
  refine W_seq fun _K_8 _hK_8 => ?_
  refine W_seq fun _K_9 _hK_9 => ?_
  refine W_region ?_
  refine WL_step rfl rfl (r_move rfl) ?_
  refine WL_step rfl rfl (r_move rfl) ?_
  refine WL_step rfl rfl (r_len (by rw [el22]; rfl) rfl) ?_
  refine WL_step rfl rfl (r_lss rfl rfl) ?_
  refine WL_nil ?_
  refine thn_nrm (_hK_9 _ _ ?_)
  clear _hK_9
  refine W_cond rfl (fun _h11 => ?_) (fun _h11 => ?_)
  · have _h11 := bt_d _h11
    refine W_skip ?_
    refine thn_nrm (_hK_8 _ _ ?_)
    clear _hK_8
    refine W_seq fun _K_10 _hK_10 => ?_
    refine W_block ?_
    refine W_region ?_
    refine WL_step rfl rfl (r_move rfl) ?_
    refine WL_step rfl rfl (r_move rfl) ?_
    refine WL_step rfl rfl (r_move rfl) ?_
    refine WL_step rfl rfl (r_move rfl) ?_
    refine WL_s rfl rfl ?_
    have _f_11 := (_h_a.ch0 _E0h)
    refine (s_index _f_11 bcs_len el22 sz4 rfl rfl rfl (by omega) fun _p18 _y18 _hy18 _a18 => ?_)
    refine WL_step rfl rfl (r_loadAt0 _a18 agg4 rfl rfl) ?_
    refine WL_s rfl rfl ?_
    refine s_indexO (j := k) _o0_3 el22 sz4 rfl rfl rfl (by simp; omega) fun _g20 _o20 _cp20 _q20 => ?_
    refine WL_s rfl rfl ?_
    refine s_storeO (j := k) _y18 _o0_3 _q20 bcs_len sz4 rfl rfl rfl rfl (by simp; omega) fun _w_12 _o_13 _cw_12 => ?_
    have _cw_12z := _cw_12.size
    have E := E.step _cw_12 (fun i hi => .inl (by have _h1 := _lo7 _ hi; omega))
    refine WL_nil ?_
    refine inB_nrm ?_
    refine thn_nrm (_hK_10 _ _ ?_)
    clear _hK_10
    refine W_region ?_
    refine WL_step rfl rfl (r_move rfl) ?_
    refine WL_step rfl rfl (r_add (by omega) rfl rfl) ?_
    refine WL_step rfl rfl (r_assign rfl) ?_
    refine WL_nil ?_
    have _on_14 : Ol bcs 4 1 _w_12 (.slice _Av7 ((List.replicate a.length false)).length _Cv7) (a.take (k + 1) ++ List.replicate (a.length - (k + 1)) false) := by
      have hx := _o_13
      rwa [fill_step a false _hy18] at hx
    exact thn_nrm (Exists.intro (k + 1) ⟨⟨E, (by omega), (by omega), _on_14⟩, Sub.cons rfl (Sub.cons rfl (Sub.cons rfl (Sub.cons rfl (Sub.nil _)))), (by first | omega | (dsimp only; omega))⟩)
  · have _h11 := bf_d _h11
    refine W_exit (thn_exit (thn_exit (inB_hit ?_)))
    refine thn_nrm (_hK_4 _ _ ?_)
    clear _hK_4
    refine W_seq fun _K_15 _hK_15 => ?_
    refine W_region ?_
    refine WL_step rfl rfl (r_move rfl) ?_
    refine WL_step rfl rfl (r_assign rfl) ?_
    refine WL_nil ?_
    refine thn_nrm (_hK_15 _ _ ?_)
    clear _hK_15
    refine W_ret ?_
    clear _hK_8
    have _o_16 : Ol bcs 4 1 _wr_7 (.slice _Av7 ((List.replicate a.length false)).length _Cv7) (a) := by
      have hx := _o0_3
      simpa [List.take_of_length_le (show a.length ≤ k by omega), show a.length - k = 0 by omega] using hx
    exact ret_intro [_] ⟨rfl, trivial⟩ ⟨_o_16, Lo.down _lo7 (by omega), E⟩

/-- laws.toIntS -/
theorem c_laws_toIntS {w : World} {_B_a : Nat} {_v_a : Value} {a : List Int} (_h_a : Ls ics 1 w _B_a _v_a a) (hb : a.length ≤ 1048576) :
    Ctr Try.prog 22 #[_v_a] w (fun v w' => Ol ics 3 1 w' v (a) ∧ Lo w.heap.size v ∧ Ch [] w w') := by
  obtain ⟨_A_a, _C_a, _e1_a⟩ := _h_a.val
  subst _e1_a
  have _l_a := _h_a.len
  have _h_a := _h_a.here (by decide)
  have E := Ch.refl [] w
  refine Ctr_of_W (N := 22) (vs0 := [(.slice _A_a a.length _C_a)]) Try.func22 rfl rfl rfl ?_
  refine W_seq fun _K_1 _hK_1 => ?_
  refine W_region ?_
  refine WL_step rfl rfl (r_assign rfl) ?_
  refine WL_nil ?_
  refine thn_nrm (_hK_1 _ _ ?_)
  clear _hK_1
  refine W_seq fun _K_2 _hK_2 => ?_
  refine W_region ?_
  refine WL_step rfl rfl (r_move rfl) ?_
  refine WL_step rfl rfl (r_len (by rw [el32]; rfl) rfl) ?_
  refine WL_s rfl rfl ?_
  refine s_make (cs := ics) (0 : Int) el32 sz3 by3 zr3 ics_len (by decide) rfl rfl (by omega) (by omega) fun _v7 _w_3 _q7 _lo7 _cw_3 => ?_
  have _cw_3z := _cw_3.size
  have E := E.trans _cw_3
  obtain ⟨_Av7, _Cv7, _ev7⟩ := _q7.val
  subst _ev7
  have _lv7 := _q7.len
  have _hiv7 := _q7.lt
  refine WL_step rfl rfl (r_assign rfl) ?_
  refine WL_nil ?_
  refine thn_nrm (_hK_2 _ _ ?_)
  clear _hK_2
  refine W_seq fun _K_4 _hK_4 => ?_
  refine W_seq fun _K_5 _hK_5 => ?_
  refine W_region ?_
  refine WL_step rfl rfl (r_assign rfl) ?_
  refine WL_nil ?_
  refine thn_nrm (_hK_5 _ _ ?_)
  clear _hK_5
  refine W_block ?_
  have _oi_6 : Ol ics 3 1 _w_3 (.slice _Av7 ((List.replicate a.length (0 : Int))).length _Cv7) (a.take 0 ++ List.replicate (a.length - 0) (0 : Int)) := by
    have hx := _q7
    simpa using hx
  refine W_loop (σ := Nat) (fun (k : Nat) => [(0, (.slice _A_a a.length _C_a)), (2, (.slice none 0 0)), (3, (.slice _Av7 ((List.replicate a.length (0 : Int))).length _Cv7)), (4, (.int .i64 ((k : Nat) : Int)))]) (fun (k : Nat) wx => Ch [] w wx ∧ _w_3.heap.size ≤ wx.heap.size ∧ (k ≤ a.length) ∧ Ol ics 3 1 wx (.slice _Av7 ((List.replicate a.length (0 : Int))).length _Cv7) (a.take k ++ List.replicate (a.length - k) (0 : Int))) (fun (k : Nat) => a.length - k) 0 (Sub.cons rfl (Sub.cons rfl (Sub.cons rfl (Sub.cons rfl (Sub.nil _))))) ⟨E, (Nat.le_refl _), (by omega), _oi_6⟩ ?_
  rintro k _wr_7 ⟨E, _zz0, _hk, _o0_3⟩
  have _E0h := E
  have _E0hz := _E0h.size
  refine W_seq fun _K_8 _hK_8 => ?_
  refine W_seq fun _K_9 _hK_9 => ?_
  refine W_region ?_
  refine WL_step rfl rfl (r_move rfl) ?_
  refine WL_step rfl rfl (r_move rfl) ?_
  refine WL_step rfl rfl (r_len (by rw [el32]; rfl) rfl) ?_
  refine WL_step rfl rfl (r_lss rfl rfl) ?_
  refine WL_nil ?_
  refine thn_nrm (_hK_9 _ _ ?_)
  clear _hK_9
  refine W_cond rfl (fun _h11 => ?_) (fun _h11 => ?_)
  · have _h11 := bt_d _h11
    refine W_skip ?_
    refine thn_nrm (_hK_8 _ _ ?_)
    clear _hK_8
    refine W_seq fun _K_10 _hK_10 => ?_
    refine W_block ?_
    refine W_region ?_
    refine WL_step rfl rfl (r_move rfl) ?_
    refine WL_step rfl rfl (r_move rfl) ?_
    refine WL_step rfl rfl (r_move rfl) ?_
    refine WL_step rfl rfl (r_move rfl) ?_
    refine WL_s rfl rfl ?_
    have _f_11 := (_h_a.ch0 _E0h)
    refine (s_index _f_11 ics_len el32 sz3 rfl rfl rfl (by omega) fun _p18 _y18 _hy18 _a18 => ?_)
    refine WL_step rfl rfl (r_loadAt0 _a18 agg3 rfl rfl) ?_
    refine WL_s rfl rfl ?_
    refine s_indexO (j := k) _o0_3 el32 sz3 rfl rfl rfl (by simp; omega) fun _g20 _o20 _cp20 _q20 => ?_
    refine WL_s rfl rfl ?_
    refine s_storeO (j := k) _y18 _o0_3 _q20 ics_len sz3 rfl rfl rfl rfl (by simp; omega) fun _w_12 _o_13 _cw_12 => ?_
    have _cw_12z := _cw_12.size
    have E := E.step _cw_12 (fun i hi => .inl (by have _h1 := _lo7 _ hi; omega))
    refine WL_nil ?_
    refine inB_nrm ?_
    refine thn_nrm (_hK_10 _ _ ?_)
    clear _hK_10
    refine W_region ?_
    refine WL_step rfl rfl (r_move rfl) ?_
    refine WL_step rfl rfl (r_add (by omega) rfl rfl) ?_
    refine WL_step rfl rfl (r_assign rfl) ?_
    refine WL_nil ?_
    have _on_14 : Ol ics 3 1 _w_12 (.slice _Av7 ((List.replicate a.length (0 : Int))).length _Cv7) (a.take (k + 1) ++ List.replicate (a.length - (k + 1)) (0 : Int)) := by
      have hx := _o_13
      rwa [fill_step a (0 : Int) _hy18] at hx
    exact thn_nrm (Exists.intro (k + 1) ⟨⟨E, (by omega), (by omega), _on_14⟩, Sub.cons rfl (Sub.cons rfl (Sub.cons rfl (Sub.cons rfl (Sub.nil _)))), (by first | omega | (dsimp only; omega))⟩)
  · have _h11 := bf_d _h11
    refine W_exit (thn_exit (thn_exit (inB_hit ?_)))
    refine thn_nrm (_hK_4 _ _ ?_)
    clear _hK_4
    refine W_seq fun _K_15 _hK_15 => ?_
    refine W_region ?_
    refine WL_step rfl rfl (r_move rfl) ?_
    refine WL_step rfl rfl (r_assign rfl) ?_
    refine WL_nil ?_
    refine thn_nrm (_hK_15 _ _ ?_)
    clear _hK_15
    refine W_ret ?_
    clear _hK_8
    have _o_16 : Ol ics 3 1 _wr_7 (.slice _Av7 ((List.replicate a.length (0 : Int))).length _Cv7) (a) := by
      have hx := _o0_3
      simpa [List.take_of_length_le (show a.length ≤ k by omega), show a.length - k = 0 by omega] using hx
    exact ret_intro [_] ⟨rfl, trivial⟩ ⟨_o_16, Lo.down _lo7 (by omega), E⟩

/-- laws.toIntSS -/
theorem c_laws_toIntSS {w : World} {_B_sa : Nat} {_v_sa : Value} {sa : List Sv} (_h_sa : Ls Sv.cs 1 w _B_sa _v_sa sa) {BB_a : Nat} {a : List (List Int)} (_rd_a : Rd ics 1 w BB_a sa a) (hb : a.length + a.flatten.length ≤ 1048576) :
    Ctr Try.prog 52 #[_v_sa] w (fun v w' => ∃ vs, Ol Sv.cs 32 1 w' v vs ∧ Lo w.heap.size v ∧ Od ics 3 1 w' w.heap.size w'.heap.size vs (a) ∧ Ch [] w w') := by
  obtain ⟨_A_sa, _C_sa, _e1_sa⟩ := _h_sa.val
  subst _e1_sa
  have _l_sa := _h_sa.len
  have _h_sa := _h_sa.here (by decide)
  have _rd_a := _rd_a.here (by decide)
  have _rl_a := _rd_a.1
  have E := Ch.refl [] w
  refine Ctr_of_W (N := 23) (vs0 := [(.slice _A_sa sa.length _C_sa)]) Try.func52 rfl rfl rfl ?_
  refine W_seq fun _K_1 _hK_1 => ?_
  refine W_region ?_
  refine WL_step rfl rfl (r_assign rfl) ?_
  refine WL_nil ?_
  refine thn_nrm (_hK_1 _ _ ?_)
  clear _hK_1
  refine W_seq fun _K_2 _hK_2 => ?_
  refine W_region ?_
  refine WL_step rfl rfl (r_move rfl) ?_
  refine WL_step rfl rfl (r_len (by rw [el23]; rfl) rfl) ?_
  refine WL_s rfl rfl ?_
  refine s_make (cs := Sv.cs) (⟨none, 0, 0⟩ : Sv) el23 sz32 by32 zr32 Sv.len (by decide) rfl rfl (by omega) (by omega) fun _v7 _w_3 _q7 _lo7 _cw_3 => ?_
  have _cw_3z := _cw_3.size
  have E := E.trans _cw_3
  obtain ⟨_Av7, _Cv7, _ev7⟩ := _q7.val
  subst _ev7
  have _lv7 := _q7.len
  have _hiv7 := _q7.lt
  refine WL_step rfl rfl (r_assign rfl) ?_
  refine WL_nil ?_
  refine thn_nrm (_hK_2 _ _ ?_)
  clear _hK_2
  refine W_seq fun _K_4 _hK_4 => ?_
  refine W_seq fun _K_5 _hK_5 => ?_
  refine W_region ?_
  refine WL_step rfl rfl (r_assign rfl) ?_
  refine WL_nil ?_
  refine thn_nrm (_hK_5 _ _ ?_)
  clear _hK_5
  refine W_block ?_
  have _oi_6 : Ol Sv.cs 32 1 _w_3 (.slice _Av7 ((List.replicate sa.length (⟨none, 0, 0⟩ : Sv))).length _Cv7) (([] : List Sv) ++ List.replicate (a.length - 0) (⟨none, 0, 0⟩ : Sv)) := by
    have hx := _q7
    simpa [_rl_a] using hx
  refine W_loop (σ := Nat × List Sv) (fun ⟨k, vs⟩ => [(0, (.slice _A_sa sa.length _C_sa)), (2, (.slice none 0 0)), (3, (.slice _Av7 ((List.replicate sa.length (⟨none, 0, 0⟩ : Sv))).length _Cv7)), (4, (.int .i64 ((k : Nat) : Int)))]) (fun ⟨k, vs⟩ wx => Ch [] w wx ∧ _w_3.heap.size ≤ wx.heap.size ∧ (k ≤ a.length) ∧ (vs.length = k) ∧ Ol Sv.cs 32 1 wx (.slice _Av7 ((List.replicate sa.length (⟨none, 0, 0⟩ : Sv))).length _Cv7) (vs ++ List.replicate (a.length - k) (⟨none, 0, 0⟩ : Sv)) ∧ Od ics 3 1 wx _w_3.heap.size wx.heap.size vs (a.take k)) (fun ⟨k, vs⟩ => a.length - k) (0, ([] : List Sv)) (Sub.cons rfl (Sub.cons rfl (Sub.cons rfl (Sub.cons rfl (Sub.nil _))))) ⟨E, (Nat.le_refl _), (by omega), rfl, _oi_6, Od.nil⟩ ?_
  rintro ⟨k, vs⟩ _wr_7 ⟨E, _zz0, _hk, hv, _o0_3, od⟩
  have _E0h := E
  have _E0hz := _E0h.size
  refine W_seq fun _K_8 _hK_8 => ?_
  refine W_seq fun _K_9 _hK_9 => ?_
  refine W_region ?_
  refine WL_step rfl rfl (r_move rfl) ?_
  refine WL_step rfl rfl (r_move rfl) ?_
  refine WL_step rfl rfl (r_len (by rw [el23]; rfl) rfl) ?_
  refine WL_step rfl rfl (r_lss rfl rfl) ?_
  refine WL_nil ?_
  refine thn_nrm (_hK_9 _ _ ?_)
  clear _hK_9
  refine W_cond rfl (fun _h11 => ?_) (fun _h11 => ?_)
  · have _h11 := bt_d _h11
    refine W_skip ?_
    refine thn_nrm (_hK_8 _ _ ?_)
    clear _hK_8
    refine W_seq fun _K_10 _hK_10 => ?_
    refine W_block ?_
    refine W_region ?_
    refine WL_step rfl rfl (r_move rfl) ?_
    refine WL_step rfl rfl (r_move rfl) ?_
    refine WL_step rfl rfl (r_move rfl) ?_
    refine WL_step rfl rfl (r_move rfl) ?_
    refine WL_s rfl rfl ?_
    have _f_11 := (_h_sa.ch0 _E0h)
    refine (s_index _f_11 Sv.len el23 sz32 rfl rfl rfl (by omega) fun _p18 _y18 _hy18 _a18 => ?_)
    have _f_12 := (_rd_a.ch0 _E0h)
    obtain ⟨_ys18, _hys18, _fs18⟩ := _f_12.get _hy18
    obtain ⟨_A18, _n18, _C18⟩ := _y18
    obtain rfl := _fs18.eqn
    have _l18 := _fs18.len
    replace _fs18 : Ls ics 1 _wr_7 w.heap.size (.slice _A18 _ys18.length _C18) _ys18 := _fs18
    replace _a18 : At _wr_7 w.heap.size _p18 ([(.slice _A18 _ys18.length _C18)]) := _a18
    refine WL_step rfl rfl (r_loadAt0 _a18 agg32 rfl rfl) ?_
    refine WL_s rfl rfl ?_
    refine Step.call (r_call (xs := [.tmp 19]) fk22 rfl) (c_laws_toIntS _fs18 (by have _h9 := fl_le _hys18; omega)) fun _v20 _w_13 _q20 => ?_
    obtain ⟨_q20, _lo20, _cw_13⟩ := _q20
    have _cw_13z := _cw_13.size
    have E := E.trans _cw_13
    obtain ⟨_Av20, _Cv20, _ev20⟩ := _q20.val
    subst _ev20
    have _lv20 := _q20.len
    have _hiv20 := _q20.lt
    refine WL_s rfl rfl ?_
    have _f_14 := (_o0_3.ch0 _cw_13)
    refine s_indexO (j := k) _f_14 el23 sz32 rfl rfl rfl (by simp; omega) fun _g21 _o21 _cp21 _q21 => ?_
    refine WL_s rfl rfl ?_
    refine s_storeO (j := k) (⟨_Av20, (_ys18).length, _Cv20⟩ : Sv) _f_14 _q21 Sv.len sz32 rfl rfl rfl rfl (by simp; omega) fun _w_15 _o_16 _cw_15 => ?_
    have _cw_15z := _cw_15.size
    have E := E.step _cw_15 (fun i hi => .inl (by have _h1 := _lo7 _ hi; omega))
    refine WL_nil ?_
    refine inB_nrm ?_
    refine thn_nrm (_hK_10 _ _ ?_)
    clear _hK_10
    refine W_region ?_
    refine WL_step rfl rfl (r_move rfl) ?_
    refine WL_step rfl rfl (r_add (by omega) rfl rfl) ?_
    refine WL_step rfl rfl (r_assign rfl) ?_
    refine WL_nil ?_
    have _on_17 : Ol Sv.cs 32 1 _w_15 (.slice _Av7 ((List.replicate sa.length (⟨none, 0, 0⟩ : Sv))).length _Cv7) ((vs ++ [(⟨_Av20, (_ys18).length, _Cv20⟩ : Sv)]) ++ List.replicate (a.length - (k + 1)) (⟨none, 0, 0⟩ : Sv)) := by
      have hx := _o_16
      rwa [fill_sv hv (by omega)] at hx
    have _f_18 := ((od.ch0 _cw_13).ch _cw_15 (fun i hm => by have _h1 := _lo7 _ hm; have _h2 := _hiv7 _ hm; omega))
    have _f_19 := (_q20.ch _cw_15 (fun g hg hm => by have _h1 := _lo7 _ hm; have _h2 := _hiv7 _ hm; have _h3 := _lo20 _ hg; have _h4 := _hiv20 _ hg; omega))
    exact thn_nrm (Exists.intro ((k + 1), (vs ++ [(⟨_Av20, (_ys18).length, _Cv20⟩ : Sv)])) ⟨⟨E, (by omega), (by omega), (by simp [hv]), _on_17, (by rw [take_snoc _hys18]; exact Od.snoc _f_18 _f_19 (Lo.down _lo20 (by omega)) (fun g hg => by have _h1 := _hiv20 g hg; omega) (by omega) (by omega))⟩, Sub.cons rfl (Sub.cons rfl (Sub.cons rfl (Sub.cons rfl (Sub.nil _)))), (by first | omega | (dsimp only; omega))⟩)
  · have _h11 := bf_d _h11
    refine W_exit (thn_exit (thn_exit (inB_hit ?_)))
    refine thn_nrm (_hK_4 _ _ ?_)
    clear _hK_4
    refine W_seq fun _K_20 _hK_20 => ?_
    refine W_region ?_
    refine WL_step rfl rfl (r_move rfl) ?_
    refine WL_step rfl rfl (r_assign rfl) ?_
    refine WL_nil ?_
    refine thn_nrm (_hK_20 _ _ ?_)
    clear _hK_20
    refine W_ret ?_
    clear _hK_8
    have _o_21 : Ol Sv.cs 32 1 _wr_7 (.slice _Av7 ((List.replicate sa.length (⟨none, 0, 0⟩ : Sv))).length _Cv7) vs := by
      have hx := _o0_3
      simpa [show a.length - k = 0 by omega, show sa.length - k = 0 by omega] using hx
    have _o_22 : Od ics 3 1 _wr_7 w.heap.size _wr_7.heap.size vs (a) := by
      have hx := od.up (lo' := w.heap.size) (hi' := _wr_7.heap.size) (by omega) (by omega)
      rwa [List.take_of_length_le (by omega)] at hx
    exact ret_intro [_] ⟨rfl, trivial⟩ ⟨vs, _o_21, (Lo.down _lo7 (by omega)), _o_22, E⟩

/-- laws.toAutomaton -/
theorem c_laws_toAutomaton {w : World} (aS : Int) {_B_aA : Nat} {_v_aA : Value} {aA : List Bool} (_h_aA : Ls bcs 1 w _B_aA _v_aA aA) {_B_saN : Nat} {_v_saN : Value} {saN : List Sv} (_h_saN : Ls Sv.cs 1 w _B_saN _v_saN saN) {BB_aN : Nat} {aN : List (List Int)} (_rd_aN : Rd ics 1 w BB_aN saN aN) (hb : aA.length + aN.length + aN.flatten.length ≤ 1048576) :
    Ctr Try.prog 16 #[(.agg #[(.int .i64 aS), _v_aA, _v_saN])] w (fun v w' => ∃ _u1 _u2 vs, v = .agg #[.int .i64 (aS), _u1, _u2] ∧ Ol bcs 4 1 w' _u1 (aA) ∧ Lo w.heap.size _u1 ∧ Ol Sv.cs 32 1 w' _u2 vs ∧ Lo w.heap.size _u2 ∧ Od ics 3 1 w' w.heap.size w'.heap.size vs (aN) ∧ Ch [] w w') := by
  obtain ⟨_A_aA, _C_aA, _e1_aA⟩ := _h_aA.val
  subst _e1_aA
  have _l_aA := _h_aA.len
  have _h_aA := _h_aA.here (by decide)
  obtain ⟨_A_saN, _C_saN, _e1_saN⟩ := _h_saN.val
  subst _e1_saN
  have _l_saN := _h_saN.len
  have _h_saN := _h_saN.here (by decide)
  have _rd_aN := _rd_aN.here (by decide)
  have _rl_aN := _rd_aN.1
  have E := Ch.refl [] w
  refine Ctr_of_W (N := 16) (vs0 := [(.agg #[(.int .i64 aS), (.slice _A_aA aA.length _C_aA), (.slice _A_saN saN.length _C_saN)])]) Try.func16 rfl rfl rfl ?_
  refine W_seq fun _K_1 _hK_1 => ?_
  refine W_region ?_
  refine WL_s rfl rfl ?_
  refine s_box rfl fun _b1 _w_2 _m1 _cw_2 _e1 => ?_
  have _cw_2z := _cw_2.size
  have E := E.trans _cw_2
  have _z1 := _m1.lt
  replace _m1 : Blk _w_2 _b1 25 [(.int .i64 aS), (.slice _A_aA aA.length _C_aA), (.slice _A_saN saN.length _C_saN)] := _m1
  refine WL_s rfl rfl ?_
  refine s_alloc zr28 fun _b2 _w_3 _m2 _cw_3 _e2 => ?_
  have _cw_3z := _cw_3.size
  have E := E.trans _cw_3
  have _z2 := _m2.lt
  replace _m2 : Blk _w_3 _b2 28 [(.int .i64 0), (.slice none 0 0), (.slice none 0 0)] := _m2
  refine WL_nil ?_
  refine thn_nrm (_hK_1 _ _ ?_)
  clear _hK_1
  refine W_seq fun _K_4 _hK_4 => ?_
  refine W_region ?_
  refine WL_s rfl rfl ?_
  refine s_alloc zr28 fun _b3 _w_5 _m3 _cw_5 _e3 => ?_
  have _cw_5z := _cw_5.size
  have E := E.trans _cw_5
  have _z3 := _m3.lt
  replace _m3 : Blk _w_5 _b3 28 [(.int .i64 0), (.slice none 0 0), (.slice none 0 0)] := _m3
  refine WL_nil ?_
  refine thn_nrm (_hK_4 _ _ ?_)
  clear _hK_4
  refine W_seq fun _K_6 _hK_6 => ?_
  refine W_region ?_
  refine WL_step rfl rfl (r_fieldAddr fa25_0 rfl) ?_
  have _f_7 := ((_m1.ch0 _cw_3).ch0 _cw_5)
  refine WL_step rfl rfl (r_loadAt _f_7.at_ agg3 rfl rfl) ?_
  refine WL_step rfl rfl (r_fieldAddr fa28_0 rfl) ?_
  refine WL_s rfl rfl ?_
  refine s_store1 (off := 0) _m3 sz3 rfl rfl rfl rfl fun _w_8 _m_9 _cw_8 => ?_
  have _cw_8z := _cw_8.size
  have E := E.step _cw_8 (fun i hi => .inl (by have _h1 := List.mem_singleton.1 hi; omega))
  replace _m_9 : Blk _w_8 _b3 28 [(.int .i64 aS), (.slice none 0 0), (.slice none 0 0)] := _m_9
  refine WL_nil ?_
  refine thn_nrm (_hK_6 _ _ ?_)
  clear _hK_6
  refine W_seq fun _K_10 _hK_10 => ?_
  refine W_region ?_
  refine WL_step rfl rfl (r_fieldAddr fa25_1 rfl) ?_
  have _f_11 := (_f_7.ch _cw_8 (fun hm => by have _h1 := List.mem_singleton.1 hm; omega))
  refine WL_step rfl rfl (r_loadAt _f_11.at_ agg22 rfl rfl) ?_
  refine WL_s rfl rfl ?_
  have _f_12 := ((((_h_aA.ch0 _cw_2).ch0 _cw_3).ch0 _cw_5).ch _cw_8 (fun i hi => by have _h1 := List.mem_singleton.1 hi; omega))
  refine Step.call (r_call (xs := [.tmp 8]) fk51 rfl) (c_laws_toBoolS _f_12 (by omega)) fun _v9 _w_13 _q9 => ?_
  obtain ⟨_q9, _lo9, _cw_13⟩ := _q9
  have _cw_13z := _cw_13.size
  have E := E.trans _cw_13
  obtain ⟨_Av9, _Cv9, _ev9⟩ := _q9.val
  subst _ev9
  have _lv9 := _q9.len
  have _hiv9 := _q9.lt
  refine WL_step rfl rfl (r_fieldAddr fa28_1 rfl) ?_
  refine WL_s rfl rfl ?_
  have _f_14 := (_m_9.ch0 _cw_13)
  refine s_store1 (off := 1) _f_14 sz22 rfl rfl rfl rfl fun _w_15 _m_16 _cw_15 => ?_
  have _cw_15z := _cw_15.size
  have E := E.step _cw_15 (fun i hi => .inl (by have _h1 := List.mem_singleton.1 hi; omega))
  replace _m_16 : Blk _w_15 _b3 28 [(.int .i64 aS), (.slice _Av9 (aA).length _Cv9), (.slice none 0 0)] := _m_16
  refine WL_nil ?_
  refine thn_nrm (_hK_10 _ _ ?_)
  clear _hK_10
  refine W_seq fun _K_17 _hK_17 => ?_
  refine W_region ?_
  refine WL_step rfl rfl (r_fieldAddr fa25_2 rfl) ?_
  have _f_18 := ((_f_11.ch0 _cw_13).ch _cw_15 (fun hm => by have _h1 := List.mem_singleton.1 hm; omega))
  refine WL_step rfl rfl (r_loadAt _f_18.at_ agg23 rfl rfl) ?_
  refine WL_s rfl rfl ?_
  have _f_19 := ((((((_rd_aN.ch0 _cw_2).ch0 _cw_3).ch0 _cw_5).ch _cw_8 (fun i hi => by have _h1 := List.mem_singleton.1 hi; omega)).ch0 _cw_13).ch _cw_15 (fun i hi => by have _h1 := List.mem_singleton.1 hi; omega))
  have _f_20 := ((((((_h_saN.ch0 _cw_2).ch0 _cw_3).ch0 _cw_5).ch _cw_8 (fun i hi => by have _h1 := List.mem_singleton.1 hi; omega)).ch0 _cw_13).ch _cw_15 (fun i hi => by have _h1 := List.mem_singleton.1 hi; omega))
  refine Step.call (r_call (xs := [.tmp 12]) fk52 rfl) (c_laws_toIntSS _f_20 _f_19 (by omega)) fun _v13 _w_21 _q13 => ?_
  obtain ⟨vs13, _q213, _lo213, od13, _cw_21⟩ := _q13
  have _cw_21z := _cw_21.size
  have E := E.trans _cw_21
  obtain ⟨_Av13, _Cv13, _ev13⟩ := _q213.val
  subst _ev13
  have _lv13 := _q213.len
  have _hiv13 := _q213.lt
  refine WL_step rfl rfl (r_fieldAddr fa28_2 rfl) ?_
  refine WL_s rfl rfl ?_
  have _f_22 := (_m_16.ch0 _cw_21)
  refine s_store1 (off := 2) _f_22 sz23 rfl rfl rfl rfl fun _w_23 _m_24 _cw_23 => ?_
  have _cw_23z := _cw_23.size
  have E := E.step _cw_23 (fun i hi => .inl (by have _h1 := List.mem_singleton.1 hi; omega))
  replace _m_24 : Blk _w_23 _b3 28 [(.int .i64 aS), (.slice _Av9 (aA).length _Cv9), (.slice _Av13 (vs13).length _Cv13)] := _m_24
  refine WL_nil ?_
  refine thn_nrm (_hK_17 _ _ ?_)
  clear _hK_17
  refine W_seq fun _K_25 _hK_25 => ?_
  refine W_region ?_
  refine WL_step rfl rfl (r_loadAtA0 _m_24.at_ agg28 sz28 rfl) ?_
  refine WL_s rfl rfl ?_
  have _f_26 := ((((((_m2.ch0 _cw_5).ch _cw_8 (fun hm => by have _h1 := List.mem_singleton.1 hm; omega)).ch0 _cw_13).ch _cw_15 (fun hm => by have _h1 := List.mem_singleton.1 hm; omega)).ch0 _cw_21).ch _cw_23 (fun hm => by have _h1 := List.mem_singleton.1 hm; omega))
  refine s_storeA (off := 0) 3 _f_26 sz28 rfl (us := [(.int .i64 aS), (.slice _Av9 (aA).length _Cv9), (.slice _Av13 (vs13).length _Cv13)]) rfl rfl rfl rfl fun _w_27 _m_28 _cw_27 => ?_
  have _cw_27z := _cw_27.size
  have E := E.step _cw_27 (fun i hi => .inl (by have _h1 := List.mem_singleton.1 hi; omega))
  replace _m_28 : Blk _w_27 _b2 28 [(.int .i64 aS), (.slice _Av9 (aA).length _Cv9), (.slice _Av13 (vs13).length _Cv13)] := _m_28
  refine WL_nil ?_
  refine thn_nrm (_hK_25 _ _ ?_)
  clear _hK_25
  refine W_ret ?_
  have _f_30 := ((((_q9.ch _cw_15 (fun g hg hm => by have _h0 := List.mem_singleton.1 hm; have _h2 := _lo9 _ hg; have _h3 := _hiv9 _ hg; omega)).ch0 _cw_21).ch _cw_23 (fun g hg hm => by have _h0 := List.mem_singleton.1 hm; have _h2 := _lo9 _ hg; have _h3 := _hiv9 _ hg; omega)).ch _cw_27 (fun g hg hm => by have _h0 := List.mem_singleton.1 hm; have _h2 := _lo9 _ hg; have _h3 := _hiv9 _ hg; omega))
  have _o_29 : Ol bcs 4 1 _w_27 (.slice _Av9 (aA).length _Cv9) (aA) := by
    have hx := _f_30
    simpa using hx
  have _f_33 := ((_q213.ch _cw_23 (fun g hg hm => by have _h0 := List.mem_singleton.1 hm; have _h2 := _lo213 _ hg; have _h3 := _hiv13 _ hg; omega)).ch _cw_27 (fun g hg hm => by have _h0 := List.mem_singleton.1 hm; have _h2 := _lo213 _ hg; have _h3 := _hiv13 _ hg; omega))
  have _f_34 := ((od13.ch _cw_23 (fun i hi => by have _h1 := List.mem_singleton.1 hi; omega)).ch _cw_27 (fun i hi => by have _h1 := List.mem_singleton.1 hi; omega))
  have _o_31 : Ol Sv.cs 32 1 _w_27 (.slice _Av13 (vs13).length _Cv13) vs13 := by
    have hx := _f_33
    exact hx
  have _o_32 : Od ics 3 1 _w_27 w.heap.size _w_27.heap.size vs13 (aN) := by
    have hx := _f_34.up (lo' := w.heap.size) (hi' := _w_27.heap.size) (by omega) (by omega)
    exact hx
  exact ret_intro [_] (resOf_loadA _m_28 rfl agg28 sz28 trivial) ⟨_, _, vs13, rfl, _o_29, Lo.down _lo9 (by omega), _o_31, (Lo.down _lo213 (by omega)), _o_32, E⟩

/-- spec.l1In -/
theorem c_spec_l1In {w : World} (n : Int) (a : Int) (b : Int) :
    Ctr Try.prog 66 #[(.int .i64 n), (.int .i64 a), (.int .i64 b)] w (fun v w' => v = .bool (decide (a ≤ n ∧ n ≤ b)) ∧ Ch [] w w') := by
  have E := Ch.refl [] w
  refine Ctr_of_W (N := 15) (vs0 := [(.int .i64 n), (.int .i64 a), (.int .i64 b)]) Try.func66 rfl rfl rfl ?_
  refine W_seq fun _K_1 _hK_1 => ?_
  refine W_region ?_
  refine WL_step rfl rfl (r_assign rfl) ?_
  refine WL_nil ?_
  refine thn_nrm (_hK_1 _ _ ?_)
  clear _hK_1
  refine W_seq fun _K_2 _hK_2 => ?_
  refine W_region ?_
  refine WL_step rfl rfl (r_move rfl) ?_
  refine WL_step rfl rfl (r_move rfl) ?_
  refine WL_step rfl rfl (r_geq rfl rfl) ?_
  refine WL_step rfl rfl (r_move rfl) ?_
  refine WL_split (d := 10) rfl (fun _h10 => ?_) (fun _h10 => ?_)
  · have _h10 := bt_d _h10
    refine WL_step rfl rfl (r_move rfl) ?_
    refine WL_step rfl rfl (r_move rfl) ?_
    refine WL_step rfl rfl (r_leq rfl rfl) ?_
    refine WL_step rfl rfl (r_pickT rfl rfl) ?_
    refine WL_step rfl rfl (r_assign rfl) ?_
    refine WL_nil ?_
    refine thn_nrm (_hK_2 _ _ ?_)
    clear _hK_2
    refine W_ret ?_
    exact ret_intro [_] ⟨rfl, trivial⟩ ⟨congrArg Value.bool (by first | rfl | (rw [Bool.eq_iff_iff]; simp <;> omega) | (rw [Bool.eq_iff_iff]; simp_all; done) | simp_all), E⟩
  · have _h10 := bf_d _h10
    refine WL_skip rfl rfl ?_
    refine WL_skip rfl rfl ?_
    refine WL_skip rfl rfl ?_
    refine WL_step rfl rfl (r_pickF rfl rfl) ?_
    refine WL_step rfl rfl (r_assign rfl) ?_
    refine WL_nil ?_
    refine thn_nrm (_hK_2 _ _ ?_)
    clear _hK_2
    refine W_ret ?_
    exact ret_intro [_] ⟨rfl, trivial⟩ ⟨congrArg Value.bool (by first | rfl | (rw [Bool.eq_iff_iff]; simp <;> omega) | (rw [Bool.eq_iff_iff]; simp_all; done) | simp_all), E⟩

/-- spec.l11Fits -/
theorem c_spec_l11Fits {w : World} (aS : Int) {_B_aA : Nat} {_v_aA : Value} {aA : List Bool} (_h_aA : Ls bcs 1 w _B_aA _v_aA aA) {_B_saN : Nat} {_v_saN : Value} {saN : List Sv} (_h_saN : Ls Sv.cs 1 w _B_saN _v_saN saN) {BB_aN : Nat} {aN : List (List Int)} (_rd_aN : Rd ics 1 w BB_aN saN aN) :
    Ctr Try.prog 95 #[(.agg #[(.int .i64 aS), _v_aA, _v_saN])] w (fun v w' => v = .bool (tt (FitsA aS aA aN)) ∧ Ch [] w w') := by
  obtain ⟨_A_aA, _C_aA, _e1_aA⟩ := _h_aA.val
  subst _e1_aA
  have _l_aA := _h_aA.len
  have _h_aA := _h_aA.here (by decide)
  obtain ⟨_A_saN, _C_saN, _e1_saN⟩ := _h_saN.val
  subst _e1_saN
  have _l_saN := _h_saN.len
  have _h_saN := _h_saN.here (by decide)
  have _rd_aN := _rd_aN.here (by decide)
  have _rl_aN := _rd_aN.1
  have E := Ch.refl [] w
  refine Ctr_of_W (N := 50) (vs0 := [(.agg #[(.int .i64 aS), (.slice _A_aA aA.length _C_aA), (.slice _A_saN saN.length _C_saN)])]) Try.func95 rfl rfl rfl ?_
  refine W_seq fun _K_1 _hK_1 => ?_
  refine W_region ?_
  refine WL_s rfl rfl ?_
  refine s_box rfl fun _b1 _w_2 _m1 _cw_2 _e1 => ?_
  have _cw_2z := _cw_2.size
  have E := E.trans _cw_2
  have _z1 := _m1.lt
  replace _m1 : Blk _w_2 _b1 28 [(.int .i64 aS), (.slice _A_aA aA.length _C_aA), (.slice _A_saN saN.length _C_saN)] := _m1
  refine WL_step rfl rfl (r_assign rfl) ?_
  refine WL_nil ?_
  refine thn_nrm (_hK_1 _ _ ?_)
  clear _hK_1
  refine W_seq fun _K_3 _hK_3 => ?_
  refine W_region ?_
  refine WL_step rfl rfl (r_fieldAddr fa28_1 rfl) ?_
  refine WL_step rfl rfl (r_loadAt _m1.at_ agg22 rfl rfl) ?_
  refine WL_step rfl rfl (r_len (by rw [el22]; rfl) rfl) ?_
  refine WL_step rfl rfl (r_assign rfl) ?_
  refine WL_nil ?_
  refine thn_nrm (_hK_3 _ _ ?_)
  clear _hK_3
  refine W_seq fun _K_4 _hK_4 => ?_
  refine W_seq fun _K_5 _hK_5 => ?_
  refine W_region ?_
  refine WL_step rfl rfl (r_fieldAddr fa28_0 rfl) ?_
  refine WL_step rfl rfl (r_loadAt _m1.at_ agg3 rfl rfl) ?_
  refine WL_step rfl rfl (r_move rfl) ?_
  refine WL_step rfl rfl (r_sub (by omega) rfl rfl) ?_
  refine WL_s rfl rfl ?_
  refine Step.call (r_call (xs := [.tmp 10, .const (Go.Value.int Go.IntKind.i64 0), .tmp 12]) fk66 rfl) (c_spec_l1In _ _ _ ) fun _v13 _w_6 _q13 => ?_
  obtain ⟨rfl, _cw_6⟩ := _q13
  have _cw_6z := _cw_6.size
  have E := E.trans _cw_6
  refine WL_step rfl rfl (r_not rfl) ?_
  refine WL_step rfl rfl (r_move rfl) ?_
  refine WL_split (d := 15) rfl (fun _h15 => ?_) (fun _h15 => ?_)
  · have _h15 := bf_d (bt_n _h15)
    refine WL_skip rfl rfl ?_
    refine WL_skip rfl rfl ?_
    refine WL_skip rfl rfl ?_
    refine WL_skip rfl rfl ?_
    refine WL_skip rfl rfl ?_
    refine WL_step rfl rfl (r_pickT rfl rfl) ?_
    refine WL_nil ?_
    refine thn_nrm (_hK_5 _ _ ?_)
    clear _hK_5
    refine W_condT rfl ?_
    refine W_seq fun _K_7 _hK_7 => ?_
    refine W_region ?_
    refine WL_step rfl rfl (r_assign rfl) ?_
    refine WL_nil ?_
    refine thn_nrm (_hK_7 _ _ ?_)
    clear _hK_7
    refine W_ret (thn_ret ?_)
    clear _hK_4
    exact ret_intro [_] ⟨rfl, trivial⟩ ⟨congrArg Value.bool (by first | exact tt_true ⟨_h15, by omega, rows_all _ht (by omega)⟩ | exact tt_false (fun e => _h15 e.1) | exact tt_false (fun e => _h21 (by have _h1 := e.2.1; omega)) | exact tt_false (fun e => _h49 (fits_el e _hys41 _hy44)) | exact tt_false (fun e => _h33 (by have _h1 := (fits_row e _hys30).1; omega))), E⟩
  · have _h15 := bt_d (bf_n _h15)
    refine WL_step rfl rfl (r_fieldAddr fa28_2 rfl) ?_
    have _f_8 := (_m1.ch0 _cw_6)
    refine WL_step rfl rfl (r_loadAt _f_8.at_ agg23 rfl rfl) ?_
    refine WL_step rfl rfl (r_len (by rw [el23]; rfl) rfl) ?_
    refine WL_step rfl rfl (r_move rfl) ?_
    refine WL_step rfl rfl (r_neq rfl rfl) ?_
    refine WL_step rfl rfl (r_pickF rfl rfl) ?_
    refine WL_nil ?_
    refine thn_nrm (_hK_5 _ _ ?_)
    clear _hK_5
    refine W_cond rfl (fun _h21 => ?_) (fun _h21 => ?_)
    · have _h21 := bf_d (bt_n _h21)
      refine W_seq fun _K_9 _hK_9 => ?_
      refine W_region ?_
      refine WL_step rfl rfl (r_assign rfl) ?_
      refine WL_nil ?_
      refine thn_nrm (_hK_9 _ _ ?_)
      clear _hK_9
      refine W_ret (thn_ret ?_)
      clear _hK_4
      exact ret_intro [_] ⟨rfl, trivial⟩ ⟨congrArg Value.bool (by first | exact tt_true ⟨_h15, by omega, rows_all _ht (by omega)⟩ | exact tt_false (fun e => _h15 e.1) | exact tt_false (fun e => _h21 (by have _h1 := e.2.1; omega)) | exact tt_false (fun e => _h49 (fits_el e _hys41 _hy44)) | exact tt_false (fun e => _h33 (by have _h1 := (fits_row e _hys30).1; omega))), E⟩
    · have _h21 := bt_d (bf_n _h21)
      refine W_skip ?_
      refine thn_nrm (_hK_4 _ _ ?_)
      clear _hK_4
      refine W_seq fun _K_10 _hK_10 => ?_
      refine W_seq fun _K_11 _hK_11 => ?_
      refine W_region ?_
      refine WL_step rfl rfl (r_assign rfl) ?_
      refine WL_nil ?_
      refine thn_nrm (_hK_11 _ _ ?_)
      clear _hK_11
      refine W_block ?_
      refine W_loop (σ := Nat) (fun (s : Nat) => [(1, (.pointer (some ⟨_b1, 0, none⟩))), (3, (.int .i64 ((aA.length : Nat) : Int))), (4, (.int .i64 ((s : Nat) : Int)))]) (fun (s : Nat) wx => Ch [] w wx ∧ _w_6.heap.size ≤ wx.heap.size ∧ (s ≤ aN.length) ∧ (RowsP aA.length aN s) ∧ Blk wx _b1 28 [(.int .i64 aS), (.slice _A_aA aA.length _C_aA), (.slice _A_saN saN.length _C_saN)]) (fun (s : Nat) => aN.length - s) 0 (Sub.cons rfl (Sub.cons rfl (Sub.cons rfl (Sub.nil _)))) ⟨E, (Nat.le_refl _), (by omega), (rows_zero _ _), _f_8⟩ ?_
      rintro s _wr_12 ⟨E, _zz0, hs, _ht, _F0_0⟩
      have _E0h := E
      have _E0hz := _E0h.size
      have _F0_0z := _F0_0.lt
      refine W_seq fun _K_13 _hK_13 => ?_
      refine W_seq fun _K_14 _hK_14 => ?_
      refine W_region ?_
      refine WL_step rfl rfl (r_move rfl) ?_
      refine WL_step rfl rfl (r_move rfl) ?_
      refine WL_step rfl rfl (r_lss rfl rfl) ?_
      refine WL_nil ?_
      refine thn_nrm (_hK_14 _ _ ?_)
      clear _hK_14
      refine W_cond rfl (fun _h24 => ?_) (fun _h24 => ?_)
      · have _h24 := bt_d _h24
        refine W_skip ?_
        refine thn_nrm (_hK_13 _ _ ?_)
        clear _hK_13
        refine W_seq fun _K_15 _hK_15 => ?_
        refine W_block ?_
        refine W_seq fun _K_16 _hK_16 => ?_
        refine W_seq fun _K_17 _hK_17 => ?_
        refine W_region ?_
        refine WL_step rfl rfl (r_fieldAddr fa28_2 rfl) ?_
        refine WL_step rfl rfl (r_loadAt _F0_0.at_ agg23 rfl rfl) ?_
        refine WL_step rfl rfl (r_move rfl) ?_
        refine WL_s rfl rfl ?_
        have _f_18 := (_h_saN.ch0 _E0h)
        refine (s_index _f_18 Sv.len el23 sz32 rfl rfl rfl (by omega) fun _p30 _y30 _hy30 _a30 => ?_)
        have _f_19 := (_rd_aN.ch0 _E0h)
        obtain ⟨_ys30, _hys30, _fs30⟩ := _f_19.get _hy30
        obtain ⟨_A30, _n30, _C30⟩ := _y30
        obtain rfl := _fs30.eqn
        have _l30 := _fs30.len
        replace _fs30 : Ls ics 1 _wr_12 w.heap.size (.slice _A30 _ys30.length _C30) _ys30 := _fs30
        replace _a30 : At _wr_12 w.heap.size _p30 ([(.slice _A30 _ys30.length _C30)]) := _a30
        refine WL_step rfl rfl (r_loadAt0 _a30 agg32 rfl rfl) ?_
        refine WL_step rfl rfl (r_len (by rw [el32]; rfl) rfl) ?_
        refine WL_step rfl rfl (r_neq rfl rfl) ?_
        refine WL_nil ?_
        refine thn_nrm (_hK_17 _ _ ?_)
        clear _hK_17
        refine W_cond rfl (fun _h33 => ?_) (fun _h33 => ?_)
        · have _h33 := bf_d (bt_n _h33)
          refine W_seq fun _K_20 _hK_20 => ?_
          refine W_region ?_
          refine WL_step rfl rfl (r_assign rfl) ?_
          refine WL_nil ?_
          refine thn_nrm (_hK_20 _ _ ?_)
          clear _hK_20
          refine W_ret (thn_ret (inB_ret (thn_ret (thn_ret (inB_ret (thn_ret ?_))))))
          clear _hK_10 _hK_15 _hK_16
          exact ret_intro [_] ⟨rfl, trivial⟩ ⟨congrArg Value.bool (by first | exact tt_true ⟨_h15, by omega, rows_all _ht (by omega)⟩ | exact tt_false (fun e => _h15 e.1) | exact tt_false (fun e => _h21 (by have _h1 := e.2.1; omega)) | exact tt_false (fun e => _h49 (fits_el e _hys41 _hy44)) | exact tt_false (fun e => _h33 (by have _h1 := (fits_row e _hys30).1; omega))), E⟩
        · have _h33 := bt_d (bf_n _h33)
          refine W_skip ?_
          refine thn_nrm (_hK_16 _ _ ?_)
          clear _hK_16
          refine W_seq fun _K_21 _hK_21 => ?_
          refine W_region ?_
          refine WL_step rfl rfl (r_assign rfl) ?_
          refine WL_nil ?_
          refine thn_nrm (_hK_21 _ _ ?_)
          clear _hK_21
          refine W_block ?_
          refine W_loop (σ := Nat) (fun (k : Nat) => [(1, (.pointer (some ⟨_b1, 0, none⟩))), (3, (.int .i64 ((aA.length : Nat) : Int))), (4, (.int .i64 ((s : Nat) : Int))), (5, (.int .i64 ((k : Nat) : Int))), (22, (.int .i64 ((s : Nat) : Int))), (23, (.int .i64 ((aA.length : Nat) : Int))), (24, (.bool (decide (((s : Nat) : Int) < ((aA.length : Nat) : Int))))), (27, (.pointer (some (Addr.add ⟨_b1, 0, none⟩ 2)))), (28, (.slice _A_saN saN.length _C_saN)), (29, (.int .i64 ((s : Nat) : Int))), (30, (.pointer (some _p30))), (31, (.slice _A30 _ys30.length _C30)), (32, (.int .i64 ((_ys30.length : Nat) : Int))), (33, (.bool (!decide (((_ys30.length : Nat) : Int) = 9))))]) (fun (k : Nat) wx => Ch [] w wx ∧ _wr_12.heap.size ≤ wx.heap.size ∧ (k ≤ 9) ∧ (RowP aA.length _ys30 k) ∧ Blk wx _b1 28 [(.int .i64 aS), (.slice _A_aA aA.length _C_aA), (.slice _A_saN saN.length _C_saN)] ∧ Ls Sv.cs 1 wx w.heap.size (.slice _A_saN saN.length _C_saN) saN ∧ Rd ics 1 wx w.heap.size saN aN ∧ At wx w.heap.size _p30 ([(.slice _A30 _ys30.length _C30)]) ∧ Ls ics 1 wx w.heap.size (.slice _A30 _ys30.length _C30) _ys30) (fun (k : Nat) => 9 - k) 0 (Sub.cons rfl (Sub.cons rfl (Sub.cons rfl (Sub.cons rfl (Sub.cons rfl (Sub.cons rfl (Sub.cons rfl (Sub.cons rfl (Sub.cons rfl (Sub.cons rfl (Sub.cons rfl (Sub.cons rfl (Sub.cons rfl (Sub.cons rfl (Sub.nil _))))))))))))))) ⟨E, (Nat.le_refl _), (by omega), (rowp_zero _ _), _F0_0, _f_18, _f_19, _a30, _fs30⟩ ?_
          rintro k _wr_22 ⟨E, _zz1, _hk, hp, _F1_0, _F1_2, _F1_3, _F1_4, _F1_5⟩
          have _E1h := E
          have _E1hz := _E1h.size
          have _F1_0z := _F1_0.lt
          refine W_seq fun _K_23 _hK_23 => ?_
          refine W_seq fun _K_24 _hK_24 => ?_
          refine W_region ?_
          refine WL_step rfl rfl (r_move rfl) ?_
          refine WL_step rfl rfl (r_lss rfl rfl) ?_
          refine WL_nil ?_
          refine thn_nrm (_hK_24 _ _ ?_)
          clear _hK_24
          refine W_cond rfl (fun _h35 => ?_) (fun _h35 => ?_)
          · have _h35 := bt_d _h35
            refine W_skip ?_
            refine thn_nrm (_hK_23 _ _ ?_)
            clear _hK_23
            refine W_seq fun _K_25 _hK_25 => ?_
            refine W_block ?_
            refine W_seq fun _K_26 _hK_26 => ?_
            refine W_region ?_
            refine WL_step rfl rfl (r_fieldAddr fa28_2 rfl) ?_
            refine WL_step rfl rfl (r_loadAt _F1_0.at_ agg23 rfl rfl) ?_
            refine WL_step rfl rfl (r_move rfl) ?_
            refine WL_s rfl rfl ?_
            refine (s_index _F1_2 Sv.len el23 sz32 rfl rfl rfl (by omega) fun _p41 _y41 _hy41 _a41 => ?_)
            obtain ⟨_ys41, _hys41, _fs41⟩ := _F1_3.get _hy41
            obtain ⟨_A41, _n41, _C41⟩ := _y41
            obtain rfl := _fs41.eqn
            have _l41 := _fs41.len
            replace _fs41 : Ls ics 1 _wr_22 w.heap.size (.slice _A41 _ys41.length _C41) _ys41 := _fs41
            replace _a41 : At _wr_22 w.heap.size _p41 ([(.slice _A41 _ys41.length _C41)]) := _a41
            have _e41 := congrArg List.length (get_uniq _hys30 _hys41)
            refine WL_step rfl rfl (r_loadAt0 _a41 agg32 rfl rfl) ?_
            refine WL_step rfl rfl (r_move rfl) ?_
            refine WL_s rfl rfl ?_
            refine (s_index _fs41 ics_len el32 sz3 rfl rfl rfl (by omega) fun _p44 _y44 _hy44 _a44 => ?_)
            refine WL_step rfl rfl (r_loadAt0 _a44 agg3 rfl rfl) ?_
            refine WL_step rfl rfl (r_move rfl) ?_
            refine WL_step rfl rfl (r_sub (by omega) rfl rfl) ?_
            refine WL_s rfl rfl ?_
            refine Step.call (r_call (xs := [.tmp 45, .const (Go.Value.int Go.IntKind.i64 (-1)), .tmp 47]) fk66 rfl) (c_spec_l1In _ _ _ ) fun _v48 _w_27 _q48 => ?_
            obtain ⟨rfl, _cw_27⟩ := _q48
            have _cw_27z := _cw_27.size
            have E := E.trans _cw_27
            refine WL_step rfl rfl (r_not rfl) ?_
            refine WL_nil ?_
            refine thn_nrm (_hK_26 _ _ ?_)
            clear _hK_26
            refine W_cond rfl (fun _h49 => ?_) (fun _h49 => ?_)
            · have _h49 := bf_d (bt_n _h49)
              refine W_seq fun _K_28 _hK_28 => ?_
              refine W_region ?_
              refine WL_step rfl rfl (r_assign rfl) ?_
              refine WL_nil ?_
              refine thn_nrm (_hK_28 _ _ ?_)
              clear _hK_28
              refine W_ret (inB_ret (thn_ret (thn_ret (inB_ret (inB_ret (thn_ret (thn_ret (inB_ret (thn_ret ?_)))))))))
              clear _hK_10 _hK_15 _hK_25
              exact ret_intro [_] ⟨rfl, trivial⟩ ⟨congrArg Value.bool (by first | exact tt_true ⟨_h15, by omega, rows_all _ht (by omega)⟩ | exact tt_false (fun e => _h15 e.1) | exact tt_false (fun e => _h21 (by have _h1 := e.2.1; omega)) | exact tt_false (fun e => _h49 (fits_el e _hys41 _hy44)) | exact tt_false (fun e => _h33 (by have _h1 := (fits_row e _hys30).1; omega))), E⟩
            · have _h49 := bt_d (bf_n _h49)
              refine W_skip ?_
              refine inB_nrm ?_
              refine thn_nrm (_hK_25 _ _ ?_)
              clear _hK_25
              refine W_region ?_
              refine WL_step rfl rfl (r_move rfl) ?_
              refine WL_step rfl rfl (r_add (by omega) rfl rfl) ?_
              refine WL_step rfl rfl (r_assign rfl) ?_
              refine WL_nil ?_
              have _f_29 := (_F1_0.ch0 _cw_27)
              have _f_30 := (_F1_2.ch0 _cw_27)
              have _f_31 := (_F1_3.ch0 _cw_27)
              have _f_32 := (_F1_4.ch0 _cw_27)
              have _f_33 := (_F1_5.ch0 _cw_27)
              exact thn_nrm (Exists.intro (k + 1) ⟨⟨E, (by omega), (by omega), (rowp_step hp (get_uniq _hys41 _hys30 ▸ _hy44) _h49), _f_29, _f_30, _f_31, _f_32, _f_33⟩, Sub.cons rfl (Sub.cons rfl (Sub.cons rfl (Sub.cons rfl (Sub.cons rfl (Sub.cons rfl (Sub.cons rfl (Sub.cons rfl (Sub.cons rfl (Sub.cons rfl (Sub.cons rfl (Sub.cons rfl (Sub.cons rfl (Sub.cons rfl (Sub.nil _)))))))))))))), (by first | omega | (dsimp only; omega))⟩)
          · have _h35 := bf_d _h35
            refine W_exit (thn_exit (thn_exit (inB_hit ?_)))
            refine inB_nrm ?_
            refine thn_nrm (_hK_15 _ _ ?_)
            clear _hK_15
            refine W_region ?_
            refine WL_step rfl rfl (r_move rfl) ?_
            refine WL_step rfl rfl (r_add (by omega) rfl rfl) ?_
            refine WL_step rfl rfl (r_assign rfl) ?_
            refine WL_nil ?_
            exact thn_nrm (Exists.intro (s + 1) ⟨⟨E, (by omega), (by omega), (rows_step _ht _hys30 ⟨by omega, rowp_all hp (by omega)⟩), _F1_0⟩, Sub.cons rfl (Sub.cons rfl (Sub.cons rfl (Sub.nil _))), (by first | omega | (dsimp only; omega))⟩)
      · have _h24 := bf_d _h24
        refine W_exit (thn_exit (thn_exit (inB_hit ?_)))
        refine thn_nrm (_hK_10 _ _ ?_)
        clear _hK_10
        refine W_seq fun _K_34 _hK_34 => ?_
        refine W_region ?_
        refine WL_step rfl rfl (r_assign rfl) ?_
        refine WL_nil ?_
        refine thn_nrm (_hK_34 _ _ ?_)
        clear _hK_34
        refine W_ret ?_
        clear _hK_13
        exact ret_intro [_] ⟨rfl, trivial⟩ ⟨congrArg Value.bool (by first | exact tt_true ⟨_h15, by omega, rows_all _ht (by omega)⟩ | exact tt_false (fun e => _h15 e.1) | exact tt_false (fun e => _h21 (by have _h1 := e.2.1; omega)) | exact tt_false (fun e => _h49 (fits_el e _hys41 _hy44)) | exact tt_false (fun e => _h33 (by have _h1 := (fits_row e _hys30).1; omega))), E⟩

/-- spec.IsValidAutomaton -/
theorem c_spec_IsValidAutomaton {w : World} (aS : Int) {_B_aA : Nat} {_v_aA : Value} {aA : List Bool} (_h_aA : Ls bcs 1 w _B_aA _v_aA aA) {_B_saN : Nat} {_v_saN : Value} {saN : List Sv} (_h_saN : Ls Sv.cs 1 w _B_saN _v_saN saN) {BB_aN : Nat} {aN : List (List Int)} (_rd_aN : Rd ics 1 w BB_aN saN aN) :
    Ctr Try.prog 49 #[(.agg #[(.int .i64 aS), _v_aA, _v_saN])] w (fun v w' => v = .bool (tt (ValidA aS aA aN)) ∧ Ch [] w w') := by
  obtain ⟨_A_aA, _C_aA, _e1_aA⟩ := _h_aA.val
  subst _e1_aA
  have _l_aA := _h_aA.len
  have _h_aA := _h_aA.here (by decide)
  obtain ⟨_A_saN, _C_saN, _e1_saN⟩ := _h_saN.val
  subst _e1_saN
  have _l_saN := _h_saN.len
  have _h_saN := _h_saN.here (by decide)
  have _rd_aN := _rd_aN.here (by decide)
  have _rl_aN := _rd_aN.1
  have E := Ch.refl [] w
  refine Ctr_of_W (N := 11) (vs0 := [(.agg #[(.int .i64 aS), (.slice _A_aA aA.length _C_aA), (.slice _A_saN saN.length _C_saN)])]) Try.func49 rfl rfl rfl ?_
  refine W_seq fun _K_1 _hK_1 => ?_
  refine W_region ?_
  refine WL_s rfl rfl ?_
  refine s_box rfl fun _b1 _w_2 _m1 _cw_2 _e1 => ?_
  have _cw_2z := _cw_2.size
  have E := E.trans _cw_2
  have _z1 := _m1.lt
  replace _m1 : Blk _w_2 _b1 28 [(.int .i64 aS), (.slice _A_aA aA.length _C_aA), (.slice _A_saN saN.length _C_saN)] := _m1
  refine WL_step rfl rfl (r_assign rfl) ?_
  refine WL_nil ?_
  refine thn_nrm (_hK_1 _ _ ?_)
  clear _hK_1
  refine W_seq fun _K_3 _hK_3 => ?_
  refine W_region ?_
  refine WL_step rfl rfl (r_fieldAddr fa28_1 rfl) ?_
  refine WL_step rfl rfl (r_loadAt _m1.at_ agg22 rfl rfl) ?_
  refine WL_step rfl rfl (r_len (by rw [el22]; rfl) rfl) ?_
  refine WL_step rfl rfl (r_leq rfl rfl) ?_
  refine WL_step rfl rfl (r_move rfl) ?_
  refine WL_split (d := 7) rfl (fun _h7 => ?_) (fun _h7 => ?_)
  · have _h7 := bt_d _h7
    refine WL_step rfl rfl (r_loadAtA0 _m1.at_ agg28 sz28 rfl) ?_
    refine WL_s rfl rfl ?_
    have _f_4 := (_h_aA.ch0 _cw_2)
    have _f_5 := (_rd_aN.ch0 _cw_2)
    have _f_6 := (_h_saN.ch0 _cw_2)
    refine Step.call (r_call (xs := [.tmp 8]) fk95 rfl) (c_spec_l11Fits _ _f_4 _f_6 _f_5 ) fun _v9 _w_7 _q9 => ?_
    obtain ⟨rfl, _cw_7⟩ := _q9
    have _cw_7z := _cw_7.size
    have E := E.trans _cw_7
    refine WL_step rfl rfl (r_pickT rfl rfl) ?_
    refine WL_step rfl rfl (r_assign rfl) ?_
    refine WL_nil ?_
    refine thn_nrm (_hK_3 _ _ ?_)
    clear _hK_3
    refine W_ret ?_
    exact ret_intro [_] ⟨rfl, trivial⟩ ⟨congrArg Value.bool (by first | exact tt_eq ⟨fun e => ⟨by omega, e⟩, fun e => e.2⟩ | exact tt_false (fun e => _h7 (by have _h1 := e.1; omega))), E⟩
  · have _h7 := bf_d _h7
    refine WL_skip rfl rfl ?_
    refine WL_skip rfl rfl ?_
    refine WL_step rfl rfl (r_pickF rfl rfl) ?_
    refine WL_step rfl rfl (r_assign rfl) ?_
    refine WL_nil ?_
    refine thn_nrm (_hK_3 _ _ ?_)
    clear _hK_3
    refine W_ret ?_
    exact ret_intro [_] ⟨rfl, trivial⟩ ⟨congrArg Value.bool (by first | exact tt_eq ⟨fun e => ⟨by omega, e⟩, fun e => e.2⟩ | exact tt_false (fun e => _h7 (by have _h1 := e.1; omega))), E⟩

/-- spec.l11Live -/
theorem c_spec_l11Live {w : World} (aS : Int) {_B_aA : Nat} {_v_aA : Value} {aA : List Bool} (_h_aA : Ls bcs 1 w _B_aA _v_aA aA) {_B_saN : Nat} {_v_saN : Value} {saN : List Sv} (_h_saN : Ls Sv.cs 1 w _B_saN _v_saN saN) {BB_aN : Nat} {aN : List (List Int)} (_rd_aN : Rd ics 1 w BB_aN saN aN) (hv : ValidA aS aA aN) :
    Ctr Try.prog 50 #[(.agg #[(.int .i64 aS), _v_aA, _v_saN])] w (fun v w' => Ol bcs 4 1 w' v (liveL aA aN) ∧ Lo w.heap.size v ∧ Ch [] w w') := by
  obtain ⟨_A_aA, _C_aA, _e1_aA⟩ := _h_aA.val
  subst _e1_aA
  have _l_aA := _h_aA.len
  have _h_aA := _h_aA.here (by decide)
  obtain ⟨_A_saN, _C_saN, _e1_saN⟩ := _h_saN.val
  subst _e1_saN
  have _l_saN := _h_saN.len
  have _h_saN := _h_saN.here (by decide)
  have _rd_aN := _rd_aN.here (by decide)
  have _rl_aN := _rd_aN.1
  have E := Ch.refl [] w
  have hv2 := hv.2.2.1; have hv1 := hv.1
  refine Ctr_of_W (N := 55) (vs0 := [(.agg #[(.int .i64 aS), (.slice _A_aA aA.length _C_aA), (.slice _A_saN saN.length _C_saN)])]) Try.func50 rfl rfl rfl ?_
  refine W_seq fun _K_1 _hK_1 => ?_
  refine W_region ?_
  refine WL_s rfl rfl ?_
  refine s_box rfl fun _b1 _w_2 _m1 _cw_2 _e1 => ?_
  have _cw_2z := _cw_2.size
  have E := E.trans _cw_2
  have _z1 := _m1.lt
  replace _m1 : Blk _w_2 _b1 28 [(.int .i64 aS), (.slice _A_aA aA.length _C_aA), (.slice _A_saN saN.length _C_saN)] := _m1
  refine WL_step rfl rfl (r_assign rfl) ?_
  refine WL_nil ?_
  refine thn_nrm (_hK_1 _ _ ?_)
  clear _hK_1
  refine W_seq fun _K_3 _hK_3 => ?_
  refine W_region ?_
  refine WL_s rfl rfl ?_
  refine s_buildSlice0 (k := 1) bcs el22 sz4 fun _v7 _w_4 _q7 _lo7 _cw_4 => ?_
  have _cw_4z := _cw_4.size
  have E := E.trans _cw_4
  obtain ⟨_Av7, _Cv7, _ev7⟩ := _q7.val
  subst _ev7
  have _lv7 := _q7.len
  have _hiv7 := _q7.lt
  refine WL_step rfl rfl (r_fieldAddr fa28_1 rfl) ?_
  have _f_5 := (_m1.ch0 _cw_4)
  refine WL_step rfl rfl (r_loadAt _f_5.at_ agg22 rfl rfl) ?_
  refine WL_s rfl rfl ?_
  have _f_7 := ((_h_aA.ch0 _cw_2).ch0 _cw_4)
  refine s_append (cs := bcs) el22 sz4 by4 zr4 rfl (by decide) bcs_one _q7 _f_7 rfl rfl (by first | omega | (simp only [List.length_append, List.length_nil, List.length_cons, List.length_replicate, List.length_set, List.length_reverse, List.length_map] at *; omega) | (simp at *; omega)) (by first | omega | (simp only [List.length_append, List.length_nil, List.length_cons, List.length_replicate, List.length_set, List.length_reverse, List.length_map] at *; omega) | (simp at *; omega)) _lo7 (by omega) fun _v10 _w_6 _q10 _lo10 _ap10 _cw_6 => ?_
  have _cw_6z := _cw_6.size
  have E := E.step _cw_6 (fun i hi => .inl (by have _h1 := _lo7 _ hi; omega))
  replace _q10 : Ol bcs 4 1 _w_6 _v10 aA := _q10
  obtain ⟨_Av10, _Cv10, _ev10⟩ := _q10.val
  subst _ev10
  have _lv10 := _q10.len
  have _hiv10 := _q10.lt
  refine WL_step rfl rfl (r_assign rfl) ?_
  refine WL_nil ?_
  refine thn_nrm (_hK_3 _ _ ?_)
  clear _hK_3
  refine W_seq fun _K_8 _hK_8 => ?_
  refine W_seq fun _K_9 _hK_9 => ?_
  refine W_region ?_
  refine WL_step rfl rfl (r_assign rfl) ?_
  refine WL_nil ?_
  refine thn_nrm (_hK_9 _ _ ?_)
  clear _hK_9
  refine W_block ?_
  have _oi_10 : Ol bcs 4 1 _w_6 (.slice _Av10 (aA).length _Cv10) (aA) := by
    have hx := _q10
    exact hx
  have _f_11 := (_f_5.ch _cw_6 (fun hm => by have _h1 := _lo7 _ hm; have _h2 := _hiv7 _ hm; omega))
  have _f_12 := (_f_7.ch _cw_6 (fun i hi => by have _h1 := _lo7 _ hi; omega))
  refine W_loop (σ := Nat × List Bool) (fun ⟨j, _o1⟩ => [(1, (.pointer (some ⟨_b1, 0, none⟩))), (2, (.slice none 0 0)), (3, (.slice _Av10 (aA).length _Cv10)), (4, (.int .i64 ((j : Nat) : Int)))]) (fun ⟨j, _o1⟩ wx => Ch [] w wx ∧ _w_6.heap.size ≤ wx.heap.size ∧ (j ≤ aA.length) ∧ (_o1.length = aA.length) ∧ (ClBelow (LiveB aA) (EdgeA aN) _o1) ∧ (ClAbove (LiveB aA) (EdgeA aN) _o1 j) ∧ Blk wx _b1 28 [(.int .i64 aS), (.slice _A_aA aA.length _C_aA), (.slice _A_saN saN.length _C_saN)] ∧ Ls bcs 1 wx w.heap.size (.slice _A_aA aA.length _C_aA) aA ∧ Ol bcs 4 1 wx (.slice _Av10 (aA).length _Cv10) _o1) (fun ⟨j, _o1⟩ => aA.length - j) (0, aA) (Sub.cons rfl (Sub.cons rfl (Sub.cons rfl (Sub.cons rfl (Sub.nil _))))) ⟨E, (Nat.le_refl _), (by omega), rfl, (fun s h => .base h), (fun s h => h), _f_11, _f_12, _oi_10⟩ ?_
  rintro ⟨j, _o1⟩ _wr_13 ⟨E, _zz0, hj, hl1, hb1, ha1, _F0_0, _F0_1, _o0_3⟩
  have _E0h := E
  have _E0hz := _E0h.size
  have _F0_0z := _F0_0.lt
  refine W_seq fun _K_14 _hK_14 => ?_
  refine W_seq fun _K_15 _hK_15 => ?_
  refine W_region ?_
  refine WL_step rfl rfl (r_move rfl) ?_
  refine WL_step rfl rfl (r_fieldAddr fa28_1 rfl) ?_
  refine WL_step rfl rfl (r_loadAt _F0_0.at_ agg22 rfl rfl) ?_
  refine WL_step rfl rfl (r_len (by rw [el22]; rfl) rfl) ?_
  refine WL_step rfl rfl (r_lss rfl rfl) ?_
  refine WL_nil ?_
  refine thn_nrm (_hK_15 _ _ ?_)
  clear _hK_15
  refine W_cond rfl (fun _h15 => ?_) (fun _h15 => ?_)
  · have _h15 := bt_d _h15
    refine W_skip ?_
    refine thn_nrm (_hK_14 _ _ ?_)
    clear _hK_14
    refine W_seq fun _K_16 _hK_16 => ?_
    refine W_block ?_
    refine W_seq fun _K_17 _hK_17 => ?_
    refine W_region ?_
    refine WL_step rfl rfl (r_assign rfl) ?_
    refine WL_nil ?_
    refine thn_nrm (_hK_17 _ _ ?_)
    clear _hK_17
    refine W_block ?_
    have _oi_18 : Ol bcs 4 1 _wr_13 (.slice _Av10 (aA).length _Cv10) (_o1) := by
      have hx := _o0_3
      exact hx
    refine W_loop (σ := Nat × List Bool) (fun ⟨s, _o2⟩ => [(1, (.pointer (some ⟨_b1, 0, none⟩))), (2, (.slice none 0 0)), (3, (.slice _Av10 (aA).length _Cv10)), (4, (.int .i64 ((j : Nat) : Int))), (5, (.int .i64 ((s : Nat) : Int))), (11, (.int .i64 ((j : Nat) : Int))), (12, (.pointer (some (Addr.add ⟨_b1, 0, none⟩ 1)))), (13, (.slice _A_aA aA.length _C_aA)), (14, (.int .i64 ((aA.length : Nat) : Int))), (15, (.bool (decide (((j : Nat) : Int) < ((aA.length : Nat) : Int)))))]) (fun ⟨s, _o2⟩ wx => Ch [] w wx ∧ _wr_13.heap.size ≤ wx.heap.size ∧ (s ≤ aA.length) ∧ (_o2.length = aA.length) ∧ (ClBelow (LiveB aA) (EdgeA aN) _o2) ∧ (ClAbove (LiveB aA) (EdgeA aN) _o2 j) ∧ (UpTo aA aN j _o2 s) ∧ Blk wx _b1 28 [(.int .i64 aS), (.slice _A_aA aA.length _C_aA), (.slice _A_saN saN.length _C_saN)] ∧ Ls bcs 1 wx w.heap.size (.slice _A_aA aA.length _C_aA) aA ∧ Ol bcs 4 1 wx (.slice _Av10 (aA).length _Cv10) _o2) (fun ⟨s, _o2⟩ => aA.length - s) (0, _o1) (Sub.cons rfl (Sub.cons rfl (Sub.cons rfl (Sub.cons rfl (Sub.cons rfl (Sub.cons rfl (Sub.cons rfl (Sub.cons rfl (Sub.cons rfl (Sub.cons rfl (Sub.nil _))))))))))) ⟨E, (Nat.le_refl _), (by omega), hl1, hb1, ha1, upto_zero, _F0_0, _F0_1, _oi_18⟩ ?_
    rintro ⟨s, _o2⟩ _wr_19 ⟨E, _zz1, hs, hl2, hb2, ha2, hu2, _F1_0, _F1_1, _o1_3⟩
    have _E1h := E
    have _E1hz := _E1h.size
    have _F1_0z := _F1_0.lt
    refine W_seq fun _K_20 _hK_20 => ?_
    refine W_seq fun _K_21 _hK_21 => ?_
    refine W_region ?_
    refine WL_step rfl rfl (r_move rfl) ?_
    refine WL_step rfl rfl (r_fieldAddr fa28_1 rfl) ?_
    refine WL_step rfl rfl (r_loadAt _F1_0.at_ agg22 rfl rfl) ?_
    refine WL_step rfl rfl (r_len (by rw [el22]; rfl) rfl) ?_
    refine WL_step rfl rfl (r_lss rfl rfl) ?_
    refine WL_nil ?_
    refine thn_nrm (_hK_21 _ _ ?_)
    clear _hK_21
    refine W_cond rfl (fun _h22 => ?_) (fun _h22 => ?_)
    · have _h22 := bt_d _h22
      refine W_skip ?_
      refine thn_nrm (_hK_20 _ _ ?_)
      clear _hK_20
      refine W_seq fun _K_22 _hK_22 => ?_
      refine W_block ?_
      refine W_seq fun _K_23 _hK_23 => ?_
      refine W_region ?_
      refine WL_step rfl rfl (r_assign rfl) ?_
      refine WL_nil ?_
      refine thn_nrm (_hK_23 _ _ ?_)
      clear _hK_23
      refine W_block ?_
      have _oi_24 : Ol bcs 4 1 _wr_19 (.slice _Av10 (aA).length _Cv10) (_o2) := by
        have hx := _o1_3
        exact hx
      refine W_loop (σ := Nat × List Bool) (fun ⟨k, _o3⟩ => [(1, (.pointer (some ⟨_b1, 0, none⟩))), (2, (.slice none 0 0)), (3, (.slice _Av10 (aA).length _Cv10)), (4, (.int .i64 ((j : Nat) : Int))), (5, (.int .i64 ((s : Nat) : Int))), (6, (.int .i64 ((k : Nat) : Int))), (11, (.int .i64 ((j : Nat) : Int))), (12, (.pointer (some (Addr.add ⟨_b1, 0, none⟩ 1)))), (13, (.slice _A_aA aA.length _C_aA)), (14, (.int .i64 ((aA.length : Nat) : Int))), (15, (.bool (decide (((j : Nat) : Int) < ((aA.length : Nat) : Int))))), (18, (.int .i64 ((s : Nat) : Int))), (19, (.pointer (some (Addr.add ⟨_b1, 0, none⟩ 1)))), (20, (.slice _A_aA aA.length _C_aA)), (21, (.int .i64 ((aA.length : Nat) : Int))), (22, (.bool (decide (((s : Nat) : Int) < ((aA.length : Nat) : Int)))))]) (fun ⟨k, _o3⟩ wx => Ch [] w wx ∧ _wr_19.heap.size ≤ wx.heap.size ∧ (k ≤ 9) ∧ (_o3.length = aA.length) ∧ (ClBelow (LiveB aA) (EdgeA aN) _o3) ∧ (ClAbove (LiveB aA) (EdgeA aN) _o3 j) ∧ (UpTo aA aN j _o3 s) ∧ (RowUp aA aN j _o3 s k) ∧ Blk wx _b1 28 [(.int .i64 aS), (.slice _A_aA aA.length _C_aA), (.slice _A_saN saN.length _C_saN)] ∧ Ls bcs 1 wx w.heap.size (.slice _A_aA aA.length _C_aA) aA ∧ Ol bcs 4 1 wx (.slice _Av10 (aA).length _Cv10) _o3) (fun ⟨k, _o3⟩ => 9 - k) (0, _o2) (Sub.cons rfl (Sub.cons rfl (Sub.cons rfl (Sub.cons rfl (Sub.cons rfl (Sub.cons rfl (Sub.cons rfl (Sub.cons rfl (Sub.cons rfl (Sub.cons rfl (Sub.cons rfl (Sub.cons rfl (Sub.cons rfl (Sub.cons rfl (Sub.cons rfl (Sub.cons rfl (Sub.nil _))))))))))))))))) ⟨E, (Nat.le_refl _), (by omega), hl2, hb2, ha2, hu2, rowup_zero, _F1_0, _F1_1, _oi_24⟩ ?_
      rintro ⟨k, _o3⟩ _wr_25 ⟨E, _zz2, _hk, hl3, hb3, ha3, hu3, hr3, _F2_0, _F2_1, _o2_3⟩
      have _E2h := E
      have _E2hz := _E2h.size
      have _F2_0z := _F2_0.lt
      refine W_seq fun _K_26 _hK_26 => ?_
      refine W_seq fun _K_27 _hK_27 => ?_
      refine W_region ?_
      refine WL_step rfl rfl (r_move rfl) ?_
      refine WL_step rfl rfl (r_lss rfl rfl) ?_
      refine WL_nil ?_
      refine thn_nrm (_hK_27 _ _ ?_)
      clear _hK_27
      refine W_cond rfl (fun _h26 => ?_) (fun _h26 => ?_)
      · have _h26 := bt_d _h26
        refine W_skip ?_
        refine thn_nrm (_hK_26 _ _ ?_)
        clear _hK_26
        refine W_seq fun _K_28 _hK_28 => ?_
        refine W_block ?_
        refine W_seq fun _K_29 _hK_29 => ?_
        refine W_region ?_
        refine WL_step rfl rfl (r_fieldAddr fa28_2 rfl) ?_
        refine WL_step rfl rfl (r_loadAt _F2_0.at_ agg23 rfl rfl) ?_
        refine WL_step rfl rfl (r_move rfl) ?_
        refine WL_s rfl rfl ?_
        have _f_30 := (_h_saN.ch0 _E2h)
        refine (s_index _f_30 Sv.len el23 sz32 rfl rfl rfl (by omega) fun _p32 _y32 _hy32 _a32 => ?_)
        have _f_31 := (_rd_aN.ch0 _E2h)
        obtain ⟨_ys32, _hys32, _fs32⟩ := _f_31.get _hy32
        obtain ⟨_A32, _n32, _C32⟩ := _y32
        obtain rfl := _fs32.eqn
        have _l32 := _fs32.len
        replace _fs32 : Ls ics 1 _wr_25 w.heap.size (.slice _A32 _ys32.length _C32) _ys32 := _fs32
        replace _a32 : At _wr_25 w.heap.size _p32 ([(.slice _A32 _ys32.length _C32)]) := _a32
        have _e32 := (fits_row hv.2 _hys32).1
        refine WL_step rfl rfl (r_loadAt0 _a32 agg32 rfl rfl) ?_
        refine WL_step rfl rfl (r_move rfl) ?_
        refine WL_s rfl rfl ?_
        refine (s_index _fs32 ics_len el32 sz3 rfl rfl rfl (by omega) fun _p35 _y35 _hy35 _a35 => ?_)
        refine WL_step rfl rfl (r_loadAt0 _a35 agg3 rfl rfl) ?_
        refine WL_step rfl rfl (r_geq rfl rfl) ?_
        refine WL_step rfl rfl (r_move rfl) ?_
        refine WL_split (d := 38) rfl (fun _h38 => ?_) (fun _h38 => ?_)
        · have _h38 := bt_d _h38
          refine WL_step rfl rfl (r_move rfl) ?_
          refine WL_step rfl rfl (r_fieldAddr fa28_2 rfl) ?_
          refine WL_step rfl rfl (r_loadAt _F2_0.at_ agg23 rfl rfl) ?_
          refine WL_step rfl rfl (r_move rfl) ?_
          refine WL_s rfl rfl ?_
          refine (s_index _f_30 Sv.len el23 sz32 rfl rfl rfl (by omega) fun _p43 _y43 _hy43 _a43 => ?_)
          obtain ⟨_ys43, _hys43, _fs43⟩ := _f_31.get _hy43
          obtain ⟨_A43, _n43, _C43⟩ := _y43
          obtain rfl := _fs43.eqn
          have _l43 := _fs43.len
          replace _fs43 : Ls ics 1 _wr_25 w.heap.size (.slice _A43 _ys43.length _C43) _ys43 := _fs43
          replace _a43 : At _wr_25 w.heap.size _p43 ([(.slice _A43 _ys43.length _C43)]) := _a43
          have _e43 := (fits_row hv.2 _hys43).1
          refine WL_step rfl rfl (r_loadAt0 _a43 agg32 rfl rfl) ?_
          refine WL_step rfl rfl (r_move rfl) ?_
          refine WL_s rfl rfl ?_
          refine (s_index _fs43 ics_len el32 sz3 rfl rfl rfl (by omega) fun _p46 _y46 _hy46 _a46 => ?_)
          have _e46 := get_uniq _hy35 ((get_uniq _hys43 _hys32) ▸ _hy46)
          have f46 := fits_el hv.2 _hys43 _hy46
          refine WL_step rfl rfl (r_loadAt0 _a46 agg3 rfl rfl) ?_
          refine WL_s rfl rfl ?_
          refine (s_index (j := _y46.toNat) _o2_3.ls bcs_len el22 sz4 rfl rfl (by omega) (by omega) fun _p48 _y48 _hy48 _a48 => ?_)
          refine WL_step rfl rfl (r_loadAt0 _a48 agg4 rfl rfl) ?_
          refine WL_step rfl rfl (r_pickT rfl rfl) ?_
          refine WL_nil ?_
          refine thn_nrm (_hK_29 _ _ ?_)
          clear _hK_29
          refine W_cond rfl (fun _h50 => ?_) (fun _h50 => ?_)
          · refine W_region ?_
            refine WL_step rfl rfl (r_move rfl) ?_
            refine WL_step rfl rfl (r_move rfl) ?_
            refine WL_s rfl rfl ?_
            refine s_indexO (j := s) _o2_3 el22 sz4 rfl rfl rfl (by omega) fun _g53 _o53 _cp53 _q53 => ?_
            refine WL_s rfl rfl ?_
            refine s_storeO (j := s) true _o2_3 _q53 bcs_len sz4 rfl rfl rfl rfl (by omega) fun _w_32 _o_33 _cw_32 => ?_
            have _cw_32z := _cw_32.size
            have E := E.step _cw_32 (fun i hi => .inl (by have _h1 := _lo10 _ hi; omega))
            refine WL_nil ?_
            refine inB_nrm ?_
            refine thn_nrm (_hK_28 _ _ ?_)
            clear _hK_28
            refine W_region ?_
            refine WL_step rfl rfl (r_move rfl) ?_
            refine WL_step rfl rfl (r_add (by omega) rfl rfl) ?_
            refine WL_step rfl rfl (r_assign rfl) ?_
            refine WL_nil ?_
            have _on_34 : Ol bcs 4 1 _w_32 (.slice _Av10 (aA).length _Cv10) ((_o3.set s true)) := by
              have hx := _o_33
              exact hx
            have _f_35 := (_F2_0.ch _cw_32 (fun hm => by rcases _ap10 with ea | ea; (rw [ea] at hm; have _h1 := _lo7 _ hm; have _h2 := _hiv7 _ hm; omega); (rw [ea] at hm; have _z1 := List.mem_singleton.1 hm; omega)))
            have _f_36 := (_F2_1.ch _cw_32 (fun i hi => by have _h1 := _lo10 _ hi; omega))
            exact thn_nrm (Exists.intro ((k + 1), (_o3.set s true)) ⟨⟨E, (by omega), (by omega), (by first | exact hl3 | simpa using hl3), (by first | exact hb3 | exact set_below hb3 (.step (t := _y46.toNat) ⟨k, _ys43, _hys43, by rw [_hy46, Int.toNat_of_nonneg (by omega)]⟩ (hb3 _ (by rw [_hy48, _h50])))), (by first | exact ha3 | exact set_above ha3), (by first | exact hu3 | exact upto_set hu3), (by first | exact rowup_hit (by omega) | exact rowup_miss hr3 _hys32 _hy35 (fun t e _ => by omega) ha3 | exact rowup_miss hr3 _hys32 _hy35 (fun t e q => by obtain rfl : t = _y46.toNat := (by omega); rw [_hy48, _h50] at q; cases q) ha3), _f_35, _f_36, _on_34⟩, Sub.cons rfl (Sub.cons rfl (Sub.cons rfl (Sub.cons rfl (Sub.cons rfl (Sub.cons rfl (Sub.cons rfl (Sub.cons rfl (Sub.cons rfl (Sub.cons rfl (Sub.cons rfl (Sub.cons rfl (Sub.cons rfl (Sub.cons rfl (Sub.cons rfl (Sub.cons rfl (Sub.nil _)))))))))))))))), (by first | omega | (dsimp only; omega))⟩)
          · refine W_skip ?_
            refine inB_nrm ?_
            refine thn_nrm (_hK_28 _ _ ?_)
            clear _hK_28
            refine W_region ?_
            refine WL_step rfl rfl (r_move rfl) ?_
            refine WL_step rfl rfl (r_add (by omega) rfl rfl) ?_
            refine WL_step rfl rfl (r_assign rfl) ?_
            refine WL_nil ?_
            have _on_37 : Ol bcs 4 1 _wr_25 (.slice _Av10 (aA).length _Cv10) (_o3) := by
              have hx := _o2_3
              exact hx
            exact thn_nrm (Exists.intro ((k + 1), _o3) ⟨⟨E, (by omega), (by omega), (by first | exact hl3 | simpa using hl3), (by first | exact hb3 | exact set_below hb3 (.step (t := _y46.toNat) ⟨k, _ys43, _hys43, by rw [_hy46, Int.toNat_of_nonneg (by omega)]⟩ (hb3 _ (by rw [_hy48, _h50])))), (by first | exact ha3 | exact set_above ha3), (by first | exact hu3 | exact upto_set hu3), (by first | exact rowup_hit (by omega) | exact rowup_miss hr3 _hys32 _hy35 (fun t e _ => by omega) ha3 | exact rowup_miss hr3 _hys32 _hy35 (fun t e q => by obtain rfl : t = _y46.toNat := (by omega); rw [_hy48, _h50] at q; cases q) ha3), _F2_0, _F2_1, _on_37⟩, Sub.cons rfl (Sub.cons rfl (Sub.cons rfl (Sub.cons rfl (Sub.cons rfl (Sub.cons rfl (Sub.cons rfl (Sub.cons rfl (Sub.cons rfl (Sub.cons rfl (Sub.cons rfl (Sub.cons rfl (Sub.cons rfl (Sub.cons rfl (Sub.cons rfl (Sub.cons rfl (Sub.nil _)))))))))))))))), (by first | omega | (dsimp only; omega))⟩)
        · have _h38 := bf_d _h38
          refine WL_skip rfl rfl ?_
          refine WL_skip rfl rfl ?_
          refine WL_skip rfl rfl ?_
          refine WL_skip rfl rfl ?_
          refine WL_skip rfl rfl ?_
          refine WL_skip rfl rfl ?_
          refine WL_skip rfl rfl ?_
          refine WL_skip rfl rfl ?_
          refine WL_skip rfl rfl ?_
          refine WL_skip rfl rfl ?_
          refine WL_skip rfl rfl ?_
          refine WL_step rfl rfl (r_pickF rfl rfl) ?_
          refine WL_nil ?_
          refine thn_nrm (_hK_29 _ _ ?_)
          clear _hK_29
          refine W_condF rfl ?_
          refine W_skip ?_
          refine inB_nrm ?_
          refine thn_nrm (_hK_28 _ _ ?_)
          clear _hK_28
          refine W_region ?_
          refine WL_step rfl rfl (r_move rfl) ?_
          refine WL_step rfl rfl (r_add (by omega) rfl rfl) ?_
          refine WL_step rfl rfl (r_assign rfl) ?_
          refine WL_nil ?_
          have _on_38 : Ol bcs 4 1 _wr_25 (.slice _Av10 (aA).length _Cv10) (_o3) := by
            have hx := _o2_3
            exact hx
          exact thn_nrm (Exists.intro ((k + 1), _o3) ⟨⟨E, (by omega), (by omega), (by first | exact hl3 | simpa using hl3), (by first | exact hb3 | exact set_below hb3 (.step (t := _y46.toNat) ⟨k, _ys43, _hys43, by rw [_hy46, Int.toNat_of_nonneg (by omega)]⟩ (hb3 _ (by rw [_hy48, _h50])))), (by first | exact ha3 | exact set_above ha3), (by first | exact hu3 | exact upto_set hu3), (by first | exact rowup_hit (by omega) | exact rowup_miss hr3 _hys32 _hy35 (fun t e _ => by omega) ha3 | exact rowup_miss hr3 _hys32 _hy35 (fun t e q => by obtain rfl : t = _y46.toNat := (by omega); rw [_hy48, _h50] at q; cases q) ha3), _F2_0, _F2_1, _on_38⟩, Sub.cons rfl (Sub.cons rfl (Sub.cons rfl (Sub.cons rfl (Sub.cons rfl (Sub.cons rfl (Sub.cons rfl (Sub.cons rfl (Sub.cons rfl (Sub.cons rfl (Sub.cons rfl (Sub.cons rfl (Sub.cons rfl (Sub.cons rfl (Sub.cons rfl (Sub.cons rfl (Sub.nil _)))))))))))))))), (by first | omega | (dsimp only; omega))⟩)
      · have _h26 := bf_d _h26
        refine W_exit (thn_exit (thn_exit (inB_hit ?_)))
        refine inB_nrm ?_
        refine thn_nrm (_hK_22 _ _ ?_)
        clear _hK_22
        refine W_region ?_
        refine WL_step rfl rfl (r_move rfl) ?_
        refine WL_step rfl rfl (r_add (by omega) rfl rfl) ?_
        refine WL_step rfl rfl (r_assign rfl) ?_
        refine WL_nil ?_
        have _on_39 : Ol bcs 4 1 _wr_25 (.slice _Av10 (aA).length _Cv10) (_o3) := by
          have hx := _o2_3
          exact hx
        exact thn_nrm (Exists.intro ((s + 1), _o3) ⟨⟨E, (by omega), (by omega), hl3, hb3, ha3, (upto_row hu3 hr3 (fun r hr => by have _h1 := (fits_row hv.2 hr).1; omega)), _F2_0, _F2_1, _on_39⟩, Sub.cons rfl (Sub.cons rfl (Sub.cons rfl (Sub.cons rfl (Sub.cons rfl (Sub.cons rfl (Sub.cons rfl (Sub.cons rfl (Sub.cons rfl (Sub.cons rfl (Sub.nil _)))))))))), (by first | omega | (dsimp only; omega))⟩)
    · have _h22 := bf_d _h22
      refine W_exit (thn_exit (thn_exit (inB_hit ?_)))
      refine inB_nrm ?_
      refine thn_nrm (_hK_16 _ _ ?_)
      clear _hK_16
      refine W_region ?_
      refine WL_step rfl rfl (r_move rfl) ?_
      refine WL_step rfl rfl (r_add (by omega) rfl rfl) ?_
      refine WL_step rfl rfl (r_assign rfl) ?_
      refine WL_nil ?_
      have _on_40 : Ol bcs 4 1 _wr_19 (.slice _Av10 (aA).length _Cv10) (_o2) := by
        have hx := _o1_3
        exact hx
      exact thn_nrm (Exists.intro ((j + 1), _o2) ⟨⟨E, (by omega), (by omega), hl2, hb2, (round_up ha2 hu2 (by omega)), _F1_0, _F1_1, _on_40⟩, Sub.cons rfl (Sub.cons rfl (Sub.cons rfl (Sub.cons rfl (Sub.nil _)))), (by first | omega | (dsimp only; omega))⟩)
  · have _h15 := bf_d _h15
    refine W_exit (thn_exit (thn_exit (inB_hit ?_)))
    refine thn_nrm (_hK_8 _ _ ?_)
    clear _hK_8
    refine W_seq fun _K_41 _hK_41 => ?_
    refine W_region ?_
    refine WL_step rfl rfl (r_move rfl) ?_
    refine WL_step rfl rfl (r_assign rfl) ?_
    refine WL_nil ?_
    refine thn_nrm (_hK_41 _ _ ?_)
    clear _hK_41
    refine W_ret ?_
    clear _hK_14
    have _o_42 : Ol bcs 4 1 _wr_13 (.slice _Av10 (aA).length _Cv10) (liveL aA aN) := by
      have hx := _o0_3
      (rw [← live_of_rounds hl1 hv2 hb1 ha1 (by omega)]; exact hx)
    exact ret_intro [_] ⟨rfl, trivial⟩ ⟨_o_42, Lo.down _lo10 (by omega), E⟩

/-- spec.IsEmptyAutomaton -/
theorem c_spec_IsEmptyAutomaton {w : World} (aS : Int) {_B_aA : Nat} {_v_aA : Value} {aA : List Bool} (_h_aA : Ls bcs 1 w _B_aA _v_aA aA) {_B_saN : Nat} {_v_saN : Value} {saN : List Sv} (_h_saN : Ls Sv.cs 1 w _B_saN _v_saN saN) {BB_aN : Nat} {aN : List (List Int)} (_rd_aN : Rd ics 1 w BB_aN saN aN) :
    Ctr Try.prog 15 #[(.agg #[(.int .i64 aS), _v_aA, _v_saN])] w (fun v w' => v = .bool (emR aS aA aN) ∧ Ch [] w w') := by
  obtain ⟨_A_aA, _C_aA, _e1_aA⟩ := _h_aA.val
  subst _e1_aA
  have _l_aA := _h_aA.len
  have _h_aA := _h_aA.here (by decide)
  obtain ⟨_A_saN, _C_saN, _e1_saN⟩ := _h_saN.val
  subst _e1_saN
  have _l_saN := _h_saN.len
  have _h_saN := _h_saN.here (by decide)
  have _rd_aN := _rd_aN.here (by decide)
  have _rl_aN := _rd_aN.1
  have E := Ch.refl [] w
  refine Ctr_of_W (N := 14) (vs0 := [(.agg #[(.int .i64 aS), (.slice _A_aA aA.length _C_aA), (.slice _A_saN saN.length _C_saN)])]) Try.func15 rfl rfl rfl ?_
  refine W_seq fun _K_1 _hK_1 => ?_
  refine W_region ?_
  refine WL_s rfl rfl ?_
  refine s_box rfl fun _b1 _w_2 _m1 _cw_2 _e1 => ?_
  have _cw_2z := _cw_2.size
  have E := E.trans _cw_2
  have _z1 := _m1.lt
  replace _m1 : Blk _w_2 _b1 28 [(.int .i64 aS), (.slice _A_aA aA.length _C_aA), (.slice _A_saN saN.length _C_saN)] := _m1
  refine WL_step rfl rfl (r_assign rfl) ?_
  refine WL_nil ?_
  refine thn_nrm (_hK_1 _ _ ?_)
  clear _hK_1
  refine W_seq fun _K_3 _hK_3 => ?_
  refine W_drawC [] 12 mixed rfl fun _w_4 _cw_4 => ?_
  have _cw_4z := _cw_4.size
  have E := E.trans _cw_4
  have _f_5 := (_m1.ch0 _cw_4)
  refine DR_s 0 rfl (by kernel_rfl) rfl rfl (t_loadAtA0 _f_5.at_ (fun i hi => by first | exact absurd hi (List.not_mem_nil) | (have _h1 := List.mem_singleton.1 hi; omega)) agg28 sz28 rfl ?_)
  refine DR_one 1 (by kernel_rfl) ?_
  refine DO_s rfl rfl rfl ?_
  have _f_6 := ((_h_aA.ch0 _cw_2).ch0 _cw_4)
  have _f_7 := ((_rd_aN.ch0 _cw_2).ch0 _cw_4)
  have _f_8 := ((_h_saN.ch0 _cw_2).ch0 _cw_4)
  refine Step.call (r_call (xs := [.tmp 3]) fk49 rfl) (c_spec_IsValidAutomaton _ _f_6 _f_8 _f_7 ) fun _v4 _w_9 _q4 => ?_
  obtain ⟨rfl, _cw_9⟩ := _q4
  have _cw_9z := _cw_9.size
  have E := E.trans _cw_9
  have _S_10 : Ch [] _w_4 _w_9 := ((Ch.refl _ _).trans _cw_9.of_nil)
  refine ⟨_S_10, ?_⟩
  refine DR_s 2 rfl (by kernel_rfl) rfl rfl (t_v (fun _ => (r_move rfl)) ?_)
  refine DR_split (d := 5) rfl (fun _h5 => ?_) (fun _h5 => ?_)
  · have _h5 := bt_t _h5
    refine DR_s 3 rfl (by kernel_rfl) rfl rfl (t_loadAtA0 _f_5.at_ (fun i hi => by first | exact absurd hi (List.not_mem_nil) | (have _h1 := List.mem_singleton.1 hi; omega)) agg28 sz28 rfl ?_)
    refine DR_s 5 rfl (by kernel_rfl) rfl rfl (t_v (fun _ => (r_fieldAddr fa28_0 rfl)) ?_)
    refine DR_s 6 rfl (by kernel_rfl) rfl rfl (t_loadAt _f_5.at_ (fun i hi => by first | exact absurd hi (List.not_mem_nil) | (have _h1 := List.mem_singleton.1 hi; omega)) agg3 rfl rfl ?_)
    refine DR_one 4 (by kernel_rfl) ?_
    refine DO_s rfl rfl rfl ?_
    have _f_11 := (_f_6.ch0 _cw_9)
    have _f_12 := (_f_7.ch0 _cw_9)
    have _f_13 := (_f_8.ch0 _cw_9)
    refine Step.call (r_call (xs := [.tmp 6]) fk50 rfl) (c_spec_l11Live _ _f_11 _f_13 _f_12 _h5) fun _v7 _w_14 _q7 => ?_
    obtain ⟨_q7, _lo7, _cw_14⟩ := _q7
    have _cw_14z := _cw_14.size
    have E := E.trans _cw_14
    obtain ⟨_Av7, _Cv7, _ev7⟩ := _q7.val
    subst _ev7
    have _lv7 := _q7.len
    have _hiv7 := _q7.lt
    have _e7 := liveL_len aA aN
    have f7 := _h5.2.1
    have _S_15 : Ch [] _w_4 _w_14 := (_S_10.trans _cw_14.of_nil)
    refine ⟨_S_15, ?_⟩
    refine DR_one 7 (by kernel_rfl) ?_
    refine DO_s rfl rfl rfl ?_
    refine (s_index (j := aS.toNat) _q7.ls bcs_len el22 sz4 rfl rfl (by omega) (by omega) fun _p10 _y10 _hy10 _a10 => ?_)
    refine ⟨_S_15, ?_⟩
    refine DR_one 8 (by kernel_rfl) ?_
    refine DO_s rfl rfl rfl ?_
    refine s_v (r_loadAt0 _a10 agg4 rfl rfl) ?_
    refine ⟨_S_15, ?_⟩
    refine DR_s 9 rfl (by kernel_rfl) rfl rfl (t_v (fun _ => (r_not rfl)) ?_)
    refine DR_s 10 rfl (by kernel_rfl) rfl rfl (t_v (fun _ => (r_pickT rfl rfl)) ?_)
    refine DR_s 11 rfl (by kernel_rfl) rfl rfl (t_v (fun _ => (r_assign rfl)) ?_)
    refine DR_done (by kernel_rfl) ?_
    refine thn_nrm (_hK_3 _ _ ?_)
    clear _hK_3
    refine W_ret ?_
    exact ret_intro [_] ⟨rfl, trivial⟩ ⟨congrArg Value.bool (by first | exact em_y _h5 _hy10 | exact em_n _h5), E⟩
  · have _h5 := bf_t _h5
    refine DR_skip 3 rfl (by kernel_rfl) rfl rfl ?_
    refine DR_skip 4 rfl (by kernel_rfl) rfl rfl ?_
    refine DR_skip 5 rfl (by kernel_rfl) rfl rfl ?_
    refine DR_skip 6 rfl (by kernel_rfl) rfl rfl ?_
    refine DR_skip 7 rfl (by kernel_rfl) rfl rfl ?_
    refine DR_skip 8 rfl (by kernel_rfl) rfl rfl ?_
    refine DR_skip 9 rfl (by kernel_rfl) rfl rfl ?_
    refine DR_s 10 rfl (by kernel_rfl) rfl rfl (t_v (fun _ => (r_pickF rfl rfl)) ?_)
    refine DR_s 11 rfl (by kernel_rfl) rfl rfl (t_v (fun _ => (r_assign rfl)) ?_)
    refine DR_done (by kernel_rfl) ?_
    refine thn_nrm (_hK_3 _ _ ?_)
    clear _hK_3
    refine W_ret ?_
    exact ret_intro [_] ⟨rfl, trivial⟩ ⟨congrArg Value.bool (by first | exact em_y _h5 _hy10 | exact em_n _h5), E⟩

/-- laws.FnExactIsEmptyAutomaton -/
theorem c_laws_FnExactIsEmptyAutomaton {w : World} (aS : Int) {_B_aA : Nat} {_v_aA : Value} {aA : List Bool} (_h_aA : Ls bcs 1 w _B_aA _v_aA aA) {_B_saN : Nat} {_v_saN : Value} {saN : List Sv} (_h_saN : Ls Sv.cs 1 w _B_saN _v_saN saN) {BB_aN : Nat} {aN : List (List Int)} (_rd_aN : Rd ics 1 w BB_aN saN aN) :
    Ctr Try.prog 3 #[(.agg #[(.int .i64 aS), _v_aA, _v_saN])] w (fun v w' => v = .bool (true) ∧ Ch [] w w') := by
  obtain ⟨_A_aA, _C_aA, _e1_aA⟩ := _h_aA.val
  subst _e1_aA
  have _l_aA := _h_aA.len
  have _h_aA := _h_aA.here (by decide)
  obtain ⟨_A_saN, _C_saN, _e1_saN⟩ := _h_saN.val
  subst _e1_saN
  have _l_saN := _h_saN.len
  have _h_saN := _h_saN.here (by decide)
  have _rd_aN := _rd_aN.here (by decide)
  have _rl_aN := _rd_aN.1
  have E := Ch.refl [] w
  refine Ctr_of_W (N := 27) (vs0 := [(.agg #[(.int .i64 aS), (.slice _A_aA aA.length _C_aA), (.slice _A_saN saN.length _C_saN)])]) Try.func3 rfl rfl rfl ?_
  refine W_seq fun _K_1 _hK_1 => ?_
  refine W_region ?_
  refine WL_s rfl rfl ?_
  refine s_box rfl fun _b1 _w_2 _m1 _cw_2 _e1 => ?_
  have _cw_2z := _cw_2.size
  have E := E.trans _cw_2
  have _z1 := _m1.lt
  replace _m1 : Blk _w_2 _b1 25 [(.int .i64 aS), (.slice _A_aA aA.length _C_aA), (.slice _A_saN saN.length _C_saN)] := _m1
  refine WL_step rfl rfl (r_assign rfl) ?_
  refine WL_nil ?_
  refine thn_nrm (_hK_1 _ _ ?_)
  clear _hK_1
  refine W_seq fun _K_3 _hK_3 => ?_
  refine W_region ?_
  refine WL_step rfl rfl (r_assign rfl) ?_
  refine WL_nil ?_
  refine thn_nrm (_hK_3 _ _ ?_)
  clear _hK_3
  refine W_seq fun _K_4 _hK_4 => ?_
  refine W_region ?_
  refine WL_step rfl rfl (r_loadAtA0 _m1.at_ agg25 sz25 rfl) ?_
  refine WL_step rfl rfl (r_move rfl) ?_
  refine WL_s rfl rfl ?_
  have _f_5 := (_h_aA.ch0 _cw_2)
  have _f_6 := (_rd_aN.ch0 _cw_2)
  have _f_7 := (_h_saN.ch0 _cw_2)
  refine Step.call (r_call (xs := [.tmp 7, .tmp 8]) fk14 rfl) (c_laws_szAutomaton _ _f_5 _f_7 _f_6 _ (by omega) (by omega)) fun _v9 _w_8 _q9 => ?_
  obtain ⟨rfl, _cw_8⟩ := _q9
  have _cw_8z := _cw_8.size
  have E := E.trans _cw_8
  refine WL_step rfl rfl (r_assign rfl) ?_
  refine WL_nil ?_
  refine thn_nrm (_hK_4 _ _ ?_)
  clear _hK_4
  refine W_seq fun _K_9 _hK_9 => ?_
  refine W_seq fun _K_10 _hK_10 => ?_
  refine W_region ?_
  refine WL_step rfl rfl (r_move rfl) ?_
  refine WL_step rfl rfl (r_lss rfl rfl) ?_
  refine WL_nil ?_
  refine thn_nrm (_hK_10 _ _ ?_)
  clear _hK_10
  refine W_cond rfl (fun _h11 => ?_) (fun _h11 => ?_)
  · have _h11 := bt_d _h11
    refine W_seq fun _K_11 _hK_11 => ?_
    refine W_region ?_
    refine WL_step rfl rfl (r_assign rfl) ?_
    refine WL_nil ?_
    refine thn_nrm (_hK_11 _ _ ?_)
    clear _hK_11
    refine W_ret (thn_ret ?_)
    clear _hK_9
    exact ret_intro [_] ⟨rfl, trivial⟩ ⟨congrArg Value.bool (by first | rfl | (exfalso; omega) | (exfalso; revert _h11; simp; done) | (exfalso; revert _h11; simp; omega)), E⟩
  · have _h11 := bf_d _h11
    refine W_skip ?_
    refine thn_nrm (_hK_9 _ _ ?_)
    clear _hK_9
    refine W_seq fun _K_12 _hK_12 => ?_
    refine W_region ?_
    have _f_13 := (_m1.ch0 _cw_8)
    refine WL_step rfl rfl (r_loadAtA0 _f_13.at_ agg25 sz25 rfl) ?_
    refine WL_s rfl rfl ?_
    have _f_14 := (_f_5.ch0 _cw_8)
    have _f_15 := (_f_6.ch0 _cw_8)
    have _f_16 := (_f_7.ch0 _cw_8)
    refine Step.call (r_call (xs := [.tmp 12]) fk16 rfl) (c_laws_toAutomaton _ _f_14 _f_16 _f_15 (by omega)) fun _v13 _w_17 _q13 => ?_
    obtain ⟨_u13, _t13, vs13, rfl, _q13, _lo13, _q213, _lo213, od13, _cw_17⟩ := _q13
    have _cw_17z := _cw_17.size
    have E := E.trans _cw_17
    obtain ⟨_Au13, _Cu13, _eu13⟩ := _q13.val
    subst _eu13
    have _lu13 := _q13.len
    have _hiu13 := _q13.lt
    obtain ⟨_At13, _Ct13, _et13⟩ := _q213.val
    subst _et13
    have _lt13 := _q213.len
    have _hit13 := _q213.lt
    refine WL_s rfl rfl ?_
    refine Step.call (r_call (xs := [.tmp 13]) fk15 rfl) (c_spec_IsEmptyAutomaton _ _q13.ls _q213.ls od13.rd ) fun _v14 _w_18 _q14 => ?_
    obtain ⟨rfl, _cw_18⟩ := _q14
    have _cw_18z := _cw_18.size
    have E := E.trans _cw_18
    refine WL_step rfl rfl (r_assign rfl) ?_
    refine WL_nil ?_
    refine thn_nrm (_hK_12 _ _ ?_)
    clear _hK_12
    refine W_seq fun _K_19 _hK_19 => ?_
    refine W_region ?_
    have _f_20 := ((_f_13.ch0 _cw_17).ch0 _cw_18)
    refine WL_step rfl rfl (r_loadAtA0 _f_20.at_ agg25 sz25 rfl) ?_
    refine WL_s rfl rfl ?_
    have _f_21 := ((_f_14.ch0 _cw_17).ch0 _cw_18)
    have _f_22 := ((_f_15.ch0 _cw_17).ch0 _cw_18)
    have _f_23 := ((_f_16.ch0 _cw_17).ch0 _cw_18)
    refine Step.call (r_call (xs := [.tmp 15]) fk16 rfl) (c_laws_toAutomaton _ _f_21 _f_23 _f_22 (by omega)) fun _v16 _w_24 _q16 => ?_
    obtain ⟨_u16, _t16, vs16, rfl, _q16, _lo16, _q216, _lo216, od16, _cw_24⟩ := _q16
    have _cw_24z := _cw_24.size
    have E := E.trans _cw_24
    obtain ⟨_Au16, _Cu16, _eu16⟩ := _q16.val
    subst _eu16
    have _lu16 := _q16.len
    have _hiu16 := _q16.lt
    obtain ⟨_At16, _Ct16, _et16⟩ := _q216.val
    subst _et16
    have _lt16 := _q216.len
    have _hit16 := _q216.lt
    refine WL_s rfl rfl ?_
    refine s_alloc zr28 fun _b5 _w_25 _m5 _cw_25 _e5 => ?_
    have _cw_25z := _cw_25.size
    have E := E.trans _cw_25
    have _z5 := _m5.lt
    replace _m5 : Blk _w_25 _b5 28 [(.int .i64 0), (.slice none 0 0), (.slice none 0 0)] := _m5
    refine WL_s rfl rfl ?_
    refine s_storeA (off := 0) 3 _m5 sz28 rfl (us := [(.int .i64 aS), (.slice _Au16 (aA).length _Cu16), (.slice _At16 (vs16).length _Ct16)]) rfl rfl rfl rfl fun _w_26 _m_27 _cw_26 => ?_
    have _cw_26z := _cw_26.size
    have E := E.step _cw_26 (fun i hi => .inl (by have _h1 := List.mem_singleton.1 hi; omega))
    replace _m_27 : Blk _w_26 _b5 28 [(.int .i64 aS), (.slice _Au16 (aA).length _Cu16), (.slice _At16 (vs16).length _Ct16)] := _m_27
    refine WL_nil ?_
    refine thn_nrm (_hK_19 _ _ ?_)
    clear _hK_19
    refine W_seq fun _K_28 _hK_28 => ?_
    refine W_region ?_
    refine WL_step rfl rfl (r_loadAtA0 _m_27.at_ agg28 sz28 rfl) ?_
    refine WL_s rfl rfl ?_
    have _f_29 := ((_q16.ch0 _cw_25).ch _cw_26 (fun g hg hm => by have _h0 := List.mem_singleton.1 hm; have _h2 := _lo16 _ hg; have _h3 := _hiu16 _ hg; omega))
    have _f_30 := ((od16.ch0 _cw_25).ch _cw_26 (fun i hi => by have _h1 := List.mem_singleton.1 hi; omega))
    have _f_31 := ((_q216.ch0 _cw_25).ch _cw_26 (fun g hg hm => by have _h0 := List.mem_singleton.1 hm; have _h2 := _lo216 _ hg; have _h3 := _hit16 _ hg; omega))
    refine Step.call (r_call (xs := [.tmp 17]) fk17 rfl) (c_impl_IsEmptyAutomaton _ _f_29.ls _f_31.ls _f_30.rd ) fun _v18 _w_32 _q18 => ?_
    obtain ⟨rfl, _cw_32⟩ := _q18
    have _cw_32z := _cw_32.size
    have E := E.trans _cw_32
    refine WL_step rfl rfl (r_assign rfl) ?_
    refine WL_nil ?_
    refine thn_nrm (_hK_28 _ _ ?_)
    clear _hK_28
    refine W_seq fun _K_33 _hK_33 => ?_
    refine W_seq fun _K_34 _hK_34 => ?_
    refine W_region ?_
    refine WL_step rfl rfl (r_move rfl) ?_
    refine WL_step rfl rfl (r_move rfl) ?_
    refine WL_step rfl rfl (r_neqB un4 rfl rfl) ?_
    refine WL_nil ?_
    refine thn_nrm (_hK_34 _ _ ?_)
    clear _hK_34
    refine W_cond rfl (fun _h21 => ?_) (fun _h21 => ?_)
    · have _h21 := bf_e (bt_n _h21)
      refine W_seq fun _K_35 _hK_35 => ?_
      refine W_region ?_
      refine WL_step rfl rfl (r_assign rfl) ?_
      refine WL_nil ?_
      refine thn_nrm (_hK_35 _ _ ?_)
      clear _hK_35
      refine W_ret (thn_ret ?_)
      clear _hK_33
      exact ret_intro [_] ⟨rfl, trivial⟩ ⟨congrArg Value.bool (by first | rfl | (exfalso; omega) | (exfalso; revert _h21; simp; done) | (exfalso; revert _h21; simp; omega)), E⟩
    · have _h21 := bt_e (bf_n _h21)
      refine W_skip ?_
      refine thn_nrm (_hK_33 _ _ ?_)
      clear _hK_33
      refine W_seq fun _K_36 _hK_36 => ?_
      refine W_seq fun _K_37 _hK_37 => ?_
      refine W_drawC [] 5 mixed rfl fun _w_38 _cw_38 => ?_
      have _cw_38z := _cw_38.size
      have E := E.trans _cw_38
      have _f_39 := ((_m_27.ch0 _cw_32).ch0 _cw_38)
      refine DR_s 0 rfl (by kernel_rfl) rfl rfl (t_loadAtA0 _f_39.at_ (fun i hi => by first | exact absurd hi (List.not_mem_nil) | (have _h1 := List.mem_singleton.1 hi; omega)) agg28 sz28 rfl ?_)
      have _f_40 := (((((_f_20.ch0 _cw_24).ch0 _cw_25).ch _cw_26 (fun hm => by have _h1 := List.mem_singleton.1 hm; omega)).ch0 _cw_32).ch0 _cw_38)
      refine DR_s 1 rfl (by kernel_rfl) rfl rfl (t_loadAtA0 _f_40.at_ (fun i hi => by first | exact absurd hi (List.not_mem_nil) | (have _h1 := List.mem_singleton.1 hi; omega)) agg25 sz25 rfl ?_)
      refine DR_one 2 (by kernel_rfl) ?_
      refine DO_s rfl rfl rfl ?_
      have _f_41 := (((((_f_21.ch0 _cw_24).ch0 _cw_25).ch _cw_26 (fun i hi => by have _h1 := List.mem_singleton.1 hi; omega)).ch0 _cw_32).ch0 _cw_38)
      have _f_42 := (((((_f_22.ch0 _cw_24).ch0 _cw_25).ch _cw_26 (fun i hi => by have _h1 := List.mem_singleton.1 hi; omega)).ch0 _cw_32).ch0 _cw_38)
      have _f_43 := (((((_f_23.ch0 _cw_24).ch0 _cw_25).ch _cw_26 (fun i hi => by have _h1 := List.mem_singleton.1 hi; omega)).ch0 _cw_32).ch0 _cw_38)
      refine Step.call (r_call (xs := [.tmp 23]) fk16 rfl) (c_laws_toAutomaton _ _f_41 _f_43 _f_42 (by omega)) fun _v24 _w_44 _q24 => ?_
      obtain ⟨_u24, _t24, vs24, rfl, _q24, _lo24, _q224, _lo224, od24, _cw_44⟩ := _q24
      have _cw_44z := _cw_44.size
      have E := E.trans _cw_44
      obtain ⟨_Au24, _Cu24, _eu24⟩ := _q24.val
      subst _eu24
      have _lu24 := _q24.len
      have _hiu24 := _q24.lt
      obtain ⟨_At24, _Ct24, _et24⟩ := _q224.val
      subst _et24
      have _lt24 := _q224.len
      have _hit24 := _q224.lt
      have _S_45 : Ch [] _w_38 _w_44 := ((Ch.refl _ _).trans _cw_44.of_nil)
      refine ⟨_S_45, ?_⟩
      refine DR_one 3 (by kernel_rfl) ?_
      refine DO_s rfl rfl rfl ?_
      have _f_46 := (((_f_29.ch0 _cw_32).ch0 _cw_38).ch0 _cw_44)
      have _f_47 := (((_f_30.ch0 _cw_32).ch0 _cw_38).ch0 _cw_44)
      have _f_48 := (((_f_31.ch0 _cw_32).ch0 _cw_38).ch0 _cw_44)
      refine Step.call (r_call (xs := [.tmp 22, .tmp 24]) fk18 rfl) (c_laws_eqAutomaton _ _f_46.ls _f_48.ls _f_47.rd _ _q24.ls _q224.ls od24.rd ) fun _v25 _w_49 _q25 => ?_
      obtain ⟨rfl, _cw_49⟩ := _q25
      have _cw_49z := _cw_49.size
      have E := E.trans _cw_49
      have _S_50 : Ch [] _w_38 _w_49 := (_S_45.trans _cw_49.of_nil)
      refine ⟨_S_50, ?_⟩
      refine DR_s 4 rfl (by kernel_rfl) rfl rfl (t_v (fun _ => (r_not rfl)) ?_)
      refine DR_done (by kernel_rfl) ?_
      refine thn_nrm (_hK_37 _ _ ?_)
      clear _hK_37
      refine W_cond rfl (fun _h26 => ?_) (fun _h26 => ?_)
      · have _h26 := bf_d (bt_n _h26)
        refine W_seq fun _K_51 _hK_51 => ?_
        refine W_region ?_
        refine WL_step rfl rfl (r_assign rfl) ?_
        refine WL_nil ?_
        refine thn_nrm (_hK_51 _ _ ?_)
        clear _hK_51
        refine W_ret (thn_ret ?_)
        clear _hK_36
        exact ret_intro [_] ⟨rfl, trivial⟩ ⟨congrArg Value.bool (by first | rfl | (exfalso; omega) | (exfalso; revert _h26; simp; done) | (exfalso; revert _h26; simp; omega)), E⟩
      · have _h26 := bt_d (bf_n _h26)
        refine W_skip ?_
        refine thn_nrm (_hK_36 _ _ ?_)
        clear _hK_36
        refine W_seq fun _K_52 _hK_52 => ?_
        refine W_region ?_
        refine WL_step rfl rfl (r_assign rfl) ?_
        refine WL_nil ?_
        refine thn_nrm (_hK_52 _ _ ?_)
        clear _hK_52
        refine W_ret ?_
        exact ret_intro [_] ⟨rfl, trivial⟩ ⟨congrArg Value.bool (by first | rfl | (exfalso; omega) | (exfalso; revert _h26; simp; done) | (exfalso; revert _h26; simp; omega)), E⟩

end Go.Proofs.Ytgpmbjchmphhaaa
