/- The walks of all functions that FnExactStarExpr reaches: what each returns, and that it leaves the memory that was there alone. -/
import Derived.Test.YtbchbheojbgceaaKF
import Derived.Test.YtbchbheojbgceaaKG
import Derived.Test.YtbchbheojbgceaaKH
import Derived.Test.YtbchbheojbgceaaKI
import Derived.Test.YtbchbheojbgceaaKJ
import Derived.Test.YtbchbheojbgceaaKM
import Derived.Test.YtbchbheojbgceaaKN
import Derived.Test.YtbchbheojbgceaaProg
namespace Go.Proofs.Ytbchbheojbgceaa
open Go.KLib
set_option maxRecDepth 20000
theorem agg22 : aggB Try.prog 22 = some false := by kernel_rfl
theorem agg24 : aggB Try.prog 24 = some true := by kernel_rfl
theorem agg26 : aggB Try.prog 26 = some false := by kernel_rfl
theorem agg28 : aggB Try.prog 28 = some true := by kernel_rfl
theorem agg3 : aggB Try.prog 3 = some false := by kernel_rfl
theorem agg55 : aggB Try.prog 55 = some true := by kernel_rfl
theorem agg78 : aggB Try.prog 78 = some true := by kernel_rfl
theorem by55 : bytesB Try.prog 55 = some 32 := by kernel_rfl
theorem el22 : elB Try.prog 22 = some 78 := by kernel_rfl
theorem el26 : elB Try.prog 26 = some 55 := by kernel_rfl
theorem el79 : elB Try.prog 79 = some 28 := by kernel_rfl
theorem fa24_0 : faB Try.prog 24 0 = some 0 := by kernel_rfl
theorem fa28_0 : faB Try.prog 28 0 = some 0 := by kernel_rfl
theorem fa55_0 : faB Try.prog 55 0 = some 0 := by kernel_rfl
theorem fa55_1 : faB Try.prog 55 1 = some 1 := by kernel_rfl
theorem fa55_2 : faB Try.prog 55 2 = some 2 := by kernel_rfl
theorem fa55_3 : faB Try.prog 55 3 = some 3 := by kernel_rfl
theorem fa78_0 : faB Try.prog 78 0 = some 0 := by kernel_rfl
theorem fa78_1 : faB Try.prog 78 1 = some 1 := by kernel_rfl
theorem fa78_2 : faB Try.prog 78 2 = some 2 := by kernel_rfl
theorem fa78_3 : faB Try.prog 78 3 = some 3 := by kernel_rfl
theorem fk15 : fnB Try.prog 15 = true := by kernel_rfl
theorem fk17 : fnB Try.prog 17 = true := by kernel_rfl
theorem fk19 : fnB Try.prog 19 = true := by kernel_rfl
theorem fk20 : fnB Try.prog 20 = true := by kernel_rfl
theorem fk21 : fnB Try.prog 21 = true := by kernel_rfl
theorem fk22 : fnB Try.prog 22 = true := by kernel_rfl
theorem fk23 : fnB Try.prog 23 = true := by kernel_rfl
theorem fk47 : fnB Try.prog 47 = true := by kernel_rfl
theorem fk48 : fnB Try.prog 48 = true := by kernel_rfl
theorem fk49 : fnB Try.prog 49 = true := by kernel_rfl
theorem fk50 : fnB Try.prog 50 = true := by kernel_rfl
theorem fk51 : fnB Try.prog 51 = true := by kernel_rfl
theorem fk52 : fnB Try.prog 52 = true := by kernel_rfl
theorem fk53 : fnB Try.prog 53 = true := by kernel_rfl
theorem fk54 : fnB Try.prog 54 = true := by kernel_rfl
theorem fk55 : fnB Try.prog 55 = true := by kernel_rfl
theorem fk56 : fnB Try.prog 56 = true := by kernel_rfl
theorem fk57 : fnB Try.prog 57 = true := by kernel_rfl
theorem fk58 : fnB Try.prog 58 = true := by kernel_rfl
theorem fk78 : fnB Try.prog 78 = true := by kernel_rfl
theorem fk79 : fnB Try.prog 79 = true := by kernel_rfl
theorem mixed : Try.prog.follows .mixedOrders = true := by kernel_rfl
theorem pl28 : placesB Try.prog 28 = some [(0, 1)] := by kernel_rfl
theorem pl55 : placesB Try.prog 55 = some [(0, 1), (1, 1), (2, 1), (3, 1)] := by kernel_rfl
theorem sz24 : sizeB Try.prog 24 = some 1 := by kernel_rfl
theorem sz26 : sizeB Try.prog 26 = some 1 := by kernel_rfl
theorem sz28 : sizeB Try.prog 28 = some 1 := by kernel_rfl
theorem sz3 : sizeB Try.prog 3 = some 1 := by kernel_rfl
theorem sz55 : sizeB Try.prog 55 = some 4 := by kernel_rfl
theorem sz78 : sizeB Try.prog 78 = some 4 := by kernel_rfl
theorem zr28 : zeroB Try.prog 28 = some (.agg #[.slice none 0 0]) := by kernel_rfl
theorem zr55 : zeroB Try.prog 55 = some (.agg #[.int .i64 0, .int .i64 0, .int .i64 0, .int .i64 0]) := by kernel_rfl

/-- impl.alone -/
theorem c_impl_alone {w : World} {_B_e : Nat} {_v_e : Value} {e : List Token} (_h_e : Ls Token.cs 4 w _B_e _v_e e) (kind : Int) :
    Ctr Try.prog 58 #[(.agg #[_v_e]), (.int .i64 kind)] w (fun v w' => v = .bool (isK e kind) ∧ Ch [] w w') := by
  obtain ⟨_A_e, _C_e, _e1_e⟩ := _h_e.val
  subst _e1_e
  have _l_e := _h_e.len
  have _h_e := _h_e.here (by decide)
  have E := Ch.refl [] w
  refine Ctr_of_W (N := 18) (vs0 := [(.agg #[(.slice _A_e e.length _C_e)]), (.int .i64 kind)]) Try.func58 rfl rfl rfl ?_
  refine W_seq fun _K_1 _hK_1 => ?_
  refine W_region ?_
  refine WL_s rfl rfl ?_
  refine s_box rfl fun _b2 _w_2 _m2 _cw_2 _e2 => ?_
  have _cw_2z := _cw_2.size
  have E := E.trans _cw_2
  have _z2 := _m2.lt
  replace _m2 : Blk _w_2 _b2 28 [(.slice _A_e e.length _C_e)] := _m2
  refine WL_step rfl rfl (r_assign rfl) ?_
  refine WL_nil ?_
  refine thn_nrm (_hK_1 _ _ ?_)
  clear _hK_1
  refine W_seq fun _K_3 _hK_3 => ?_
  refine W_region ?_
  refine WL_step rfl rfl (r_fieldAddr fa28_0 rfl) ?_
  refine WL_step rfl rfl (r_loadAt _m2.at_ agg26 rfl rfl) ?_
  refine WL_step rfl rfl (r_len (by rw [el26]; rfl) rfl) ?_
  refine WL_step rfl rfl (r_eql rfl rfl) ?_
  refine WL_step rfl rfl (r_move rfl) ?_
  refine WL_split (d := 9) rfl (fun _h9 => ?_) (fun _h9 => ?_)
  · have _h9 := bt_d _h9
    refine WL_step rfl rfl (r_fieldAddr fa28_0 rfl) ?_
    refine WL_step rfl rfl (r_loadAt _m2.at_ agg26 rfl rfl) ?_
    refine WL_s rfl rfl ?_
    have _f_4 := (_h_e.ch0 _cw_2)
    refine (s_index (j := 0) _f_4 Token.len el26 sz55 rfl rfl rfl (by omega) fun _p12 _y12 _hy12 _a12 => ?_)
    refine WL_step rfl rfl (r_fieldAddr fa55_0 rfl) ?_
    refine WL_step rfl rfl (r_loadAt _a12 agg3 rfl rfl) ?_
    refine WL_step rfl rfl (r_move rfl) ?_
    refine WL_step rfl rfl (r_eql rfl rfl) ?_
    refine WL_step rfl rfl (r_pickT rfl rfl) ?_
    refine WL_step rfl rfl (r_assign rfl) ?_
    refine WL_nil ?_
    refine thn_nrm (_hK_3 _ _ ?_)
    clear _hK_3
    refine W_ret ?_
    exact ret_intro [_] ⟨rfl, trivial⟩ ⟨congrArg Value.bool (by first | exact isK_n _h9 | exact isK_y _h9 _hy12 | (cases hb : decide (_y12.kind = kind) <;> rw [← hb] <;> exact isK_y _h9 _hy12)), E⟩
  · have _h9 := bf_d _h9
    refine WL_skip rfl rfl ?_
    refine WL_skip rfl rfl ?_
    refine WL_skip rfl rfl ?_
    refine WL_skip rfl rfl ?_
    refine WL_skip rfl rfl ?_
    refine WL_skip rfl rfl ?_
    refine WL_skip rfl rfl ?_
    refine WL_step rfl rfl (r_pickF rfl rfl) ?_
    refine WL_step rfl rfl (r_assign rfl) ?_
    refine WL_nil ?_
    refine thn_nrm (_hK_3 _ _ ?_)
    clear _hK_3
    refine W_ret ?_
    exact ret_intro [_] ⟨rfl, trivial⟩ ⟨congrArg Value.bool (by first | exact isK_n _h9 | exact isK_y _h9 _hy12 | (cases hb : decide (_y12.kind = kind) <;> rw [← hb] <;> exact isK_y _h9 _hy12)), E⟩

/-- impl.copyExpr -/
theorem c_impl_copyExpr {w : World} {_B_e : Nat} {_v_e : Value} {e : List Token} (_h_e : Ls Token.cs 4 w _B_e _v_e e) (hb : e.length ≤ 4194304) :
    Ctr Try.prog 52 #[(.agg #[_v_e])] w (fun v w' => ∃ u, v = .agg #[u] ∧ Ol Token.cs 55 4 w' u (e) ∧ Lo w.heap.size u ∧ Ch [] w w') := by
  obtain ⟨_A_e, _C_e, _e1_e⟩ := _h_e.val
  subst _e1_e
  have _l_e := _h_e.len
  have _h_e := _h_e.here (by decide)
  have E := Ch.refl [] w
  refine Ctr_of_W (N := 8) (vs0 := [(.agg #[(.slice _A_e e.length _C_e)])]) Try.func52 rfl rfl rfl ?_
  refine W_seq fun _K_1 _hK_1 => ?_
  refine W_region ?_
  refine WL_s rfl rfl ?_
  refine s_box rfl fun _b1 _w_2 _m1 _cw_2 _e1 => ?_
  have _cw_2z := _cw_2.size
  have E := E.trans _cw_2
  have _z1 := _m1.lt
  replace _m1 : Blk _w_2 _b1 28 [(.slice _A_e e.length _C_e)] := _m1
  refine WL_s rfl rfl ?_
  refine s_alloc zr28 fun _b2 _w_3 _m2 _cw_3 _e2 => ?_
  have _cw_3z := _cw_3.size
  have E := E.trans _cw_3
  have _z2 := _m2.lt
  replace _m2 : Blk _w_3 _b2 28 [(.slice none 0 0)] := _m2
  refine WL_nil ?_
  refine thn_nrm (_hK_1 _ _ ?_)
  clear _hK_1
  refine W_seq fun _K_4 _hK_4 => ?_
  refine W_region ?_
  refine WL_s rfl rfl ?_
  refine s_buildSlice0 (k := 4) Token.cs el26 sz55 fun _v3 _w_5 _q3 _lo3 _cw_5 => ?_
  have _cw_5z := _cw_5.size
  have E := E.trans _cw_5
  obtain ⟨_Av3, _Cv3, _ev3⟩ := _q3.val
  subst _ev3
  have _lv3 := _q3.len
  have _hiv3 := _q3.lt
  refine WL_step rfl rfl (r_fieldAddr fa28_0 rfl) ?_
  have _f_6 := ((_m1.ch0 _cw_3).ch0 _cw_5)
  refine WL_step rfl rfl (r_loadAt _f_6.at_ agg26 rfl rfl) ?_
  refine WL_s rfl rfl ?_
  have _f_8 := (((_h_e.ch0 _cw_2).ch0 _cw_3).ch0 _cw_5)
  refine s_append (cs := Token.cs) el26 sz55 by55 zr55 rfl (by decide) Token.one _q3 _f_8 rfl rfl (by first | omega | (simp only [List.length_append, List.length_nil, List.length_cons, List.length_replicate, List.length_set, List.length_reverse, List.length_map] at *; omega) | (simp at *; omega)) (by first | omega | (simp only [List.length_append, List.length_nil, List.length_cons, List.length_replicate, List.length_set, List.length_reverse, List.length_map] at *; omega) | (simp at *; omega)) _lo3 (by omega) fun _v6 _w_7 _q6 _lo6 _ap6 _cw_7 => ?_
  have _cw_7z := _cw_7.size
  have E := E.step _cw_7 (fun i hi => .inl (by have _h1 := _lo3 _ hi; omega))
  replace _q6 : Ol Token.cs 55 4 _w_7 _v6 e := _q6
  obtain ⟨_Av6, _Cv6, _ev6⟩ := _q6.val
  subst _ev6
  have _lv6 := _q6.len
  have _hiv6 := _q6.lt
  refine WL_step rfl rfl (r_build (parts := [(0, .tmp 6)]) (cells := [(.slice _Av6 (e).length _Cv6)]) zr28 pl28 rfl rfl) ?_
  refine WL_s rfl rfl ?_
  have _f_9 := ((_m2.ch0 _cw_5).ch _cw_7 (fun hm => by have _h1 := _lo3 _ hm; have _h2 := _hiv3 _ hm; omega))
  refine s_storeA (off := 0) 1 _f_9 sz28 rfl (us := [(.slice _Av6 (e).length _Cv6)]) rfl rfl rfl rfl fun _w_10 _m_11 _cw_10 => ?_
  have _cw_10z := _cw_10.size
  have E := E.step _cw_10 (fun i hi => .inl (by have _h1 := List.mem_singleton.1 hi; omega))
  replace _m_11 : Blk _w_10 _b2 28 [(.slice _Av6 (e).length _Cv6)] := _m_11
  refine WL_nil ?_
  refine thn_nrm (_hK_4 _ _ ?_)
  clear _hK_4
  refine W_ret ?_
  have _f_13 := (_q6.ch _cw_10 (fun g hg hm => by have _h0 := List.mem_singleton.1 hm; rcases _ap6 with ea | ea; (rw [ea] at hg; have _h2 := _lo3 _ hg; have _h3 := _hiv3 _ hg; omega); (rw [ea] at hg; have _z1 := List.mem_singleton.1 hg; omega)))
  have _o_12 : Ol Token.cs 55 4 _w_10 (.slice _Av6 (e).length _Cv6) (e) := by
    have hx := _f_13
    first | exact hx | simpa using hx
  exact ret_intro [_] (resOf_loadA _m_11 rfl agg28 sz28 trivial) ⟨_, rfl, _o_12, Lo.down _lo6 (by omega), E⟩

/-- impl.joined -/
theorem c_impl_joined {w : World} (t : Token) {_B_ses : Nat} {_v_ses : Value} {ses : List Sv} (_h_ses : Ls Sv.cs 1 w _B_ses _v_ses ses) {BB_es : Nat} {es : List (List Token)} (_rd_es : Rd Token.cs 4 w BB_es ses es) (hb : es.flatten.length ≤ 4194304) :
    Ctr Try.prog 53 #[(.agg #[(.int .i64 t.kind), (.int .i64 t.letter), (.int .i64 t.low), (.int .i64 t.high)]), _v_ses] w (fun v w' => ∃ u, v = .agg #[u] ∧ Ol Token.cs 55 4 w' u (es.flatten ++ [t]) ∧ Lo w.heap.size u ∧ Ch [] w w') := by
  obtain ⟨_A_ses, _C_ses, _e1_ses⟩ := _h_ses.val
  subst _e1_ses
  have _l_ses := _h_ses.len
  have _h_ses := _h_ses.here (by decide)
  have _rd_es := _rd_es.here (by decide)
  have _rl_es := _rd_es.1
  have E := Ch.refl [] w
  refine Ctr_of_W (N := 29) (vs0 := [(.agg #[(.int .i64 t.kind), (.int .i64 t.letter), (.int .i64 t.low), (.int .i64 t.high)]), (.slice _A_ses ses.length _C_ses)]) Try.func53 rfl rfl rfl ?_
  refine W_seq fun _K_1 _hK_1 => ?_
  refine W_region ?_
  refine WL_s rfl rfl ?_
  refine s_box rfl fun _b2 _w_2 _m2 _cw_2 _e2 => ?_
  have _cw_2z := _cw_2.size
  have E := E.trans _cw_2
  have _z2 := _m2.lt
  replace _m2 : Blk _w_2 _b2 55 [(.int .i64 t.kind), (.int .i64 t.letter), (.int .i64 t.low), (.int .i64 t.high)] := _m2
  refine WL_s rfl rfl ?_
  refine s_alloc zr28 fun _b4 _w_3 _m4 _cw_3 _e4 => ?_
  have _cw_3z := _cw_3.size
  have E := E.trans _cw_3
  have _z4 := _m4.lt
  replace _m4 : Blk _w_3 _b4 28 [(.slice none 0 0)] := _m4
  refine WL_nil ?_
  refine thn_nrm (_hK_1 _ _ ?_)
  clear _hK_1
  refine W_seq fun _K_4 _hK_4 => ?_
  refine W_region ?_
  refine WL_step rfl rfl (r_build (parts := []) (cells := [(.slice none 0 0)]) zr28 pl28 rfl rfl) ?_
  refine WL_s rfl rfl ?_
  refine s_alloc zr28 fun _b5 _w_5 _m5 _cw_5 _e5 => ?_
  have _cw_5z := _cw_5.size
  have E := E.trans _cw_5
  have _z5 := _m5.lt
  replace _m5 : Blk _w_5 _b5 28 [(.slice none 0 0)] := _m5
  refine WL_s rfl rfl ?_
  refine s_storeA (off := 0) 1 _m5 sz28 rfl (us := [(.slice none 0 0)]) rfl rfl rfl rfl fun _w_6 _m_7 _cw_6 => ?_
  have _cw_6z := _cw_6.size
  have E := E.step _cw_6 (fun i hi => .inl (by have _h1 := List.mem_singleton.1 hi; omega))
  replace _m_7 : Blk _w_6 _b5 28 [(.slice none 0 0)] := _m_7
  refine WL_nil ?_
  refine thn_nrm (_hK_4 _ _ ?_)
  clear _hK_4
  refine W_seq fun _K_8 _hK_8 => ?_
  refine W_seq fun _K_9 _hK_9 => ?_
  refine W_region ?_
  refine WL_step rfl rfl (r_move rfl) ?_
  refine WL_step rfl rfl (r_len (by rw [el79]; rfl) rfl) ?_
  refine WL_step rfl rfl (r_move rfl) ?_
  refine WL_nil ?_
  refine thn_nrm (_hK_9 _ _ ?_)
  clear _hK_9
  refine W_block ?_
  have _oi_10 : Ol Token.cs 55 4 _w_6 (.slice none 0 0) ((es.take 0).flatten) := by
    have hx := (Ol.nil (cs := Token.cs) (e := 55) (k := 4) _w_6)
    simpa using hx
  have _f_11 := (((_m2.ch0 _cw_3).ch0 _cw_5).ch _cw_6 (fun hm => by have _h1 := List.mem_singleton.1 hm; omega))
  have _f_12 := ((_m4.ch0 _cw_5).ch _cw_6 (fun hm => by have _h1 := List.mem_singleton.1 hm; omega))
  refine W_loop (σ := Nat × Value) (fun ⟨k, u⟩ => [(0, (.agg #[(.int .i64 t.kind), (.int .i64 t.letter), (.int .i64 t.low), (.int .i64 t.high)])), (1, (.slice _A_ses ses.length _C_ses)), (2, (.pointer (some ⟨_b2, 0, none⟩))), (4, (.pointer (some ⟨_b4, 0, none⟩))), (5, (.pointer (some ⟨_b5, 0, none⟩))), (8, (.agg #[(.slice none 0 0)])), (9, (.slice _A_ses ses.length _C_ses)), (10, (.int .i64 ((ses.length : Nat) : Int))), (11, (.int .i64 ((k : Nat) : Int)))]) (fun ⟨k, u⟩ wx => Ch [] w wx ∧ _w_6.heap.size ≤ wx.heap.size ∧ k ≤ es.length ∧ Blk wx _b2 55 [(.int .i64 t.kind), (.int .i64 t.letter), (.int .i64 t.low), (.int .i64 t.high)] ∧ Blk wx _b4 28 [(.slice none 0 0)] ∧ Ol Token.cs 55 4 wx u ((es.take k).flatten) ∧ Lo _w_6.heap.size u ∧ Blk wx _b5 28 [u] ∧ _b5 ∉ bl u) (fun ⟨k, u⟩ => es.length - k) (0, (.slice none 0 0)) (Sub.cons rfl (Sub.cons rfl (Sub.cons rfl (Sub.cons rfl (Sub.cons rfl (Sub.cons rfl (Sub.cons rfl (Sub.cons rfl (Sub.cons rfl (Sub.nil _)))))))))) ⟨E, (Nat.le_refl _), (by omega), _f_11, _f_12, _oi_10, (Lo.nil _), _m_7, (fun hm => by cases hm)⟩ ?_
  rintro ⟨k, u⟩ _wr_13 ⟨E, _zz0, _hk, _F0_2, _F0_3, _o0_5, _lo0_5, _m0_5, _nb0_5⟩
  have _E0h := E
  have _E0hz := _E0h.size
  have _F0_2z := _F0_2.lt
  have _F0_3z := _F0_3.lt
  obtain ⟨Au, Cu, eu⟩ := _o0_5.val
  subst eu
  have lu := _o0_5.len
  have hiu := _o0_5.lt
  refine W_seq fun _K_14 _hK_14 => ?_
  refine W_region ?_
  refine WL_step rfl rfl (r_lss rfl rfl) ?_
  refine WL_nil ?_
  refine thn_nrm (_hK_14 _ _ ?_)
  clear _hK_14
  refine W_seq fun _K_15 _hK_15 => ?_
  refine W_cond rfl (fun _h12 => ?_) (fun _h12 => ?_)
  · have _h12 := bt_d _h12
    refine W_skip ?_
    refine thn_nrm (_hK_15 _ _ ?_)
    clear _hK_15
    refine W_seq fun _K_16 _hK_16 => ?_
    refine W_block ?_
    refine W_seq fun _K_17 _hK_17 => ?_
    refine W_region ?_
    refine WL_s rfl rfl ?_
    have _f_18 := (_h_ses.ch0 _E0h)
    refine (s_index _f_18 Sv.len el79 sz28 rfl rfl rfl (by omega) fun _p13 _y13 _hy13 _a13 => ?_)
    have _f_19 := (_rd_es.ch0 _E0h)
    obtain ⟨_ys13, _hys13, _fs13⟩ := _f_19.get _hy13
    obtain ⟨_A13, _n13, _C13⟩ := _y13
    obtain rfl := _fs13.eqn
    have _l13 := _fs13.len
    replace _fs13 : Ls Token.cs 4 _wr_13 w.heap.size (.slice _A13 _ys13.length _C13) _ys13 := _fs13
    replace _a13 : At _wr_13 w.heap.size _p13 ([(.slice _A13 _ys13.length _C13)]) := _a13
    refine WL_step rfl rfl (r_loadAtA0 _a13 agg28 sz28 rfl) ?_
    refine WL_s rfl rfl ?_
    refine s_alloc zr28 fun _b7 _w_20 _m7 _cw_20 _e7 => ?_
    have _cw_20z := _cw_20.size
    have E := E.trans _cw_20
    have _z7 := _m7.lt
    replace _m7 : Blk _w_20 _b7 28 [(.slice none 0 0)] := _m7
    refine WL_s rfl rfl ?_
    refine s_storeA (off := 0) 1 _m7 sz28 rfl (us := [(.slice _A13 _ys13.length _C13)]) rfl rfl rfl rfl fun _w_21 _m_22 _cw_21 => ?_
    have _cw_21z := _cw_21.size
    have E := E.step _cw_21 (fun i hi => .inl (by have _h1 := List.mem_singleton.1 hi; omega))
    replace _m_22 : Blk _w_21 _b7 28 [(.slice _A13 _ys13.length _C13)] := _m_22
    refine WL_nil ?_
    refine thn_nrm (_hK_17 _ _ ?_)
    clear _hK_17
    refine W_region ?_
    refine WL_step rfl rfl (r_fieldAddr fa28_0 rfl) ?_
    have _f_23 := ((_m0_5.ch0 _cw_20).ch _cw_21 (fun hm => by have _h1 := List.mem_singleton.1 hm; omega))
    refine WL_step rfl rfl (r_loadAt _f_23.at_ agg26 rfl rfl) ?_
    refine WL_step rfl rfl (r_fieldAddr fa28_0 rfl) ?_
    refine WL_step rfl rfl (r_loadAt _m_22.at_ agg26 rfl rfl) ?_
    refine WL_s rfl rfl ?_
    have _f_25 := ((_o0_5.ch0 _cw_20).ch _cw_21 (fun g hg hm => by have _h0 := List.mem_singleton.1 hm; have _h2 := _lo0_5 _ hg; have _h3 := hiu _ hg; omega))
    have _f_26 := ((_fs13.ch0 _cw_20).ch _cw_21 (fun i hi => by have _h1 := List.mem_singleton.1 hi; omega))
    refine s_append (cs := Token.cs) el26 sz55 by55 zr55 rfl (by decide) Token.one _f_25 _f_26 rfl rfl (by have _h9 := fl_le _hys13; omega) (by have _h9 := fl_le _hys13; omega) _lo0_5 (by omega) fun _v19 _w_24 _q19 _lo19 _ap19 _cw_24 => ?_
    have _cw_24z := _cw_24.size
    have E := E.step _cw_24 (fun i hi => .inl (by have _h1 := _lo0_5 _ hi; omega))
    obtain ⟨_Av19, _Cv19, _ev19⟩ := _q19.val
    subst _ev19
    have _lv19 := _q19.len
    have _hiv19 := _q19.lt
    refine WL_step rfl rfl (r_fieldAddr fa28_0 rfl) ?_
    refine WL_s rfl rfl ?_
    have _f_27 := (_f_23.ch _cw_24 (fun hm => by exact _nb0_5 (by first | exact hm | exact _h0 ▸ hm)))
    refine s_store1 (off := 0) _f_27 sz26 rfl rfl rfl rfl fun _w_28 _m_29 _cw_28 => ?_
    have _cw_28z := _cw_28.size
    have E := E.step _cw_28 (fun i hi => .inl (by have _h1 := List.mem_singleton.1 hi; omega))
    replace _m_29 : Blk _w_28 _b5 28 [(.slice _Av19 (((es.take k).flatten ++ _ys13)).length _Cv19)] := _m_29
    refine WL_nil ?_
    refine inB_nrm ?_
    refine thn_nrm (_hK_16 _ _ ?_)
    clear _hK_16
    refine W_region ?_
    refine WL_step rfl rfl (r_add (by omega) rfl rfl) ?_
    refine WL_step rfl rfl (r_move rfl) ?_
    refine WL_nil ?_
    have _f_31 := (_q19.ch _cw_28 (fun g hg hm => by have _h0 := List.mem_singleton.1 hm; rcases _ap19 with ea | ea; (rw [ea] at hg; exact _nb0_5 (by first | exact hg | exact _h0 ▸ hg)); (rw [ea] at hg; have _z1 := List.mem_singleton.1 hg; omega)))
    have _on_30 : Ol Token.cs 55 4 _w_28 (.slice _Av19 (((es.take k).flatten ++ _ys13)).length _Cv19) ((es.take (k + 1)).flatten) := by
      have hx := _f_31
      rw [← fl_step _hys13]; exact hx
    have _f_32 := ((((_F0_2.ch0 _cw_20).ch _cw_21 (fun hm => by have _h1 := List.mem_singleton.1 hm; omega)).ch _cw_24 (fun hm => by have _h1 := _lo0_5 _ hm; have _h2 := hiu _ hm; omega)).ch _cw_28 (fun hm => by have _h1 := List.mem_singleton.1 hm; omega))
    have _f_33 := ((((_F0_3.ch0 _cw_20).ch _cw_21 (fun hm => by have _h1 := List.mem_singleton.1 hm; omega)).ch _cw_24 (fun hm => by have _h1 := _lo0_5 _ hm; have _h2 := hiu _ hm; omega)).ch _cw_28 (fun hm => by have _h1 := List.mem_singleton.1 hm; omega))
    exact thn_nrm (Exists.intro ((k + 1), (.slice _Av19 (((es.take k).flatten ++ _ys13)).length _Cv19)) ⟨⟨E, (by omega), (by omega), _f_32, _f_33, _on_30, (Lo.down _lo19 (by omega)), _m_29, (fun hm => by rcases _ap19 with ea | ea; (rw [ea] at hm; exact _nb0_5 (by first | exact hm | exact _h0 ▸ hm)); (rw [ea] at hm; have _z1 := List.mem_singleton.1 hm; omega))⟩, Sub.cons rfl (Sub.cons rfl (Sub.cons rfl (Sub.cons rfl (Sub.cons rfl (Sub.cons rfl (Sub.cons rfl (Sub.cons rfl (Sub.cons rfl (Sub.nil _))))))))), (by first | omega | (dsimp only; omega))⟩)
  · have _h12 := bf_d _h12
    refine W_exit (thn_exit (thn_exit (inB_hit ?_)))
    refine thn_nrm (_hK_8 _ _ ?_)
    clear _hK_8
    refine W_seq fun _K_34 _hK_34 => ?_
    refine W_region ?_
    refine WL_step rfl rfl (r_fieldAddr fa28_0 rfl) ?_
    refine WL_step rfl rfl (r_loadAt _m0_5.at_ agg26 rfl rfl) ?_
    refine WL_step rfl rfl (r_loadAtA0 _F0_2.at_ agg55 sz55 rfl) ?_
    refine WL_s rfl rfl ?_
    refine s_buildSlice (cs := Token.cs) (parts := [(0, .tmp 24)]) (⟨0, 0, 0, 0⟩ : Token) [t] el26 sz55 zr55 Token.len (by decide) rfl rfl rfl (by decide) (by decide) rfl fun _v25 _w_35 _q25 _lo25 _cw_35 => ?_
    have _cw_35z := _cw_35.size
    have E := E.trans _cw_35
    obtain ⟨_Av25, _Cv25, _ev25⟩ := _q25.val
    subst _ev25
    have _lv25 := _q25.len
    have _hiv25 := _q25.lt
    refine WL_s rfl rfl ?_
    have _f_37 := (_o0_5.ch0 _cw_35)
    refine s_append (cs := Token.cs) el26 sz55 by55 zr55 rfl (by decide) Token.one _f_37 _q25.ls rfl rfl (by have _h9 : (es.take k).flatten.length ≤ es.flatten.length := (by rw [List.take_of_length_le (by omega)]; exact Nat.le_refl _); have _h8 : [t].length = 1 := rfl; omega) (by have _h9 : (es.take k).flatten.length ≤ es.flatten.length := (by rw [List.take_of_length_le (by omega)]; exact Nat.le_refl _); have _h8 : [t].length = 1 := rfl; omega) _lo0_5 (by omega) fun _v26 _w_36 _q26 _lo26 _ap26 _cw_36 => ?_
    have _cw_36z := _cw_36.size
    have E := E.step _cw_36 (fun i hi => .inl (by have _h1 := _lo0_5 _ hi; omega))
    obtain ⟨_Av26, _Cv26, _ev26⟩ := _q26.val
    subst _ev26
    have _lv26 := _q26.len
    have _hiv26 := _q26.lt
    refine WL_step rfl rfl (r_fieldAddr fa28_0 rfl) ?_
    refine WL_s rfl rfl ?_
    have _f_38 := ((_m0_5.ch0 _cw_35).ch _cw_36 (fun hm => by exact _nb0_5 (by first | exact hm | exact _h0 ▸ hm)))
    refine s_store1 (off := 0) _f_38 sz26 rfl rfl rfl rfl fun _w_39 _m_40 _cw_39 => ?_
    have _cw_39z := _cw_39.size
    have E := E.step _cw_39 (fun i hi => .inl (by have _h1 := List.mem_singleton.1 hi; omega))
    replace _m_40 : Blk _w_39 _b5 28 [(.slice _Av26 (((es.take k).flatten ++ [t])).length _Cv26)] := _m_40
    refine WL_nil ?_
    refine thn_nrm (_hK_34 _ _ ?_)
    clear _hK_34
    refine W_seq fun _K_41 _hK_41 => ?_
    refine W_region ?_
    refine WL_step rfl rfl (r_loadAtA0 _m_40.at_ agg28 sz28 rfl) ?_
    refine WL_s rfl rfl ?_
    have _f_42 := (((_F0_3.ch0 _cw_35).ch _cw_36 (fun hm => by have _h1 := _lo0_5 _ hm; have _h2 := hiu _ hm; omega)).ch _cw_39 (fun hm => by have _h1 := List.mem_singleton.1 hm; omega))
    refine s_storeA (off := 0) 1 _f_42 sz28 rfl (us := [(.slice _Av26 (((es.take k).flatten ++ [t])).length _Cv26)]) rfl rfl rfl rfl fun _w_43 _m_44 _cw_43 => ?_
    have _cw_43z := _cw_43.size
    have E := E.step _cw_43 (fun i hi => .inl (by have _h1 := List.mem_singleton.1 hi; omega))
    replace _m_44 : Blk _w_43 _b4 28 [(.slice _Av26 (((es.take k).flatten ++ [t])).length _Cv26)] := _m_44
    refine WL_nil ?_
    refine thn_nrm (_hK_41 _ _ ?_)
    clear _hK_41
    refine W_ret ?_
    clear _hK_15
    have _f_46 := ((_q26.ch _cw_39 (fun g hg hm => by have _h0 := List.mem_singleton.1 hm; rcases _ap26 with ea | ea; (rw [ea] at hg; exact _nb0_5 (by first | exact hg | exact _h0 ▸ hg)); (rw [ea] at hg; have _z1 := List.mem_singleton.1 hg; omega))).ch _cw_43 (fun g hg hm => by have _h0 := List.mem_singleton.1 hm; rcases _ap26 with ea | ea; (rw [ea] at hg; have _h2 := _lo0_5 _ hg; have _h3 := hiu _ hg; omega); (rw [ea] at hg; have _z1 := List.mem_singleton.1 hg; omega)))
    have _o_45 : Ol Token.cs 55 4 _w_43 (.slice _Av26 (((es.take k).flatten ++ [t])).length _Cv26) (es.flatten ++ [t]) := by
      have hx := _f_46
      simpa [List.take_of_length_le (show es.length ≤ k by omega)] using hx
    exact ret_intro [_] (resOf_loadA _m_44 rfl agg28 sz28 trivial) ⟨_, rfl, _o_45, Lo.down _lo26 (by omega), E⟩

/-- impl.single -/
theorem c_impl_single {w : World} (kind : Int) :
    Ctr Try.prog 51 #[(.int .i64 kind)] w (fun v w' => ∃ u, v = .agg #[u] ∧ Ol Token.cs 55 4 w' u ([(⟨kind, 0, 0, 0⟩ : Token)]) ∧ Lo w.heap.size u ∧ Ch [] w w') := by
  have E := Ch.refl [] w
  refine Ctr_of_W (N := 7) (vs0 := [(.int .i64 kind)]) Try.func51 rfl rfl rfl ?_
  refine W_seq fun _K_1 _hK_1 => ?_
  refine W_region ?_
  refine WL_s rfl rfl ?_
  refine s_alloc zr28 fun _b2 _w_2 _m2 _cw_2 _e2 => ?_
  have _cw_2z := _cw_2.size
  have E := E.trans _cw_2
  have _z2 := _m2.lt
  replace _m2 : Blk _w_2 _b2 28 [(.slice none 0 0)] := _m2
  refine WL_nil ?_
  refine thn_nrm (_hK_1 _ _ ?_)
  clear _hK_1
  refine W_seq fun _K_3 _hK_3 => ?_
  refine W_region ?_
  refine WL_step rfl rfl (r_move rfl) ?_
  refine WL_step rfl rfl (r_build (parts := [(0, .tmp 3)]) (cells := [(.int .i64 kind), (.int .i64 0), (.int .i64 0), (.int .i64 0)]) zr55 pl55 rfl rfl) ?_
  refine WL_s rfl rfl ?_
  refine s_buildSlice (cs := Token.cs) (parts := [(0, .tmp 4)]) (⟨0, 0, 0, 0⟩ : Token) [(⟨kind, 0, 0, 0⟩ : Token)] el26 sz55 zr55 Token.len (by decide) rfl rfl rfl (by decide) (by decide) rfl fun _v5 _w_4 _q5 _lo5 _cw_4 => ?_
  have _cw_4z := _cw_4.size
  have E := E.trans _cw_4
  obtain ⟨_Av5, _Cv5, _ev5⟩ := _q5.val
  subst _ev5
  have _lv5 := _q5.len
  have _hiv5 := _q5.lt
  refine WL_step rfl rfl (r_build (parts := [(0, .tmp 5)]) (cells := [(.slice _Av5 ([(⟨kind, 0, 0, 0⟩ : Token)]).length _Cv5)]) zr28 pl28 rfl rfl) ?_
  refine WL_s rfl rfl ?_
  have _f_5 := (_m2.ch0 _cw_4)
  refine s_storeA (off := 0) 1 _f_5 sz28 rfl (us := [(.slice _Av5 ([(⟨kind, 0, 0, 0⟩ : Token)]).length _Cv5)]) rfl rfl rfl rfl fun _w_6 _m_7 _cw_6 => ?_
  have _cw_6z := _cw_6.size
  have E := E.step _cw_6 (fun i hi => .inl (by have _h1 := List.mem_singleton.1 hi; omega))
  replace _m_7 : Blk _w_6 _b2 28 [(.slice _Av5 ([(⟨kind, 0, 0, 0⟩ : Token)]).length _Cv5)] := _m_7
  refine WL_nil ?_
  refine thn_nrm (_hK_3 _ _ ?_)
  clear _hK_3
  refine W_ret ?_
  have _f_9 := (_q5.ch _cw_6 (fun g hg hm => by have _h0 := List.mem_singleton.1 hm; have _h2 := _lo5 _ hg; have _h3 := _hiv5 _ hg; omega))
  have _o_8 : Ol Token.cs 55 4 _w_6 (.slice _Av5 ([(⟨kind, 0, 0, 0⟩ : Token)]).length _Cv5) ([(⟨kind, 0, 0, 0⟩ : Token)]) := by
    have hx := _f_9
    first | exact hx | simpa using hx
  exact ret_intro [_] (resOf_loadA _m_7 rfl agg28 sz28 trivial) ⟨_, rfl, _o_8, Lo.down _lo5 (by omega), E⟩

/-- impl.StarExpr -/
theorem c_impl_StarExpr {w : World} {_B_e : Nat} {_v_e : Value} {e : List Token} (_h_e : Ls Token.cs 4 w _B_e _v_e e) (hb : e.length ≤ 1048576) :
    Ctr Try.prog 23 #[(.agg #[_v_e])] w (fun v w' => ∃ u, v = .agg #[u] ∧ Ol Token.cs 55 4 w' u (starE e) ∧ Lo w.heap.size u ∧ Ch [] w w') := by
  obtain ⟨_A_e, _C_e, _e1_e⟩ := _h_e.val
  subst _e1_e
  have _l_e := _h_e.len
  have _h_e := _h_e.here (by decide)
  have E := Ch.refl [] w
  refine Ctr_of_W (N := 34) (vs0 := [(.agg #[(.slice _A_e e.length _C_e)])]) Try.func23 rfl rfl rfl ?_
  refine W_seq fun _K_1 _hK_1 => ?_
  refine W_region ?_
  refine WL_s rfl rfl ?_
  refine s_box rfl fun _b1 _w_2 _m1 _cw_2 _e1 => ?_
  have _cw_2z := _cw_2.size
  have E := E.trans _cw_2
  have _z1 := _m1.lt
  replace _m1 : Blk _w_2 _b1 28 [(.slice _A_e e.length _C_e)] := _m1
  refine WL_s rfl rfl ?_
  refine s_alloc zr28 fun _b2 _w_3 _m2 _cw_3 _e2 => ?_
  have _cw_3z := _cw_3.size
  have E := E.trans _cw_3
  have _z2 := _m2.lt
  replace _m2 : Blk _w_3 _b2 28 [(.slice none 0 0)] := _m2
  refine WL_nil ?_
  refine thn_nrm (_hK_1 _ _ ?_)
  clear _hK_1
  refine W_seq fun _K_4 _hK_4 => ?_
  refine W_region ?_
  refine WL_step rfl rfl (r_fieldAddr fa28_0 rfl) ?_
  have _f_5 := (_m1.ch0 _cw_3)
  refine WL_step rfl rfl (r_loadAt _f_5.at_ agg26 rfl rfl) ?_
  refine WL_step rfl rfl (r_len (by rw [el26]; rfl) rfl) ?_
  refine WL_step rfl rfl (r_assign rfl) ?_
  refine WL_nil ?_
  refine thn_nrm (_hK_4 _ _ ?_)
  clear _hK_4
  refine W_seq fun _K_6 _hK_6 => ?_
  refine W_block ?_
  refine W_seq fun _K_7 _hK_7 => ?_
  refine W_region ?_
  refine WL_step rfl rfl (r_loadAtA0 _f_5.at_ agg28 sz28 rfl) ?_
  refine WL_s rfl rfl ?_
  have _f_8 := ((_h_e.ch0 _cw_2).ch0 _cw_3)
  refine Step.call (r_call (xs := [.tmp 8, .const (Go.Value.int Go.IntKind.i64 1)]) fk58 rfl) (c_impl_alone _f_8 _ ) fun _v9 _w_9 _q9 => ?_
  obtain ⟨rfl, _cw_9⟩ := _q9
  have _cw_9z := _cw_9.size
  have E := E.trans _cw_9
  refine WL_step rfl rfl (r_move rfl) ?_
  refine WL_split (d := 10) rfl (fun _h10 => ?_) (fun _h10 => ?_)
  · refine WL_skip rfl rfl ?_
    refine WL_skip rfl rfl ?_
    refine WL_step rfl rfl (r_pickT rfl rfl) ?_
    refine WL_step rfl rfl (r_assign rfl) ?_
    refine WL_nil ?_
    refine thn_nrm (_hK_7 _ _ ?_)
    clear _hK_7
    refine W_condT rfl ?_
    refine W_seq fun _K_10 _hK_10 => ?_
    refine W_region ?_
    refine WL_s rfl rfl ?_
    refine Step.call (r_call (xs := [.const (Go.Value.int Go.IntKind.i64 2)]) fk51 rfl) (c_impl_single _ ) fun _v14 _w_11 _q14 => ?_
    obtain ⟨_u14, rfl, _q14, _lo14, _cw_11⟩ := _q14
    have _cw_11z := _cw_11.size
    have E := E.trans _cw_11
    obtain ⟨_Au14, _Cu14, _eu14⟩ := _q14.val
    subst _eu14
    have _lu14 := _q14.len
    have _hiu14 := _q14.lt
    refine WL_s rfl rfl ?_
    have _f_12 := ((_m2.ch0 _cw_9).ch0 _cw_11)
    refine s_storeA (off := 0) 1 _f_12 sz28 rfl (us := [(.slice _Au14 ([(⟨2, 0, 0, 0⟩ : Token)]).length _Cu14)]) rfl rfl rfl rfl fun _w_13 _m_14 _cw_13 => ?_
    have _cw_13z := _cw_13.size
    have E := E.step _cw_13 (fun i hi => .inl (by have _h1 := List.mem_singleton.1 hi; omega))
    replace _m_14 : Blk _w_13 _b2 28 [(.slice _Au14 ([(⟨2, 0, 0, 0⟩ : Token)]).length _Cu14)] := _m_14
    refine WL_nil ?_
    refine thn_nrm (_hK_10 _ _ ?_)
    clear _hK_10
    refine W_ret (inB_ret (thn_ret ?_))
    clear _hK_6
    have _f_16 := (_q14.ch _cw_13 (fun g hg hm => by have _h0 := List.mem_singleton.1 hm; have _h2 := _lo14 _ hg; have _h3 := _hiu14 _ hg; omega))
    have _o_15 : Ol Token.cs 55 4 _w_13 (.slice _Au14 ([(⟨2, 0, 0, 0⟩ : Token)]).length _Cu14) (starE e) := by
      have hx := _f_16
      first | (have hl := star_last (z := ⟨0, 0, 0, 0⟩) _h18 _hy23; unfold starE; simp_all; done) | (unfold starE; simp_all; done)
    exact ret_intro [_] (resOf_loadA _m_14 rfl agg28 sz28 trivial) ⟨_, rfl, _o_15, Lo.down _lo14 (by omega), E⟩
  · have _f_17 := (_f_5.ch0 _cw_9)
    refine WL_step rfl rfl (r_loadAtA0 _f_17.at_ agg28 sz28 rfl) ?_
    refine WL_s rfl rfl ?_
    have _f_18 := (_f_8.ch0 _cw_9)
    refine Step.call (r_call (xs := [.tmp 11, .const (Go.Value.int Go.IntKind.i64 2)]) fk58 rfl) (c_impl_alone _f_18 _ ) fun _v12 _w_19 _q12 => ?_
    obtain ⟨rfl, _cw_19⟩ := _q12
    have _cw_19z := _cw_19.size
    have E := E.trans _cw_19
    refine WL_step rfl rfl (r_pickF rfl rfl) ?_
    refine WL_step rfl rfl (r_assign rfl) ?_
    refine WL_nil ?_
    refine thn_nrm (_hK_7 _ _ ?_)
    clear _hK_7
    refine W_cond rfl (fun _h7 => ?_) (fun _h7 => ?_)
    · refine W_seq fun _K_20 _hK_20 => ?_
      refine W_region ?_
      refine WL_s rfl rfl ?_
      refine Step.call (r_call (xs := [.const (Go.Value.int Go.IntKind.i64 2)]) fk51 rfl) (c_impl_single _ ) fun _v14 _w_21 _q14 => ?_
      obtain ⟨_u14, rfl, _q14, _lo14, _cw_21⟩ := _q14
      have _cw_21z := _cw_21.size
      have E := E.trans _cw_21
      obtain ⟨_Au14, _Cu14, _eu14⟩ := _q14.val
      subst _eu14
      have _lu14 := _q14.len
      have _hiu14 := _q14.lt
      refine WL_s rfl rfl ?_
      have _f_22 := (((_m2.ch0 _cw_9).ch0 _cw_19).ch0 _cw_21)
      refine s_storeA (off := 0) 1 _f_22 sz28 rfl (us := [(.slice _Au14 ([(⟨2, 0, 0, 0⟩ : Token)]).length _Cu14)]) rfl rfl rfl rfl fun _w_23 _m_24 _cw_23 => ?_
      have _cw_23z := _cw_23.size
      have E := E.step _cw_23 (fun i hi => .inl (by have _h1 := List.mem_singleton.1 hi; omega))
      replace _m_24 : Blk _w_23 _b2 28 [(.slice _Au14 ([(⟨2, 0, 0, 0⟩ : Token)]).length _Cu14)] := _m_24
      refine WL_nil ?_
      refine thn_nrm (_hK_20 _ _ ?_)
      clear _hK_20
      refine W_ret (inB_ret (thn_ret ?_))
      clear _hK_6
      have _f_26 := (_q14.ch _cw_23 (fun g hg hm => by have _h0 := List.mem_singleton.1 hm; have _h2 := _lo14 _ hg; have _h3 := _hiu14 _ hg; omega))
      have _o_25 : Ol Token.cs 55 4 _w_23 (.slice _Au14 ([(⟨2, 0, 0, 0⟩ : Token)]).length _Cu14) (starE e) := by
        have hx := _f_26
        first | (have hl := star_last (z := ⟨0, 0, 0, 0⟩) _h18 _hy23; unfold starE; simp_all; done) | (unfold starE; simp_all; done)
      exact ret_intro [_] (resOf_loadA _m_24 rfl agg28 sz28 trivial) ⟨_, rfl, _o_25, Lo.down _lo14 (by omega), E⟩
    · refine W_seq fun _K_27 _hK_27 => ?_
      refine W_region ?_
      refine WL_step rfl rfl (r_move rfl) ?_
      refine WL_step rfl rfl (r_gtr rfl rfl) ?_
      refine WL_step rfl rfl (r_move rfl) ?_
      refine WL_split (d := 18) rfl (fun _h18 => ?_) (fun _h18 => ?_)
      · have _h18 := bt_d _h18
        refine WL_step rfl rfl (r_fieldAddr fa28_0 rfl) ?_
        have _f_28 := (_f_17.ch0 _cw_19)
        refine WL_step rfl rfl (r_loadAt _f_28.at_ agg26 rfl rfl) ?_
        refine WL_step rfl rfl (r_move rfl) ?_
        refine WL_step rfl rfl (r_sub (by omega) rfl rfl) ?_
        refine WL_s rfl rfl ?_
        have _f_29 := (_f_18.ch0 _cw_19)
        refine (s_index (j := (((e.length : Nat) : Int) - 1).toNat) _f_29 Token.len el26 sz55 rfl rfl (by omega) (by omega) fun _p23 _y23 _hy23 _a23 => ?_)
        refine WL_step rfl rfl (r_fieldAddr fa55_0 rfl) ?_
        refine WL_step rfl rfl (r_loadAt _a23 agg3 rfl rfl) ?_
        refine WL_step rfl rfl (r_eql rfl rfl) ?_
        refine WL_step rfl rfl (r_pickT rfl rfl) ?_
        refine WL_step rfl rfl (r_assign rfl) ?_
        refine WL_nil ?_
        refine thn_nrm (_hK_27 _ _ ?_)
        clear _hK_27
        refine W_cond rfl (fun _h15 => ?_) (fun _h15 => ?_)
        · have _h15 := bt_d _h15
          refine W_seq fun _K_30 _hK_30 => ?_
          refine W_region ?_
          refine WL_step rfl rfl (r_loadAtA0 _f_28.at_ agg28 sz28 rfl) ?_
          refine WL_s rfl rfl ?_
          refine Step.call (r_call (xs := [.tmp 28]) fk52 rfl) (c_impl_copyExpr _f_29 (by omega)) fun _v29 _w_31 _q29 => ?_
          obtain ⟨_u29, rfl, _q29, _lo29, _cw_31⟩ := _q29
          have _cw_31z := _cw_31.size
          have E := E.trans _cw_31
          obtain ⟨_Au29, _Cu29, _eu29⟩ := _q29.val
          subst _eu29
          have _lu29 := _q29.len
          have _hiu29 := _q29.lt
          refine WL_s rfl rfl ?_
          have _f_32 := (((_m2.ch0 _cw_9).ch0 _cw_19).ch0 _cw_31)
          refine s_storeA (off := 0) 1 _f_32 sz28 rfl (us := [(.slice _Au29 (e).length _Cu29)]) rfl rfl rfl rfl fun _w_33 _m_34 _cw_33 => ?_
          have _cw_33z := _cw_33.size
          have E := E.step _cw_33 (fun i hi => .inl (by have _h1 := List.mem_singleton.1 hi; omega))
          replace _m_34 : Blk _w_33 _b2 28 [(.slice _Au29 (e).length _Cu29)] := _m_34
          refine WL_nil ?_
          refine thn_nrm (_hK_30 _ _ ?_)
          clear _hK_30
          refine W_ret (inB_ret (thn_ret ?_))
          clear _hK_6
          have _f_36 := (_q29.ch _cw_33 (fun g hg hm => by have _h0 := List.mem_singleton.1 hm; have _h2 := _lo29 _ hg; have _h3 := _hiu29 _ hg; omega))
          have _o_35 : Ol Token.cs 55 4 _w_33 (.slice _Au29 (e).length _Cu29) (starE e) := by
            have hx := _f_36
            first | (have hl := star_last (z := ⟨0, 0, 0, 0⟩) _h18 _hy23; unfold starE; simp_all; done) | (unfold starE; simp_all; done)
          exact ret_intro [_] (resOf_loadA _m_34 rfl agg28 sz28 trivial) ⟨_, rfl, _o_35, Lo.down _lo29 (by omega), E⟩
        · have _h15 := bf_d _h15
          refine W_skip ?_
          refine inB_nrm ?_
          refine thn_nrm (_hK_6 _ _ ?_)
          clear _hK_6
          refine W_seq fun _K_37 _hK_37 => ?_
          refine W_region ?_
          refine WL_step rfl rfl (r_build (parts := [(0, .const (Go.Value.int Go.IntKind.i64 6))]) (cells := [(.int .i64 6), (.int .i64 0), (.int .i64 0), (.int .i64 0)]) zr55 pl55 rfl rfl) ?_
          refine WL_step rfl rfl (r_loadAtA0 _f_28.at_ agg28 sz28 rfl) ?_
          refine WL_s rfl rfl ?_
          refine s_buildSlice (cs := Sv.cs) (parts := [(0, .tmp 31)]) (⟨none, 0, 0⟩ : Sv) [(⟨_A_e, e.length, _C_e⟩ : Sv)] el79 sz28 zr28 Sv.len (by decide) rfl rfl rfl (by decide) (by decide) rfl fun _v32 _w_38 _q32 _lo32 _cw_38 => ?_
          have _cw_38z := _cw_38.size
          have E := E.trans _cw_38
          obtain ⟨_Av32, _Cv32, _ev32⟩ := _q32.val
          subst _ev32
          have _lv32 := _q32.len
          have _hiv32 := _q32.lt
          have _f_39 := (_f_29.ch0 _cw_38)
          have _rd32 : Rd Token.cs 4 _w_38 _w_38.heap.size ([(⟨_A_e, e.length, _C_e⟩ : Sv)]) ([e]) := (Rd.cons (_f_39.up (by omega)) Rd.nil)
          refine WL_s rfl rfl ?_
          refine Step.call (r_call (xs := [.tmp 30, .tmp 32]) fk53 rfl) (c_impl_joined ⟨6, 0, 0, 0⟩ _q32.ls _rd32 (by simp <;> omega)) fun _v33 _w_40 _q33 => ?_
          obtain ⟨_u33, rfl, _q33, _lo33, _cw_40⟩ := _q33
          have _cw_40z := _cw_40.size
          have E := E.trans _cw_40
          obtain ⟨_Au33, _Cu33, _eu33⟩ := _q33.val
          subst _eu33
          have _lu33 := _q33.len
          have _hiu33 := _q33.lt
          refine WL_s rfl rfl ?_
          have _f_41 := ((((_m2.ch0 _cw_9).ch0 _cw_19).ch0 _cw_38).ch0 _cw_40)
          refine s_storeA (off := 0) 1 _f_41 sz28 rfl (us := [(.slice _Au33 (([e]).flatten ++ [(⟨6, 0, 0, 0⟩ : Token)]).length _Cu33)]) rfl rfl rfl rfl fun _w_42 _m_43 _cw_42 => ?_
          have _cw_42z := _cw_42.size
          have E := E.step _cw_42 (fun i hi => .inl (by have _h1 := List.mem_singleton.1 hi; omega))
          replace _m_43 : Blk _w_42 _b2 28 [(.slice _Au33 (([e]).flatten ++ [(⟨6, 0, 0, 0⟩ : Token)]).length _Cu33)] := _m_43
          refine WL_nil ?_
          refine thn_nrm (_hK_37 _ _ ?_)
          clear _hK_37
          refine W_ret ?_
          have _f_45 := (_q33.ch _cw_42 (fun g hg hm => by have _h0 := List.mem_singleton.1 hm; have _h2 := _lo33 _ hg; have _h3 := _hiu33 _ hg; omega))
          have _o_44 : Ol Token.cs 55 4 _w_42 (.slice _Au33 (([e]).flatten ++ [(⟨6, 0, 0, 0⟩ : Token)]).length _Cu33) (starE e) := by
            have hx := _f_45
            first | (have hl := star_last (z := ⟨0, 0, 0, 0⟩) _h18 _hy23; unfold starE; simp_all; done) | (unfold starE; simp_all; done)
          exact ret_intro [_] (resOf_loadA _m_43 rfl agg28 sz28 trivial) ⟨_, rfl, _o_44, Lo.down _lo33 (by omega), E⟩
      · have _h18 := bf_d _h18
        refine WL_skip rfl rfl ?_
        refine WL_skip rfl rfl ?_
        refine WL_skip rfl rfl ?_
        refine WL_skip rfl rfl ?_
        refine WL_skip rfl rfl ?_
        refine WL_skip rfl rfl ?_
        refine WL_skip rfl rfl ?_
        refine WL_skip rfl rfl ?_
        refine WL_step rfl rfl (r_pickF rfl rfl) ?_
        refine WL_step rfl rfl (r_assign rfl) ?_
        refine WL_nil ?_
        refine thn_nrm (_hK_27 _ _ ?_)
        clear _hK_27
        refine W_condF rfl ?_
        refine W_skip ?_
        refine inB_nrm ?_
        refine thn_nrm (_hK_6 _ _ ?_)
        clear _hK_6
        refine W_seq fun _K_46 _hK_46 => ?_
        refine W_region ?_
        refine WL_step rfl rfl (r_build (parts := [(0, .const (Go.Value.int Go.IntKind.i64 6))]) (cells := [(.int .i64 6), (.int .i64 0), (.int .i64 0), (.int .i64 0)]) zr55 pl55 rfl rfl) ?_
        have _f_47 := (_f_17.ch0 _cw_19)
        refine WL_step rfl rfl (r_loadAtA0 _f_47.at_ agg28 sz28 rfl) ?_
        refine WL_s rfl rfl ?_
        refine s_buildSlice (cs := Sv.cs) (parts := [(0, .tmp 31)]) (⟨none, 0, 0⟩ : Sv) [(⟨_A_e, e.length, _C_e⟩ : Sv)] el79 sz28 zr28 Sv.len (by decide) rfl rfl rfl (by decide) (by decide) rfl fun _v32 _w_48 _q32 _lo32 _cw_48 => ?_
        have _cw_48z := _cw_48.size
        have E := E.trans _cw_48
        obtain ⟨_Av32, _Cv32, _ev32⟩ := _q32.val
        subst _ev32
        have _lv32 := _q32.len
        have _hiv32 := _q32.lt
        have _f_49 := ((_f_18.ch0 _cw_19).ch0 _cw_48)
        have _rd32 : Rd Token.cs 4 _w_48 _w_48.heap.size ([(⟨_A_e, e.length, _C_e⟩ : Sv)]) ([e]) := (Rd.cons (_f_49.up (by omega)) Rd.nil)
        refine WL_s rfl rfl ?_
        refine Step.call (r_call (xs := [.tmp 30, .tmp 32]) fk53 rfl) (c_impl_joined ⟨6, 0, 0, 0⟩ _q32.ls _rd32 (by simp <;> omega)) fun _v33 _w_50 _q33 => ?_
        obtain ⟨_u33, rfl, _q33, _lo33, _cw_50⟩ := _q33
        have _cw_50z := _cw_50.size
        have E := E.trans _cw_50
        obtain ⟨_Au33, _Cu33, _eu33⟩ := _q33.val
        subst _eu33
        have _lu33 := _q33.len
        have _hiu33 := _q33.lt
        refine WL_s rfl rfl ?_
        have _f_51 := ((((_m2.ch0 _cw_9).ch0 _cw_19).ch0 _cw_48).ch0 _cw_50)
        refine s_storeA (off := 0) 1 _f_51 sz28 rfl (us := [(.slice _Au33 (([e]).flatten ++ [(⟨6, 0, 0, 0⟩ : Token)]).length _Cu33)]) rfl rfl rfl rfl fun _w_52 _m_53 _cw_52 => ?_
        have _cw_52z := _cw_52.size
        have E := E.step _cw_52 (fun i hi => .inl (by have _h1 := List.mem_singleton.1 hi; omega))
        replace _m_53 : Blk _w_52 _b2 28 [(.slice _Au33 (([e]).flatten ++ [(⟨6, 0, 0, 0⟩ : Token)]).length _Cu33)] := _m_53
        refine WL_nil ?_
        refine thn_nrm (_hK_46 _ _ ?_)
        clear _hK_46
        refine W_ret ?_
        have _f_55 := (_q33.ch _cw_52 (fun g hg hm => by have _h0 := List.mem_singleton.1 hm; have _h2 := _lo33 _ hg; have _h3 := _hiu33 _ hg; omega))
        have _o_54 : Ol Token.cs 55 4 _w_52 (.slice _Au33 (([e]).flatten ++ [(⟨6, 0, 0, 0⟩ : Token)]).length _Cu33) (starE e) := by
          have hx := _f_55
          first | (have hl := star_last (z := ⟨0, 0, 0, 0⟩) _h18 _hy23; unfold starE; simp_all; done) | (unfold starE; simp_all; done)
        exact ret_intro [_] (resOf_loadA _m_53 rfl agg28 sz28 trivial) ⟨_, rfl, _o_54, Lo.down _lo33 (by omega), E⟩

/-- laws.eqToken -/
theorem c_laws_eqToken {w : World} (a : Token) (b : Token) :
    Ctr Try.prog 79 #[(.agg #[(.int .i64 a.kind), (.int .i64 a.letter), (.int .i64 a.low), (.int .i64 a.high)]), (.agg #[(.int .i64 b.kind), (.int .i64 b.letter), (.int .i64 b.low), (.int .i64 b.high)])] w (fun v w' => v = .bool (decide (a = b)) ∧ Ch [] w w') := by
  have E := Ch.refl [] w
  refine Ctr_of_W (N := 25) (vs0 := [(.agg #[(.int .i64 a.kind), (.int .i64 a.letter), (.int .i64 a.low), (.int .i64 a.high)]), (.agg #[(.int .i64 b.kind), (.int .i64 b.letter), (.int .i64 b.low), (.int .i64 b.high)])]) Try.func79 rfl rfl rfl ?_
  refine W_seq fun _K_1 _hK_1 => ?_
  refine W_region ?_
  refine WL_s rfl rfl ?_
  refine s_box rfl fun _b2 _w_2 _m2 _cw_2 _e2 => ?_
  have _cw_2z := _cw_2.size
  have E := E.trans _cw_2
  have _z2 := _m2.lt
  replace _m2 : Blk _w_2 _b2 55 [(.int .i64 a.kind), (.int .i64 a.letter), (.int .i64 a.low), (.int .i64 a.high)] := _m2
  refine WL_s rfl rfl ?_
  refine s_box rfl fun _b3 _w_3 _m3 _cw_3 _e3 => ?_
  have _cw_3z := _cw_3.size
  have E := E.trans _cw_3
  have _z3 := _m3.lt
  replace _m3 : Blk _w_3 _b3 55 [(.int .i64 b.kind), (.int .i64 b.letter), (.int .i64 b.low), (.int .i64 b.high)] := _m3
  refine WL_step rfl rfl (r_assign rfl) ?_
  refine WL_nil ?_
  refine thn_nrm (_hK_1 _ _ ?_)
  clear _hK_1
  refine W_seq fun _K_4 _hK_4 => ?_
  refine W_seq fun _K_5 _hK_5 => ?_
  refine W_region ?_
  refine WL_step rfl rfl (r_fieldAddr fa55_0 rfl) ?_
  have _f_6 := (_m2.ch0 _cw_3)
  refine WL_step rfl rfl (r_loadAt _f_6.at_ agg3 rfl rfl) ?_
  refine WL_step rfl rfl (r_fieldAddr fa55_0 rfl) ?_
  refine WL_step rfl rfl (r_loadAt _m3.at_ agg3 rfl rfl) ?_
  refine WL_step rfl rfl (r_neq rfl rfl) ?_
  refine WL_nil ?_
  refine thn_nrm (_hK_5 _ _ ?_)
  clear _hK_5
  refine W_cond rfl (fun _h9 => ?_) (fun _h9 => ?_)
  · have _h9 := bf_d (bt_n _h9)
    refine W_seq fun _K_7 _hK_7 => ?_
    refine W_region ?_
    refine WL_step rfl rfl (r_assign rfl) ?_
    refine WL_nil ?_
    refine thn_nrm (_hK_7 _ _ ?_)
    clear _hK_7
    refine W_ret (thn_ret ?_)
    clear _hK_4
    exact ret_intro [_] ⟨rfl, trivial⟩ ⟨congrArg Value.bool (decide_eq_false (fun e => _h9 (by rw [e]))).symm, E⟩
  · have _h9 := bt_d (bf_n _h9)
    refine W_skip ?_
    refine thn_nrm (_hK_4 _ _ ?_)
    clear _hK_4
    refine W_seq fun _K_8 _hK_8 => ?_
    refine W_seq fun _K_9 _hK_9 => ?_
    refine W_region ?_
    refine WL_step rfl rfl (r_fieldAddr fa55_1 rfl) ?_
    refine WL_step rfl rfl (r_loadAt _f_6.at_ agg3 rfl rfl) ?_
    refine WL_step rfl rfl (r_fieldAddr fa55_1 rfl) ?_
    refine WL_step rfl rfl (r_loadAt _m3.at_ agg3 rfl rfl) ?_
    refine WL_step rfl rfl (r_neq rfl rfl) ?_
    refine WL_nil ?_
    refine thn_nrm (_hK_9 _ _ ?_)
    clear _hK_9
    refine W_cond rfl (fun _h14 => ?_) (fun _h14 => ?_)
    · have _h14 := bf_d (bt_n _h14)
      refine W_seq fun _K_10 _hK_10 => ?_
      refine W_region ?_
      refine WL_step rfl rfl (r_assign rfl) ?_
      refine WL_nil ?_
      refine thn_nrm (_hK_10 _ _ ?_)
      clear _hK_10
      refine W_ret (thn_ret ?_)
      clear _hK_8
      exact ret_intro [_] ⟨rfl, trivial⟩ ⟨congrArg Value.bool (decide_eq_false (fun e => _h14 (by rw [e]))).symm, E⟩
    · have _h14 := bt_d (bf_n _h14)
      refine W_skip ?_
      refine thn_nrm (_hK_8 _ _ ?_)
      clear _hK_8
      refine W_seq fun _K_11 _hK_11 => ?_
      refine W_seq fun _K_12 _hK_12 => ?_
      refine W_region ?_
      refine WL_step rfl rfl (r_fieldAddr fa55_2 rfl) ?_
      refine WL_step rfl rfl (r_loadAt _f_6.at_ agg3 rfl rfl) ?_
      refine WL_step rfl rfl (r_fieldAddr fa55_2 rfl) ?_
      refine WL_step rfl rfl (r_loadAt _m3.at_ agg3 rfl rfl) ?_
      refine WL_step rfl rfl (r_neq rfl rfl) ?_
      refine WL_nil ?_
      refine thn_nrm (_hK_12 _ _ ?_)
      clear _hK_12
      refine W_cond rfl (fun _h19 => ?_) (fun _h19 => ?_)
      · have _h19 := bf_d (bt_n _h19)
        refine W_seq fun _K_13 _hK_13 => ?_
        refine W_region ?_
        refine WL_step rfl rfl (r_assign rfl) ?_
        refine WL_nil ?_
        refine thn_nrm (_hK_13 _ _ ?_)
        clear _hK_13
        refine W_ret (thn_ret ?_)
        clear _hK_11
        exact ret_intro [_] ⟨rfl, trivial⟩ ⟨congrArg Value.bool (decide_eq_false (fun e => _h19 (by rw [e]))).symm, E⟩
      · have _h19 := bt_d (bf_n _h19)
        refine W_skip ?_
        refine thn_nrm (_hK_11 _ _ ?_)
        clear _hK_11
        refine W_seq fun _K_14 _hK_14 => ?_
        refine W_seq fun _K_15 _hK_15 => ?_
        refine W_region ?_
        refine WL_step rfl rfl (r_fieldAddr fa55_3 rfl) ?_
        refine WL_step rfl rfl (r_loadAt _f_6.at_ agg3 rfl rfl) ?_
        refine WL_step rfl rfl (r_fieldAddr fa55_3 rfl) ?_
        refine WL_step rfl rfl (r_loadAt _m3.at_ agg3 rfl rfl) ?_
        refine WL_step rfl rfl (r_neq rfl rfl) ?_
        refine WL_nil ?_
        refine thn_nrm (_hK_15 _ _ ?_)
        clear _hK_15
        refine W_cond rfl (fun _h24 => ?_) (fun _h24 => ?_)
        · have _h24 := bf_d (bt_n _h24)
          refine W_seq fun _K_16 _hK_16 => ?_
          refine W_region ?_
          refine WL_step rfl rfl (r_assign rfl) ?_
          refine WL_nil ?_
          refine thn_nrm (_hK_16 _ _ ?_)
          clear _hK_16
          refine W_ret (thn_ret ?_)
          clear _hK_14
          exact ret_intro [_] ⟨rfl, trivial⟩ ⟨congrArg Value.bool (decide_eq_false (fun e => _h24 (by rw [e]))).symm, E⟩
        · have _h24 := bt_d (bf_n _h24)
          refine W_skip ?_
          refine thn_nrm (_hK_14 _ _ ?_)
          clear _hK_14
          refine W_seq fun _K_17 _hK_17 => ?_
          refine W_region ?_
          refine WL_step rfl rfl (r_assign rfl) ?_
          refine WL_nil ?_
          refine thn_nrm (_hK_17 _ _ ?_)
          clear _hK_17
          refine W_ret ?_
          exact ret_intro [_] ⟨rfl, trivial⟩ ⟨congrArg Value.bool (decide_eq_true (Token.inj (by rw [_h9, _h14, _h19, _h24]))).symm, E⟩

/-- laws.eqTokenS -/
theorem c_laws_eqTokenS {w : World} {_B_a : Nat} {_v_a : Value} {a : List Token} (_h_a : Ls Token.cs 4 w _B_a _v_a a) {_B_b : Nat} {_v_b : Value} {b : List Token} (_h_b : Ls Token.cs 4 w _B_b _v_b b) :
    Ctr Try.prog 54 #[_v_a, _v_b] w (fun v w' => v = .bool (decide (a = b)) ∧ Ch [] w w') := by
  obtain ⟨_A_a, _C_a, _e1_a⟩ := _h_a.val
  subst _e1_a
  have _l_a := _h_a.len
  have _h_a := _h_a.here (by decide)
  obtain ⟨_A_b, _C_b, _e1_b⟩ := _h_b.val
  subst _e1_b
  have _l_b := _h_b.len
  have _h_b := _h_b.here (by decide)
  have E := Ch.refl [] w
  refine Ctr_of_W (N := 27) (vs0 := [(.slice _A_a a.length _C_a), (.slice _A_b b.length _C_b)]) Try.func54 rfl rfl rfl ?_
  refine W_seq fun _K_1 _hK_1 => ?_
  refine W_region ?_
  refine WL_step rfl rfl (r_assign rfl) ?_
  refine WL_nil ?_
  refine thn_nrm (_hK_1 _ _ ?_)
  clear _hK_1
  refine W_seq fun _K_2 _hK_2 => ?_
  refine W_seq fun _K_3 _hK_3 => ?_
  refine W_region ?_
  refine WL_step rfl rfl (r_move rfl) ?_
  refine WL_step rfl rfl (r_len (by rw [el26]; rfl) rfl) ?_
  refine WL_step rfl rfl (r_move rfl) ?_
  refine WL_step rfl rfl (r_len (by rw [el26]; rfl) rfl) ?_
  refine WL_step rfl rfl (r_neq rfl rfl) ?_
  refine WL_nil ?_
  refine thn_nrm (_hK_3 _ _ ?_)
  clear _hK_3
  refine W_cond rfl (fun _h10 => ?_) (fun _h10 => ?_)
  · have _h10 := bf_d (bt_n _h10)
    refine W_seq fun _K_4 _hK_4 => ?_
    refine W_region ?_
    refine WL_step rfl rfl (r_assign rfl) ?_
    refine WL_nil ?_
    refine thn_nrm (_hK_4 _ _ ?_)
    clear _hK_4
    refine W_ret (thn_ret ?_)
    clear _hK_2
    exact ret_intro [_] ⟨rfl, trivial⟩ ⟨congrArg Value.bool (decide_eq_false (fun e => _h10 (by rw [e]))).symm, E⟩
  · have _h10 := bt_d (bf_n _h10)
    refine W_skip ?_
    refine thn_nrm (_hK_2 _ _ ?_)
    clear _hK_2
    refine W_seq fun _K_5 _hK_5 => ?_
    refine W_seq fun _K_6 _hK_6 => ?_
    refine W_region ?_
    refine WL_step rfl rfl (r_assign rfl) ?_
    refine WL_nil ?_
    refine thn_nrm (_hK_6 _ _ ?_)
    clear _hK_6
    refine W_block ?_
    refine W_loop (σ := Nat) (fun (k : Nat) => [(0, (.slice _A_a a.length _C_a)), (1, (.slice _A_b b.length _C_b)), (5, (.int .i64 ((k : Nat) : Int))), (6, (.slice _A_a a.length _C_a)), (7, (.int .i64 ((a.length : Nat) : Int))), (8, (.slice _A_b b.length _C_b)), (9, (.int .i64 ((b.length : Nat) : Int))), (10, (.bool (!decide (((a.length : Nat) : Int) = ((b.length : Nat) : Int)))))]) (fun (k : Nat) wx => Ch [] w wx ∧ w.heap.size ≤ wx.heap.size ∧ k ≤ a.length ∧ a.take k = b.take k) (fun (k : Nat) => a.length - k) 0 (Sub.cons rfl (Sub.cons rfl (Sub.cons rfl (Sub.cons rfl (Sub.cons rfl (Sub.cons rfl (Sub.cons rfl (Sub.cons rfl (Sub.nil _))))))))) ⟨E, (Nat.le_refl _), (by omega), rfl⟩ ?_
    rintro k _wr_7 ⟨E, _zz0, _hk, _ht⟩
    have _E0h := E
    have _E0hz := _E0h.size
    refine W_seq fun _K_8 _hK_8 => ?_
    refine W_seq fun _K_9 _hK_9 => ?_
    refine W_region ?_
    refine WL_step rfl rfl (r_move rfl) ?_
    refine WL_step rfl rfl (r_move rfl) ?_
    refine WL_step rfl rfl (r_len (by rw [el26]; rfl) rfl) ?_
    refine WL_step rfl rfl (r_lss rfl rfl) ?_
    refine WL_nil ?_
    refine thn_nrm (_hK_9 _ _ ?_)
    clear _hK_9
    refine W_cond rfl (fun _h14 => ?_) (fun _h14 => ?_)
    · have _h14 := bt_d _h14
      refine W_skip ?_
      refine thn_nrm (_hK_8 _ _ ?_)
      clear _hK_8
      refine W_seq fun _K_10 _hK_10 => ?_
      refine W_block ?_
      refine W_seq fun _K_11 _hK_11 => ?_
      refine W_drawC [] 10 mixed rfl fun _w_12 _cw_12 => ?_
      have _cw_12z := _cw_12.size
      have E := E.trans _cw_12
      refine DR_s 0 rfl (by kernel_rfl) rfl rfl (t_v (fun _ => (r_move rfl)) ?_)
      refine DR_s 1 rfl (by kernel_rfl) rfl rfl (t_v (fun _ => (r_move rfl)) ?_)
      have _f_13 := ((_h_a.ch0 _E0h).ch0 _cw_12)
      refine DR_s 2 rfl (by kernel_rfl) rfl rfl (t_index _f_13 Token.len el26 sz55 rfl rfl rfl (by omega) fun _p19 _y19 _hy19 _a19 => ?_)
      refine DR_s 3 rfl (by kernel_rfl) rfl rfl (t_loadAtA0 _a19 (fun i hi => by first | exact absurd hi (List.not_mem_nil) | (have _h1 := List.mem_singleton.1 hi; omega)) agg55 sz55 rfl ?_)
      refine DR_s 4 rfl (by kernel_rfl) rfl rfl (t_v (fun _ => (r_move rfl)) ?_)
      refine DR_s 5 rfl (by kernel_rfl) rfl rfl (t_v (fun _ => (r_move rfl)) ?_)
      have _f_14 := ((_h_b.ch0 _E0h).ch0 _cw_12)
      refine DR_s 6 rfl (by kernel_rfl) rfl rfl (t_index _f_14 Token.len el26 sz55 rfl rfl rfl (by omega) fun _p23 _y23 _hy23 _a23 => ?_)
      refine DR_s 7 rfl (by kernel_rfl) rfl rfl (t_loadAtA0 _a23 (fun i hi => by first | exact absurd hi (List.not_mem_nil) | (have _h1 := List.mem_singleton.1 hi; omega)) agg55 sz55 rfl ?_)
      refine DR_one 8 (by kernel_rfl) ?_
      refine DO_s rfl rfl rfl ?_
      refine Step.call (r_call (xs := [.tmp 20, .tmp 24]) fk79 rfl) (c_laws_eqToken _y19 _y23 ) fun _v25 _w_15 _q25 => ?_
      obtain ⟨rfl, _cw_15⟩ := _q25
      have _cw_15z := _cw_15.size
      have E := E.trans _cw_15
      have _S_16 : Ch [] _w_12 _w_15 := ((Ch.refl _ _).trans _cw_15.of_nil)
      refine ⟨_S_16, ?_⟩
      refine DR_s 9 rfl (by kernel_rfl) rfl rfl (t_v (fun _ => (r_not rfl)) ?_)
      refine DR_done (by kernel_rfl) ?_
      refine thn_nrm (_hK_11 _ _ ?_)
      clear _hK_11
      refine W_cond rfl (fun _h26 => ?_) (fun _h26 => ?_)
      · have _h26 := bf_d (bt_n _h26)
        refine W_seq fun _K_17 _hK_17 => ?_
        refine W_region ?_
        refine WL_step rfl rfl (r_assign rfl) ?_
        refine WL_nil ?_
        refine thn_nrm (_hK_17 _ _ ?_)
        clear _hK_17
        refine W_ret (inB_ret (thn_ret (thn_ret (inB_ret (thn_ret ?_)))))
        clear _hK_5 _hK_10
        exact ret_intro [_] ⟨rfl, trivial⟩ ⟨congrArg Value.bool (decide_eq_false (ne_of_get _hy19 _hy23 _h26)).symm, E⟩
      · have _h26 := bt_d (bf_n _h26)
        refine W_skip ?_
        refine inB_nrm ?_
        refine thn_nrm (_hK_10 _ _ ?_)
        clear _hK_10
        refine W_region ?_
        refine WL_step rfl rfl (r_move rfl) ?_
        refine WL_step rfl rfl (r_add (by omega) rfl rfl) ?_
        refine WL_step rfl rfl (r_assign rfl) ?_
        refine WL_nil ?_
        exact thn_nrm (Exists.intro (k + 1) ⟨⟨E, (by omega), (by omega), (take_eq_succ _ht _hy19 _hy23 _h26)⟩, Sub.cons rfl (Sub.cons rfl (Sub.cons rfl (Sub.cons rfl (Sub.cons rfl (Sub.cons rfl (Sub.cons rfl (Sub.cons rfl (Sub.nil _)))))))), (by first | omega | (dsimp only; omega))⟩)
    · have _h14 := bf_d _h14
      refine W_exit (thn_exit (thn_exit (inB_hit ?_)))
      refine thn_nrm (_hK_5 _ _ ?_)
      clear _hK_5
      refine W_seq fun _K_18 _hK_18 => ?_
      refine W_region ?_
      refine WL_step rfl rfl (r_assign rfl) ?_
      refine WL_nil ?_
      refine thn_nrm (_hK_18 _ _ ?_)
      clear _hK_18
      refine W_ret ?_
      clear _hK_8
      exact ret_intro [_] ⟨rfl, trivial⟩ ⟨congrArg Value.bool (decide_eq_true (eq_of_take _ht (by omega) (by omega))).symm, E⟩

/-- laws.eqExpr -/
theorem c_laws_eqExpr {w : World} {_B_a : Nat} {_v_a : Value} {a : List Token} (_h_a : Ls Token.cs 4 w _B_a _v_a a) {_B_b : Nat} {_v_b : Value} {b : List Token} (_h_b : Ls Token.cs 4 w _B_b _v_b b) :
    Ctr Try.prog 19 #[(.agg #[_v_a]), (.agg #[_v_b])] w (fun v w' => v = .bool (decide (a = b)) ∧ Ch [] w w') := by
  obtain ⟨_A_a, _C_a, _e1_a⟩ := _h_a.val
  subst _e1_a
  have _l_a := _h_a.len
  have _h_a := _h_a.here (by decide)
  obtain ⟨_A_b, _C_b, _e1_b⟩ := _h_b.val
  subst _e1_b
  have _l_b := _h_b.len
  have _h_b := _h_b.here (by decide)
  have E := Ch.refl [] w
  refine Ctr_of_W (N := 11) (vs0 := [(.agg #[(.slice _A_a a.length _C_a)]), (.agg #[(.slice _A_b b.length _C_b)])]) Try.func19 rfl rfl rfl ?_
  refine W_seq fun _K_1 _hK_1 => ?_
  refine W_region ?_
  refine WL_s rfl rfl ?_
  refine s_box rfl fun _b2 _w_2 _m2 _cw_2 _e2 => ?_
  have _cw_2z := _cw_2.size
  have E := E.trans _cw_2
  have _z2 := _m2.lt
  replace _m2 : Blk _w_2 _b2 28 [(.slice _A_a a.length _C_a)] := _m2
  refine WL_s rfl rfl ?_
  refine s_box rfl fun _b3 _w_3 _m3 _cw_3 _e3 => ?_
  have _cw_3z := _cw_3.size
  have E := E.trans _cw_3
  have _z3 := _m3.lt
  replace _m3 : Blk _w_3 _b3 28 [(.slice _A_b b.length _C_b)] := _m3
  refine WL_step rfl rfl (r_assign rfl) ?_
  refine WL_nil ?_
  refine thn_nrm (_hK_1 _ _ ?_)
  clear _hK_1
  refine W_seq fun _K_4 _hK_4 => ?_
  refine W_seq fun _K_5 _hK_5 => ?_
  refine W_region ?_
  refine WL_step rfl rfl (r_fieldAddr fa28_0 rfl) ?_
  have _f_6 := (_m2.ch0 _cw_3)
  refine WL_step rfl rfl (r_loadAt _f_6.at_ agg26 rfl rfl) ?_
  refine WL_step rfl rfl (r_fieldAddr fa28_0 rfl) ?_
  refine WL_step rfl rfl (r_loadAt _m3.at_ agg26 rfl rfl) ?_
  refine WL_s rfl rfl ?_
  have _f_7 := ((_h_a.ch0 _cw_2).ch0 _cw_3)
  have _f_8 := ((_h_b.ch0 _cw_2).ch0 _cw_3)
  refine Step.call (r_call (xs := [.tmp 6, .tmp 8]) fk54 rfl) (c_laws_eqTokenS _f_7 _f_8 ) fun _v9 _w_9 _q9 => ?_
  obtain ⟨rfl, _cw_9⟩ := _q9
  have _cw_9z := _cw_9.size
  have E := E.trans _cw_9
  refine WL_step rfl rfl (r_not rfl) ?_
  refine WL_nil ?_
  refine thn_nrm (_hK_5 _ _ ?_)
  clear _hK_5
  refine W_cond rfl (fun _h10 => ?_) (fun _h10 => ?_)
  · have _h10 := bf_d (bt_n _h10)
    refine W_seq fun _K_10 _hK_10 => ?_
    refine W_region ?_
    refine WL_step rfl rfl (r_assign rfl) ?_
    refine WL_nil ?_
    refine thn_nrm (_hK_10 _ _ ?_)
    clear _hK_10
    refine W_ret (thn_ret ?_)
    clear _hK_4
    exact ret_intro [_] ⟨rfl, trivial⟩ ⟨congrArg Value.bool (by simp_all), E⟩
  · have _h10 := bt_d (bf_n _h10)
    refine W_skip ?_
    refine thn_nrm (_hK_4 _ _ ?_)
    clear _hK_4
    refine W_seq fun _K_11 _hK_11 => ?_
    refine W_region ?_
    refine WL_step rfl rfl (r_assign rfl) ?_
    refine WL_nil ?_
    refine thn_nrm (_hK_11 _ _ ?_)
    clear _hK_11
    refine W_ret ?_
    exact ret_intro [_] ⟨rfl, trivial⟩ ⟨congrArg Value.bool (by simp_all), E⟩

/-- laws.heldTokenS -/
theorem c_laws_heldTokenS {w : World} {_B_a : Nat} {_v_a : Value} {a : List Token} (_h_a : Ls Token.cs 4 w _B_a _v_a a) (k : Int) (hk0 : 0 ≤ k) (hkk : k + 4 * a.length ≤ 4611686018427387904) :
    Ctr Try.prog 56 #[_v_a, (.int .i64 k)] w (fun v w' => v = .int .i64 (if a = mkToken k a.length then k + 4 * a.length else -1) ∧ Ch [] w w') := by
  obtain ⟨_A_a, _C_a, _e1_a⟩ := _h_a.val
  subst _e1_a
  have _l_a := _h_a.len
  have _h_a := _h_a.here (by decide)
  have E := Ch.refl [] w
  refine Ctr_of_W (N := 49) (vs0 := [(.slice _A_a a.length _C_a), (.int .i64 k)]) Try.func56 rfl rfl rfl ?_
  refine W_seq fun _K_1 _hK_1 => ?_
  refine W_region ?_
  refine WL_step rfl rfl (r_assign rfl) ?_
  refine WL_nil ?_
  refine thn_nrm (_hK_1 _ _ ?_)
  clear _hK_1
  refine W_seq fun _K_2 _hK_2 => ?_
  refine W_seq fun _K_3 _hK_3 => ?_
  refine W_region ?_
  refine WL_step rfl rfl (r_assign rfl) ?_
  refine WL_nil ?_
  refine thn_nrm (_hK_3 _ _ ?_)
  clear _hK_3
  refine W_block ?_
  refine W_loop (σ := Nat × Int) (fun ⟨i, kk⟩ => [(0, (.slice _A_a a.length _C_a)), (1, (.int .i64 kk)), (5, (.int .i64 ((i : Nat) : Int)))]) (fun ⟨i, kk⟩ wx => Ch [] w wx ∧ w.heap.size ≤ wx.heap.size ∧ i ≤ a.length ∧ kk = k + 4 * i ∧ a.take i = mkToken k i) (fun ⟨i, kk⟩ => a.length - i) (0, k) (Sub.cons rfl (Sub.cons rfl (Sub.cons rfl (Sub.nil _)))) ⟨E, (Nat.le_refl _), (by omega), (by omega), rfl⟩ ?_
  rintro ⟨i, kk⟩ _wr_4 ⟨E, _zz0, hi, hq, _ht⟩
  have _E0h := E
  have _E0hz := _E0h.size
  refine W_seq fun _K_5 _hK_5 => ?_
  refine W_seq fun _K_6 _hK_6 => ?_
  refine W_region ?_
  refine WL_step rfl rfl (r_move rfl) ?_
  refine WL_step rfl rfl (r_move rfl) ?_
  refine WL_step rfl rfl (r_len (by rw [el26]; rfl) rfl) ?_
  refine WL_step rfl rfl (r_lss rfl rfl) ?_
  refine WL_nil ?_
  refine thn_nrm (_hK_6 _ _ ?_)
  clear _hK_6
  refine W_cond rfl (fun _h9 => ?_) (fun _h9 => ?_)
  · have _h9 := bt_d _h9
    refine W_skip ?_
    refine thn_nrm (_hK_5 _ _ ?_)
    clear _hK_5
    refine W_seq fun _K_7 _hK_7 => ?_
    refine W_block ?_
    refine W_seq fun _K_8 _hK_8 => ?_
    refine W_seq fun _K_9 _hK_9 => ?_
    refine W_region ?_
    refine WL_step rfl rfl (r_move rfl) ?_
    refine WL_step rfl rfl (r_move rfl) ?_
    refine WL_s rfl rfl ?_
    have _f_10 := (_h_a.ch0 _E0h)
    refine (s_index _f_10 Token.len el26 sz55 rfl rfl rfl (by omega) fun _p14 _y14 _hy14 _a14 => ?_)
    refine WL_step rfl rfl (r_fieldAddr fa55_0 rfl) ?_
    refine WL_step rfl rfl (r_loadAt _a14 agg3 rfl rfl) ?_
    refine WL_step rfl rfl (r_move rfl) ?_
    refine WL_step rfl rfl (r_neq rfl rfl) ?_
    refine WL_nil ?_
    refine thn_nrm (_hK_9 _ _ ?_)
    clear _hK_9
    refine W_cond rfl (fun _h18 => ?_) (fun _h18 => ?_)
    · have _h18 := bf_d (bt_n _h18)
      refine W_seq fun _K_11 _hK_11 => ?_
      refine W_region ?_
      refine WL_step rfl rfl (r_assign rfl) ?_
      refine WL_nil ?_
      refine thn_nrm (_hK_11 _ _ ?_)
      clear _hK_11
      refine W_ret (thn_ret (inB_ret (thn_ret (thn_ret (inB_ret (thn_ret ?_))))))
      clear _hK_2 _hK_7 _hK_8
      exact ret_intro [_] ⟨rfl, trivial⟩ ⟨congrArg (Value.int .i64) (if_neg (fun e => _h18 (by have _e2 := (heldToken_get e _hy14).1; omega))).symm, E⟩
    · have _h18 := bt_d (bf_n _h18)
      refine W_skip ?_
      refine thn_nrm (_hK_8 _ _ ?_)
      clear _hK_8
      refine W_seq fun _K_12 _hK_12 => ?_
      refine W_region ?_
      refine WL_step rfl rfl (r_move rfl) ?_
      refine WL_step rfl rfl (r_add (by omega) rfl rfl) ?_
      refine WL_step rfl rfl (r_assign rfl) ?_
      refine WL_nil ?_
      refine thn_nrm (_hK_12 _ _ ?_)
      clear _hK_12
      refine W_seq fun _K_13 _hK_13 => ?_
      refine W_seq fun _K_14 _hK_14 => ?_
      refine W_region ?_
      refine WL_step rfl rfl (r_move rfl) ?_
      refine WL_step rfl rfl (r_move rfl) ?_
      refine WL_s rfl rfl ?_
      refine (s_index _f_10 Token.len el26 sz55 rfl rfl rfl (by omega) fun _p23 _y23 _hy23 _a23 => ?_)
      refine WL_step rfl rfl (r_fieldAddr fa55_1 rfl) ?_
      refine WL_step rfl rfl (r_loadAt _a23 agg3 rfl rfl) ?_
      refine WL_step rfl rfl (r_move rfl) ?_
      refine WL_step rfl rfl (r_neq rfl rfl) ?_
      refine WL_nil ?_
      refine thn_nrm (_hK_14 _ _ ?_)
      clear _hK_14
      refine W_cond rfl (fun _h27 => ?_) (fun _h27 => ?_)
      · have _h27 := bf_d (bt_n _h27)
        refine W_seq fun _K_15 _hK_15 => ?_
        refine W_region ?_
        refine WL_step rfl rfl (r_assign rfl) ?_
        refine WL_nil ?_
        refine thn_nrm (_hK_15 _ _ ?_)
        clear _hK_15
        refine W_ret (thn_ret (inB_ret (thn_ret (thn_ret (inB_ret (thn_ret ?_))))))
        clear _hK_2 _hK_7 _hK_13
        exact ret_intro [_] ⟨rfl, trivial⟩ ⟨congrArg (Value.int .i64) (if_neg (fun e => _h27 (by have _e2 := (heldToken_get e _hy23).2.1; omega))).symm, E⟩
      · have _h27 := bt_d (bf_n _h27)
        refine W_skip ?_
        refine thn_nrm (_hK_13 _ _ ?_)
        clear _hK_13
        refine W_seq fun _K_16 _hK_16 => ?_
        refine W_region ?_
        refine WL_step rfl rfl (r_move rfl) ?_
        refine WL_step rfl rfl (r_add (by omega) rfl rfl) ?_
        refine WL_step rfl rfl (r_assign rfl) ?_
        refine WL_nil ?_
        refine thn_nrm (_hK_16 _ _ ?_)
        clear _hK_16
        refine W_seq fun _K_17 _hK_17 => ?_
        refine W_seq fun _K_18 _hK_18 => ?_
        refine W_region ?_
        refine WL_step rfl rfl (r_move rfl) ?_
        refine WL_step rfl rfl (r_move rfl) ?_
        refine WL_s rfl rfl ?_
        refine (s_index _f_10 Token.len el26 sz55 rfl rfl rfl (by omega) fun _p32 _y32 _hy32 _a32 => ?_)
        refine WL_step rfl rfl (r_fieldAddr fa55_2 rfl) ?_
        refine WL_step rfl rfl (r_loadAt _a32 agg3 rfl rfl) ?_
        refine WL_step rfl rfl (r_move rfl) ?_
        refine WL_step rfl rfl (r_neq rfl rfl) ?_
        refine WL_nil ?_
        refine thn_nrm (_hK_18 _ _ ?_)
        clear _hK_18
        refine W_cond rfl (fun _h36 => ?_) (fun _h36 => ?_)
        · have _h36 := bf_d (bt_n _h36)
          refine W_seq fun _K_19 _hK_19 => ?_
          refine W_region ?_
          refine WL_step rfl rfl (r_assign rfl) ?_
          refine WL_nil ?_
          refine thn_nrm (_hK_19 _ _ ?_)
          clear _hK_19
          refine W_ret (thn_ret (inB_ret (thn_ret (thn_ret (inB_ret (thn_ret ?_))))))
          clear _hK_2 _hK_7 _hK_17
          exact ret_intro [_] ⟨rfl, trivial⟩ ⟨congrArg (Value.int .i64) (if_neg (fun e => _h36 (by have _e2 := (heldToken_get e _hy32).2.2.1; omega))).symm, E⟩
        · have _h36 := bt_d (bf_n _h36)
          refine W_skip ?_
          refine thn_nrm (_hK_17 _ _ ?_)
          clear _hK_17
          refine W_seq fun _K_20 _hK_20 => ?_
          refine W_region ?_
          refine WL_step rfl rfl (r_move rfl) ?_
          refine WL_step rfl rfl (r_add (by omega) rfl rfl) ?_
          refine WL_step rfl rfl (r_assign rfl) ?_
          refine WL_nil ?_
          refine thn_nrm (_hK_20 _ _ ?_)
          clear _hK_20
          refine W_seq fun _K_21 _hK_21 => ?_
          refine W_seq fun _K_22 _hK_22 => ?_
          refine W_region ?_
          refine WL_step rfl rfl (r_move rfl) ?_
          refine WL_step rfl rfl (r_move rfl) ?_
          refine WL_s rfl rfl ?_
          refine (s_index _f_10 Token.len el26 sz55 rfl rfl rfl (by omega) fun _p41 _y41 _hy41 _a41 => ?_)
          refine WL_step rfl rfl (r_fieldAddr fa55_3 rfl) ?_
          refine WL_step rfl rfl (r_loadAt _a41 agg3 rfl rfl) ?_
          refine WL_step rfl rfl (r_move rfl) ?_
          refine WL_step rfl rfl (r_neq rfl rfl) ?_
          refine WL_nil ?_
          refine thn_nrm (_hK_22 _ _ ?_)
          clear _hK_22
          refine W_cond rfl (fun _h45 => ?_) (fun _h45 => ?_)
          · have _h45 := bf_d (bt_n _h45)
            refine W_seq fun _K_23 _hK_23 => ?_
            refine W_region ?_
            refine WL_step rfl rfl (r_assign rfl) ?_
            refine WL_nil ?_
            refine thn_nrm (_hK_23 _ _ ?_)
            clear _hK_23
            refine W_ret (thn_ret (inB_ret (thn_ret (thn_ret (inB_ret (thn_ret ?_))))))
            clear _hK_2 _hK_7 _hK_21
            exact ret_intro [_] ⟨rfl, trivial⟩ ⟨congrArg (Value.int .i64) (if_neg (fun e => _h45 (by have _e2 := (heldToken_get e _hy41).2.2.2; omega))).symm, E⟩
          · have _h45 := bt_d (bf_n _h45)
            refine W_skip ?_
            refine thn_nrm (_hK_21 _ _ ?_)
            clear _hK_21
            refine W_region ?_
            refine WL_step rfl rfl (r_move rfl) ?_
            refine WL_step rfl rfl (r_add (by omega) rfl rfl) ?_
            refine WL_step rfl rfl (r_assign rfl) ?_
            refine WL_nil ?_
            refine inB_nrm ?_
            refine thn_nrm (_hK_7 _ _ ?_)
            clear _hK_7
            refine W_region ?_
            refine WL_step rfl rfl (r_move rfl) ?_
            refine WL_step rfl rfl (r_add (by omega) rfl rfl) ?_
            refine WL_step rfl rfl (r_assign rfl) ?_
            refine WL_nil ?_
            exact thn_nrm (Exists.intro ((i + 1), ((((kk + 1) + 1) + 1) + 1)) ⟨⟨E, (by omega), (by omega), (by omega), (heldToken_step _ht hq _hy14 _h18 _hy23 _h27 _hy32 _h36 _hy41 _h45)⟩, Sub.cons rfl (Sub.cons rfl (Sub.cons rfl (Sub.nil _))), (by first | omega | (dsimp only; omega))⟩)
  · have _h9 := bf_d _h9
    refine W_exit (thn_exit (thn_exit (inB_hit ?_)))
    refine thn_nrm (_hK_2 _ _ ?_)
    clear _hK_2
    refine W_seq fun _K_24 _hK_24 => ?_
    refine W_region ?_
    refine WL_step rfl rfl (r_move rfl) ?_
    refine WL_step rfl rfl (r_assign rfl) ?_
    refine WL_nil ?_
    refine thn_nrm (_hK_24 _ _ ?_)
    clear _hK_24
    refine W_ret ?_
    clear _hK_5
    exact ret_intro [_] ⟨rfl, trivial⟩ ⟨congrArg (Value.int .i64) (by rw [if_pos (heldToken_all _ht (by omega) (by omega))]; omega), E⟩

/-- laws.heldExpr -/
theorem c_laws_heldExpr {w : World} {_B_a : Nat} {_v_a : Value} {a : List Token} (_h_a : Ls Token.cs 4 w _B_a _v_a a) (k : Int) (hk0 : 0 ≤ k) (hkk : k + 4 * a.length ≤ 4611686018427387904) :
    Ctr Try.prog 21 #[(.agg #[_v_a]), (.int .i64 k)] w (fun v w' => v = .int .i64 (if a = mkToken k a.length then k + 4 * a.length else -1) ∧ Ch [] w w') := by
  obtain ⟨_A_a, _C_a, _e1_a⟩ := _h_a.val
  subst _e1_a
  have _l_a := _h_a.len
  have _h_a := _h_a.here (by decide)
  have E := Ch.refl [] w
  refine Ctr_of_W (N := 12) (vs0 := [(.agg #[(.slice _A_a a.length _C_a)]), (.int .i64 k)]) Try.func21 rfl rfl rfl ?_
  refine W_seq fun _K_1 _hK_1 => ?_
  refine W_region ?_
  refine WL_s rfl rfl ?_
  refine s_box rfl fun _b2 _w_2 _m2 _cw_2 _e2 => ?_
  have _cw_2z := _cw_2.size
  have E := E.trans _cw_2
  have _z2 := _m2.lt
  replace _m2 : Blk _w_2 _b2 28 [(.slice _A_a a.length _C_a)] := _m2
  refine WL_step rfl rfl (r_assign rfl) ?_
  refine WL_nil ?_
  refine thn_nrm (_hK_1 _ _ ?_)
  clear _hK_1
  refine W_seq fun _K_3 _hK_3 => ?_
  refine W_region ?_
  refine WL_step rfl rfl (r_fieldAddr fa28_0 rfl) ?_
  refine WL_step rfl rfl (r_loadAt _m2.at_ agg26 rfl rfl) ?_
  refine WL_step rfl rfl (r_move rfl) ?_
  refine WL_s rfl rfl ?_
  have _f_4 := (_h_a.ch0 _cw_2)
  refine Step.call (r_call (xs := [.tmp 6, .tmp 7]) fk56 rfl) (c_laws_heldTokenS _f_4 _ (by omega) (by first | omega | (simp <;> omega))) fun _v8 _w_5 _q8 => ?_
  obtain ⟨rfl, _cw_5⟩ := _q8
  have _cw_5z := _cw_5.size
  have E := E.trans _cw_5
  refine WL_step rfl rfl (r_assign rfl) ?_
  refine WL_nil ?_
  refine thn_nrm (_hK_3 _ _ ?_)
  clear _hK_3
  refine W_seq fun _K_6 _hK_6 => ?_
  refine W_seq fun _K_7 _hK_7 => ?_
  refine W_region ?_
  refine WL_step rfl rfl (r_move rfl) ?_
  refine WL_step rfl rfl (r_lss rfl rfl) ?_
  refine WL_nil ?_
  refine thn_nrm (_hK_7 _ _ ?_)
  clear _hK_7
  refine W_cond rfl (fun _h10 => ?_) (fun _h10 => ?_)
  · have _h10 := bt_d _h10
    refine W_seq fun _K_8 _hK_8 => ?_
    refine W_region ?_
    refine WL_step rfl rfl (r_assign rfl) ?_
    refine WL_nil ?_
    refine thn_nrm (_hK_8 _ _ ?_)
    clear _hK_8
    refine W_ret (thn_ret ?_)
    clear _hK_6
    exact ret_intro [_] ⟨rfl, trivial⟩ ⟨congrArg (Value.int .i64) (by split <;> (first | rfl | (rename_i hc; rw [if_pos hc] at _h10; omega))), E⟩
  · have _h10 := bf_d _h10
    refine W_skip ?_
    refine thn_nrm (_hK_6 _ _ ?_)
    clear _hK_6
    refine W_seq fun _K_9 _hK_9 => ?_
    refine W_region ?_
    refine WL_step rfl rfl (r_move rfl) ?_
    refine WL_step rfl rfl (r_assign rfl) ?_
    refine WL_nil ?_
    refine thn_nrm (_hK_9 _ _ ?_)
    clear _hK_9
    refine W_ret ?_
    exact ret_intro [_] ⟨rfl, trivial⟩ ⟨congrArg (Value.int .i64) rfl, E⟩

/-- laws.markTokenS -/
theorem c_laws_markTokenS {w : World} {e_a : Nat} {_v_a : Value} {a : List Token} (_h_a : Ol Token.cs e_a 4 w _v_a a) (k : Int) (hk0 : 0 ≤ k) (hkk : k + 4 * a.length ≤ 4611686018427387904) :
    Ctr Try.prog 55 #[_v_a, (.int .i64 k)] w (fun v w' => v = .int .i64 (k + 4 * a.length) ∧ Ol Token.cs e_a 4 w' _v_a (mkToken k a.length) ∧ Ch (bl _v_a) w w') := by
  obtain ⟨_A_a, _C_a, _e1_a⟩ := _h_a.val
  subst _e1_a
  have _l_a := _h_a.len
  have _lt_a := _h_a.lt
  have E := Ch.refl (bl (.slice _A_a a.length _C_a)) w
  refine Ctr_of_W (N := 41) (vs0 := [(.slice _A_a a.length _C_a), (.int .i64 k)]) Try.func55 rfl rfl rfl ?_
  refine W_seq fun _K_1 _hK_1 => ?_
  refine W_region ?_
  refine WL_step rfl rfl (r_assign rfl) ?_
  refine WL_nil ?_
  refine thn_nrm (_hK_1 _ _ ?_)
  clear _hK_1
  refine W_seq fun _K_2 _hK_2 => ?_
  refine W_seq fun _K_3 _hK_3 => ?_
  refine W_region ?_
  refine WL_step rfl rfl (r_assign rfl) ?_
  refine WL_nil ?_
  refine thn_nrm (_hK_3 _ _ ?_)
  clear _hK_3
  refine W_block ?_
  have _oi_4 : Ol Token.cs e_a 4 w (.slice _A_a a.length _C_a) (mkToken k 0 ++ a.drop 0) := by
    have hx := _h_a
    simpa [mkToken] using hx
  refine W_loop (σ := Nat × Int) (fun ⟨i, kk⟩ => [(0, (.slice _A_a a.length _C_a)), (1, (.int .i64 kk)), (4, (.int .i64 0)), (5, (.int .i64 ((i : Nat) : Int)))]) (fun ⟨i, kk⟩ wx => Ch (bl (.slice _A_a a.length _C_a)) w wx ∧ w.heap.size ≤ wx.heap.size ∧ i ≤ a.length ∧ kk = k + 4 * i ∧ Ol Token.cs e_a 4 wx (.slice _A_a a.length _C_a) (mkToken k i ++ a.drop i)) (fun ⟨i, kk⟩ => a.length - i) (0, k) (Sub.cons rfl (Sub.cons rfl (Sub.cons rfl (Sub.cons rfl (Sub.nil _))))) ⟨E, (Nat.le_refl _), (by omega), (by omega), _oi_4⟩ ?_
  rintro ⟨i, kk⟩ _wr_5 ⟨E, _zz0, hi, hq, _o0_0⟩
  have _E0h := E
  have _E0hz := _E0h.size
  refine W_seq fun _K_6 _hK_6 => ?_
  refine W_seq fun _K_7 _hK_7 => ?_
  refine W_region ?_
  refine WL_step rfl rfl (r_move rfl) ?_
  refine WL_step rfl rfl (r_move rfl) ?_
  refine WL_step rfl rfl (r_len (by rw [el26]; rfl) rfl) ?_
  refine WL_step rfl rfl (r_lss rfl rfl) ?_
  refine WL_nil ?_
  refine thn_nrm (_hK_7 _ _ ?_)
  clear _hK_7
  refine W_cond rfl (fun _h9 => ?_) (fun _h9 => ?_)
  · have _h9 := bt_d _h9
    refine W_skip ?_
    refine thn_nrm (_hK_6 _ _ ?_)
    clear _hK_6
    refine W_seq fun _K_8 _hK_8 => ?_
    refine W_block ?_
    refine W_seq fun _K_9 _hK_9 => ?_
    refine W_region ?_
    refine WL_step rfl rfl (r_move rfl) ?_
    refine WL_step rfl rfl (r_move rfl) ?_
    refine WL_step rfl rfl (r_move rfl) ?_
    refine WL_s rfl rfl ?_
    refine s_indexO (j := i) _o0_0 el26 sz55 rfl rfl rfl (by first | omega | (simp [mkToken] <;> omega)) fun _g15 _o15 _cp15 _q15 => ?_
    refine WL_step rfl rfl (r_fieldAddr fa55_0 rfl) ?_
    refine WL_s rfl rfl ?_
    obtain ⟨ye_12, hy_13⟩ := get_some (xs := mkToken k i ++ a.drop i) (j := i) (by first | omega | (simp [mkToken] <;> omega))
    refine s_storeF (j := i) 0 (⟨ye_12.kind, ye_12.letter, ye_12.low, ye_12.high⟩ : Token) (⟨kk, ye_12.letter, ye_12.low, ye_12.high⟩ : Token) _o0_0 _q15 hy_13 Token.len rfl sz3 rfl rfl rfl rfl fun _w_10 _o_11 _cw_10 => ?_
    have _cw_10z := _cw_10.size
    have E := E.trans _cw_10
    refine WL_nil ?_
    refine thn_nrm (_hK_9 _ _ ?_)
    clear _hK_9
    refine W_seq fun _K_14 _hK_14 => ?_
    refine W_region ?_
    refine WL_step rfl rfl (r_move rfl) ?_
    refine WL_step rfl rfl (r_add (by omega) rfl rfl) ?_
    refine WL_step rfl rfl (r_assign rfl) ?_
    refine WL_nil ?_
    refine thn_nrm (_hK_14 _ _ ?_)
    clear _hK_14
    refine W_seq fun _K_15 _hK_15 => ?_
    refine W_region ?_
    refine WL_step rfl rfl (r_move rfl) ?_
    refine WL_step rfl rfl (r_move rfl) ?_
    refine WL_step rfl rfl (r_move rfl) ?_
    refine WL_s rfl rfl ?_
    refine s_indexO (j := i) _o_11 el26 sz55 rfl rfl rfl (by first | omega | (simp [mkToken] <;> omega)) fun _g22 _o22 _cp22 _q22 => ?_
    refine WL_step rfl rfl (r_fieldAddr fa55_1 rfl) ?_
    refine WL_s rfl rfl ?_
    refine s_storeF (j := i) 1 (⟨kk, ye_12.letter, ye_12.low, ye_12.high⟩ : Token) (⟨kk, (kk + 1), ye_12.low, ye_12.high⟩ : Token) _o_11 _q22 (get_set hy_13 _) Token.len rfl sz3 rfl rfl rfl rfl fun _w_16 _o_17 _cw_16 => ?_
    rw [List.set_set] at _o_17
    have _cw_16z := _cw_16.size
    have E := E.trans _cw_16
    refine WL_nil ?_
    refine thn_nrm (_hK_15 _ _ ?_)
    clear _hK_15
    refine W_seq fun _K_18 _hK_18 => ?_
    refine W_region ?_
    refine WL_step rfl rfl (r_move rfl) ?_
    refine WL_step rfl rfl (r_add (by omega) rfl rfl) ?_
    refine WL_step rfl rfl (r_assign rfl) ?_
    refine WL_nil ?_
    refine thn_nrm (_hK_18 _ _ ?_)
    clear _hK_18
    refine W_seq fun _K_19 _hK_19 => ?_
    refine W_region ?_
    refine WL_step rfl rfl (r_move rfl) ?_
    refine WL_step rfl rfl (r_move rfl) ?_
    refine WL_step rfl rfl (r_move rfl) ?_
    refine WL_s rfl rfl ?_
    refine s_indexO (j := i) _o_17 el26 sz55 rfl rfl rfl (by first | omega | (simp [mkToken] <;> omega)) fun _g29 _o29 _cp29 _q29 => ?_
    refine WL_step rfl rfl (r_fieldAddr fa55_2 rfl) ?_
    refine WL_s rfl rfl ?_
    refine s_storeF (j := i) 2 (⟨kk, (kk + 1), ye_12.low, ye_12.high⟩ : Token) (⟨kk, (kk + 1), ((kk + 1) + 1), ye_12.high⟩ : Token) _o_17 _q29 (get_set hy_13 _) Token.len rfl sz3 rfl rfl rfl rfl fun _w_20 _o_21 _cw_20 => ?_
    rw [List.set_set] at _o_21
    have _cw_20z := _cw_20.size
    have E := E.trans _cw_20
    refine WL_nil ?_
    refine thn_nrm (_hK_19 _ _ ?_)
    clear _hK_19
    refine W_seq fun _K_22 _hK_22 => ?_
    refine W_region ?_
    refine WL_step rfl rfl (r_move rfl) ?_
    refine WL_step rfl rfl (r_add (by omega) rfl rfl) ?_
    refine WL_step rfl rfl (r_assign rfl) ?_
    refine WL_nil ?_
    refine thn_nrm (_hK_22 _ _ ?_)
    clear _hK_22
    refine W_seq fun _K_23 _hK_23 => ?_
    refine W_region ?_
    refine WL_step rfl rfl (r_move rfl) ?_
    refine WL_step rfl rfl (r_move rfl) ?_
    refine WL_step rfl rfl (r_move rfl) ?_
    refine WL_s rfl rfl ?_
    refine s_indexO (j := i) _o_21 el26 sz55 rfl rfl rfl (by first | omega | (simp [mkToken] <;> omega)) fun _g36 _o36 _cp36 _q36 => ?_
    refine WL_step rfl rfl (r_fieldAddr fa55_3 rfl) ?_
    refine WL_s rfl rfl ?_
    refine s_storeF (j := i) 3 (⟨kk, (kk + 1), ((kk + 1) + 1), ye_12.high⟩ : Token) (⟨kk, (kk + 1), ((kk + 1) + 1), (((kk + 1) + 1) + 1)⟩ : Token) _o_21 _q36 (get_set hy_13 _) Token.len rfl sz3 rfl rfl rfl rfl fun _w_24 _o_25 _cw_24 => ?_
    rw [List.set_set] at _o_25
    have _cw_24z := _cw_24.size
    have E := E.trans _cw_24
    refine WL_nil ?_
    refine thn_nrm (_hK_23 _ _ ?_)
    clear _hK_23
    refine W_region ?_
    refine WL_step rfl rfl (r_move rfl) ?_
    refine WL_step rfl rfl (r_add (by omega) rfl rfl) ?_
    refine WL_step rfl rfl (r_assign rfl) ?_
    refine WL_nil ?_
    refine inB_nrm ?_
    refine thn_nrm (_hK_8 _ _ ?_)
    clear _hK_8
    refine W_region ?_
    refine WL_step rfl rfl (r_move rfl) ?_
    refine WL_step rfl rfl (r_add (by omega) rfl rfl) ?_
    refine WL_step rfl rfl (r_assign rfl) ?_
    refine WL_nil ?_
    have _on_26 : Ol Token.cs e_a 4 _w_24 (.slice _A_a a.length _C_a) (mkToken k (i + 1) ++ a.drop (i + 1)) := by
      have hx := _o_25
      rwa [mkToken_step a (by omega) hq] at hx
    exact thn_nrm (Exists.intro ((i + 1), ((((kk + 1) + 1) + 1) + 1)) ⟨⟨E, (by omega), (by omega), (by omega), _on_26⟩, Sub.cons rfl (Sub.cons rfl (Sub.cons rfl (Sub.cons rfl (Sub.nil _)))), (by first | omega | (dsimp only; omega))⟩)
  · have _h9 := bf_d _h9
    refine W_exit (thn_exit (thn_exit (inB_hit ?_)))
    refine thn_nrm (_hK_2 _ _ ?_)
    clear _hK_2
    refine W_seq fun _K_27 _hK_27 => ?_
    refine W_region ?_
    refine WL_step rfl rfl (r_move rfl) ?_
    refine WL_step rfl rfl (r_assign rfl) ?_
    refine WL_nil ?_
    refine thn_nrm (_hK_27 _ _ ?_)
    clear _hK_27
    refine W_ret ?_
    clear _hK_6
    have _o_28 : Ol Token.cs e_a 4 _wr_5 (.slice _A_a a.length _C_a) (mkToken k a.length) := by
      have hx := _o0_0
      have _e1 : i = a.length := (by omega); subst _e1; simpa using hx
    exact ret_intro [_] ⟨rfl, trivial⟩ ⟨congrArg (Value.int .i64) (by omega), _o_28, E⟩

/-- laws.markExpr -/
theorem c_laws_markExpr {w : World} {e_a : Nat} {_v_a : Value} {a : List Token} (_h_a : Ol Token.cs e_a 4 w _v_a a) (k : Int) (hk0 : 0 ≤ k) (hkk : k + 4 * a.length ≤ 4611686018427387904) :
    Ctr Try.prog 20 #[(.agg #[_v_a]), (.int .i64 k)] w (fun v w' => v = .int .i64 (k + 4 * a.length) ∧ Ol Token.cs e_a 4 w' _v_a (mkToken k a.length) ∧ Ch (bl _v_a) w w') := by
  obtain ⟨_A_a, _C_a, _e1_a⟩ := _h_a.val
  subst _e1_a
  have _l_a := _h_a.len
  have _lt_a := _h_a.lt
  have E := Ch.refl (bl (.slice _A_a a.length _C_a)) w
  refine Ctr_of_W (N := 10) (vs0 := [(.agg #[(.slice _A_a a.length _C_a)]), (.int .i64 k)]) Try.func20 rfl rfl rfl ?_
  refine W_seq fun _K_1 _hK_1 => ?_
  refine W_region ?_
  refine WL_s rfl rfl ?_
  refine s_box rfl fun _b2 _w_2 _m2 _cw_2 _e2 => ?_
  have _cw_2z := _cw_2.size
  have E := E.trans _cw_2.of_nil
  have _z2 := _m2.lt
  replace _m2 : Blk _w_2 _b2 28 [(.slice _A_a a.length _C_a)] := _m2
  refine WL_step rfl rfl (r_assign rfl) ?_
  refine WL_nil ?_
  refine thn_nrm (_hK_1 _ _ ?_)
  clear _hK_1
  refine W_seq fun _K_3 _hK_3 => ?_
  refine W_region ?_
  refine WL_step rfl rfl (r_fieldAddr fa28_0 rfl) ?_
  refine WL_step rfl rfl (r_loadAt _m2.at_ agg26 rfl rfl) ?_
  refine WL_step rfl rfl (r_move rfl) ?_
  refine WL_s rfl rfl ?_
  have _f_4 := (_h_a.ch0 _cw_2)
  refine Step.call (r_call (xs := [.tmp 6, .tmp 7]) fk55 rfl) (c_laws_markTokenS _f_4 _ (by omega) (by first | omega | (simp <;> omega))) fun _v8 _w_5 _q8 => ?_
  obtain ⟨rfl, _q8, _cw_5⟩ := _q8
  have _cw_5z := _cw_5.size
  have E := E.trans _cw_5
  refine WL_step rfl rfl (r_assign rfl) ?_
  refine WL_nil ?_
  refine thn_nrm (_hK_3 _ _ ?_)
  clear _hK_3
  refine W_seq fun _K_6 _hK_6 => ?_
  refine W_region ?_
  refine WL_step rfl rfl (r_move rfl) ?_
  refine WL_step rfl rfl (r_assign rfl) ?_
  refine WL_nil ?_
  refine thn_nrm (_hK_6 _ _ ?_)
  clear _hK_6
  refine W_ret ?_
  have _o_7 : Ol Token.cs e_a 4 _w_5 (.slice _A_a a.length _C_a) (mkToken k a.length) := by
    have hx := _q8
    first | exact hx | simpa using hx
  exact ret_intro [_] ⟨rfl, trivial⟩ ⟨congrArg (Value.int .i64) rfl, _o_7, E⟩

/-- laws.szTokenS -/
theorem c_laws_szTokenS {w : World} {_B_a : Nat} {_v_a : Value} {a : List Token} (_h_a : Ls Token.cs 4 w _B_a _v_a a) (left : Int) (hl : left ≤ 1048576) (_h0 : 0 ≤ left) :
    Ctr Try.prog 47 #[_v_a, (.int .i64 left)] w (fun v w' => v = .int .i64 (if left < a.length then -1 else left - a.length) ∧ Ch [] w w') := by
  obtain ⟨_A_a, _C_a, _e1_a⟩ := _h_a.val
  subst _e1_a
  have _l_a := _h_a.len
  have _h_a := _h_a.here (by decide)
  have E := Ch.refl [] w
  refine Ctr_of_W (N := 12) (vs0 := [(.slice _A_a a.length _C_a), (.int .i64 left)]) Try.func47 rfl rfl rfl ?_
  refine W_seq fun _K_1 _hK_1 => ?_
  refine W_region ?_
  refine WL_step rfl rfl (r_assign rfl) ?_
  refine WL_nil ?_
  refine thn_nrm (_hK_1 _ _ ?_)
  clear _hK_1
  refine W_seq fun _K_2 _hK_2 => ?_
  refine W_region ?_
  refine WL_step rfl rfl (r_move rfl) ?_
  refine WL_step rfl rfl (r_move rfl) ?_
  refine WL_step rfl rfl (r_len (by rw [el22]; rfl) rfl) ?_
  refine WL_step rfl rfl (r_sub (by omega) rfl rfl) ?_
  refine WL_step rfl rfl (r_assign rfl) ?_
  refine WL_nil ?_
  refine thn_nrm (_hK_2 _ _ ?_)
  clear _hK_2
  refine W_seq fun _K_3 _hK_3 => ?_
  refine W_seq fun _K_4 _hK_4 => ?_
  refine W_region ?_
  refine WL_step rfl rfl (r_move rfl) ?_
  refine WL_step rfl rfl (r_lss rfl rfl) ?_
  refine WL_nil ?_
  refine thn_nrm (_hK_4 _ _ ?_)
  clear _hK_4
  refine W_cond rfl (fun _h10 => ?_) (fun _h10 => ?_)
  · have _h10 := bt_d _h10
    refine W_seq fun _K_5 _hK_5 => ?_
    refine W_region ?_
    refine WL_step rfl rfl (r_assign rfl) ?_
    refine WL_nil ?_
    refine thn_nrm (_hK_5 _ _ ?_)
    clear _hK_5
    refine W_ret (thn_ret ?_)
    clear _hK_3
    exact ret_intro [_] ⟨rfl, trivial⟩ ⟨congrArg (Value.int .i64) (if_pos (by omega)).symm, E⟩
  · have _h10 := bf_d _h10
    refine W_skip ?_
    refine thn_nrm (_hK_3 _ _ ?_)
    clear _hK_3
    refine W_seq fun _K_6 _hK_6 => ?_
    refine W_region ?_
    refine WL_step rfl rfl (r_move rfl) ?_
    refine WL_step rfl rfl (r_assign rfl) ?_
    refine WL_nil ?_
    refine thn_nrm (_hK_6 _ _ ?_)
    clear _hK_6
    refine W_ret ?_
    exact ret_intro [_] ⟨rfl, trivial⟩ ⟨congrArg (Value.int .i64) (if_neg (by omega)).symm, E⟩

/-- laws.szExpr -/
theorem c_laws_szExpr {w : World} {_B_a : Nat} {_v_a : Value} {a : List Token} (_h_a : Ls Token.cs 4 w _B_a _v_a a) (left : Int) (hl : left ≤ 1048576) (_h0 : 0 ≤ left) :
    Ctr Try.prog 15 #[(.agg #[_v_a]), (.int .i64 left)] w (fun v w' => v = .int .i64 (if left < a.length then -1 else left - a.length) ∧ Ch [] w w') := by
  obtain ⟨_A_a, _C_a, _e1_a⟩ := _h_a.val
  subst _e1_a
  have _l_a := _h_a.len
  have _h_a := _h_a.here (by decide)
  have E := Ch.refl [] w
  refine Ctr_of_W (N := 12) (vs0 := [(.agg #[(.slice _A_a a.length _C_a)]), (.int .i64 left)]) Try.func15 rfl rfl rfl ?_
  refine W_seq fun _K_1 _hK_1 => ?_
  refine W_region ?_
  refine WL_s rfl rfl ?_
  refine s_box rfl fun _b2 _w_2 _m2 _cw_2 _e2 => ?_
  have _cw_2z := _cw_2.size
  have E := E.trans _cw_2
  have _z2 := _m2.lt
  replace _m2 : Blk _w_2 _b2 24 [(.slice _A_a a.length _C_a)] := _m2
  refine WL_step rfl rfl (r_assign rfl) ?_
  refine WL_nil ?_
  refine thn_nrm (_hK_1 _ _ ?_)
  clear _hK_1
  refine W_seq fun _K_3 _hK_3 => ?_
  refine W_region ?_
  refine WL_step rfl rfl (r_fieldAddr fa24_0 rfl) ?_
  refine WL_step rfl rfl (r_loadAt _m2.at_ agg22 rfl rfl) ?_
  refine WL_step rfl rfl (r_move rfl) ?_
  refine WL_s rfl rfl ?_
  have _f_4 := (_h_a.ch0 _cw_2)
  refine Step.call (r_call (xs := [.tmp 6, .tmp 7]) fk47 rfl) (c_laws_szTokenS _f_4 _ (by omega) (by omega)) fun _v8 _w_5 _q8 => ?_
  obtain ⟨rfl, _cw_5⟩ := _q8
  have _cw_5z := _cw_5.size
  have E := E.trans _cw_5
  refine WL_step rfl rfl (r_assign rfl) ?_
  refine WL_nil ?_
  refine thn_nrm (_hK_3 _ _ ?_)
  clear _hK_3
  refine W_seq fun _K_6 _hK_6 => ?_
  refine W_seq fun _K_7 _hK_7 => ?_
  refine W_region ?_
  refine WL_step rfl rfl (r_move rfl) ?_
  refine WL_step rfl rfl (r_lss rfl rfl) ?_
  refine WL_nil ?_
  refine thn_nrm (_hK_7 _ _ ?_)
  clear _hK_7
  refine W_cond rfl (fun _h10 => ?_) (fun _h10 => ?_)
  · have _h10 := bt_d _h10
    refine W_seq fun _K_8 _hK_8 => ?_
    refine W_region ?_
    refine WL_step rfl rfl (r_assign rfl) ?_
    refine WL_nil ?_
    refine thn_nrm (_hK_8 _ _ ?_)
    clear _hK_8
    refine W_ret (thn_ret ?_)
    clear _hK_6
    exact ret_intro [_] ⟨rfl, trivial⟩ ⟨congrArg (Value.int .i64) (by split <;> omega), E⟩
  · have _h10 := bf_d _h10
    refine W_skip ?_
    refine thn_nrm (_hK_6 _ _ ?_)
    clear _hK_6
    refine W_seq fun _K_9 _hK_9 => ?_
    refine W_region ?_
    refine WL_step rfl rfl (r_move rfl) ?_
    refine WL_step rfl rfl (r_assign rfl) ?_
    refine WL_nil ?_
    refine thn_nrm (_hK_9 _ _ ?_)
    clear _hK_9
    refine W_ret ?_
    exact ret_intro [_] ⟨rfl, trivial⟩ ⟨congrArg (Value.int .i64) (by split <;> omega), E⟩

/-- laws.toToken -/
theorem c_laws_toToken {w : World} (a : Token) :
    Ctr Try.prog 78 #[(.agg #[(.int .i64 a.kind), (.int .i64 a.letter), (.int .i64 a.low), (.int .i64 a.high)])] w (fun v w' => v = .agg (Token.cs (a)).toArray ∧ Ch [] w w') := by
  have E := Ch.refl [] w
  refine Ctr_of_W (N := 17) (vs0 := [(.agg #[(.int .i64 a.kind), (.int .i64 a.letter), (.int .i64 a.low), (.int .i64 a.high)])]) Try.func78 rfl rfl rfl ?_
  refine W_seq fun _K_1 _hK_1 => ?_
  refine W_region ?_
  refine WL_s rfl rfl ?_
  refine s_box rfl fun _b1 _w_2 _m1 _cw_2 _e1 => ?_
  have _cw_2z := _cw_2.size
  have E := E.trans _cw_2
  have _z1 := _m1.lt
  replace _m1 : Blk _w_2 _b1 78 [(.int .i64 a.kind), (.int .i64 a.letter), (.int .i64 a.low), (.int .i64 a.high)] := _m1
  refine WL_s rfl rfl ?_
  refine s_alloc zr55 fun _b2 _w_3 _m2 _cw_3 _e2 => ?_
  have _cw_3z := _cw_3.size
  have E := E.trans _cw_3
  have _z2 := _m2.lt
  replace _m2 : Blk _w_3 _b2 55 [(.int .i64 0), (.int .i64 0), (.int .i64 0), (.int .i64 0)] := _m2
  refine WL_nil ?_
  refine thn_nrm (_hK_1 _ _ ?_)
  clear _hK_1
  refine W_seq fun _K_4 _hK_4 => ?_
  refine W_region ?_
  refine WL_s rfl rfl ?_
  refine s_alloc zr55 fun _b3 _w_5 _m3 _cw_5 _e3 => ?_
  have _cw_5z := _cw_5.size
  have E := E.trans _cw_5
  have _z3 := _m3.lt
  replace _m3 : Blk _w_5 _b3 55 [(.int .i64 0), (.int .i64 0), (.int .i64 0), (.int .i64 0)] := _m3
  refine WL_nil ?_
  refine thn_nrm (_hK_4 _ _ ?_)
  clear _hK_4
  refine W_seq fun _K_6 _hK_6 => ?_
  refine W_region ?_
  refine WL_step rfl rfl (r_fieldAddr fa78_0 rfl) ?_
  have _f_7 := ((_m1.ch0 _cw_3).ch0 _cw_5)
  refine WL_step rfl rfl (r_loadAt _f_7.at_ agg3 rfl rfl) ?_
  refine WL_step rfl rfl (r_fieldAddr fa55_0 rfl) ?_
  refine WL_s rfl rfl ?_
  refine s_store1 (off := 0) _m3 sz3 rfl rfl rfl rfl fun _w_8 _m_9 _cw_8 => ?_
  have _cw_8z := _cw_8.size
  have E := E.step _cw_8 (fun i hi => .inl (by have _h1 := List.mem_singleton.1 hi; omega))
  replace _m_9 : Blk _w_8 _b3 55 [(.int .i64 a.kind), (.int .i64 0), (.int .i64 0), (.int .i64 0)] := _m_9
  refine WL_nil ?_
  refine thn_nrm (_hK_6 _ _ ?_)
  clear _hK_6
  refine W_seq fun _K_10 _hK_10 => ?_
  refine W_region ?_
  refine WL_step rfl rfl (r_fieldAddr fa78_1 rfl) ?_
  have _f_11 := (_f_7.ch _cw_8 (fun hm => by have _h1 := List.mem_singleton.1 hm; omega))
  refine WL_step rfl rfl (r_loadAt _f_11.at_ agg3 rfl rfl) ?_
  refine WL_step rfl rfl (r_fieldAddr fa55_1 rfl) ?_
  refine WL_s rfl rfl ?_
  refine s_store1 (off := 1) _m_9 sz3 rfl rfl rfl rfl fun _w_12 _m_13 _cw_12 => ?_
  have _cw_12z := _cw_12.size
  have E := E.step _cw_12 (fun i hi => .inl (by have _h1 := List.mem_singleton.1 hi; omega))
  replace _m_13 : Blk _w_12 _b3 55 [(.int .i64 a.kind), (.int .i64 a.letter), (.int .i64 0), (.int .i64 0)] := _m_13
  refine WL_nil ?_
  refine thn_nrm (_hK_10 _ _ ?_)
  clear _hK_10
  refine W_seq fun _K_14 _hK_14 => ?_
  refine W_region ?_
  refine WL_step rfl rfl (r_fieldAddr fa78_2 rfl) ?_
  have _f_15 := (_f_11.ch _cw_12 (fun hm => by have _h1 := List.mem_singleton.1 hm; omega))
  refine WL_step rfl rfl (r_loadAt _f_15.at_ agg3 rfl rfl) ?_
  refine WL_step rfl rfl (r_fieldAddr fa55_2 rfl) ?_
  refine WL_s rfl rfl ?_
  refine s_store1 (off := 2) _m_13 sz3 rfl rfl rfl rfl fun _w_16 _m_17 _cw_16 => ?_
  have _cw_16z := _cw_16.size
  have E := E.step _cw_16 (fun i hi => .inl (by have _h1 := List.mem_singleton.1 hi; omega))
  replace _m_17 : Blk _w_16 _b3 55 [(.int .i64 a.kind), (.int .i64 a.letter), (.int .i64 a.low), (.int .i64 0)] := _m_17
  refine WL_nil ?_
  refine thn_nrm (_hK_14 _ _ ?_)
  clear _hK_14
  refine W_seq fun _K_18 _hK_18 => ?_
  refine W_region ?_
  refine WL_step rfl rfl (r_fieldAddr fa78_3 rfl) ?_
  have _f_19 := (_f_15.ch _cw_16 (fun hm => by have _h1 := List.mem_singleton.1 hm; omega))
  refine WL_step rfl rfl (r_loadAt _f_19.at_ agg3 rfl rfl) ?_
  refine WL_step rfl rfl (r_fieldAddr fa55_3 rfl) ?_
  refine WL_s rfl rfl ?_
  refine s_store1 (off := 3) _m_17 sz3 rfl rfl rfl rfl fun _w_20 _m_21 _cw_20 => ?_
  have _cw_20z := _cw_20.size
  have E := E.step _cw_20 (fun i hi => .inl (by have _h1 := List.mem_singleton.1 hi; omega))
  replace _m_21 : Blk _w_20 _b3 55 [(.int .i64 a.kind), (.int .i64 a.letter), (.int .i64 a.low), (.int .i64 a.high)] := _m_21
  refine WL_nil ?_
  refine thn_nrm (_hK_18 _ _ ?_)
  clear _hK_18
  refine W_seq fun _K_22 _hK_22 => ?_
  refine W_region ?_
  refine WL_step rfl rfl (r_loadAtA0 _m_21.at_ agg55 sz55 rfl) ?_
  refine WL_s rfl rfl ?_
  have _f_23 := (((((_m2.ch0 _cw_5).ch _cw_8 (fun hm => by have _h1 := List.mem_singleton.1 hm; omega)).ch _cw_12 (fun hm => by have _h1 := List.mem_singleton.1 hm; omega)).ch _cw_16 (fun hm => by have _h1 := List.mem_singleton.1 hm; omega)).ch _cw_20 (fun hm => by have _h1 := List.mem_singleton.1 hm; omega))
  refine s_storeA (off := 0) 4 _f_23 sz55 rfl (us := [(.int .i64 a.kind), (.int .i64 a.letter), (.int .i64 a.low), (.int .i64 a.high)]) rfl rfl rfl rfl fun _w_24 _m_25 _cw_24 => ?_
  have _cw_24z := _cw_24.size
  have E := E.step _cw_24 (fun i hi => .inl (by have _h1 := List.mem_singleton.1 hi; omega))
  replace _m_25 : Blk _w_24 _b2 55 [(.int .i64 a.kind), (.int .i64 a.letter), (.int .i64 a.low), (.int .i64 a.high)] := _m_25
  refine WL_nil ?_
  refine thn_nrm (_hK_22 _ _ ?_)
  clear _hK_22
  refine W_ret ?_
  exact ret_intro [_] (resOf_loadA _m_25 rfl agg55 sz55 trivial) ⟨by simp [packed, Token.cs], E⟩

/-- laws.toTokenS -/
theorem c_laws_toTokenS {w : World} {_B_a : Nat} {_v_a : Value} {a : List Token} (_h_a : Ls Token.cs 4 w _B_a _v_a a) (hb : a.length ≤ 1048576) :
    Ctr Try.prog 50 #[_v_a] w (fun v w' => Ol Token.cs 55 4 w' v (a) ∧ Lo w.heap.size v ∧ Ch [] w w') := by
  obtain ⟨_A_a, _C_a, _e1_a⟩ := _h_a.val
  subst _e1_a
  have _l_a := _h_a.len
  have _h_a := _h_a.here (by decide)
  have E := Ch.refl [] w
  refine Ctr_of_W (N := 23) (vs0 := [(.slice _A_a a.length _C_a)]) Try.func50 rfl rfl rfl ?_
  refine W_seq fun _K_1 _hK_1 => ?_
  refine W_region ?_
  refine WL_step rfl rfl (r_assign rfl) ?_
  refine WL_nil ?_
  refine thn_nrm (_hK_1 _ _ ?_)
  clear _hK_1
  refine W_seq fun _K_2 _hK_2 => ?_
  refine W_region ?_
  refine WL_step rfl rfl (r_move rfl) ?_
  refine WL_step rfl rfl (r_len (by rw [el22]; rfl) rfl) ?_
  refine WL_s rfl rfl ?_
  refine s_make (cs := Token.cs) (⟨0, 0, 0, 0⟩ : Token) el26 sz55 by55 zr55 Token.len (by decide) rfl rfl (by omega) (by omega) fun _v7 _w_3 _q7 _lo7 _cw_3 => ?_
  have _cw_3z := _cw_3.size
  have E := E.trans _cw_3
  obtain ⟨_Av7, _Cv7, _ev7⟩ := _q7.val
  subst _ev7
  have _lv7 := _q7.len
  have _hiv7 := _q7.lt
  refine WL_step rfl rfl (r_assign rfl) ?_
  refine WL_nil ?_
  refine thn_nrm (_hK_2 _ _ ?_)
  clear _hK_2
  refine W_seq fun _K_4 _hK_4 => ?_
  refine W_seq fun _K_5 _hK_5 => ?_
  refine W_region ?_
  refine WL_step rfl rfl (r_assign rfl) ?_
  refine WL_nil ?_
  refine thn_nrm (_hK_5 _ _ ?_)
  clear _hK_5
  refine W_block ?_
  have _oi_6 : Ol Token.cs 55 4 _w_3 (.slice _Av7 ((List.replicate a.length (⟨0, 0, 0, 0⟩ : Token))).length _Cv7) (a.take 0 ++ List.replicate (a.length - 0) (⟨0, 0, 0, 0⟩ : Token)) := by
    have hx := _q7
    simpa using hx
  refine W_loop (σ := Nat) (fun (k : Nat) => [(0, (.slice _A_a a.length _C_a)), (2, (.slice none 0 0)), (3, (.slice _Av7 ((List.replicate a.length (⟨0, 0, 0, 0⟩ : Token))).length _Cv7)), (4, (.int .i64 ((k : Nat) : Int))), (5, (.slice _A_a a.length _C_a)), (6, (.int .i64 ((a.length : Nat) : Int))), (7, (.slice _Av7 ((List.replicate a.length (⟨0, 0, 0, 0⟩ : Token))).length _Cv7))]) (fun (k : Nat) wx => Ch [] w wx ∧ _w_3.heap.size ≤ wx.heap.size ∧ k ≤ a.length ∧ Ol Token.cs 55 4 wx (.slice _Av7 ((List.replicate a.length (⟨0, 0, 0, 0⟩ : Token))).length _Cv7) (a.take k ++ List.replicate (a.length - k) (⟨0, 0, 0, 0⟩ : Token))) (fun (k : Nat) => a.length - k) 0 (Sub.cons rfl (Sub.cons rfl (Sub.cons rfl (Sub.cons rfl (Sub.cons rfl (Sub.cons rfl (Sub.cons rfl (Sub.nil _)))))))) ⟨E, (Nat.le_refl _), (by omega), _oi_6⟩ ?_
  rintro k _wr_7 ⟨E, _zz0, _hk, _o0_3⟩
  have _E0h := E
  have _E0hz := _E0h.size
  refine W_seq fun _K_8 _hK_8 => ?_
  refine W_seq fun _K_9 _hK_9 => ?_
  refine W_region ?_
  refine WL_step rfl rfl (r_move rfl) ?_
  refine WL_step rfl rfl (r_move rfl) ?_
  refine WL_step rfl rfl (r_len (by rw [el22]; rfl) rfl) ?_
  refine WL_step rfl rfl (r_lss rfl rfl) ?_
  refine WL_nil ?_
  refine thn_nrm (_hK_9 _ _ ?_)
  clear _hK_9
  refine W_cond rfl (fun _h11 => ?_) (fun _h11 => ?_)
  · have _h11 := bt_d _h11
    refine W_skip ?_
    refine thn_nrm (_hK_8 _ _ ?_)
    clear _hK_8
    refine W_seq fun _K_10 _hK_10 => ?_
    refine W_block ?_
    refine W_region ?_
    refine WL_step rfl rfl (r_move rfl) ?_
    refine WL_step rfl rfl (r_move rfl) ?_
    refine WL_step rfl rfl (r_move rfl) ?_
    refine WL_step rfl rfl (r_move rfl) ?_
    refine WL_s rfl rfl ?_
    have _f_11 := (_h_a.ch0 _E0h)
    refine (s_index _f_11 Token.len el22 sz78 rfl rfl rfl (by omega) fun _p18 _y18 _hy18 _a18 => ?_)
    refine WL_step rfl rfl (r_loadAtA0 _a18 agg78 sz78 rfl) ?_
    refine WL_s rfl rfl ?_
    refine Step.call (r_call (xs := [.tmp 19]) fk78 rfl) (c_laws_toToken _y18 ) fun _v20 _w_12 _q20 => ?_
    obtain ⟨rfl, _cw_12⟩ := _q20
    have _cw_12z := _cw_12.size
    have E := E.trans _cw_12
    refine WL_s rfl rfl ?_
    have _f_13 := (_o0_3.ch0 _cw_12)
    refine s_indexO (j := k) _f_13 el26 sz55 rfl rfl rfl (by simp; omega) fun _g21 _o21 _cp21 _q21 => ?_
    refine WL_s rfl rfl ?_
    refine s_storeO (j := k) _y18 _f_13 _q21 Token.len sz55 rfl rfl rfl rfl (by simp; omega) fun _w_14 _o_15 _cw_14 => ?_
    have _cw_14z := _cw_14.size
    have E := E.step _cw_14 (fun i hi => .inl (by have _h1 := _lo7 _ hi; omega))
    refine WL_nil ?_
    refine inB_nrm ?_
    refine thn_nrm (_hK_10 _ _ ?_)
    clear _hK_10
    refine W_region ?_
    refine WL_step rfl rfl (r_move rfl) ?_
    refine WL_step rfl rfl (r_add (by omega) rfl rfl) ?_
    refine WL_step rfl rfl (r_assign rfl) ?_
    refine WL_nil ?_
    have _on_16 : Ol Token.cs 55 4 _w_14 (.slice _Av7 ((List.replicate a.length (⟨0, 0, 0, 0⟩ : Token))).length _Cv7) (a.take (k + 1) ++ List.replicate (a.length - (k + 1)) (⟨0, 0, 0, 0⟩ : Token)) := by
      have hx := _o_15
      rwa [fill_step a (⟨0, 0, 0, 0⟩ : Token) _hy18] at hx
    exact thn_nrm (Exists.intro (k + 1) ⟨⟨E, (by omega), (by omega), _on_16⟩, Sub.cons rfl (Sub.cons rfl (Sub.cons rfl (Sub.cons rfl (Sub.cons rfl (Sub.cons rfl (Sub.cons rfl (Sub.nil _))))))), (by first | omega | (dsimp only; omega))⟩)
  · have _h11 := bf_d _h11
    refine W_exit (thn_exit (thn_exit (inB_hit ?_)))
    refine thn_nrm (_hK_4 _ _ ?_)
    clear _hK_4
    refine W_seq fun _K_17 _hK_17 => ?_
    refine W_region ?_
    refine WL_step rfl rfl (r_move rfl) ?_
    refine WL_step rfl rfl (r_assign rfl) ?_
    refine WL_nil ?_
    refine thn_nrm (_hK_17 _ _ ?_)
    clear _hK_17
    refine W_ret ?_
    clear _hK_8
    have _o_18 : Ol Token.cs 55 4 _wr_7 (.slice _Av7 ((List.replicate a.length (⟨0, 0, 0, 0⟩ : Token))).length _Cv7) (a) := by
      have hx := _o0_3
      simpa [List.take_of_length_le (show a.length ≤ k by omega), show a.length - k = 0 by omega] using hx
    exact ret_intro [_] ⟨rfl, trivial⟩ ⟨_o_18, Lo.down _lo7 (by omega), E⟩

/-- laws.toExpr -/
theorem c_laws_toExpr {w : World} {_B_a : Nat} {_v_a : Value} {a : List Token} (_h_a : Ls Token.cs 4 w _B_a _v_a a) (hb : a.length ≤ 1048576) :
    Ctr Try.prog 17 #[(.agg #[_v_a])] w (fun v w' => ∃ u, v = .agg #[u] ∧ Ol Token.cs 55 4 w' u (a) ∧ Lo w.heap.size u ∧ Ch [] w w') := by
  obtain ⟨_A_a, _C_a, _e1_a⟩ := _h_a.val
  subst _e1_a
  have _l_a := _h_a.len
  have _h_a := _h_a.here (by decide)
  have E := Ch.refl [] w
  refine Ctr_of_W (N := 9) (vs0 := [(.agg #[(.slice _A_a a.length _C_a)])]) Try.func17 rfl rfl rfl ?_
  refine W_seq fun _K_1 _hK_1 => ?_
  refine W_region ?_
  refine WL_s rfl rfl ?_
  refine s_box rfl fun _b1 _w_2 _m1 _cw_2 _e1 => ?_
  have _cw_2z := _cw_2.size
  have E := E.trans _cw_2
  have _z1 := _m1.lt
  replace _m1 : Blk _w_2 _b1 24 [(.slice _A_a a.length _C_a)] := _m1
  refine WL_s rfl rfl ?_
  refine s_alloc zr28 fun _b2 _w_3 _m2 _cw_3 _e2 => ?_
  have _cw_3z := _cw_3.size
  have E := E.trans _cw_3
  have _z2 := _m2.lt
  replace _m2 : Blk _w_3 _b2 28 [(.slice none 0 0)] := _m2
  refine WL_nil ?_
  refine thn_nrm (_hK_1 _ _ ?_)
  clear _hK_1
  refine W_seq fun _K_4 _hK_4 => ?_
  refine W_region ?_
  refine WL_s rfl rfl ?_
  refine s_alloc zr28 fun _b3 _w_5 _m3 _cw_5 _e3 => ?_
  have _cw_5z := _cw_5.size
  have E := E.trans _cw_5
  have _z3 := _m3.lt
  replace _m3 : Blk _w_5 _b3 28 [(.slice none 0 0)] := _m3
  refine WL_nil ?_
  refine thn_nrm (_hK_4 _ _ ?_)
  clear _hK_4
  refine W_seq fun _K_6 _hK_6 => ?_
  refine W_region ?_
  refine WL_step rfl rfl (r_fieldAddr fa24_0 rfl) ?_
  have _f_7 := ((_m1.ch0 _cw_3).ch0 _cw_5)
  refine WL_step rfl rfl (r_loadAt _f_7.at_ agg22 rfl rfl) ?_
  refine WL_s rfl rfl ?_
  have _f_8 := (((_h_a.ch0 _cw_2).ch0 _cw_3).ch0 _cw_5)
  refine Step.call (r_call (xs := [.tmp 5]) fk50 rfl) (c_laws_toTokenS _f_8 (by omega)) fun _v6 _w_9 _q6 => ?_
  obtain ⟨_q6, _lo6, _cw_9⟩ := _q6
  have _cw_9z := _cw_9.size
  have E := E.trans _cw_9
  obtain ⟨_Av6, _Cv6, _ev6⟩ := _q6.val
  subst _ev6
  have _lv6 := _q6.len
  have _hiv6 := _q6.lt
  refine WL_step rfl rfl (r_fieldAddr fa28_0 rfl) ?_
  refine WL_s rfl rfl ?_
  have _f_10 := (_m3.ch0 _cw_9)
  refine s_store1 (off := 0) _f_10 sz26 rfl rfl rfl rfl fun _w_11 _m_12 _cw_11 => ?_
  have _cw_11z := _cw_11.size
  have E := E.step _cw_11 (fun i hi => .inl (by have _h1 := List.mem_singleton.1 hi; omega))
  replace _m_12 : Blk _w_11 _b3 28 [(.slice _Av6 (a).length _Cv6)] := _m_12
  refine WL_nil ?_
  refine thn_nrm (_hK_6 _ _ ?_)
  clear _hK_6
  refine W_seq fun _K_13 _hK_13 => ?_
  refine W_region ?_
  refine WL_step rfl rfl (r_loadAtA0 _m_12.at_ agg28 sz28 rfl) ?_
  refine WL_s rfl rfl ?_
  have _f_14 := (((_m2.ch0 _cw_5).ch0 _cw_9).ch _cw_11 (fun hm => by have _h1 := List.mem_singleton.1 hm; omega))
  refine s_storeA (off := 0) 1 _f_14 sz28 rfl (us := [(.slice _Av6 (a).length _Cv6)]) rfl rfl rfl rfl fun _w_15 _m_16 _cw_15 => ?_
  have _cw_15z := _cw_15.size
  have E := E.step _cw_15 (fun i hi => .inl (by have _h1 := List.mem_singleton.1 hi; omega))
  replace _m_16 : Blk _w_15 _b2 28 [(.slice _Av6 (a).length _Cv6)] := _m_16
  refine WL_nil ?_
  refine thn_nrm (_hK_13 _ _ ?_)
  clear _hK_13
  refine W_ret ?_
  have _f_18 := ((_q6.ch _cw_11 (fun g hg hm => by have _h0 := List.mem_singleton.1 hm; have _h2 := _lo6 _ hg; have _h3 := _hiv6 _ hg; omega)).ch _cw_15 (fun g hg hm => by have _h0 := List.mem_singleton.1 hm; have _h2 := _lo6 _ hg; have _h3 := _hiv6 _ hg; omega))
  have _o_17 : Ol Token.cs 55 4 _w_15 (.slice _Av6 (a).length _Cv6) (a) := by
    have hx := _f_18
    first | exact hx | simpa using hx
  exact ret_intro [_] (resOf_loadA _m_16 rfl agg28 sz28 trivial) ⟨_, rfl, _o_17, Lo.down _lo6 (by omega), E⟩

/-- spec.l8Copy -/
theorem c_spec_l8Copy {w : World} {_B_l : Nat} {_v_l : Value} {l : List Token} (_h_l : Ls Token.cs 4 w _B_l _v_l l) (hb : l.length ≤ 4194304) :
    Ctr Try.prog 49 #[_v_l] w (fun v w' => ∃ u, v = .agg #[u] ∧ Ol Token.cs 55 4 w' u (l) ∧ Lo w.heap.size u ∧ Ch [] w w') := by
  obtain ⟨_A_l, _C_l, _e1_l⟩ := _h_l.val
  subst _e1_l
  have _l_l := _h_l.len
  have _h_l := _h_l.here (by decide)
  have E := Ch.refl [] w
  refine Ctr_of_W (N := 7) (vs0 := [(.slice _A_l l.length _C_l)]) Try.func49 rfl rfl rfl ?_
  refine W_seq fun _K_1 _hK_1 => ?_
  refine W_region ?_
  refine WL_s rfl rfl ?_
  refine s_alloc zr28 fun _b2 _w_2 _m2 _cw_2 _e2 => ?_
  have _cw_2z := _cw_2.size
  have E := E.trans _cw_2
  have _z2 := _m2.lt
  replace _m2 : Blk _w_2 _b2 28 [(.slice none 0 0)] := _m2
  refine WL_nil ?_
  refine thn_nrm (_hK_1 _ _ ?_)
  clear _hK_1
  refine W_seq fun _K_3 _hK_3 => ?_
  refine W_region ?_
  refine WL_s rfl rfl ?_
  refine s_buildSlice0 (k := 4) Token.cs el26 sz55 fun _v3 _w_4 _q3 _lo3 _cw_4 => ?_
  have _cw_4z := _cw_4.size
  have E := E.trans _cw_4
  obtain ⟨_Av3, _Cv3, _ev3⟩ := _q3.val
  subst _ev3
  have _lv3 := _q3.len
  have _hiv3 := _q3.lt
  refine WL_step rfl rfl (r_move rfl) ?_
  refine WL_s rfl rfl ?_
  have _f_6 := ((_h_l.ch0 _cw_2).ch0 _cw_4)
  refine s_append (cs := Token.cs) el26 sz55 by55 zr55 rfl (by decide) Token.one _q3 _f_6 rfl rfl (by first | omega | (simp only [List.length_append, List.length_nil, List.length_cons, List.length_replicate, List.length_set, List.length_reverse, List.length_map] at *; omega) | (simp at *; omega)) (by first | omega | (simp only [List.length_append, List.length_nil, List.length_cons, List.length_replicate, List.length_set, List.length_reverse, List.length_map] at *; omega) | (simp at *; omega)) _lo3 (by omega) fun _v5 _w_5 _q5 _lo5 _ap5 _cw_5 => ?_
  have _cw_5z := _cw_5.size
  have E := E.step _cw_5 (fun i hi => .inl (by have _h1 := _lo3 _ hi; omega))
  replace _q5 : Ol Token.cs 55 4 _w_5 _v5 l := _q5
  obtain ⟨_Av5, _Cv5, _ev5⟩ := _q5.val
  subst _ev5
  have _lv5 := _q5.len
  have _hiv5 := _q5.lt
  refine WL_step rfl rfl (r_build (parts := [(0, .tmp 5)]) (cells := [(.slice _Av5 (l).length _Cv5)]) zr28 pl28 rfl rfl) ?_
  refine WL_s rfl rfl ?_
  have _f_7 := ((_m2.ch0 _cw_4).ch _cw_5 (fun hm => by have _h1 := _lo3 _ hm; have _h2 := _hiv3 _ hm; omega))
  refine s_storeA (off := 0) 1 _f_7 sz28 rfl (us := [(.slice _Av5 (l).length _Cv5)]) rfl rfl rfl rfl fun _w_8 _m_9 _cw_8 => ?_
  have _cw_8z := _cw_8.size
  have E := E.step _cw_8 (fun i hi => .inl (by have _h1 := List.mem_singleton.1 hi; omega))
  replace _m_9 : Blk _w_8 _b2 28 [(.slice _Av5 (l).length _Cv5)] := _m_9
  refine WL_nil ?_
  refine thn_nrm (_hK_3 _ _ ?_)
  clear _hK_3
  refine W_ret ?_
  have _f_11 := (_q5.ch _cw_8 (fun g hg hm => by have _h0 := List.mem_singleton.1 hm; rcases _ap5 with ea | ea; (rw [ea] at hg; have _h2 := _lo3 _ hg; have _h3 := _hiv3 _ hg; omega); (rw [ea] at hg; have _z1 := List.mem_singleton.1 hg; omega)))
  have _o_10 : Ol Token.cs 55 4 _w_8 (.slice _Av5 (l).length _Cv5) (l) := by
    have hx := _f_11
    first | exact hx | simpa using hx
  exact ret_intro [_] (resOf_loadA _m_9 rfl agg28 sz28 trivial) ⟨_, rfl, _o_10, Lo.down _lo5 (by omega), E⟩

/-- spec.l8Is -/
theorem c_spec_l8Is {w : World} {_B_e : Nat} {_v_e : Value} {e : List Token} (_h_e : Ls Token.cs 4 w _B_e _v_e e) (kind : Int) :
    Ctr Try.prog 57 #[(.agg #[_v_e]), (.int .i64 kind)] w (fun v w' => v = .bool (isK e kind) ∧ Ch [] w w') := by
  obtain ⟨_A_e, _C_e, _e1_e⟩ := _h_e.val
  subst _e1_e
  have _l_e := _h_e.len
  have _h_e := _h_e.here (by decide)
  have E := Ch.refl [] w
  refine Ctr_of_W (N := 18) (vs0 := [(.agg #[(.slice _A_e e.length _C_e)]), (.int .i64 kind)]) Try.func57 rfl rfl rfl ?_
  refine W_seq fun _K_1 _hK_1 => ?_
  refine W_region ?_
  refine WL_s rfl rfl ?_
  refine s_box rfl fun _b2 _w_2 _m2 _cw_2 _e2 => ?_
  have _cw_2z := _cw_2.size
  have E := E.trans _cw_2
  have _z2 := _m2.lt
  replace _m2 : Blk _w_2 _b2 28 [(.slice _A_e e.length _C_e)] := _m2
  refine WL_step rfl rfl (r_assign rfl) ?_
  refine WL_nil ?_
  refine thn_nrm (_hK_1 _ _ ?_)
  clear _hK_1
  refine W_seq fun _K_3 _hK_3 => ?_
  refine W_region ?_
  refine WL_step rfl rfl (r_fieldAddr fa28_0 rfl) ?_
  refine WL_step rfl rfl (r_loadAt _m2.at_ agg26 rfl rfl) ?_
  refine WL_step rfl rfl (r_len (by rw [el26]; rfl) rfl) ?_
  refine WL_step rfl rfl (r_eql rfl rfl) ?_
  refine WL_step rfl rfl (r_move rfl) ?_
  refine WL_split (d := 9) rfl (fun _h9 => ?_) (fun _h9 => ?_)
  · have _h9 := bt_d _h9
    refine WL_step rfl rfl (r_fieldAddr fa28_0 rfl) ?_
    refine WL_step rfl rfl (r_loadAt _m2.at_ agg26 rfl rfl) ?_
    refine WL_s rfl rfl ?_
    have _f_4 := (_h_e.ch0 _cw_2)
    refine (s_index (j := 0) _f_4 Token.len el26 sz55 rfl rfl rfl (by omega) fun _p12 _y12 _hy12 _a12 => ?_)
    refine WL_step rfl rfl (r_fieldAddr fa55_0 rfl) ?_
    refine WL_step rfl rfl (r_loadAt _a12 agg3 rfl rfl) ?_
    refine WL_step rfl rfl (r_move rfl) ?_
    refine WL_step rfl rfl (r_eql rfl rfl) ?_
    refine WL_step rfl rfl (r_pickT rfl rfl) ?_
    refine WL_step rfl rfl (r_assign rfl) ?_
    refine WL_nil ?_
    refine thn_nrm (_hK_3 _ _ ?_)
    clear _hK_3
    refine W_ret ?_
    exact ret_intro [_] ⟨rfl, trivial⟩ ⟨congrArg Value.bool (by first | exact isK_n _h9 | exact isK_y _h9 _hy12 | (cases hb : decide (_y12.kind = kind) <;> rw [← hb] <;> exact isK_y _h9 _hy12)), E⟩
  · have _h9 := bf_d _h9
    refine WL_skip rfl rfl ?_
    refine WL_skip rfl rfl ?_
    refine WL_skip rfl rfl ?_
    refine WL_skip rfl rfl ?_
    refine WL_skip rfl rfl ?_
    refine WL_skip rfl rfl ?_
    refine WL_skip rfl rfl ?_
    refine WL_step rfl rfl (r_pickF rfl rfl) ?_
    refine WL_step rfl rfl (r_assign rfl) ?_
    refine WL_nil ?_
    refine thn_nrm (_hK_3 _ _ ?_)
    clear _hK_3
    refine W_ret ?_
    exact ret_intro [_] ⟨rfl, trivial⟩ ⟨congrArg Value.bool (by first | exact isK_n _h9 | exact isK_y _h9 _hy12 | (cases hb : decide (_y12.kind = kind) <;> rw [← hb] <;> exact isK_y _h9 _hy12)), E⟩

/-- spec.l8Leaf -/
theorem c_spec_l8Leaf {w : World} (kind : Int) :
    Ctr Try.prog 48 #[(.int .i64 kind)] w (fun v w' => ∃ u, v = .agg #[u] ∧ Ol Token.cs 55 4 w' u ([(⟨kind, 0, 0, 0⟩ : Token)]) ∧ Lo w.heap.size u ∧ Ch [] w w') := by
  have E := Ch.refl [] w
  refine Ctr_of_W (N := 7) (vs0 := [(.int .i64 kind)]) Try.func48 rfl rfl rfl ?_
  refine W_seq fun _K_1 _hK_1 => ?_
  refine W_region ?_
  refine WL_s rfl rfl ?_
  refine s_alloc zr28 fun _b2 _w_2 _m2 _cw_2 _e2 => ?_
  have _cw_2z := _cw_2.size
  have E := E.trans _cw_2
  have _z2 := _m2.lt
  replace _m2 : Blk _w_2 _b2 28 [(.slice none 0 0)] := _m2
  refine WL_nil ?_
  refine thn_nrm (_hK_1 _ _ ?_)
  clear _hK_1
  refine W_seq fun _K_3 _hK_3 => ?_
  refine W_region ?_
  refine WL_step rfl rfl (r_move rfl) ?_
  refine WL_step rfl rfl (r_build (parts := [(0, .tmp 3)]) (cells := [(.int .i64 kind), (.int .i64 0), (.int .i64 0), (.int .i64 0)]) zr55 pl55 rfl rfl) ?_
  refine WL_s rfl rfl ?_
  refine s_buildSlice (cs := Token.cs) (parts := [(0, .tmp 4)]) (⟨0, 0, 0, 0⟩ : Token) [(⟨kind, 0, 0, 0⟩ : Token)] el26 sz55 zr55 Token.len (by decide) rfl rfl rfl (by decide) (by decide) rfl fun _v5 _w_4 _q5 _lo5 _cw_4 => ?_
  have _cw_4z := _cw_4.size
  have E := E.trans _cw_4
  obtain ⟨_Av5, _Cv5, _ev5⟩ := _q5.val
  subst _ev5
  have _lv5 := _q5.len
  have _hiv5 := _q5.lt
  refine WL_step rfl rfl (r_build (parts := [(0, .tmp 5)]) (cells := [(.slice _Av5 ([(⟨kind, 0, 0, 0⟩ : Token)]).length _Cv5)]) zr28 pl28 rfl rfl) ?_
  refine WL_s rfl rfl ?_
  have _f_5 := (_m2.ch0 _cw_4)
  refine s_storeA (off := 0) 1 _f_5 sz28 rfl (us := [(.slice _Av5 ([(⟨kind, 0, 0, 0⟩ : Token)]).length _Cv5)]) rfl rfl rfl rfl fun _w_6 _m_7 _cw_6 => ?_
  have _cw_6z := _cw_6.size
  have E := E.step _cw_6 (fun i hi => .inl (by have _h1 := List.mem_singleton.1 hi; omega))
  replace _m_7 : Blk _w_6 _b2 28 [(.slice _Av5 ([(⟨kind, 0, 0, 0⟩ : Token)]).length _Cv5)] := _m_7
  refine WL_nil ?_
  refine thn_nrm (_hK_3 _ _ ?_)
  clear _hK_3
  refine W_ret ?_
  have _f_9 := (_q5.ch _cw_6 (fun g hg hm => by have _h0 := List.mem_singleton.1 hm; have _h2 := _lo5 _ hg; have _h3 := _hiv5 _ hg; omega))
  have _o_8 : Ol Token.cs 55 4 _w_6 (.slice _Av5 ([(⟨kind, 0, 0, 0⟩ : Token)]).length _Cv5) ([(⟨kind, 0, 0, 0⟩ : Token)]) := by
    have hx := _f_9
    first | exact hx | simpa using hx
  exact ret_intro [_] (resOf_loadA _m_7 rfl agg28 sz28 trivial) ⟨_, rfl, _o_8, Lo.down _lo5 (by omega), E⟩

/-- spec.StarExpr -/
theorem c_spec_StarExpr {w : World} {_B_e : Nat} {_v_e : Value} {e : List Token} (_h_e : Ls Token.cs 4 w _B_e _v_e e) (hb : e.length ≤ 1048576) :
    Ctr Try.prog 22 #[(.agg #[_v_e])] w (fun v w' => ∃ u, v = .agg #[u] ∧ Ol Token.cs 55 4 w' u (starE e) ∧ Lo w.heap.size u ∧ Ch [] w w') := by
  obtain ⟨_A_e, _C_e, _e1_e⟩ := _h_e.val
  subst _e1_e
  have _l_e := _h_e.len
  have _h_e := _h_e.here (by decide)
  have E := Ch.refl [] w
  refine Ctr_of_W (N := 40) (vs0 := [(.agg #[(.slice _A_e e.length _C_e)])]) Try.func22 rfl rfl rfl ?_
  refine W_seq fun _K_1 _hK_1 => ?_
  refine W_region ?_
  refine WL_s rfl rfl ?_
  refine s_box rfl fun _b1 _w_2 _m1 _cw_2 _e1 => ?_
  have _cw_2z := _cw_2.size
  have E := E.trans _cw_2
  have _z1 := _m1.lt
  replace _m1 : Blk _w_2 _b1 28 [(.slice _A_e e.length _C_e)] := _m1
  refine WL_s rfl rfl ?_
  refine s_alloc zr28 fun _b2 _w_3 _m2 _cw_3 _e2 => ?_
  have _cw_3z := _cw_3.size
  have E := E.trans _cw_3
  have _z2 := _m2.lt
  replace _m2 : Blk _w_3 _b2 28 [(.slice none 0 0)] := _m2
  refine WL_nil ?_
  refine thn_nrm (_hK_1 _ _ ?_)
  clear _hK_1
  refine W_seq fun _K_4 _hK_4 => ?_
  refine W_seq fun _K_5 _hK_5 => ?_
  refine W_region ?_
  have _f_6 := (_m1.ch0 _cw_3)
  refine WL_step rfl rfl (r_loadAtA0 _f_6.at_ agg28 sz28 rfl) ?_
  refine WL_s rfl rfl ?_
  have _f_7 := ((_h_e.ch0 _cw_2).ch0 _cw_3)
  refine Step.call (r_call (xs := [.tmp 4, .const (Go.Value.int Go.IntKind.i64 1)]) fk57 rfl) (c_spec_l8Is _f_7 _ ) fun _v5 _w_8 _q5 => ?_
  obtain ⟨rfl, _cw_8⟩ := _q5
  have _cw_8z := _cw_8.size
  have E := E.trans _cw_8
  refine WL_step rfl rfl (r_move rfl) ?_
  refine WL_split (d := 6) rfl (fun _h6 => ?_) (fun _h6 => ?_)
  · refine WL_skip rfl rfl ?_
    refine WL_skip rfl rfl ?_
    refine WL_step rfl rfl (r_pickT rfl rfl) ?_
    refine WL_nil ?_
    refine thn_nrm (_hK_5 _ _ ?_)
    clear _hK_5
    refine W_condT rfl ?_
    refine W_seq fun _K_9 _hK_9 => ?_
    refine W_region ?_
    refine WL_s rfl rfl ?_
    refine Step.call (r_call (xs := [.const (Go.Value.int Go.IntKind.i64 2)]) fk48 rfl) (c_spec_l8Leaf _ ) fun _v10 _w_10 _q10 => ?_
    obtain ⟨_u10, rfl, _q10, _lo10, _cw_10⟩ := _q10
    have _cw_10z := _cw_10.size
    have E := E.trans _cw_10
    obtain ⟨_Au10, _Cu10, _eu10⟩ := _q10.val
    subst _eu10
    have _lu10 := _q10.len
    have _hiu10 := _q10.lt
    refine WL_s rfl rfl ?_
    have _f_11 := ((_m2.ch0 _cw_8).ch0 _cw_10)
    refine s_storeA (off := 0) 1 _f_11 sz28 rfl (us := [(.slice _Au10 ([(⟨2, 0, 0, 0⟩ : Token)]).length _Cu10)]) rfl rfl rfl rfl fun _w_12 _m_13 _cw_12 => ?_
    have _cw_12z := _cw_12.size
    have E := E.step _cw_12 (fun i hi => .inl (by have _h1 := List.mem_singleton.1 hi; omega))
    replace _m_13 : Blk _w_12 _b2 28 [(.slice _Au10 ([(⟨2, 0, 0, 0⟩ : Token)]).length _Cu10)] := _m_13
    refine WL_nil ?_
    refine thn_nrm (_hK_9 _ _ ?_)
    clear _hK_9
    refine W_ret (thn_ret ?_)
    clear _hK_4
    have _f_15 := (_q10.ch _cw_12 (fun g hg hm => by have _h0 := List.mem_singleton.1 hm; have _h2 := _lo10 _ hg; have _h3 := _hiu10 _ hg; omega))
    have _o_14 : Ol Token.cs 55 4 _w_12 (.slice _Au10 ([(⟨2, 0, 0, 0⟩ : Token)]).length _Cu10) (starE e) := by
      have hx := _f_15
      first | (have hl := star_last (z := ⟨0, 0, 0, 0⟩) _h15 _hy22; unfold starE; simp_all; done) | (unfold starE; simp_all; done)
    exact ret_intro [_] (resOf_loadA _m_13 rfl agg28 sz28 trivial) ⟨_, rfl, _o_14, Lo.down _lo10 (by omega), E⟩
  · have _f_16 := (_f_6.ch0 _cw_8)
    refine WL_step rfl rfl (r_loadAtA0 _f_16.at_ agg28 sz28 rfl) ?_
    refine WL_s rfl rfl ?_
    have _f_17 := (_f_7.ch0 _cw_8)
    refine Step.call (r_call (xs := [.tmp 7, .const (Go.Value.int Go.IntKind.i64 2)]) fk57 rfl) (c_spec_l8Is _f_17 _ ) fun _v8 _w_18 _q8 => ?_
    obtain ⟨rfl, _cw_18⟩ := _q8
    have _cw_18z := _cw_18.size
    have E := E.trans _cw_18
    refine WL_step rfl rfl (r_pickF rfl rfl) ?_
    refine WL_nil ?_
    refine thn_nrm (_hK_5 _ _ ?_)
    clear _hK_5
    refine W_cond rfl (fun _h9 => ?_) (fun _h9 => ?_)
    · refine W_seq fun _K_19 _hK_19 => ?_
      refine W_region ?_
      refine WL_s rfl rfl ?_
      refine Step.call (r_call (xs := [.const (Go.Value.int Go.IntKind.i64 2)]) fk48 rfl) (c_spec_l8Leaf _ ) fun _v10 _w_20 _q10 => ?_
      obtain ⟨_u10, rfl, _q10, _lo10, _cw_20⟩ := _q10
      have _cw_20z := _cw_20.size
      have E := E.trans _cw_20
      obtain ⟨_Au10, _Cu10, _eu10⟩ := _q10.val
      subst _eu10
      have _lu10 := _q10.len
      have _hiu10 := _q10.lt
      refine WL_s rfl rfl ?_
      have _f_21 := (((_m2.ch0 _cw_8).ch0 _cw_18).ch0 _cw_20)
      refine s_storeA (off := 0) 1 _f_21 sz28 rfl (us := [(.slice _Au10 ([(⟨2, 0, 0, 0⟩ : Token)]).length _Cu10)]) rfl rfl rfl rfl fun _w_22 _m_23 _cw_22 => ?_
      have _cw_22z := _cw_22.size
      have E := E.step _cw_22 (fun i hi => .inl (by have _h1 := List.mem_singleton.1 hi; omega))
      replace _m_23 : Blk _w_22 _b2 28 [(.slice _Au10 ([(⟨2, 0, 0, 0⟩ : Token)]).length _Cu10)] := _m_23
      refine WL_nil ?_
      refine thn_nrm (_hK_19 _ _ ?_)
      clear _hK_19
      refine W_ret (thn_ret ?_)
      clear _hK_4
      have _f_25 := (_q10.ch _cw_22 (fun g hg hm => by have _h0 := List.mem_singleton.1 hm; have _h2 := _lo10 _ hg; have _h3 := _hiu10 _ hg; omega))
      have _o_24 : Ol Token.cs 55 4 _w_22 (.slice _Au10 ([(⟨2, 0, 0, 0⟩ : Token)]).length _Cu10) (starE e) := by
        have hx := _f_25
        first | (have hl := star_last (z := ⟨0, 0, 0, 0⟩) _h15 _hy22; unfold starE; simp_all; done) | (unfold starE; simp_all; done)
      exact ret_intro [_] (resOf_loadA _m_23 rfl agg28 sz28 trivial) ⟨_, rfl, _o_24, Lo.down _lo10 (by omega), E⟩
    · refine W_skip ?_
      refine thn_nrm (_hK_4 _ _ ?_)
      clear _hK_4
      refine W_seq fun _K_26 _hK_26 => ?_
      refine W_seq fun _K_27 _hK_27 => ?_
      refine W_region ?_
      refine WL_step rfl rfl (r_fieldAddr fa28_0 rfl) ?_
      have _f_28 := (_f_16.ch0 _cw_18)
      refine WL_step rfl rfl (r_loadAt _f_28.at_ agg26 rfl rfl) ?_
      refine WL_step rfl rfl (r_len (by rw [el26]; rfl) rfl) ?_
      refine WL_step rfl rfl (r_gtr rfl rfl) ?_
      refine WL_step rfl rfl (r_move rfl) ?_
      refine WL_split (d := 15) rfl (fun _h15 => ?_) (fun _h15 => ?_)
      · have _h15 := bt_d _h15
        refine WL_step rfl rfl (r_fieldAddr fa28_0 rfl) ?_
        refine WL_step rfl rfl (r_loadAt _f_28.at_ agg26 rfl rfl) ?_
        refine WL_step rfl rfl (r_fieldAddr fa28_0 rfl) ?_
        refine WL_step rfl rfl (r_loadAt _f_28.at_ agg26 rfl rfl) ?_
        refine WL_step rfl rfl (r_len (by rw [el26]; rfl) rfl) ?_
        refine WL_step rfl rfl (r_sub (by omega) rfl rfl) ?_
        refine WL_s rfl rfl ?_
        have _f_29 := (_f_17.ch0 _cw_18)
        refine (s_index (j := (((e.length : Nat) : Int) - 1).toNat) _f_29 Token.len el26 sz55 rfl rfl (by omega) (by omega) fun _p22 _y22 _hy22 _a22 => ?_)
        refine WL_step rfl rfl (r_fieldAddr fa55_0 rfl) ?_
        refine WL_step rfl rfl (r_loadAt _a22 agg3 rfl rfl) ?_
        refine WL_step rfl rfl (r_eql rfl rfl) ?_
        refine WL_step rfl rfl (r_pickT rfl rfl) ?_
        refine WL_nil ?_
        refine thn_nrm (_hK_27 _ _ ?_)
        clear _hK_27
        refine W_cond rfl (fun _h26 => ?_) (fun _h26 => ?_)
        · have _h26 := bt_d _h26
          refine W_seq fun _K_30 _hK_30 => ?_
          refine W_region ?_
          refine WL_step rfl rfl (r_fieldAddr fa28_0 rfl) ?_
          refine WL_step rfl rfl (r_loadAt _f_28.at_ agg26 rfl rfl) ?_
          refine WL_s rfl rfl ?_
          refine Step.call (r_call (xs := [.tmp 28]) fk49 rfl) (c_spec_l8Copy _f_29 (by omega)) fun _v29 _w_31 _q29 => ?_
          obtain ⟨_u29, rfl, _q29, _lo29, _cw_31⟩ := _q29
          have _cw_31z := _cw_31.size
          have E := E.trans _cw_31
          obtain ⟨_Au29, _Cu29, _eu29⟩ := _q29.val
          subst _eu29
          have _lu29 := _q29.len
          have _hiu29 := _q29.lt
          refine WL_s rfl rfl ?_
          have _f_32 := (((_m2.ch0 _cw_8).ch0 _cw_18).ch0 _cw_31)
          refine s_storeA (off := 0) 1 _f_32 sz28 rfl (us := [(.slice _Au29 (e).length _Cu29)]) rfl rfl rfl rfl fun _w_33 _m_34 _cw_33 => ?_
          have _cw_33z := _cw_33.size
          have E := E.step _cw_33 (fun i hi => .inl (by have _h1 := List.mem_singleton.1 hi; omega))
          replace _m_34 : Blk _w_33 _b2 28 [(.slice _Au29 (e).length _Cu29)] := _m_34
          refine WL_nil ?_
          refine thn_nrm (_hK_30 _ _ ?_)
          clear _hK_30
          refine W_ret (thn_ret ?_)
          clear _hK_26
          have _f_36 := (_q29.ch _cw_33 (fun g hg hm => by have _h0 := List.mem_singleton.1 hm; have _h2 := _lo29 _ hg; have _h3 := _hiu29 _ hg; omega))
          have _o_35 : Ol Token.cs 55 4 _w_33 (.slice _Au29 (e).length _Cu29) (starE e) := by
            have hx := _f_36
            first | (have hl := star_last (z := ⟨0, 0, 0, 0⟩) _h15 _hy22; unfold starE; simp_all; done) | (unfold starE; simp_all; done)
          exact ret_intro [_] (resOf_loadA _m_34 rfl agg28 sz28 trivial) ⟨_, rfl, _o_35, Lo.down _lo29 (by omega), E⟩
        · have _h26 := bf_d _h26
          refine W_skip ?_
          refine thn_nrm (_hK_26 _ _ ?_)
          clear _hK_26
          refine W_seq fun _K_37 _hK_37 => ?_
          refine W_region ?_
          refine WL_step rfl rfl (r_fieldAddr fa28_0 rfl) ?_
          refine WL_step rfl rfl (r_loadAt _f_28.at_ agg26 rfl rfl) ?_
          refine WL_s rfl rfl ?_
          refine Step.call (r_call (xs := [.tmp 31]) fk49 rfl) (c_spec_l8Copy _f_29 (by omega)) fun _v32 _w_38 _q32 => ?_
          obtain ⟨_u32, rfl, _q32, _lo32, _cw_38⟩ := _q32
          have _cw_38z := _cw_38.size
          have E := E.trans _cw_38
          obtain ⟨_Au32, _Cu32, _eu32⟩ := _q32.val
          subst _eu32
          have _lu32 := _q32.len
          have _hiu32 := _q32.lt
          refine WL_s rfl rfl ?_
          refine s_alloc zr28 fun _b3 _w_39 _m3 _cw_39 _e3 => ?_
          have _cw_39z := _cw_39.size
          have E := E.trans _cw_39
          have _z3 := _m3.lt
          replace _m3 : Blk _w_39 _b3 28 [(.slice none 0 0)] := _m3
          refine WL_s rfl rfl ?_
          refine s_storeA (off := 0) 1 _m3 sz28 rfl (us := [(.slice _Au32 (e).length _Cu32)]) rfl rfl rfl rfl fun _w_40 _m_41 _cw_40 => ?_
          have _cw_40z := _cw_40.size
          have E := E.step _cw_40 (fun i hi => .inl (by have _h1 := List.mem_singleton.1 hi; omega))
          replace _m_41 : Blk _w_40 _b3 28 [(.slice _Au32 (e).length _Cu32)] := _m_41
          refine WL_nil ?_
          refine thn_nrm (_hK_37 _ _ ?_)
          clear _hK_37
          refine W_seq fun _K_42 _hK_42 => ?_
          refine W_region ?_
          refine WL_step rfl rfl (r_fieldAddr fa28_0 rfl) ?_
          refine WL_step rfl rfl (r_loadAt _m_41.at_ agg26 rfl rfl) ?_
          refine WL_step rfl rfl (r_build (parts := [(0, .const (Go.Value.int Go.IntKind.i64 6))]) (cells := [(.int .i64 6), (.int .i64 0), (.int .i64 0), (.int .i64 0)]) zr55 pl55 rfl rfl) ?_
          refine WL_s rfl rfl ?_
          refine s_buildSlice (cs := Token.cs) (parts := [(0, .tmp 35)]) (⟨0, 0, 0, 0⟩ : Token) [(⟨6, 0, 0, 0⟩ : Token)] el26 sz55 zr55 Token.len (by decide) rfl rfl rfl (by decide) (by decide) rfl fun _v36 _w_43 _q36 _lo36 _cw_43 => ?_
          have _cw_43z := _cw_43.size
          have E := E.trans _cw_43
          obtain ⟨_Av36, _Cv36, _ev36⟩ := _q36.val
          subst _ev36
          have _lv36 := _q36.len
          have _hiv36 := _q36.lt
          refine WL_s rfl rfl ?_
          have _f_45 := (((_q32.ch0 _cw_39).ch _cw_40 (fun g hg hm => by have _h0 := List.mem_singleton.1 hm; have _h2 := _lo32 _ hg; have _h3 := _hiu32 _ hg; omega)).ch0 _cw_43)
          refine s_append (cs := Token.cs) el26 sz55 by55 zr55 rfl (by decide) Token.one _f_45 _q36.ls rfl rfl (by first | omega | (simp only [List.length_append, List.length_nil, List.length_cons, List.length_replicate, List.length_set, List.length_reverse, List.length_map] at *; omega) | (simp at *; omega)) (by first | omega | (simp only [List.length_append, List.length_nil, List.length_cons, List.length_replicate, List.length_set, List.length_reverse, List.length_map] at *; omega) | (simp at *; omega)) _lo32 (by omega) fun _v37 _w_44 _q37 _lo37 _ap37 _cw_44 => ?_
          have _cw_44z := _cw_44.size
          have E := E.step _cw_44 (fun i hi => .inl (by have _h1 := _lo32 _ hi; omega))
          obtain ⟨_Av37, _Cv37, _ev37⟩ := _q37.val
          subst _ev37
          have _lv37 := _q37.len
          have _hiv37 := _q37.lt
          refine WL_step rfl rfl (r_fieldAddr fa28_0 rfl) ?_
          refine WL_s rfl rfl ?_
          have _f_46 := ((_m_41.ch0 _cw_43).ch _cw_44 (fun hm => by have _h1 := _lo32 _ hm; have _h2 := _hiu32 _ hm; omega))
          refine s_store1 (off := 0) _f_46 sz26 rfl rfl rfl rfl fun _w_47 _m_48 _cw_47 => ?_
          have _cw_47z := _cw_47.size
          have E := E.step _cw_47 (fun i hi => .inl (by have _h1 := List.mem_singleton.1 hi; omega))
          replace _m_48 : Blk _w_47 _b3 28 [(.slice _Av37 ((e ++ [(⟨6, 0, 0, 0⟩ : Token)])).length _Cv37)] := _m_48
          refine WL_nil ?_
          refine thn_nrm (_hK_42 _ _ ?_)
          clear _hK_42
          refine W_seq fun _K_49 _hK_49 => ?_
          refine W_region ?_
          refine WL_step rfl rfl (r_loadAtA0 _m_48.at_ agg28 sz28 rfl) ?_
          refine WL_s rfl rfl ?_
          have _f_50 := ((((((((_m2.ch0 _cw_8).ch0 _cw_18).ch0 _cw_38).ch0 _cw_39).ch _cw_40 (fun hm => by have _h1 := List.mem_singleton.1 hm; omega)).ch0 _cw_43).ch _cw_44 (fun hm => by have _h1 := _lo32 _ hm; have _h2 := _hiu32 _ hm; omega)).ch _cw_47 (fun hm => by have _h1 := List.mem_singleton.1 hm; omega))
          refine s_storeA (off := 0) 1 _f_50 sz28 rfl (us := [(.slice _Av37 ((e ++ [(⟨6, 0, 0, 0⟩ : Token)])).length _Cv37)]) rfl rfl rfl rfl fun _w_51 _m_52 _cw_51 => ?_
          have _cw_51z := _cw_51.size
          have E := E.step _cw_51 (fun i hi => .inl (by have _h1 := List.mem_singleton.1 hi; omega))
          replace _m_52 : Blk _w_51 _b2 28 [(.slice _Av37 ((e ++ [(⟨6, 0, 0, 0⟩ : Token)])).length _Cv37)] := _m_52
          refine WL_nil ?_
          refine thn_nrm (_hK_49 _ _ ?_)
          clear _hK_49
          refine W_ret ?_
          have _f_54 := ((_q37.ch _cw_47 (fun g hg hm => by have _h0 := List.mem_singleton.1 hm; rcases _ap37 with ea | ea; (rw [ea] at hg; have _h2 := _lo32 _ hg; have _h3 := _hiu32 _ hg; omega); (rw [ea] at hg; have _z1 := List.mem_singleton.1 hg; omega))).ch _cw_51 (fun g hg hm => by have _h0 := List.mem_singleton.1 hm; rcases _ap37 with ea | ea; (rw [ea] at hg; have _h2 := _lo32 _ hg; have _h3 := _hiu32 _ hg; omega); (rw [ea] at hg; have _z1 := List.mem_singleton.1 hg; omega)))
          have _o_53 : Ol Token.cs 55 4 _w_51 (.slice _Av37 ((e ++ [(⟨6, 0, 0, 0⟩ : Token)])).length _Cv37) (starE e) := by
            have hx := _f_54
            first | (have hl := star_last (z := ⟨0, 0, 0, 0⟩) _h15 _hy22; unfold starE; simp_all; done) | (unfold starE; simp_all; done)
          exact ret_intro [_] (resOf_loadA _m_52 rfl agg28 sz28 trivial) ⟨_, rfl, _o_53, Lo.down _lo37 (by omega), E⟩
      · have _h15 := bf_d _h15
        refine WL_skip rfl rfl ?_
        refine WL_skip rfl rfl ?_
        refine WL_skip rfl rfl ?_
        refine WL_skip rfl rfl ?_
        refine WL_skip rfl rfl ?_
        refine WL_skip rfl rfl ?_
        refine WL_skip rfl rfl ?_
        refine WL_skip rfl rfl ?_
        refine WL_skip rfl rfl ?_
        refine WL_skip rfl rfl ?_
        refine WL_step rfl rfl (r_pickF rfl rfl) ?_
        refine WL_nil ?_
        refine thn_nrm (_hK_27 _ _ ?_)
        clear _hK_27
        refine W_condF rfl ?_
        refine W_skip ?_
        refine thn_nrm (_hK_26 _ _ ?_)
        clear _hK_26
        refine W_seq fun _K_55 _hK_55 => ?_
        refine W_region ?_
        refine WL_step rfl rfl (r_fieldAddr fa28_0 rfl) ?_
        refine WL_step rfl rfl (r_loadAt _f_28.at_ agg26 rfl rfl) ?_
        refine WL_s rfl rfl ?_
        have _f_56 := (_f_17.ch0 _cw_18)
        refine Step.call (r_call (xs := [.tmp 31]) fk49 rfl) (c_spec_l8Copy _f_56 (by omega)) fun _v32 _w_57 _q32 => ?_
        obtain ⟨_u32, rfl, _q32, _lo32, _cw_57⟩ := _q32
        have _cw_57z := _cw_57.size
        have E := E.trans _cw_57
        obtain ⟨_Au32, _Cu32, _eu32⟩ := _q32.val
        subst _eu32
        have _lu32 := _q32.len
        have _hiu32 := _q32.lt
        refine WL_s rfl rfl ?_
        refine s_alloc zr28 fun _b3 _w_58 _m3 _cw_58 _e3 => ?_
        have _cw_58z := _cw_58.size
        have E := E.trans _cw_58
        have _z3 := _m3.lt
        replace _m3 : Blk _w_58 _b3 28 [(.slice none 0 0)] := _m3
        refine WL_s rfl rfl ?_
        refine s_storeA (off := 0) 1 _m3 sz28 rfl (us := [(.slice _Au32 (e).length _Cu32)]) rfl rfl rfl rfl fun _w_59 _m_60 _cw_59 => ?_
        have _cw_59z := _cw_59.size
        have E := E.step _cw_59 (fun i hi => .inl (by have _h1 := List.mem_singleton.1 hi; omega))
        replace _m_60 : Blk _w_59 _b3 28 [(.slice _Au32 (e).length _Cu32)] := _m_60
        refine WL_nil ?_
        refine thn_nrm (_hK_55 _ _ ?_)
        clear _hK_55
        refine W_seq fun _K_61 _hK_61 => ?_
        refine W_region ?_
        refine WL_step rfl rfl (r_fieldAddr fa28_0 rfl) ?_
        refine WL_step rfl rfl (r_loadAt _m_60.at_ agg26 rfl rfl) ?_
        refine WL_step rfl rfl (r_build (parts := [(0, .const (Go.Value.int Go.IntKind.i64 6))]) (cells := [(.int .i64 6), (.int .i64 0), (.int .i64 0), (.int .i64 0)]) zr55 pl55 rfl rfl) ?_
        refine WL_s rfl rfl ?_
        refine s_buildSlice (cs := Token.cs) (parts := [(0, .tmp 35)]) (⟨0, 0, 0, 0⟩ : Token) [(⟨6, 0, 0, 0⟩ : Token)] el26 sz55 zr55 Token.len (by decide) rfl rfl rfl (by decide) (by decide) rfl fun _v36 _w_62 _q36 _lo36 _cw_62 => ?_
        have _cw_62z := _cw_62.size
        have E := E.trans _cw_62
        obtain ⟨_Av36, _Cv36, _ev36⟩ := _q36.val
        subst _ev36
        have _lv36 := _q36.len
        have _hiv36 := _q36.lt
        refine WL_s rfl rfl ?_
        have _f_64 := (((_q32.ch0 _cw_58).ch _cw_59 (fun g hg hm => by have _h0 := List.mem_singleton.1 hm; have _h2 := _lo32 _ hg; have _h3 := _hiu32 _ hg; omega)).ch0 _cw_62)
        refine s_append (cs := Token.cs) el26 sz55 by55 zr55 rfl (by decide) Token.one _f_64 _q36.ls rfl rfl (by first | omega | (simp only [List.length_append, List.length_nil, List.length_cons, List.length_replicate, List.length_set, List.length_reverse, List.length_map] at *; omega) | (simp at *; omega)) (by first | omega | (simp only [List.length_append, List.length_nil, List.length_cons, List.length_replicate, List.length_set, List.length_reverse, List.length_map] at *; omega) | (simp at *; omega)) _lo32 (by omega) fun _v37 _w_63 _q37 _lo37 _ap37 _cw_63 => ?_
        have _cw_63z := _cw_63.size
        have E := E.step _cw_63 (fun i hi => .inl (by have _h1 := _lo32 _ hi; omega))
        obtain ⟨_Av37, _Cv37, _ev37⟩ := _q37.val
        subst _ev37
        have _lv37 := _q37.len
        have _hiv37 := _q37.lt
        refine WL_step rfl rfl (r_fieldAddr fa28_0 rfl) ?_
        refine WL_s rfl rfl ?_
        have _f_65 := ((_m_60.ch0 _cw_62).ch _cw_63 (fun hm => by have _h1 := _lo32 _ hm; have _h2 := _hiu32 _ hm; omega))
        refine s_store1 (off := 0) _f_65 sz26 rfl rfl rfl rfl fun _w_66 _m_67 _cw_66 => ?_
        have _cw_66z := _cw_66.size
        have E := E.step _cw_66 (fun i hi => .inl (by have _h1 := List.mem_singleton.1 hi; omega))
        replace _m_67 : Blk _w_66 _b3 28 [(.slice _Av37 ((e ++ [(⟨6, 0, 0, 0⟩ : Token)])).length _Cv37)] := _m_67
        refine WL_nil ?_
        refine thn_nrm (_hK_61 _ _ ?_)
        clear _hK_61
        refine W_seq fun _K_68 _hK_68 => ?_
        refine W_region ?_
        refine WL_step rfl rfl (r_loadAtA0 _m_67.at_ agg28 sz28 rfl) ?_
        refine WL_s rfl rfl ?_
        have _f_69 := ((((((((_m2.ch0 _cw_8).ch0 _cw_18).ch0 _cw_57).ch0 _cw_58).ch _cw_59 (fun hm => by have _h1 := List.mem_singleton.1 hm; omega)).ch0 _cw_62).ch _cw_63 (fun hm => by have _h1 := _lo32 _ hm; have _h2 := _hiu32 _ hm; omega)).ch _cw_66 (fun hm => by have _h1 := List.mem_singleton.1 hm; omega))
        refine s_storeA (off := 0) 1 _f_69 sz28 rfl (us := [(.slice _Av37 ((e ++ [(⟨6, 0, 0, 0⟩ : Token)])).length _Cv37)]) rfl rfl rfl rfl fun _w_70 _m_71 _cw_70 => ?_
        have _cw_70z := _cw_70.size
        have E := E.step _cw_70 (fun i hi => .inl (by have _h1 := List.mem_singleton.1 hi; omega))
        replace _m_71 : Blk _w_70 _b2 28 [(.slice _Av37 ((e ++ [(⟨6, 0, 0, 0⟩ : Token)])).length _Cv37)] := _m_71
        refine WL_nil ?_
        refine thn_nrm (_hK_68 _ _ ?_)
        clear _hK_68
        refine W_ret ?_
        have _f_73 := ((_q37.ch _cw_66 (fun g hg hm => by have _h0 := List.mem_singleton.1 hm; rcases _ap37 with ea | ea; (rw [ea] at hg; have _h2 := _lo32 _ hg; have _h3 := _hiu32 _ hg; omega); (rw [ea] at hg; have _z1 := List.mem_singleton.1 hg; omega))).ch _cw_70 (fun g hg hm => by have _h0 := List.mem_singleton.1 hm; rcases _ap37 with ea | ea; (rw [ea] at hg; have _h2 := _lo32 _ hg; have _h3 := _hiu32 _ hg; omega); (rw [ea] at hg; have _z1 := List.mem_singleton.1 hg; omega)))
        have _o_72 : Ol Token.cs 55 4 _w_70 (.slice _Av37 ((e ++ [(⟨6, 0, 0, 0⟩ : Token)])).length _Cv37) (starE e) := by
          have hx := _f_73
          first | (have hl := star_last (z := ⟨0, 0, 0, 0⟩) _h15 _hy22; unfold starE; simp_all; done) | (unfold starE; simp_all; done)
        exact ret_intro [_] (resOf_loadA _m_71 rfl agg28 sz28 trivial) ⟨_, rfl, _o_72, Lo.down _lo37 (by omega), E⟩

/-- laws.FnExactStarExpr -/
theorem c_laws_FnExactStarExpr {w : World} {_B_e : Nat} {_v_e : Value} {e : List Token} (_h_e : Ls Token.cs 4 w _B_e _v_e e) :
    Ctr Try.prog 4 #[(.agg #[_v_e])] w (fun v w' => v = .bool (true) ∧ Ch [] w w') := by
  obtain ⟨_A_e, _C_e, _e1_e⟩ := _h_e.val
  subst _e1_e
  have _l_e := _h_e.len
  have _h_e := _h_e.here (by decide)
  have E := Ch.refl [] w
  have hr := starE_len e
  refine Ctr_of_W (N := 69) (vs0 := [(.agg #[(.slice _A_e e.length _C_e)])]) Try.func4 rfl rfl rfl ?_
  refine W_seq fun _K_1 _hK_1 => ?_
  refine W_region ?_
  refine WL_s rfl rfl ?_
  refine s_box rfl fun _b1 _w_2 _m1 _cw_2 _e1 => ?_
  have _cw_2z := _cw_2.size
  have E := E.trans _cw_2
  have _z1 := _m1.lt
  replace _m1 : Blk _w_2 _b1 24 [(.slice _A_e e.length _C_e)] := _m1
  refine WL_step rfl rfl (r_assign rfl) ?_
  refine WL_nil ?_
  refine thn_nrm (_hK_1 _ _ ?_)
  clear _hK_1
  refine W_seq fun _K_3 _hK_3 => ?_
  refine W_region ?_
  refine WL_step rfl rfl (r_assign rfl) ?_
  refine WL_nil ?_
  refine thn_nrm (_hK_3 _ _ ?_)
  clear _hK_3
  refine W_seq fun _K_4 _hK_4 => ?_
  refine W_region ?_
  refine WL_step rfl rfl (r_loadAtA0 _m1.at_ agg24 sz24 rfl) ?_
  refine WL_step rfl rfl (r_move rfl) ?_
  refine WL_s rfl rfl ?_
  have _f_5 := (_h_e.ch0 _cw_2)
  refine Step.call (r_call (xs := [.tmp 11, .tmp 12]) fk15 rfl) (c_laws_szExpr _f_5 _ (by omega) (by omega)) fun _v13 _w_6 _q13 => ?_
  obtain ⟨rfl, _cw_6⟩ := _q13
  have _cw_6z := _cw_6.size
  have E := E.trans _cw_6
  refine WL_step rfl rfl (r_assign rfl) ?_
  refine WL_nil ?_
  refine thn_nrm (_hK_4 _ _ ?_)
  clear _hK_4
  refine W_seq fun _K_7 _hK_7 => ?_
  refine W_seq fun _K_8 _hK_8 => ?_
  refine W_region ?_
  refine WL_step rfl rfl (r_move rfl) ?_
  refine WL_step rfl rfl (r_lss rfl rfl) ?_
  refine WL_nil ?_
  refine thn_nrm (_hK_8 _ _ ?_)
  clear _hK_8
  refine W_cond rfl (fun _h15 => ?_) (fun _h15 => ?_)
  · have _h15 := bt_d _h15
    refine W_seq fun _K_9 _hK_9 => ?_
    refine W_region ?_
    refine WL_step rfl rfl (r_assign rfl) ?_
    refine WL_nil ?_
    refine thn_nrm (_hK_9 _ _ ?_)
    clear _hK_9
    refine W_ret (thn_ret ?_)
    clear _hK_7
    exact ret_intro [_] ⟨rfl, trivial⟩ ⟨congrArg Value.bool (by first | rfl | (exfalso; omega) | (exfalso; revert _h15; simp; done) | (exfalso; revert _h15; simp; omega)), E⟩
  · have _h15 := bf_d _h15
    refine W_skip ?_
    refine thn_nrm (_hK_7 _ _ ?_)
    clear _hK_7
    refine W_seq fun _K_10 _hK_10 => ?_
    refine W_region ?_
    have _f_11 := (_m1.ch0 _cw_6)
    refine WL_step rfl rfl (r_loadAtA0 _f_11.at_ agg24 sz24 rfl) ?_
    refine WL_s rfl rfl ?_
    have _f_12 := (_f_5.ch0 _cw_6)
    refine Step.call (r_call (xs := [.tmp 16]) fk17 rfl) (c_laws_toExpr _f_12 (by omega)) fun _v17 _w_13 _q17 => ?_
    obtain ⟨_u17, rfl, _q17, _lo17, _cw_13⟩ := _q17
    have _cw_13z := _cw_13.size
    have E := E.trans _cw_13
    obtain ⟨_Au17, _Cu17, _eu17⟩ := _q17.val
    subst _eu17
    have _lu17 := _q17.len
    have _hiu17 := _q17.lt
    refine WL_s rfl rfl ?_
    refine Step.call (r_call (xs := [.tmp 17]) fk22 rfl) (c_spec_StarExpr _q17.ls (by omega)) fun _v18 _w_14 _q18 => ?_
    obtain ⟨_u18, rfl, _q18, _lo18, _cw_14⟩ := _q18
    have _cw_14z := _cw_14.size
    have E := E.trans _cw_14
    obtain ⟨_Au18, _Cu18, _eu18⟩ := _q18.val
    subst _eu18
    have _lu18 := _q18.len
    have _hiu18 := _q18.lt
    refine WL_s rfl rfl ?_
    refine s_alloc zr28 fun _b4 _w_15 _m4 _cw_15 _e4 => ?_
    have _cw_15z := _cw_15.size
    have E := E.trans _cw_15
    have _z4 := _m4.lt
    replace _m4 : Blk _w_15 _b4 28 [(.slice none 0 0)] := _m4
    refine WL_s rfl rfl ?_
    refine s_storeA (off := 0) 1 _m4 sz28 rfl (us := [(.slice _Au18 (starE e).length _Cu18)]) rfl rfl rfl rfl fun _w_16 _m_17 _cw_16 => ?_
    have _cw_16z := _cw_16.size
    have E := E.step _cw_16 (fun i hi => .inl (by have _h1 := List.mem_singleton.1 hi; omega))
    replace _m_17 : Blk _w_16 _b4 28 [(.slice _Au18 (starE e).length _Cu18)] := _m_17
    refine WL_nil ?_
    refine thn_nrm (_hK_10 _ _ ?_)
    clear _hK_10
    refine W_seq fun _K_18 _hK_18 => ?_
    refine W_region ?_
    have _f_19 := ((((_f_11.ch0 _cw_13).ch0 _cw_14).ch0 _cw_15).ch _cw_16 (fun hm => by have _h1 := List.mem_singleton.1 hm; omega))
    refine WL_step rfl rfl (r_loadAtA0 _f_19.at_ agg24 sz24 rfl) ?_
    refine WL_s rfl rfl ?_
    have _f_20 := ((((_f_12.ch0 _cw_13).ch0 _cw_14).ch0 _cw_15).ch _cw_16 (fun i hi => by have _h1 := List.mem_singleton.1 hi; omega))
    refine Step.call (r_call (xs := [.tmp 19]) fk17 rfl) (c_laws_toExpr _f_20 (by omega)) fun _v20 _w_21 _q20 => ?_
    obtain ⟨_u20, rfl, _q20, _lo20, _cw_21⟩ := _q20
    have _cw_21z := _cw_21.size
    have E := E.trans _cw_21
    obtain ⟨_Au20, _Cu20, _eu20⟩ := _q20.val
    subst _eu20
    have _lu20 := _q20.len
    have _hiu20 := _q20.lt
    refine WL_s rfl rfl ?_
    refine s_alloc zr28 fun _b5 _w_22 _m5 _cw_22 _e5 => ?_
    have _cw_22z := _cw_22.size
    have E := E.trans _cw_22
    have _z5 := _m5.lt
    replace _m5 : Blk _w_22 _b5 28 [(.slice none 0 0)] := _m5
    refine WL_s rfl rfl ?_
    refine s_storeA (off := 0) 1 _m5 sz28 rfl (us := [(.slice _Au20 (e).length _Cu20)]) rfl rfl rfl rfl fun _w_23 _m_24 _cw_23 => ?_
    have _cw_23z := _cw_23.size
    have E := E.step _cw_23 (fun i hi => .inl (by have _h1 := List.mem_singleton.1 hi; omega))
    replace _m_24 : Blk _w_23 _b5 28 [(.slice _Au20 (e).length _Cu20)] := _m_24
    refine WL_nil ?_
    refine thn_nrm (_hK_18 _ _ ?_)
    clear _hK_18
    refine W_seq fun _K_25 _hK_25 => ?_
    refine W_region ?_
    refine WL_step rfl rfl (r_loadAtA0 _m_24.at_ agg28 sz28 rfl) ?_
    refine WL_s rfl rfl ?_
    have _f_26 := ((_q20.ch0 _cw_22).ch _cw_23 (fun g hg hm => by have _h0 := List.mem_singleton.1 hm; have _h2 := _lo20 _ hg; have _h3 := _hiu20 _ hg; omega))
    refine Step.call (r_call (xs := [.tmp 21]) fk23 rfl) (c_impl_StarExpr _f_26.ls (by omega)) fun _v22 _w_27 _q22 => ?_
    obtain ⟨_u22, rfl, _q22, _lo22, _cw_27⟩ := _q22
    have _cw_27z := _cw_27.size
    have E := E.trans _cw_27
    obtain ⟨_Au22, _Cu22, _eu22⟩ := _q22.val
    subst _eu22
    have _lu22 := _q22.len
    have _hiu22 := _q22.lt
    refine WL_s rfl rfl ?_
    refine s_alloc zr28 fun _b6 _w_28 _m6 _cw_28 _e6 => ?_
    have _cw_28z := _cw_28.size
    have E := E.trans _cw_28
    have _z6 := _m6.lt
    replace _m6 : Blk _w_28 _b6 28 [(.slice none 0 0)] := _m6
    refine WL_s rfl rfl ?_
    refine s_storeA (off := 0) 1 _m6 sz28 rfl (us := [(.slice _Au22 (starE e).length _Cu22)]) rfl rfl rfl rfl fun _w_29 _m_30 _cw_29 => ?_
    have _cw_29z := _cw_29.size
    have E := E.step _cw_29 (fun i hi => .inl (by have _h1 := List.mem_singleton.1 hi; omega))
    replace _m_30 : Blk _w_29 _b6 28 [(.slice _Au22 (starE e).length _Cu22)] := _m_30
    refine WL_nil ?_
    refine thn_nrm (_hK_25 _ _ ?_)
    clear _hK_25
    refine W_seq fun _K_31 _hK_31 => ?_
    refine W_seq fun _K_32 _hK_32 => ?_
    refine W_region ?_
    refine WL_step rfl rfl (r_loadAtA0 _m_30.at_ agg28 sz28 rfl) ?_
    have _f_33 := ((((((_m_17.ch0 _cw_21).ch0 _cw_22).ch _cw_23 (fun hm => by have _h1 := List.mem_singleton.1 hm; omega)).ch0 _cw_27).ch0 _cw_28).ch _cw_29 (fun hm => by have _h1 := List.mem_singleton.1 hm; omega))
    refine WL_step rfl rfl (r_loadAtA0 _f_33.at_ agg28 sz28 rfl) ?_
    refine WL_s rfl rfl ?_
    have _f_34 := ((_q22.ch0 _cw_28).ch _cw_29 (fun g hg hm => by have _h0 := List.mem_singleton.1 hm; have _h2 := _lo22 _ hg; have _h3 := _hiu22 _ hg; omega))
    have _f_35 := ((((((((_q18.ch0 _cw_15).ch _cw_16 (fun g hg hm => by have _h0 := List.mem_singleton.1 hm; have _h2 := _lo18 _ hg; have _h3 := _hiu18 _ hg; omega)).ch0 _cw_21).ch0 _cw_22).ch _cw_23 (fun g hg hm => by have _h0 := List.mem_singleton.1 hm; have _h2 := _lo18 _ hg; have _h3 := _hiu18 _ hg; omega)).ch0 _cw_27).ch0 _cw_28).ch _cw_29 (fun g hg hm => by have _h0 := List.mem_singleton.1 hm; have _h2 := _lo18 _ hg; have _h3 := _hiu18 _ hg; omega))
    refine Step.call (r_call (xs := [.tmp 23, .tmp 24]) fk19 rfl) (c_laws_eqExpr _f_34.ls _f_35.ls ) fun _v25 _w_36 _q25 => ?_
    obtain ⟨rfl, _cw_36⟩ := _q25
    have _cw_36z := _cw_36.size
    have E := E.trans _cw_36
    refine WL_step rfl rfl (r_not rfl) ?_
    refine WL_nil ?_
    refine thn_nrm (_hK_32 _ _ ?_)
    clear _hK_32
    refine W_cond rfl (fun _h26 => ?_) (fun _h26 => ?_)
    · have _h26 := bf_d (bt_n _h26)
      refine W_seq fun _K_37 _hK_37 => ?_
      refine W_region ?_
      refine WL_step rfl rfl (r_assign rfl) ?_
      refine WL_nil ?_
      refine thn_nrm (_hK_37 _ _ ?_)
      clear _hK_37
      refine W_ret (thn_ret ?_)
      clear _hK_31
      exact ret_intro [_] ⟨rfl, trivial⟩ ⟨congrArg Value.bool (by first | rfl | (exfalso; omega) | (exfalso; revert _h26; simp; done) | (exfalso; revert _h26; simp; omega)), E⟩
    · have _h26 := bt_d (bf_n _h26)
      refine W_skip ?_
      refine thn_nrm (_hK_31 _ _ ?_)
      clear _hK_31
      refine W_seq fun _K_38 _hK_38 => ?_
      refine W_seq fun _K_39 _hK_39 => ?_
      refine W_drawC [] 5 mixed rfl fun _w_40 _cw_40 => ?_
      have _cw_40z := _cw_40.size
      have E := E.trans _cw_40
      have _f_41 := (((((_m_24.ch0 _cw_27).ch0 _cw_28).ch _cw_29 (fun hm => by have _h1 := List.mem_singleton.1 hm; omega)).ch0 _cw_36).ch0 _cw_40)
      refine DR_s 0 rfl (by kernel_rfl) rfl rfl (t_loadAtA0 _f_41.at_ (fun i hi => by first | exact absurd hi (List.not_mem_nil) | (have _h1 := List.mem_singleton.1 hi; omega)) agg28 sz28 rfl ?_)
      have _f_42 := ((((((((_f_19.ch0 _cw_21).ch0 _cw_22).ch _cw_23 (fun hm => by have _h1 := List.mem_singleton.1 hm; omega)).ch0 _cw_27).ch0 _cw_28).ch _cw_29 (fun hm => by have _h1 := List.mem_singleton.1 hm; omega)).ch0 _cw_36).ch0 _cw_40)
      refine DR_s 1 rfl (by kernel_rfl) rfl rfl (t_loadAtA0 _f_42.at_ (fun i hi => by first | exact absurd hi (List.not_mem_nil) | (have _h1 := List.mem_singleton.1 hi; omega)) agg24 sz24 rfl ?_)
      refine DR_one 2 (by kernel_rfl) ?_
      refine DO_s rfl rfl rfl ?_
      have _f_43 := ((((((((_f_20.ch0 _cw_21).ch0 _cw_22).ch _cw_23 (fun i hi => by have _h1 := List.mem_singleton.1 hi; omega)).ch0 _cw_27).ch0 _cw_28).ch _cw_29 (fun i hi => by have _h1 := List.mem_singleton.1 hi; omega)).ch0 _cw_36).ch0 _cw_40)
      refine Step.call (r_call (xs := [.tmp 28]) fk17 rfl) (c_laws_toExpr _f_43 (by omega)) fun _v29 _w_44 _q29 => ?_
      obtain ⟨_u29, rfl, _q29, _lo29, _cw_44⟩ := _q29
      have _cw_44z := _cw_44.size
      have E := E.trans _cw_44
      obtain ⟨_Au29, _Cu29, _eu29⟩ := _q29.val
      subst _eu29
      have _lu29 := _q29.len
      have _hiu29 := _q29.lt
      have _S_45 : Ch [] _w_40 _w_44 := ((Ch.refl _ _).trans _cw_44.of_nil)
      refine ⟨_S_45, ?_⟩
      refine DR_one 3 (by kernel_rfl) ?_
      refine DO_s rfl rfl rfl ?_
      have _f_46 := ((((((_f_26.ch0 _cw_27).ch0 _cw_28).ch _cw_29 (fun g hg hm => by have _h0 := List.mem_singleton.1 hm; have _h2 := _lo20 _ hg; have _h3 := _hiu20 _ hg; omega)).ch0 _cw_36).ch0 _cw_40).ch0 _cw_44)
      refine Step.call (r_call (xs := [.tmp 27, .tmp 29]) fk19 rfl) (c_laws_eqExpr _f_46.ls _q29.ls ) fun _v30 _w_47 _q30 => ?_
      obtain ⟨rfl, _cw_47⟩ := _q30
      have _cw_47z := _cw_47.size
      have E := E.trans _cw_47
      have _S_48 : Ch [] _w_40 _w_47 := (_S_45.trans _cw_47.of_nil)
      refine ⟨_S_48, ?_⟩
      refine DR_s 4 rfl (by kernel_rfl) rfl rfl (t_v (fun _ => (r_not rfl)) ?_)
      refine DR_done (by kernel_rfl) ?_
      refine thn_nrm (_hK_39 _ _ ?_)
      clear _hK_39
      refine W_cond rfl (fun _h31 => ?_) (fun _h31 => ?_)
      · have _h31 := bf_d (bt_n _h31)
        refine W_seq fun _K_49 _hK_49 => ?_
        refine W_region ?_
        refine WL_step rfl rfl (r_assign rfl) ?_
        refine WL_nil ?_
        refine thn_nrm (_hK_49 _ _ ?_)
        clear _hK_49
        refine W_ret (thn_ret ?_)
        clear _hK_38
        exact ret_intro [_] ⟨rfl, trivial⟩ ⟨congrArg Value.bool (by first | rfl | (exfalso; omega) | (exfalso; revert _h31; simp; done) | (exfalso; revert _h31; simp; omega)), E⟩
      · have _h31 := bt_d (bf_n _h31)
        refine W_skip ?_
        refine thn_nrm (_hK_38 _ _ ?_)
        clear _hK_38
        refine W_seq fun _K_50 _hK_50 => ?_
        refine W_region ?_
        refine WL_step rfl rfl (r_assign rfl) ?_
        refine WL_nil ?_
        refine thn_nrm (_hK_50 _ _ ?_)
        clear _hK_50
        refine W_seq fun _K_51 _hK_51 => ?_
        refine W_region ?_
        have _f_52 := ((_f_41.ch0 _cw_44).ch0 _cw_47)
        refine WL_step rfl rfl (r_loadAtA0 _f_52.at_ agg28 sz28 rfl) ?_
        refine WL_step rfl rfl (r_move rfl) ?_
        refine WL_s rfl rfl ?_
        have _f_53 := (_f_46.ch0 _cw_47)
        refine Step.call (r_call (xs := [.tmp 32, .tmp 33]) fk20 rfl) (c_laws_markExpr _f_53 _ (by omega) (by first | omega | (simp <;> omega))) fun _v34 _w_54 _q34 => ?_
        obtain ⟨rfl, _q34, _cw_54⟩ := _q34
        have _cw_54z := _cw_54.size
        have E := E.step _cw_54 (fun i hi => .inl (by have _h1 := _lo20 _ hi; omega))
        refine WL_step rfl rfl (r_assign rfl) ?_
        refine WL_nil ?_
        refine thn_nrm (_hK_51 _ _ ?_)
        clear _hK_51
        refine W_seq fun _K_55 _hK_55 => ?_
        refine W_seq fun _K_56 _hK_56 => ?_
        refine W_region ?_
        refine WL_step rfl rfl (r_move rfl) ?_
        refine WL_step rfl rfl (r_lss rfl rfl) ?_
        refine WL_step rfl rfl (r_move rfl) ?_
        refine WL_split (d := 37) rfl (fun _h37 => ?_) (fun _h37 => ?_)
        · have _h37 := bt_d _h37
          refine WL_skip rfl rfl ?_
          refine WL_skip rfl rfl ?_
          refine WL_skip rfl rfl ?_
          refine WL_skip rfl rfl ?_
          refine WL_step rfl rfl (r_pickT rfl rfl) ?_
          refine WL_nil ?_
          refine thn_nrm (_hK_56 _ _ ?_)
          clear _hK_56
          refine W_condT rfl ?_
          refine W_seq fun _K_57 _hK_57 => ?_
          refine W_region ?_
          refine WL_step rfl rfl (r_assign rfl) ?_
          refine WL_nil ?_
          refine thn_nrm (_hK_57 _ _ ?_)
          clear _hK_57
          refine W_ret (thn_ret ?_)
          clear _hK_55
          exact ret_intro [_] ⟨rfl, trivial⟩ ⟨congrArg Value.bool (by first | rfl | (exfalso; omega) | (exfalso; revert _h31; simp; done) | (exfalso; revert _h31; simp; omega)), E⟩
        · have _h37 := bf_d _h37
          have _f_58 := (((((_m_30.ch0 _cw_36).ch0 _cw_40).ch0 _cw_44).ch0 _cw_47).ch _cw_54 (fun hm => by have _h1 := _lo20 _ hm; have _h2 := _hiu20 _ hm; omega))
          refine WL_step rfl rfl (r_loadAtA0 _f_58.at_ agg28 sz28 rfl) ?_
          have _f_59 := (((((_f_33.ch0 _cw_36).ch0 _cw_40).ch0 _cw_44).ch0 _cw_47).ch _cw_54 (fun hm => by have _h1 := _lo20 _ hm; have _h2 := _hiu20 _ hm; omega))
          refine WL_step rfl rfl (r_loadAtA0 _f_59.at_ agg28 sz28 rfl) ?_
          refine WL_s rfl rfl ?_
          have _f_60 := (((((_f_34.ch0 _cw_36).ch0 _cw_40).ch0 _cw_44).ch0 _cw_47).ch _cw_54 (fun g hg hm => by have _h1 := _lo20 _ hm; have _h2 := _hiu20 _ hm; have _h3 := _lo22 _ hg; have _h4 := _hiu22 _ hg; omega))
          have _f_61 := (((((_f_35.ch0 _cw_36).ch0 _cw_40).ch0 _cw_44).ch0 _cw_47).ch _cw_54 (fun g hg hm => by have _h1 := _lo20 _ hm; have _h2 := _hiu20 _ hm; have _h3 := _lo18 _ hg; have _h4 := _hiu18 _ hg; omega))
          refine Step.call (r_call (xs := [.tmp 38, .tmp 39]) fk19 rfl) (c_laws_eqExpr _f_60.ls _f_61.ls ) fun _v40 _w_62 _q40 => ?_
          obtain ⟨rfl, _cw_62⟩ := _q40
          have _cw_62z := _cw_62.size
          have E := E.trans _cw_62
          refine WL_step rfl rfl (r_not rfl) ?_
          refine WL_step rfl rfl (r_pickF rfl rfl) ?_
          refine WL_nil ?_
          refine thn_nrm (_hK_56 _ _ ?_)
          clear _hK_56
          refine W_cond rfl (fun _h42 => ?_) (fun _h42 => ?_)
          · have _h42 := bf_d (bt_n _h42)
            refine W_seq fun _K_63 _hK_63 => ?_
            refine W_region ?_
            refine WL_step rfl rfl (r_assign rfl) ?_
            refine WL_nil ?_
            refine thn_nrm (_hK_63 _ _ ?_)
            clear _hK_63
            refine W_ret (thn_ret ?_)
            clear _hK_55
            exact ret_intro [_] ⟨rfl, trivial⟩ ⟨congrArg Value.bool (by first | rfl | (exfalso; omega) | (exfalso; revert _h42; simp; done) | (exfalso; revert _h42; simp; omega)), E⟩
          · have _h42 := bt_d (bf_n _h42)
            refine W_skip ?_
            refine thn_nrm (_hK_55 _ _ ?_)
            clear _hK_55
            refine W_seq fun _K_64 _hK_64 => ?_
            refine W_region ?_
            refine WL_step rfl rfl (r_assign rfl) ?_
            refine WL_nil ?_
            refine thn_nrm (_hK_64 _ _ ?_)
            clear _hK_64
            refine W_seq fun _K_65 _hK_65 => ?_
            refine W_region ?_
            have _f_66 := (_f_58.ch0 _cw_62)
            refine WL_step rfl rfl (r_loadAtA0 _f_66.at_ agg28 sz28 rfl) ?_
            refine WL_step rfl rfl (r_move rfl) ?_
            refine WL_s rfl rfl ?_
            have _f_67 := (_f_60.ch0 _cw_62)
            refine Step.call (r_call (xs := [.tmp 43, .tmp 44]) fk20 rfl) (c_laws_markExpr _f_67 _ (by omega) (by first | omega | (simp <;> omega))) fun _v45 _w_68 _q45 => ?_
            obtain ⟨rfl, _q45, _cw_68⟩ := _q45
            have _cw_68z := _cw_68.size
            have E := E.step _cw_68 (fun i hi => .inl (by have _h1 := _lo22 _ hi; omega))
            refine WL_step rfl rfl (r_assign rfl) ?_
            refine WL_nil ?_
            refine thn_nrm (_hK_65 _ _ ?_)
            clear _hK_65
            refine W_seq fun _K_69 _hK_69 => ?_
            refine W_region ?_
            refine WL_step rfl rfl (r_assign rfl) ?_
            refine WL_nil ?_
            refine thn_nrm (_hK_69 _ _ ?_)
            clear _hK_69
            refine W_seq fun _K_70 _hK_70 => ?_
            refine W_region ?_
            have _f_71 := (_f_66.ch _cw_68 (fun hm => by have _h1 := _lo22 _ hm; have _h2 := _hiu22 _ hm; omega))
            refine WL_step rfl rfl (r_loadAtA0 _f_71.at_ agg28 sz28 rfl) ?_
            refine WL_step rfl rfl (r_move rfl) ?_
            refine WL_s rfl rfl ?_
            refine Step.call (r_call (xs := [.tmp 46, .tmp 47]) fk21 rfl) (c_laws_heldExpr _q45.ls _ (by omega) (by first | omega | (simp <;> omega))) fun _v48 _w_72 _q48 => ?_
            obtain ⟨rfl, _cw_72⟩ := _q48
            have _cw_72z := _cw_72.size
            have E := E.trans _cw_72
            refine WL_step rfl rfl (r_assign rfl) ?_
            refine WL_nil ?_
            refine thn_nrm (_hK_70 _ _ ?_)
            clear _hK_70
            refine W_seq fun _K_73 _hK_73 => ?_
            refine W_seq fun _K_74 _hK_74 => ?_
            refine W_region ?_
            refine WL_step rfl rfl (r_move rfl) ?_
            refine WL_step rfl rfl (r_lss rfl rfl) ?_
            refine WL_nil ?_
            refine thn_nrm (_hK_74 _ _ ?_)
            clear _hK_74
            refine W_cond rfl (fun _h50 => ?_) (fun _h50 => ?_)
            · have _h50 := bt_d _h50
              refine W_seq fun _K_75 _hK_75 => ?_
              refine W_region ?_
              refine WL_step rfl rfl (r_assign rfl) ?_
              refine WL_nil ?_
              refine thn_nrm (_hK_75 _ _ ?_)
              clear _hK_75
              refine W_ret (thn_ret ?_)
              clear _hK_73
              exact ret_intro [_] ⟨rfl, trivial⟩ ⟨congrArg Value.bool (by first | rfl | (exfalso; omega) | (exfalso; revert _h50; simp; done) | (exfalso; revert _h50; simp; omega)), E⟩
            · have _h50 := bf_d _h50
              refine W_skip ?_
              refine thn_nrm (_hK_73 _ _ ?_)
              clear _hK_73
              refine W_seq fun _K_76 _hK_76 => ?_
              refine W_seq fun _K_77 _hK_77 => ?_
              refine W_region ?_
              refine WL_step rfl rfl (r_move rfl) ?_
              refine WL_step rfl rfl (r_move rfl) ?_
              refine WL_step rfl rfl (r_neq rfl rfl) ?_
              refine WL_nil ?_
              refine thn_nrm (_hK_77 _ _ ?_)
              clear _hK_77
              refine W_cond rfl (fun _h53 => ?_) (fun _h53 => ?_)
              · have _h53 := bf_d (bt_n _h53)
                refine W_seq fun _K_78 _hK_78 => ?_
                refine W_region ?_
                refine WL_step rfl rfl (r_assign rfl) ?_
                refine WL_nil ?_
                refine thn_nrm (_hK_78 _ _ ?_)
                clear _hK_78
                refine W_ret (thn_ret ?_)
                clear _hK_76
                exact ret_intro [_] ⟨rfl, trivial⟩ ⟨congrArg Value.bool (by first | rfl | (exfalso; omega) | (exfalso; revert _h53; simp; done) | (exfalso; revert _h53; simp; omega)), E⟩
              · have _h53 := bt_d (bf_n _h53)
                refine W_skip ?_
                refine thn_nrm (_hK_76 _ _ ?_)
                clear _hK_76
                refine W_seq fun _K_79 _hK_79 => ?_
                refine W_region ?_
                have _f_80 := ((((((_f_42.ch0 _cw_44).ch0 _cw_47).ch _cw_54 (fun hm => by have _h1 := _lo20 _ hm; have _h2 := _hiu20 _ hm; omega)).ch0 _cw_62).ch _cw_68 (fun hm => by have _h1 := _lo22 _ hm; have _h2 := _hiu22 _ hm; omega)).ch0 _cw_72)
                refine WL_step rfl rfl (r_loadAtA0 _f_80.at_ agg24 sz24 rfl) ?_
                refine WL_s rfl rfl ?_
                have _f_81 := ((((((_f_43.ch0 _cw_44).ch0 _cw_47).ch _cw_54 (fun i hi => by have _h1 := _lo20 _ hi; omega)).ch0 _cw_62).ch _cw_68 (fun i hi => by have _h1 := _lo22 _ hi; omega)).ch0 _cw_72)
                refine Step.call (r_call (xs := [.tmp 54]) fk17 rfl) (c_laws_toExpr _f_81 (by omega)) fun _v55 _w_82 _q55 => ?_
                obtain ⟨_u55, rfl, _q55, _lo55, _cw_82⟩ := _q55
                have _cw_82z := _cw_82.size
                have E := E.trans _cw_82
                obtain ⟨_Au55, _Cu55, _eu55⟩ := _q55.val
                subst _eu55
                have _lu55 := _q55.len
                have _hiu55 := _q55.lt
                refine WL_s rfl rfl ?_
                refine Step.call (r_call (xs := [.tmp 55]) fk23 rfl) (c_impl_StarExpr _q55.ls (by omega)) fun _v56 _w_83 _q56 => ?_
                obtain ⟨_u56, rfl, _q56, _lo56, _cw_83⟩ := _q56
                have _cw_83z := _cw_83.size
                have E := E.trans _cw_83
                obtain ⟨_Au56, _Cu56, _eu56⟩ := _q56.val
                subst _eu56
                have _lu56 := _q56.len
                have _hiu56 := _q56.lt
                refine WL_s rfl rfl ?_
                refine s_alloc zr28 fun _b10 _w_84 _m10 _cw_84 _e10 => ?_
                have _cw_84z := _cw_84.size
                have E := E.trans _cw_84
                have _z10 := _m10.lt
                replace _m10 : Blk _w_84 _b10 28 [(.slice none 0 0)] := _m10
                refine WL_s rfl rfl ?_
                refine s_storeA (off := 0) 1 _m10 sz28 rfl (us := [(.slice _Au56 (starE e).length _Cu56)]) rfl rfl rfl rfl fun _w_85 _m_86 _cw_85 => ?_
                have _cw_85z := _cw_85.size
                have E := E.step _cw_85 (fun i hi => .inl (by have _h1 := List.mem_singleton.1 hi; omega))
                replace _m_86 : Blk _w_85 _b10 28 [(.slice _Au56 (starE e).length _Cu56)] := _m_86
                refine WL_nil ?_
                refine thn_nrm (_hK_79 _ _ ?_)
                clear _hK_79
                refine W_seq fun _K_87 _hK_87 => ?_
                refine W_seq fun _K_88 _hK_88 => ?_
                refine W_region ?_
                refine WL_step rfl rfl (r_loadAtA0 _m_86.at_ agg28 sz28 rfl) ?_
                have _f_89 := (((((((_f_59.ch0 _cw_62).ch _cw_68 (fun hm => by have _h1 := _lo22 _ hm; have _h2 := _hiu22 _ hm; omega)).ch0 _cw_72).ch0 _cw_82).ch0 _cw_83).ch0 _cw_84).ch _cw_85 (fun hm => by have _h1 := List.mem_singleton.1 hm; omega))
                refine WL_step rfl rfl (r_loadAtA0 _f_89.at_ agg28 sz28 rfl) ?_
                refine WL_s rfl rfl ?_
                have _f_90 := ((_q56.ch0 _cw_84).ch _cw_85 (fun g hg hm => by have _h0 := List.mem_singleton.1 hm; have _h2 := _lo56 _ hg; have _h3 := _hiu56 _ hg; omega))
                have _f_91 := (((((((_f_61.ch0 _cw_62).ch _cw_68 (fun g hg hm => by have _h1 := _lo22 _ hm; have _h2 := _hiu22 _ hm; have _h3 := _lo18 _ hg; have _h4 := _hiu18 _ hg; omega)).ch0 _cw_72).ch0 _cw_82).ch0 _cw_83).ch0 _cw_84).ch _cw_85 (fun g hg hm => by have _h0 := List.mem_singleton.1 hm; have _h2 := _lo18 _ hg; have _h3 := _hiu18 _ hg; omega))
                refine Step.call (r_call (xs := [.tmp 57, .tmp 58]) fk19 rfl) (c_laws_eqExpr _f_90.ls _f_91.ls ) fun _v59 _w_92 _q59 => ?_
                obtain ⟨rfl, _cw_92⟩ := _q59
                have _cw_92z := _cw_92.size
                have E := E.trans _cw_92
                refine WL_step rfl rfl (r_not rfl) ?_
                refine WL_nil ?_
                refine thn_nrm (_hK_88 _ _ ?_)
                clear _hK_88
                refine W_cond rfl (fun _h60 => ?_) (fun _h60 => ?_)
                · have _h60 := bf_d (bt_n _h60)
                  refine W_seq fun _K_93 _hK_93 => ?_
                  refine W_region ?_
                  refine WL_step rfl rfl (r_assign rfl) ?_
                  refine WL_nil ?_
                  refine thn_nrm (_hK_93 _ _ ?_)
                  clear _hK_93
                  refine W_ret (thn_ret ?_)
                  clear _hK_87
                  exact ret_intro [_] ⟨rfl, trivial⟩ ⟨congrArg Value.bool (by first | rfl | (exfalso; omega) | (exfalso; revert _h60; simp; done) | (exfalso; revert _h60; simp; omega)), E⟩
                · have _h60 := bt_d (bf_n _h60)
                  refine W_skip ?_
                  refine thn_nrm (_hK_87 _ _ ?_)
                  clear _hK_87
                  refine W_seq fun _K_94 _hK_94 => ?_
                  refine W_region ?_
                  refine WL_step rfl rfl (r_assign rfl) ?_
                  refine WL_nil ?_
                  refine thn_nrm (_hK_94 _ _ ?_)
                  clear _hK_94
                  refine W_seq fun _K_95 _hK_95 => ?_
                  refine W_region ?_
                  have _f_96 := ((((((_f_71.ch0 _cw_72).ch0 _cw_82).ch0 _cw_83).ch0 _cw_84).ch _cw_85 (fun hm => by have _h1 := List.mem_singleton.1 hm; omega)).ch0 _cw_92)
                  refine WL_step rfl rfl (r_loadAtA0 _f_96.at_ agg28 sz28 rfl) ?_
                  refine WL_step rfl rfl (r_move rfl) ?_
                  refine WL_s rfl rfl ?_
                  have _f_97 := ((((((_q45.ch0 _cw_72).ch0 _cw_82).ch0 _cw_83).ch0 _cw_84).ch _cw_85 (fun g hg hm => by have _h0 := List.mem_singleton.1 hm; have _h2 := _lo22 _ hg; have _h3 := _hiu22 _ hg; omega)).ch0 _cw_92)
                  refine Step.call (r_call (xs := [.tmp 61, .tmp 62]) fk21 rfl) (c_laws_heldExpr _f_97.ls _ (by omega) (by first | omega | (simp <;> omega))) fun _v63 _w_98 _q63 => ?_
                  obtain ⟨rfl, _cw_98⟩ := _q63
                  have _cw_98z := _cw_98.size
                  have E := E.trans _cw_98
                  refine WL_step rfl rfl (r_assign rfl) ?_
                  refine WL_nil ?_
                  refine thn_nrm (_hK_95 _ _ ?_)
                  clear _hK_95
                  refine W_seq fun _K_99 _hK_99 => ?_
                  refine W_seq fun _K_100 _hK_100 => ?_
                  refine W_region ?_
                  refine WL_step rfl rfl (r_move rfl) ?_
                  refine WL_step rfl rfl (r_lss rfl rfl) ?_
                  refine WL_nil ?_
                  refine thn_nrm (_hK_100 _ _ ?_)
                  clear _hK_100
                  refine W_cond rfl (fun _h65 => ?_) (fun _h65 => ?_)
                  · have _h65 := bt_d _h65
                    refine W_seq fun _K_101 _hK_101 => ?_
                    refine W_region ?_
                    refine WL_step rfl rfl (r_assign rfl) ?_
                    refine WL_nil ?_
                    refine thn_nrm (_hK_101 _ _ ?_)
                    clear _hK_101
                    refine W_ret (thn_ret ?_)
                    clear _hK_99
                    exact ret_intro [_] ⟨rfl, trivial⟩ ⟨congrArg Value.bool (by first | rfl | (exfalso; omega) | (exfalso; revert _h65; simp; done) | (exfalso; revert _h65; simp; omega)), E⟩
                  · have _h65 := bf_d _h65
                    refine W_skip ?_
                    refine thn_nrm (_hK_99 _ _ ?_)
                    clear _hK_99
                    refine W_seq fun _K_102 _hK_102 => ?_
                    refine W_seq fun _K_103 _hK_103 => ?_
                    refine W_region ?_
                    refine WL_step rfl rfl (r_move rfl) ?_
                    refine WL_step rfl rfl (r_move rfl) ?_
                    refine WL_step rfl rfl (r_neq rfl rfl) ?_
                    refine WL_nil ?_
                    refine thn_nrm (_hK_103 _ _ ?_)
                    clear _hK_103
                    refine W_cond rfl (fun _h68 => ?_) (fun _h68 => ?_)
                    · have _h68 := bf_d (bt_n _h68)
                      refine W_seq fun _K_104 _hK_104 => ?_
                      refine W_region ?_
                      refine WL_step rfl rfl (r_assign rfl) ?_
                      refine WL_nil ?_
                      refine thn_nrm (_hK_104 _ _ ?_)
                      clear _hK_104
                      refine W_ret (thn_ret ?_)
                      clear _hK_102
                      exact ret_intro [_] ⟨rfl, trivial⟩ ⟨congrArg Value.bool (by first | rfl | (exfalso; omega) | (exfalso; revert _h68; simp; done) | (exfalso; revert _h68; simp; omega)), E⟩
                    · have _h68 := bt_d (bf_n _h68)
                      refine W_skip ?_
                      refine thn_nrm (_hK_102 _ _ ?_)
                      clear _hK_102
                      refine W_seq fun _K_105 _hK_105 => ?_
                      refine W_region ?_
                      refine WL_step rfl rfl (r_assign rfl) ?_
                      refine WL_nil ?_
                      refine thn_nrm (_hK_105 _ _ ?_)
                      clear _hK_105
                      refine W_ret ?_
                      exact ret_intro [_] ⟨rfl, trivial⟩ ⟨congrArg Value.bool (by first | rfl | (exfalso; omega) | (exfalso; revert _h68; simp; done) | (exfalso; revert _h68; simp; omega)), E⟩

end Go.Proofs.Ytbchbheojbgceaa
