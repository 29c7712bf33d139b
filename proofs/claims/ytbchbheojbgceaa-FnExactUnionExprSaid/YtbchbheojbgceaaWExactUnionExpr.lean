/- The walks of all functions that FnExactUnionExpr reaches: what each returns, and that it leaves the memory that was there alone. -/
import Derived.Test.YtbchbheojbgceaaKF
import Derived.Test.YtbchbheojbgceaaKG
import Derived.Test.YtbchbheojbgceaaKH
import Derived.Test.YtbchbheojbgceaaKI
import Derived.Test.YtbchbheojbgceaaKJ
import Derived.Test.YtbchbheojbgceaaKM
import Derived.Test.YtbchbheojbgceaaKN
import Derived.Test.YtbchbheojbgceaaProg
namespace Go.Proofs.Ytbchbheojbgceaa
open Go.KLib
set_option maxRecDepth 20000
theorem agg22 : aggB Try.prog 22 = some false := by kernel_rfl
theorem agg24 : aggB Try.prog 24 = some true := by kernel_rfl
theorem agg26 : aggB Try.prog 26 = some false := by kernel_rfl
theorem agg28 : aggB Try.prog 28 = some true := by kernel_rfl
theorem agg3 : aggB Try.prog 3 = some false := by kernel_rfl
theorem agg55 : aggB Try.prog 55 = some true := by kernel_rfl
theorem agg78 : aggB Try.prog 78 = some true := by kernel_rfl
theorem by55 : bytesB Try.prog 55 = some 32 := by kernel_rfl
theorem el22 : elB Try.prog 22 = some 78 := by kernel_rfl
theorem el26 : elB Try.prog 26 = some 55 := by kernel_rfl
theorem el79 : elB Try.prog 79 = some 28 := by kernel_rfl
theorem fa24_0 : faB Try.prog 24 0 = some 0 := by kernel_rfl
theorem fa28_0 : faB Try.prog 28 0 = some 0 := by kernel_rfl
theorem fa55_0 : faB Try.prog 55 0 = some 0 := by kernel_rfl
theorem fa55_1 : faB Try.prog 55 1 = some 1 := by kernel_rfl
theorem fa55_2 : faB Try.prog 55 2 = some 2 := by kernel_rfl
theorem fa55_3 : faB Try.prog 55 3 = some 3 := by kernel_rfl
theorem fa78_0 : faB Try.prog 78 0 = some 0 := by kernel_rfl
theorem fa78_1 : faB Try.prog 78 1 = some 1 := by kernel_rfl
theorem fa78_2 : faB Try.prog 78 2 = some 2 := by kernel_rfl
theorem fa78_3 : faB Try.prog 78 3 = some 3 := by kernel_rfl
theorem fk15 : fnB Try.prog 15 = true := by kernel_rfl
theorem fk17 : fnB Try.prog 17 = true := by kernel_rfl
theorem fk19 : fnB Try.prog 19 = true := by kernel_rfl
theorem fk20 : fnB Try.prog 20 = true := by kernel_rfl
theorem fk21 : fnB Try.prog 21 = true := by kernel_rfl
theorem fk30 : fnB Try.prog 30 = true := by kernel_rfl
theorem fk31 : fnB Try.prog 31 = true := by kernel_rfl
theorem fk47 : fnB Try.prog 47 = true := by kernel_rfl
theorem fk49 : fnB Try.prog 49 = true := by kernel_rfl
theorem fk50 : fnB Try.prog 50 = true := by kernel_rfl
theorem fk52 : fnB Try.prog 52 = true := by kernel_rfl
theorem fk53 : fnB Try.prog 53 = true := by kernel_rfl
theorem fk54 : fnB Try.prog 54 = true := by kernel_rfl
theorem fk55 : fnB Try.prog 55 = true := by kernel_rfl
theorem fk56 : fnB Try.prog 56 = true := by kernel_rfl
theorem fk57 : fnB Try.prog 57 = true := by kernel_rfl
theorem fk58 : fnB Try.prog 58 = true := by kernel_rfl
theorem fk59 : fnB Try.prog 59 = true := by kernel_rfl
theorem fk62 : fnB Try.prog 62 = true := by kernel_rfl
theorem fk63 : fnB Try.prog 63 = true := by kernel_rfl
theorem fk78 : fnB Try.prog 78 = true := by kernel_rfl
theorem fk79 : fnB Try.prog 79 = true := by kernel_rfl
theorem fk83 : fnB Try.prog 83 = true := by kernel_rfl
theorem ist55 : intStructB Try.prog 55 4 = true := by kernel_rfl
theorem mixed : Try.prog.follows .mixedOrders = true := by kernel_rfl
theorem pl28 : placesB Try.prog 28 = some [(0, 1)] := by kernel_rfl
theorem pl55 : placesB Try.prog 55 = some [(0, 1), (1, 1), (2, 1), (3, 1)] := by kernel_rfl
theorem sz24 : sizeB Try.prog 24 = some 1 := by kernel_rfl
theorem sz26 : sizeB Try.prog 26 = some 1 := by kernel_rfl
theorem sz28 : sizeB Try.prog 28 = some 1 := by kernel_rfl
theorem sz3 : sizeB Try.prog 3 = some 1 := by kernel_rfl
theorem sz55 : sizeB Try.prog 55 = some 4 := by kernel_rfl
theorem sz78 : sizeB Try.prog 78 = some 4 := by kernel_rfl
theorem zr28 : zeroB Try.prog 28 = some (.agg #[.slice none 0 0]) := by kernel_rfl
theorem zr55 : zeroB Try.prog 55 = some (.agg #[.int .i64 0, .int .i64 0, .int .i64 0, .int .i64 0]) := by kernel_rfl

/-- slices.Equal[[]impl.Token,impl.Token] -/
theorem c_slices_Equal_impl_Token_impl_Token {w : World} {_B_a : Nat} {_v_a : Value} {a : List Token} (_h_a : Ls Token.cs 4 w _B_a _v_a a) {_B_b : Nat} {_v_b : Value} {b : List Token} (_h_b : Ls Token.cs 4 w _B_b _v_b b) :
    Ctr Try.prog 83 #[_v_a, _v_b] w (fun v w' => v = .bool (decide (a = b)) ∧ Ch [] w w') := by
  obtain ⟨_A_a, _C_a, _e1_a⟩ := _h_a.val
  subst _e1_a
  have _l_a := _h_a.len
  have _h_a := _h_a.here (by decide)
  obtain ⟨_A_b, _C_b, _e1_b⟩ := _h_b.val
  subst _e1_b
  have _l_b := _h_b.len
  have _h_b := _h_b.here (by decide)
  have E := Ch.refl [] w
  refine Ctr_of_W (N := 26) (vs0 := [(.slice _A_a a.length _C_a), (.slice _A_b b.length _C_b)]) Try.func83 rfl rfl rfl ?_
  refine W_seq fun _K_1 _hK_1 => ?_
  refine W_region ?_
  refine WL_step rfl rfl (r_assign rfl) ?_
  refine WL_nil ?_
  refine thn_nrm (_hK_1 _ _ ?_)
  clear _hK_1
  refine W_seq fun _K_2 _hK_2 => ?_
  refine W_seq fun _K_3 _hK_3 => ?_
  refine W_region ?_
  refine WL_step rfl rfl (r_move rfl) ?_
  refine WL_step rfl rfl (r_len (by rw [el26]; rfl) rfl) ?_
  refine WL_step rfl rfl (r_move rfl) ?_
  refine WL_step rfl rfl (r_len (by rw [el26]; rfl) rfl) ?_
  refine WL_step rfl rfl (r_neq rfl rfl) ?_
  refine WL_nil ?_
  refine thn_nrm (_hK_3 _ _ ?_)
  clear _hK_3
  refine W_cond rfl (fun _h10 => ?_) (fun _h10 => ?_)
  · have _h10 := bf_d (bt_n _h10)
    refine W_seq fun _K_4 _hK_4 => ?_
    refine W_region ?_
    refine WL_step rfl rfl (r_assign rfl) ?_
    refine WL_nil ?_
    refine thn_nrm (_hK_4 _ _ ?_)
    clear _hK_4
    refine W_ret (thn_ret ?_)
    clear _hK_2
    exact ret_intro [_] ⟨rfl, trivial⟩ ⟨congrArg Value.bool (decide_eq_false (fun e => _h10 (by rw [e]))).symm, E⟩
  · have _h10 := bt_d (bf_n _h10)
    refine W_skip ?_
    refine thn_nrm (_hK_2 _ _ ?_)
    clear _hK_2
    refine W_seq fun _K_5 _hK_5 => ?_
    refine W_seq fun _K_6 _hK_6 => ?_
    refine W_region ?_
    refine WL_step rfl rfl (r_move rfl) ?_
    refine WL_step rfl rfl (r_len (by rw [el26]; rfl) rfl) ?_
    refine WL_step rfl rfl (r_move rfl) ?_
    refine WL_nil ?_
    refine thn_nrm (_hK_6 _ _ ?_)
    clear _hK_6
    refine W_block ?_
    refine W_loop (σ := Nat) (fun (k : Nat) => [(0, (.slice _A_a a.length _C_a)), (1, (.slice _A_b b.length _C_b)), (6, (.slice _A_a a.length _C_a)), (7, (.int .i64 ((a.length : Nat) : Int))), (8, (.slice _A_b b.length _C_b)), (9, (.int .i64 ((b.length : Nat) : Int))), (10, (.bool (!decide (((a.length : Nat) : Int) = ((b.length : Nat) : Int))))), (11, (.slice _A_a a.length _C_a)), (12, (.int .i64 ((a.length : Nat) : Int))), (13, (.int .i64 ((k : Nat) : Int)))]) (fun (k : Nat) wx => Ch [] w wx ∧ w.heap.size ≤ wx.heap.size ∧ k ≤ a.length ∧ a.take k = b.take k) (fun (k : Nat) => a.length - k) 0 (Sub.cons rfl (Sub.cons rfl (Sub.cons rfl (Sub.cons rfl (Sub.cons rfl (Sub.cons rfl (Sub.cons rfl (Sub.cons rfl (Sub.cons rfl (Sub.cons rfl (Sub.nil _))))))))))) ⟨E, (Nat.le_refl _), (by omega), rfl⟩ ?_
    rintro k _wr_7 ⟨E, _zz0, _hk, _ht⟩
    have _E0h := E
    have _E0hz := _E0h.size
    refine W_seq fun _K_8 _hK_8 => ?_
    refine W_region ?_
    refine WL_step rfl rfl (r_lss rfl rfl) ?_
    refine WL_nil ?_
    refine thn_nrm (_hK_8 _ _ ?_)
    clear _hK_8
    refine W_seq fun _K_9 _hK_9 => ?_
    refine W_cond rfl (fun _h14 => ?_) (fun _h14 => ?_)
    · have _h14 := bt_d _h14
      refine W_skip ?_
      refine thn_nrm (_hK_9 _ _ ?_)
      clear _hK_9
      refine W_seq fun _K_10 _hK_10 => ?_
      refine W_block ?_
      refine W_seq fun _K_11 _hK_11 => ?_
      refine W_region ?_
      refine WL_step rfl rfl (r_move rfl) ?_
      refine WL_step rfl rfl (r_assign rfl) ?_
      refine WL_nil ?_
      refine thn_nrm (_hK_11 _ _ ?_)
      clear _hK_11
      refine W_seq fun _K_12 _hK_12 => ?_
      refine W_drawC [] 9 mixed rfl fun _w_13 _cw_13 => ?_
      have _cw_13z := _cw_13.size
      have E := E.trans _cw_13
      refine DR_s 0 rfl (by kernel_rfl) rfl rfl (t_v (fun _ => (r_move rfl)) ?_)
      refine DR_s 1 rfl (by kernel_rfl) rfl rfl (t_v (fun _ => (r_move rfl)) ?_)
      have _f_14 := ((_h_a.ch0 _E0h).ch0 _cw_13)
      refine DR_s 2 rfl (by kernel_rfl) rfl rfl (t_index _f_14 Token.len el26 sz55 rfl rfl rfl (by omega) fun _p18 _y18 _hy18 _a18 => ?_)
      refine DR_s 3 rfl (by kernel_rfl) rfl rfl (t_loadAtA0 _a18 (fun i hi => by first | exact absurd hi (List.not_mem_nil) | (have _h1 := List.mem_singleton.1 hi; omega)) agg55 sz55 rfl ?_)
      refine DR_s 4 rfl (by kernel_rfl) rfl rfl (t_v (fun _ => (r_move rfl)) ?_)
      refine DR_s 5 rfl (by kernel_rfl) rfl rfl (t_v (fun _ => (r_move rfl)) ?_)
      have _f_15 := ((_h_b.ch0 _E0h).ch0 _cw_13)
      refine DR_s 6 rfl (by kernel_rfl) rfl rfl (t_index _f_15 Token.len el26 sz55 rfl rfl rfl (by omega) fun _p22 _y22 _hy22 _a22 => ?_)
      refine DR_s 7 rfl (by kernel_rfl) rfl rfl (t_loadAtA0 _a22 (fun i hi => by first | exact absurd hi (List.not_mem_nil) | (have _h1 := List.mem_singleton.1 hi; omega)) agg55 sz55 rfl ?_)
      refine DR_s 8 rfl (by kernel_rfl) rfl rfl (t_v (fun _ => (r_neqI [_y18.kind, _y18.letter, _y18.low, _y18.high] [_y22.kind, _y22.letter, _y22.low, _y22.high] ist55 rfl rfl rfl)) ?_)
      refine DR_done (by kernel_rfl) ?_
      refine thn_nrm (_hK_12 _ _ ?_)
      clear _hK_12
      refine W_cond rfl (fun _h24 => ?_) (fun _h24 => ?_)
      · have _h24 := bf_d (bt_n _h24)
        refine W_seq fun _K_16 _hK_16 => ?_
        refine W_region ?_
        refine WL_step rfl rfl (r_assign rfl) ?_
        refine WL_nil ?_
        refine thn_nrm (_hK_16 _ _ ?_)
        clear _hK_16
        refine W_ret (inB_ret (thn_ret (thn_ret (inB_ret (thn_ret ?_)))))
        clear _hK_5 _hK_10
        exact ret_intro [_] ⟨rfl, trivial⟩ ⟨congrArg Value.bool (decide_eq_false (ne_of_get _hy18 _hy22 (fun e => _h24 (by rw [e])))).symm, E⟩
      · have _h24 := bt_d (bf_n _h24)
        refine W_skip ?_
        refine inB_nrm ?_
        refine thn_nrm (_hK_10 _ _ ?_)
        clear _hK_10
        refine W_region ?_
        refine WL_step rfl rfl (r_add (by omega) rfl rfl) ?_
        refine WL_step rfl rfl (r_move rfl) ?_
        refine WL_nil ?_
        exact thn_nrm (Exists.intro (k + 1) ⟨⟨E, (by omega), (by omega), (take_eq_succ _ht _hy18 _hy22 (Token.inj _h24))⟩, Sub.cons rfl (Sub.cons rfl (Sub.cons rfl (Sub.cons rfl (Sub.cons rfl (Sub.cons rfl (Sub.cons rfl (Sub.cons rfl (Sub.cons rfl (Sub.cons rfl (Sub.nil _)))))))))), (by first | omega | (dsimp only; omega))⟩)
    · have _h14 := bf_d _h14
      refine W_exit (thn_exit (thn_exit (inB_hit ?_)))
      refine thn_nrm (_hK_5 _ _ ?_)
      clear _hK_5
      refine W_seq fun _K_17 _hK_17 => ?_
      refine W_region ?_
      refine WL_step rfl rfl (r_assign rfl) ?_
      refine WL_nil ?_
      refine thn_nrm (_hK_17 _ _ ?_)
      clear _hK_17
      refine W_ret ?_
      clear _hK_9
      exact ret_intro [_] ⟨rfl, trivial⟩ ⟨congrArg Value.bool (decide_eq_true (eq_of_take _ht (by omega) (by omega))).symm, E⟩

/-- impl.EqualExprs -/
theorem c_impl_EqualExprs {w : World} {_B_a : Nat} {_v_a : Value} {a : List Token} (_h_a : Ls Token.cs 4 w _B_a _v_a a) {_B_b : Nat} {_v_b : Value} {b : List Token} (_h_b : Ls Token.cs 4 w _B_b _v_b b) :
    Ctr Try.prog 63 #[(.agg #[_v_a]), (.agg #[_v_b])] w (fun v w' => v = .bool (decide (a = b)) ∧ Ch [] w w') := by
  obtain ⟨_A_a, _C_a, _e1_a⟩ := _h_a.val
  subst _e1_a
  have _l_a := _h_a.len
  have _h_a := _h_a.here (by decide)
  obtain ⟨_A_b, _C_b, _e1_b⟩ := _h_b.val
  subst _e1_b
  have _l_b := _h_b.len
  have _h_b := _h_b.here (by decide)
  have E := Ch.refl [] w
  refine Ctr_of_W (N := 10) (vs0 := [(.agg #[(.slice _A_a a.length _C_a)]), (.agg #[(.slice _A_b b.length _C_b)])]) Try.func63 rfl rfl rfl ?_
  refine W_seq fun _K_1 _hK_1 => ?_
  refine W_region ?_
  refine WL_s rfl rfl ?_
  refine s_box rfl fun _b2 _w_2 _m2 _cw_2 _e2 => ?_
  have _cw_2z := _cw_2.size
  have E := E.trans _cw_2
  have _z2 := _m2.lt
  replace _m2 : Blk _w_2 _b2 28 [(.slice _A_a a.length _C_a)] := _m2
  refine WL_s rfl rfl ?_
  refine s_box rfl fun _b3 _w_3 _m3 _cw_3 _e3 => ?_
  have _cw_3z := _cw_3.size
  have E := E.trans _cw_3
  have _z3 := _m3.lt
  replace _m3 : Blk _w_3 _b3 28 [(.slice _A_b b.length _C_b)] := _m3
  refine WL_step rfl rfl (r_assign rfl) ?_
  refine WL_nil ?_
  refine thn_nrm (_hK_1 _ _ ?_)
  clear _hK_1
  refine W_seq fun _K_4 _hK_4 => ?_
  refine W_region ?_
  refine WL_step rfl rfl (r_fieldAddr fa28_0 rfl) ?_
  have _f_5 := (_m2.ch0 _cw_3)
  refine WL_step rfl rfl (r_loadAt _f_5.at_ agg26 rfl rfl) ?_
  refine WL_step rfl rfl (r_fieldAddr fa28_0 rfl) ?_
  refine WL_step rfl rfl (r_loadAt _m3.at_ agg26 rfl rfl) ?_
  refine WL_s rfl rfl ?_
  have _f_6 := ((_h_a.ch0 _cw_2).ch0 _cw_3)
  have _f_7 := ((_h_b.ch0 _cw_2).ch0 _cw_3)
  refine Step.call (r_call (xs := [.tmp 6, .tmp 8]) fk83 rfl) (c_slices_Equal_impl_Token_impl_Token _f_6 _f_7 ) fun _v9 _w_8 _q9 => ?_
  obtain ⟨rfl, _cw_8⟩ := _q9
  have _cw_8z := _cw_8.size
  have E := E.trans _cw_8
  refine WL_step rfl rfl (r_assign rfl) ?_
  refine WL_nil ?_
  refine thn_nrm (_hK_4 _ _ ?_)
  clear _hK_4
  refine W_ret ?_
  exact ret_intro [_] ⟨rfl, trivial⟩ ⟨congrArg Value.bool rfl, E⟩

/-- impl.alone -/
theorem c_impl_alone {w : World} {_B_e : Nat} {_v_e : Value} {e : List Token} (_h_e : Ls Token.cs 4 w _B_e _v_e e) (kind : Int) :
    Ctr Try.prog 58 #[(.agg #[_v_e]), (.int .i64 kind)] w (fun v w' => v = .bool (isK e kind) ∧ Ch [] w w') := by
  obtain ⟨_A_e, _C_e, _e1_e⟩ := _h_e.val
  subst _e1_e
  have _l_e := _h_e.len
  have _h_e := _h_e.here (by decide)
  have E := Ch.refl [] w
  refine Ctr_of_W (N := 18) (vs0 := [(.agg #[(.slice _A_e e.length _C_e)]), (.int .i64 kind)]) Try.func58 rfl rfl rfl ?_
  refine W_seq fun _K_1 _hK_1 => ?_
  refine W_region ?_
  refine WL_s rfl rfl ?_
  refine s_box rfl fun _b2 _w_2 _m2 _cw_2 _e2 => ?_
  have _cw_2z := _cw_2.size
  have E := E.trans _cw_2
  have _z2 := _m2.lt
  replace _m2 : Blk _w_2 _b2 28 [(.slice _A_e e.length _C_e)] := _m2
  refine WL_step rfl rfl (r_assign rfl) ?_
  refine WL_nil ?_
  refine thn_nrm (_hK_1 _ _ ?_)
  clear _hK_1
  refine W_seq fun _K_3 _hK_3 => ?_
  refine W_region ?_
  refine WL_step rfl rfl (r_fieldAddr fa28_0 rfl) ?_
  refine WL_step rfl rfl (r_loadAt _m2.at_ agg26 rfl rfl) ?_
  refine WL_step rfl rfl (r_len (by rw [el26]; rfl) rfl) ?_
  refine WL_step rfl rfl (r_eql rfl rfl) ?_
  refine WL_step rfl rfl (r_move rfl) ?_
  refine WL_split (d := 9) rfl (fun _h9 => ?_) (fun _h9 => ?_)
  · have _h9 := bt_d _h9
    refine WL_step rfl rfl (r_fieldAddr fa28_0 rfl) ?_
    refine WL_step rfl rfl (r_loadAt _m2.at_ agg26 rfl rfl) ?_
    refine WL_s rfl rfl ?_
    have _f_4 := (_h_e.ch0 _cw_2)
    refine (s_index (j := 0) _f_4 Token.len el26 sz55 rfl rfl rfl (by omega) fun _p12 _y12 _hy12 _a12 => ?_)
    refine WL_step rfl rfl (r_fieldAddr fa55_0 rfl) ?_
    refine WL_step rfl rfl (r_loadAt _a12 agg3 rfl rfl) ?_
    refine WL_step rfl rfl (r_move rfl) ?_
    refine WL_step rfl rfl (r_eql rfl rfl) ?_
    refine WL_step rfl rfl (r_pickT rfl rfl) ?_
    refine WL_step rfl rfl (r_assign rfl) ?_
    refine WL_nil ?_
    refine thn_nrm (_hK_3 _ _ ?_)
    clear _hK_3
    refine W_ret ?_
    exact ret_intro [_] ⟨rfl, trivial⟩ ⟨congrArg Value.bool (by first | exact isK_n _h9 | exact isK_y _h9 _hy12 | (cases hb : decide (_y12.kind = kind) <;> rw [← hb] <;> exact isK_y _h9 _hy12)), E⟩
  · have _h9 := bf_d _h9
    refine WL_skip rfl rfl ?_
    refine WL_skip rfl rfl ?_
    refine WL_skip rfl rfl ?_
    refine WL_skip rfl rfl ?_
    refine WL_skip rfl rfl ?_
    refine WL_skip rfl rfl ?_
    refine WL_skip rfl rfl ?_
    refine WL_step rfl rfl (r_pickF rfl rfl) ?_
    refine WL_step rfl rfl (r_assign rfl) ?_
    refine WL_nil ?_
    refine thn_nrm (_hK_3 _ _ ?_)
    clear _hK_3
    refine W_ret ?_
    exact ret_intro [_] ⟨rfl, trivial⟩ ⟨congrArg Value.bool (by first | exact isK_n _h9 | exact isK_y _h9 _hy12 | (cases hb : decide (_y12.kind = kind) <;> rw [← hb] <;> exact isK_y _h9 _hy12)), E⟩

/-- impl.copyExpr -/
theorem c_impl_copyExpr {w : World} {_B_e : Nat} {_v_e : Value} {e : List Token} (_h_e : Ls Token.cs 4 w _B_e _v_e e) (hb : e.length ≤ 4194304) :
    Ctr Try.prog 52 #[(.agg #[_v_e])] w (fun v w' => ∃ u, v = .agg #[u] ∧ Ol Token.cs 55 4 w' u (e) ∧ Lo w.heap.size u ∧ Ch [] w w') := by
  obtain ⟨_A_e, _C_e, _e1_e⟩ := _h_e.val
  subst _e1_e
  have _l_e := _h_e.len
  have _h_e := _h_e.here (by decide)
  have E := Ch.refl [] w
  refine Ctr_of_W (N := 8) (vs0 := [(.agg #[(.slice _A_e e.length _C_e)])]) Try.func52 rfl rfl rfl ?_
  refine W_seq fun _K_1 _hK_1 => ?_
  refine W_region ?_
  refine WL_s rfl rfl ?_
  refine s_box rfl fun _b1 _w_2 _m1 _cw_2 _e1 => ?_
  have _cw_2z := _cw_2.size
  have E := E.trans _cw_2
  have _z1 := _m1.lt
  replace _m1 : Blk _w_2 _b1 28 [(.slice _A_e e.length _C_e)] := _m1
  refine WL_s rfl rfl ?_
  refine s_alloc zr28 fun _b2 _w_3 _m2 _cw_3 _e2 => ?_
  have _cw_3z := _cw_3.size
  have E := E.trans _cw_3
  have _z2 := _m2.lt
  replace _m2 : Blk _w_3 _b2 28 [(.slice none 0 0)] := _m2
  refine WL_nil ?_
  refine thn_nrm (_hK_1 _ _ ?_)
  clear _hK_1
  refine W_seq fun _K_4 _hK_4 => ?_
  refine W_region ?_
  refine WL_s rfl rfl ?_
  refine s_buildSlice0 (k := 4) Token.cs el26 sz55 fun _v3 _w_5 _q3 _lo3 _cw_5 => ?_
  have _cw_5z := _cw_5.size
  have E := E.trans _cw_5
  obtain ⟨_Av3, _Cv3, _ev3⟩ := _q3.val
  subst _ev3
  have _lv3 := _q3.len
  have _hiv3 := _q3.lt
  refine WL_step rfl rfl (r_fieldAddr fa28_0 rfl) ?_
  have _f_6 := ((_m1.ch0 _cw_3).ch0 _cw_5)
  refine WL_step rfl rfl (r_loadAt _f_6.at_ agg26 rfl rfl) ?_
  refine WL_s rfl rfl ?_
  have _f_8 := (((_h_e.ch0 _cw_2).ch0 _cw_3).ch0 _cw_5)
  refine s_append (cs := Token.cs) el26 sz55 by55 zr55 rfl (by decide) Token.one _q3 _f_8 rfl rfl (by first | omega | (simp only [List.length_append, List.length_nil, List.length_cons, List.length_replicate, List.length_set, List.length_reverse, List.length_map] at *; omega) | (simp at *; omega)) (by first | omega | (simp only [List.length_append, List.length_nil, List.length_cons, List.length_replicate, List.length_set, List.length_reverse, List.length_map] at *; omega) | (simp at *; omega)) _lo3 (by omega) fun _v6 _w_7 _q6 _lo6 _ap6 _cw_7 => ?_
  have _cw_7z := _cw_7.size
  have E := E.step _cw_7 (fun i hi => .inl (by have _h1 := _lo3 _ hi; omega))
  replace _q6 : Ol Token.cs 55 4 _w_7 _v6 e := _q6
  obtain ⟨_Av6, _Cv6, _ev6⟩ := _q6.val
  subst _ev6
  have _lv6 := _q6.len
  have _hiv6 := _q6.lt
  refine WL_step rfl rfl (r_build (parts := [(0, .tmp 6)]) (cells := [(.slice _Av6 (e).length _Cv6)]) zr28 pl28 rfl rfl) ?_
  refine WL_s rfl rfl ?_
  have _f_9 := ((_m2.ch0 _cw_5).ch _cw_7 (fun hm => by have _h1 := _lo3 _ hm; have _h2 := _hiv3 _ hm; omega))
  refine s_storeA (off := 0) 1 _f_9 sz28 rfl (us := [(.slice _Av6 (e).length _Cv6)]) rfl rfl rfl rfl fun _w_10 _m_11 _cw_10 => ?_
  have _cw_10z := _cw_10.size
  have E := E.step _cw_10 (fun i hi => .inl (by have _h1 := List.mem_singleton.1 hi; omega))
  replace _m_11 : Blk _w_10 _b2 28 [(.slice _Av6 (e).length _Cv6)] := _m_11
  refine WL_nil ?_
  refine thn_nrm (_hK_4 _ _ ?_)
  clear _hK_4
  refine W_ret ?_
  have _f_13 := (_q6.ch _cw_10 (fun g hg hm => by have _h0 := List.mem_singleton.1 hm; rcases _ap6 with ea | ea; (rw [ea] at hg; have _h2 := _lo3 _ hg; have _h3 := _hiv3 _ hg; omega); (rw [ea] at hg; have _z1 := List.mem_singleton.1 hg; omega)))
  have _o_12 : Ol Token.cs 55 4 _w_10 (.slice _Av6 (e).length _Cv6) (e) := by
    have hx := _f_13
    first | exact hx | simpa using hx
  exact ret_intro [_] (resOf_loadA _m_11 rfl agg28 sz28 trivial) ⟨_, rfl, _o_12, Lo.down _lo6 (by omega), E⟩

/-- impl.joined -/
theorem c_impl_joined {w : World} (t : Token) {_B_ses : Nat} {_v_ses : Value} {ses : List Sv} (_h_ses : Ls Sv.cs 1 w _B_ses _v_ses ses) {BB_es : Nat} {es : List (List Token)} (_rd_es : Rd Token.cs 4 w BB_es ses es) (hb : es.flatten.length ≤ 4194304) :
    Ctr Try.prog 53 #[(.agg #[(.int .i64 t.kind), (.int .i64 t.letter), (.int .i64 t.low), (.int .i64 t.high)]), _v_ses] w (fun v w' => ∃ u, v = .agg #[u] ∧ Ol Token.cs 55 4 w' u (es.flatten ++ [t]) ∧ Lo w.heap.size u ∧ Ch [] w w') := by
  obtain ⟨_A_ses, _C_ses, _e1_ses⟩ := _h_ses.val
  subst _e1_ses
  have _l_ses := _h_ses.len
  have _h_ses := _h_ses.here (by decide)
  have _rd_es := _rd_es.here (by decide)
  have _rl_es := _rd_es.1
  have E := Ch.refl [] w
  refine Ctr_of_W (N := 29) (vs0 := [(.agg #[(.int .i64 t.kind), (.int .i64 t.letter), (.int .i64 t.low), (.int .i64 t.high)]), (.slice _A_ses ses.length _C_ses)]) Try.func53 rfl rfl rfl ?_
  refine W_seq fun _K_1 _hK_1 => ?_
  refine W_region ?_
  refine WL_s rfl rfl ?_
  refine s_box rfl fun _b2 _w_2 _m2 _cw_2 _e2 => ?_
  have _cw_2z := _cw_2.size
  have E := E.trans _cw_2
  have _z2 := _m2.lt
  replace _m2 : Blk _w_2 _b2 55 [(.int .i64 t.kind), (.int .i64 t.letter), (.int .i64 t.low), (.int .i64 t.high)] := _m2
  refine WL_s rfl rfl ?_
  refine s_alloc zr28 fun _b4 _w_3 _m4 _cw_3 _e4 => ?_
  have _cw_3z := _cw_3.size
  have E := E.trans _cw_3
  have _z4 := _m4.lt
  replace _m4 : Blk _w_3 _b4 28 [(.slice none 0 0)] := _m4
  refine WL_nil ?_
  refine thn_nrm (_hK_1 _ _ ?_)
  clear _hK_1
  refine W_seq fun _K_4 _hK_4 => ?_
  refine W_region ?_
  refine WL_step rfl rfl (r_build (parts := []) (cells := [(.slice none 0 0)]) zr28 pl28 rfl rfl) ?_
  refine WL_s rfl rfl ?_
  refine s_alloc zr28 fun _b5 _w_5 _m5 _cw_5 _e5 => ?_
  have _cw_5z := _cw_5.size
  have E := E.trans _cw_5
  have _z5 := _m5.lt
  replace _m5 : Blk _w_5 _b5 28 [(.slice none 0 0)] := _m5
  refine WL_s rfl rfl ?_
  refine s_storeA (off := 0) 1 _m5 sz28 rfl (us := [(.slice none 0 0)]) rfl rfl rfl rfl fun _w_6 _m_7 _cw_6 => ?_
  have _cw_6z := _cw_6.size
  have E := E.step _cw_6 (fun i hi => .inl (by have _h1 := List.mem_singleton.1 hi; omega))
  replace _m_7 : Blk _w_6 _b5 28 [(.slice none 0 0)] := _m_7
  refine WL_nil ?_
  refine thn_nrm (_hK_4 _ _ ?_)
  clear _hK_4
  refine W_seq fun _K_8 _hK_8 => ?_
  refine W_seq fun _K_9 _hK_9 => ?_
  refine W_region ?_
  refine WL_step rfl rfl (r_move rfl) ?_
  refine WL_step rfl rfl (r_len (by rw [el79]; rfl) rfl) ?_
  refine WL_step rfl rfl (r_move rfl) ?_
  refine WL_nil ?_
  refine thn_nrm (_hK_9 _ _ ?_)
  clear _hK_9
  refine W_block ?_
  have _oi_10 : Ol Token.cs 55 4 _w_6 (.slice none 0 0) ((es.take 0).flatten) := by
    have hx := (Ol.nil (cs := Token.cs) (e := 55) (k := 4) _w_6)
    simpa using hx
  have _f_11 := (((_m2.ch0 _cw_3).ch0 _cw_5).ch _cw_6 (fun hm => by have _h1 := List.mem_singleton.1 hm; omega))
  have _f_12 := ((_m4.ch0 _cw_5).ch _cw_6 (fun hm => by have _h1 := List.mem_singleton.1 hm; omega))
  refine W_loop (σ := Nat × Value) (fun ⟨k, u⟩ => [(0, (.agg #[(.int .i64 t.kind), (.int .i64 t.letter), (.int .i64 t.low), (.int .i64 t.high)])), (1, (.slice _A_ses ses.length _C_ses)), (2, (.pointer (some ⟨_b2, 0, none⟩))), (4, (.pointer (some ⟨_b4, 0, none⟩))), (5, (.pointer (some ⟨_b5, 0, none⟩))), (8, (.agg #[(.slice none 0 0)])), (9, (.slice _A_ses ses.length _C_ses)), (10, (.int .i64 ((ses.length : Nat) : Int))), (11, (.int .i64 ((k : Nat) : Int)))]) (fun ⟨k, u⟩ wx => Ch [] w wx ∧ _w_6.heap.size ≤ wx.heap.size ∧ k ≤ es.length ∧ Blk wx _b2 55 [(.int .i64 t.kind), (.int .i64 t.letter), (.int .i64 t.low), (.int .i64 t.high)] ∧ Blk wx _b4 28 [(.slice none 0 0)] ∧ Ol Token.cs 55 4 wx u ((es.take k).flatten) ∧ Lo _w_6.heap.size u ∧ Blk wx _b5 28 [u] ∧ _b5 ∉ bl u) (fun ⟨k, u⟩ => es.length - k) (0, (.slice none 0 0)) (Sub.cons rfl (Sub.cons rfl (Sub.cons rfl (Sub.cons rfl (Sub.cons rfl (Sub.cons rfl (Sub.cons rfl (Sub.cons rfl (Sub.cons rfl (Sub.nil _)))))))))) ⟨E, (Nat.le_refl _), (by omega), _f_11, _f_12, _oi_10, (Lo.nil _), _m_7, (fun hm => by cases hm)⟩ ?_
  rintro ⟨k, u⟩ _wr_13 ⟨E, _zz0, _hk, _F0_2, _F0_3, _o0_5, _lo0_5, _m0_5, _nb0_5⟩
  have _E0h := E
  have _E0hz := _E0h.size
  have _F0_2z := _F0_2.lt
  have _F0_3z := _F0_3.lt
  obtain ⟨Au, Cu, eu⟩ := _o0_5.val
  subst eu
  have lu := _o0_5.len
  have hiu := _o0_5.lt
  refine W_seq fun _K_14 _hK_14 => ?_
  refine W_region ?_
  refine WL_step rfl rfl (r_lss rfl rfl) ?_
  refine WL_nil ?_
  refine thn_nrm (_hK_14 _ _ ?_)
  clear _hK_14
  refine W_seq fun _K_15 _hK_15 => ?_
  refine W_cond rfl (fun _h12 => ?_) (fun _h12 => ?_)
  · have _h12 := bt_d _h12
    refine W_skip ?_
    refine thn_nrm (_hK_15 _ _ ?_)
    clear _hK_15
    refine W_seq fun _K_16 _hK_16 => ?_
    refine W_block ?_
    refine W_seq fun _K_17 _hK_17 => ?_
    refine W_region ?_
    refine WL_s rfl rfl ?_
    have _f_18 := (_h_ses.ch0 _E0h)
    refine (s_index _f_18 Sv.len el79 sz28 rfl rfl rfl (by omega) fun _p13 _y13 _hy13 _a13 => ?_)
    have _f_19 := (_rd_es.ch0 _E0h)
    obtain ⟨_ys13, _hys13, _fs13⟩ := _f_19.get _hy13
    obtain ⟨_A13, _n13, _C13⟩ := _y13
    obtain rfl := _fs13.eqn
    have _l13 := _fs13.len
    replace _fs13 : Ls Token.cs 4 _wr_13 w.heap.size (.slice _A13 _ys13.length _C13) _ys13 := _fs13
    replace _a13 : At _wr_13 w.heap.size _p13 ([(.slice _A13 _ys13.length _C13)]) := _a13
    refine WL_step rfl rfl (r_loadAtA0 _a13 agg28 sz28 rfl) ?_
    refine WL_s rfl rfl ?_
    refine s_alloc zr28 fun _b7 _w_20 _m7 _cw_20 _e7 => ?_
    have _cw_20z := _cw_20.size
    have E := E.trans _cw_20
    have _z7 := _m7.lt
    replace _m7 : Blk _w_20 _b7 28 [(.slice none 0 0)] := _m7
    refine WL_s rfl rfl ?_
    refine s_storeA (off := 0) 1 _m7 sz28 rfl (us := [(.slice _A13 _ys13.length _C13)]) rfl rfl rfl rfl fun _w_21 _m_22 _cw_21 => ?_
    have _cw_21z := _cw_21.size
    have E := E.step _cw_21 (fun i hi => .inl (by have _h1 := List.mem_singleton.1 hi; omega))
    replace _m_22 : Blk _w_21 _b7 28 [(.slice _A13 _ys13.length _C13)] := _m_22
    refine WL_nil ?_
    refine thn_nrm (_hK_17 _ _ ?_)
    clear _hK_17
    refine W_region ?_
    refine WL_step rfl rfl (r_fieldAddr fa28_0 rfl) ?_
    have _f_23 := ((_m0_5.ch0 _cw_20).ch _cw_21 (fun hm => by have _h1 := List.mem_singleton.1 hm; omega))
    refine WL_step rfl rfl (r_loadAt _f_23.at_ agg26 rfl rfl) ?_
    refine WL_step rfl rfl (r_fieldAddr fa28_0 rfl) ?_
    refine WL_step rfl rfl (r_loadAt _m_22.at_ agg26 rfl rfl) ?_
    refine WL_s rfl rfl ?_
    have _f_25 := ((_o0_5.ch0 _cw_20).ch _cw_21 (fun g hg hm => by have _h0 := List.mem_singleton.1 hm; have _h2 := _lo0_5 _ hg; have _h3 := hiu _ hg; omega))
    have _f_26 := ((_fs13.ch0 _cw_20).ch _cw_21 (fun i hi => by have _h1 := List.mem_singleton.1 hi; omega))
    refine s_append (cs := Token.cs) el26 sz55 by55 zr55 rfl (by decide) Token.one _f_25 _f_26 rfl rfl (by have _h9 := fl_le _hys13; omega) (by have _h9 := fl_le _hys13; omega) _lo0_5 (by omega) fun _v19 _w_24 _q19 _lo19 _ap19 _cw_24 => ?_
    have _cw_24z := _cw_24.size
    have E := E.step _cw_24 (fun i hi => .inl (by have _h1 := _lo0_5 _ hi; omega))
    obtain ⟨_Av19, _Cv19, _ev19⟩ := _q19.val
    subst _ev19
    have _lv19 := _q19.len
    have _hiv19 := _q19.lt
    refine WL_step rfl rfl (r_fieldAddr fa28_0 rfl) ?_
    refine WL_s rfl rfl ?_
    have _f_27 := (_f_23.ch _cw_24 (fun hm => by exact _nb0_5 (by first | exact hm | exact _h0 ▸ hm)))
    refine s_store1 (off := 0) _f_27 sz26 rfl rfl rfl rfl fun _w_28 _m_29 _cw_28 => ?_
    have _cw_28z := _cw_28.size
    have E := E.step _cw_28 (fun i hi => .inl (by have _h1 := List.mem_singleton.1 hi; omega))
    replace _m_29 : Blk _w_28 _b5 28 [(.slice _Av19 (((es.take k).flatten ++ _ys13)).length _Cv19)] := _m_29
    refine WL_nil ?_
    refine inB_nrm ?_
    refine thn_nrm (_hK_16 _ _ ?_)
    clear _hK_16
    refine W_region ?_
    refine WL_step rfl rfl (r_add (by omega) rfl rfl) ?_
    refine WL_step rfl rfl (r_move rfl) ?_
    refine WL_nil ?_
    have _f_31 := (_q19.ch _cw_28 (fun g hg hm => by have _h0 := List.mem_singleton.1 hm; rcases _ap19 with ea | ea; (rw [ea] at hg; exact _nb0_5 (by first | exact hg | exact _h0 ▸ hg)); (rw [ea] at hg; have _z1 := List.mem_singleton.1 hg; omega)))
    have _on_30 : Ol Token.cs 55 4 _w_28 (.slice _Av19 (((es.take k).flatten ++ _ys13)).length _Cv19) ((es.take (k + 1)).flatten) := by
      have hx := _f_31
      rw [← fl_step _hys13]; exact hx
    have _f_32 := ((((_F0_2.ch0 _cw_20).ch _cw_21 (fun hm => by have _h1 := List.mem_singleton.1 hm; omega)).ch _cw_24 (fun hm => by have _h1 := _lo0_5 _ hm; have _h2 := hiu _ hm; omega)).ch _cw_28 (fun hm => by have _h1 := List.mem_singleton.1 hm; omega))
    have _f_33 := ((((_F0_3.ch0 _cw_20).ch _cw_21 (fun hm => by have _h1 := List.mem_singleton.1 hm; omega)).ch _cw_24 (fun hm => by have _h1 := _lo0_5 _ hm; have _h2 := hiu _ hm; omega)).ch _cw_28 (fun hm => by have _h1 := List.mem_singleton.1 hm; omega))
    exact thn_nrm (Exists.intro ((k + 1), (.slice _Av19 (((es.take k).flatten ++ _ys13)).length _Cv19)) ⟨⟨E, (by omega), (by omega), _f_32, _f_33, _on_30, (Lo.down _lo19 (by omega)), _m_29, (fun hm => by rcases _ap19 with ea | ea; (rw [ea] at hm; exact _nb0_5 (by first | exact hm | exact _h0 ▸ hm)); (rw [ea] at hm; have _z1 := List.mem_singleton.1 hm; omega))⟩, Sub.cons rfl (Sub.cons rfl (Sub.cons rfl (Sub.cons rfl (Sub.cons rfl (Sub.cons rfl (Sub.cons rfl (Sub.cons rfl (Sub.cons rfl (Sub.nil _))))))))), (by first | omega | (dsimp only; omega))⟩)
  · have _h12 := bf_d _h12
    refine W_exit (thn_exit (thn_exit (inB_hit ?_)))
    refine thn_nrm (_hK_8 _ _ ?_)
    clear _hK_8
    refine W_seq fun _K_34 _hK_34 => ?_
    refine W_region ?_
    refine WL_step rfl rfl (r_fieldAddr fa28_0 rfl) ?_
    refine WL_step rfl rfl (r_loadAt _m0_5.at_ agg26 rfl rfl) ?_
    refine WL_step rfl rfl (r_loadAtA0 _F0_2.at_ agg55 sz55 rfl) ?_
    refine WL_s rfl rfl ?_
    refine s_buildSlice (cs := Token.cs) (parts := [(0, .tmp 24)]) (⟨0, 0, 0, 0⟩ : Token) [t] el26 sz55 zr55 Token.len (by decide) rfl rfl rfl (by decide) (by decide) rfl fun _v25 _w_35 _q25 _lo25 _cw_35 => ?_
    have _cw_35z := _cw_35.size
    have E := E.trans _cw_35
    obtain ⟨_Av25, _Cv25, _ev25⟩ := _q25.val
    subst _ev25
    have _lv25 := _q25.len
    have _hiv25 := _q25.lt
    refine WL_s rfl rfl ?_
    have _f_37 := (_o0_5.ch0 _cw_35)
    refine s_append (cs := Token.cs) el26 sz55 by55 zr55 rfl (by decide) Token.one _f_37 _q25.ls rfl rfl (by have _h9 : (es.take k).flatten.length ≤ es.flatten.length := (by rw [List.take_of_length_le (by omega)]; exact Nat.le_refl _); have _h8 : [t].length = 1 := rfl; omega) (by have _h9 : (es.take k).flatten.length ≤ es.flatten.length := (by rw [List.take_of_length_le (by omega)]; exact Nat.le_refl _); have _h8 : [t].length = 1 := rfl; omega) _lo0_5 (by omega) fun _v26 _w_36 _q26 _lo26 _ap26 _cw_36 => ?_
    have _cw_36z := _cw_36.size
    have E := E.step _cw_36 (fun i hi => .inl (by have _h1 := _lo0_5 _ hi; omega))
    obtain ⟨_Av26, _Cv26, _ev26⟩ := _q26.val
    subst _ev26
    have _lv26 := _q26.len
    have _hiv26 := _q26.lt
    refine WL_step rfl rfl (r_fieldAddr fa28_0 rfl) ?_
    refine WL_s rfl rfl ?_
    have _f_38 := ((_m0_5.ch0 _cw_35).ch _cw_36 (fun hm => by exact _nb0_5 (by first | exact hm | exact _h0 ▸ hm)))
    refine s_store1 (off := 0) _f_38 sz26 rfl rfl rfl rfl fun _w_39 _m_40 _cw_39 => ?_
    have _cw_39z := _cw_39.size
    have E := E.step _cw_39 (fun i hi => .inl (by have _h1 := List.mem_singleton.1 hi; omega))
    replace _m_40 : Blk _w_39 _b5 28 [(.slice _Av26 (((es.take k).flatten ++ [t])).length _Cv26)] := _m_40
    refine WL_nil ?_
    refine thn_nrm (_hK_34 _ _ ?_)
    clear _hK_34
    refine W_seq fun _K_41 _hK_41 => ?_
    refine W_region ?_
    refine WL_step rfl rfl (r_loadAtA0 _m_40.at_ agg28 sz28 rfl) ?_
    refine WL_s rfl rfl ?_
    have _f_42 := (((_F0_3.ch0 _cw_35).ch _cw_36 (fun hm => by have _h1 := _lo0_5 _ hm; have _h2 := hiu _ hm; omega)).ch _cw_39 (fun hm => by have _h1 := List.mem_singleton.1 hm; omega))
    refine s_storeA (off := 0) 1 _f_42 sz28 rfl (us := [(.slice _Av26 (((es.take k).flatten ++ [t])).length _Cv26)]) rfl rfl rfl rfl fun _w_43 _m_44 _cw_43 => ?_
    have _cw_43z := _cw_43.size
    have E := E.step _cw_43 (fun i hi => .inl (by have _h1 := List.mem_singleton.1 hi; omega))
    replace _m_44 : Blk _w_43 _b4 28 [(.slice _Av26 (((es.take k).flatten ++ [t])).length _Cv26)] := _m_44
    refine WL_nil ?_
    refine thn_nrm (_hK_41 _ _ ?_)
    clear _hK_41
    refine W_ret ?_
    clear _hK_15
    have _f_46 := ((_q26.ch _cw_39 (fun g hg hm => by have _h0 := List.mem_singleton.1 hm; rcases _ap26 with ea | ea; (rw [ea] at hg; exact _nb0_5 (by first | exact hg | exact _h0 ▸ hg)); (rw [ea] at hg; have _z1 := List.mem_singleton.1 hg; omega))).ch _cw_43 (fun g hg hm => by have _h0 := List.mem_singleton.1 hm; rcases _ap26 with ea | ea; (rw [ea] at hg; have _h2 := _lo0_5 _ hg; have _h3 := hiu _ hg; omega); (rw [ea] at hg; have _z1 := List.mem_singleton.1 hg; omega)))
    have _o_45 : Ol Token.cs 55 4 _w_43 (.slice _Av26 (((es.take k).flatten ++ [t])).length _Cv26) (es.flatten ++ [t]) := by
      have hx := _f_46
      simpa [List.take_of_length_le (show es.length ≤ k by omega)] using hx
    exact ret_intro [_] (resOf_loadA _m_44 rfl agg28 sz28 trivial) ⟨_, rfl, _o_45, Lo.down _lo26 (by omega), E⟩

/-- impl.UnionExpr -/
theorem c_impl_UnionExpr {w : World} {_B_a : Nat} {_v_a : Value} {a : List Token} (_h_a : Ls Token.cs 4 w _B_a _v_a a) {_B_b : Nat} {_v_b : Value} {b : List Token} (_h_b : Ls Token.cs 4 w _B_b _v_b b) (hb : a.length + b.length ≤ 1048576) :
    Ctr Try.prog 31 #[(.agg #[_v_a]), (.agg #[_v_b])] w (fun v w' => ∃ u, v = .agg #[u] ∧ Ol Token.cs 55 4 w' u (uniE a b) ∧ Lo w.heap.size u ∧ Ch [] w w') := by
  obtain ⟨_A_a, _C_a, _e1_a⟩ := _h_a.val
  subst _e1_a
  have _l_a := _h_a.len
  have _h_a := _h_a.here (by decide)
  obtain ⟨_A_b, _C_b, _e1_b⟩ := _h_b.val
  subst _e1_b
  have _l_b := _h_b.len
  have _h_b := _h_b.here (by decide)
  have E := Ch.refl [] w
  refine Ctr_of_W (N := 25) (vs0 := [(.agg #[(.slice _A_a a.length _C_a)]), (.agg #[(.slice _A_b b.length _C_b)])]) Try.func31 rfl rfl rfl ?_
  refine W_seq fun _K_1 _hK_1 => ?_
  refine W_region ?_
  refine WL_s rfl rfl ?_
  refine s_box rfl fun _b2 _w_2 _m2 _cw_2 _e2 => ?_
  have _cw_2z := _cw_2.size
  have E := E.trans _cw_2
  have _z2 := _m2.lt
  replace _m2 : Blk _w_2 _b2 28 [(.slice _A_a a.length _C_a)] := _m2
  refine WL_s rfl rfl ?_
  refine s_box rfl fun _b3 _w_3 _m3 _cw_3 _e3 => ?_
  have _cw_3z := _cw_3.size
  have E := E.trans _cw_3
  have _z3 := _m3.lt
  replace _m3 : Blk _w_3 _b3 28 [(.slice _A_b b.length _C_b)] := _m3
  refine WL_s rfl rfl ?_
  refine s_alloc zr28 fun _b4 _w_4 _m4 _cw_4 _e4 => ?_
  have _cw_4z := _cw_4.size
  have E := E.trans _cw_4
  have _z4 := _m4.lt
  replace _m4 : Blk _w_4 _b4 28 [(.slice none 0 0)] := _m4
  refine WL_nil ?_
  refine thn_nrm (_hK_1 _ _ ?_)
  clear _hK_1
  refine W_seq fun _K_5 _hK_5 => ?_
  refine W_block ?_
  refine W_seq fun _K_6 _hK_6 => ?_
  refine W_region ?_
  have _f_7 := ((_m2.ch0 _cw_3).ch0 _cw_4)
  refine WL_step rfl rfl (r_loadAtA0 _f_7.at_ agg28 sz28 rfl) ?_
  refine WL_s rfl rfl ?_
  have _f_8 := (((_h_a.ch0 _cw_2).ch0 _cw_3).ch0 _cw_4)
  refine Step.call (r_call (xs := [.tmp 6, .const (Go.Value.int Go.IntKind.i64 1)]) fk58 rfl) (c_impl_alone _f_8 _ ) fun _v7 _w_9 _q7 => ?_
  obtain ⟨rfl, _cw_9⟩ := _q7
  have _cw_9z := _cw_9.size
  have E := E.trans _cw_9
  refine WL_step rfl rfl (r_move rfl) ?_
  refine WL_split (d := 8) rfl (fun _h8 => ?_) (fun _h8 => ?_)
  · refine WL_skip rfl rfl ?_
    refine WL_skip rfl rfl ?_
    refine WL_skip rfl rfl ?_
    refine WL_step rfl rfl (r_pickT rfl rfl) ?_
    refine WL_step rfl rfl (r_assign rfl) ?_
    refine WL_nil ?_
    refine thn_nrm (_hK_6 _ _ ?_)
    clear _hK_6
    refine W_condT rfl ?_
    refine W_seq fun _K_10 _hK_10 => ?_
    refine W_region ?_
    have _f_11 := ((_m3.ch0 _cw_4).ch0 _cw_9)
    refine WL_step rfl rfl (r_loadAtA0 _f_11.at_ agg28 sz28 rfl) ?_
    refine WL_s rfl rfl ?_
    have _f_12 := ((((_h_b.ch0 _cw_2).ch0 _cw_3).ch0 _cw_4).ch0 _cw_9)
    refine Step.call (r_call (xs := [.tmp 13]) fk52 rfl) (c_impl_copyExpr _f_12 (by omega)) fun _v14 _w_13 _q14 => ?_
    obtain ⟨_u14, rfl, _q14, _lo14, _cw_13⟩ := _q14
    have _cw_13z := _cw_13.size
    have E := E.trans _cw_13
    obtain ⟨_Au14, _Cu14, _eu14⟩ := _q14.val
    subst _eu14
    have _lu14 := _q14.len
    have _hiu14 := _q14.lt
    refine WL_s rfl rfl ?_
    have _f_14 := ((_m4.ch0 _cw_9).ch0 _cw_13)
    refine s_storeA (off := 0) 1 _f_14 sz28 rfl (us := [(.slice _Au14 (b).length _Cu14)]) rfl rfl rfl rfl fun _w_15 _m_16 _cw_15 => ?_
    have _cw_15z := _cw_15.size
    have E := E.step _cw_15 (fun i hi => .inl (by have _h1 := List.mem_singleton.1 hi; omega))
    replace _m_16 : Blk _w_15 _b4 28 [(.slice _Au14 (b).length _Cu14)] := _m_16
    refine WL_nil ?_
    refine thn_nrm (_hK_10 _ _ ?_)
    clear _hK_10
    refine W_ret (inB_ret (thn_ret ?_))
    clear _hK_5
    have _f_18 := (_q14.ch _cw_15 (fun g hg hm => by have _h0 := List.mem_singleton.1 hm; have _h2 := _lo14 _ hg; have _h3 := _hiu14 _ hg; omega))
    have _o_17 : Ol Token.cs 55 4 _w_15 (.slice _Au14 (b).length _Cu14) (uniE a b) := by
      have hx := _f_18
      (unfold uniE; simp_all)
    exact ret_intro [_] (resOf_loadA _m_16 rfl agg28 sz28 trivial) ⟨_, rfl, _o_17, Lo.down _lo14 (by omega), E⟩
  · have _f_19 := (_f_7.ch0 _cw_9)
    refine WL_step rfl rfl (r_loadAtA0 _f_19.at_ agg28 sz28 rfl) ?_
    have _f_20 := ((_m3.ch0 _cw_4).ch0 _cw_9)
    refine WL_step rfl rfl (r_loadAtA0 _f_20.at_ agg28 sz28 rfl) ?_
    refine WL_s rfl rfl ?_
    have _f_21 := (_f_8.ch0 _cw_9)
    have _f_22 := ((((_h_b.ch0 _cw_2).ch0 _cw_3).ch0 _cw_4).ch0 _cw_9)
    refine Step.call (r_call (xs := [.tmp 9, .tmp 10]) fk63 rfl) (c_impl_EqualExprs _f_21 _f_22 ) fun _v11 _w_23 _q11 => ?_
    obtain ⟨rfl, _cw_23⟩ := _q11
    have _cw_23z := _cw_23.size
    have E := E.trans _cw_23
    refine WL_step rfl rfl (r_pickF rfl rfl) ?_
    refine WL_step rfl rfl (r_assign rfl) ?_
    refine WL_nil ?_
    refine thn_nrm (_hK_6 _ _ ?_)
    clear _hK_6
    refine W_cond rfl (fun _h5 => ?_) (fun _h5 => ?_)
    · have _h5 := bt_d _h5
      refine W_seq fun _K_24 _hK_24 => ?_
      refine W_region ?_
      have _f_25 := (_f_20.ch0 _cw_23)
      refine WL_step rfl rfl (r_loadAtA0 _f_25.at_ agg28 sz28 rfl) ?_
      refine WL_s rfl rfl ?_
      have _f_26 := (_f_22.ch0 _cw_23)
      refine Step.call (r_call (xs := [.tmp 13]) fk52 rfl) (c_impl_copyExpr _f_26 (by omega)) fun _v14 _w_27 _q14 => ?_
      obtain ⟨_u14, rfl, _q14, _lo14, _cw_27⟩ := _q14
      have _cw_27z := _cw_27.size
      have E := E.trans _cw_27
      obtain ⟨_Au14, _Cu14, _eu14⟩ := _q14.val
      subst _eu14
      have _lu14 := _q14.len
      have _hiu14 := _q14.lt
      refine WL_s rfl rfl ?_
      have _f_28 := (((_m4.ch0 _cw_9).ch0 _cw_23).ch0 _cw_27)
      refine s_storeA (off := 0) 1 _f_28 sz28 rfl (us := [(.slice _Au14 (b).length _Cu14)]) rfl rfl rfl rfl fun _w_29 _m_30 _cw_29 => ?_
      have _cw_29z := _cw_29.size
      have E := E.step _cw_29 (fun i hi => .inl (by have _h1 := List.mem_singleton.1 hi; omega))
      replace _m_30 : Blk _w_29 _b4 28 [(.slice _Au14 (b).length _Cu14)] := _m_30
      refine WL_nil ?_
      refine thn_nrm (_hK_24 _ _ ?_)
      clear _hK_24
      refine W_ret (inB_ret (thn_ret ?_))
      clear _hK_5
      have _f_32 := (_q14.ch _cw_29 (fun g hg hm => by have _h0 := List.mem_singleton.1 hm; have _h2 := _lo14 _ hg; have _h3 := _hiu14 _ hg; omega))
      have _o_31 : Ol Token.cs 55 4 _w_29 (.slice _Au14 (b).length _Cu14) (uniE a b) := by
        have hx := _f_32
        (unfold uniE; simp_all)
      exact ret_intro [_] (resOf_loadA _m_30 rfl agg28 sz28 trivial) ⟨_, rfl, _o_31, Lo.down _lo14 (by omega), E⟩
    · have _h5 := bf_d _h5
      refine W_seq fun _K_33 _hK_33 => ?_
      refine W_region ?_
      have _f_34 := (_f_20.ch0 _cw_23)
      refine WL_step rfl rfl (r_loadAtA0 _f_34.at_ agg28 sz28 rfl) ?_
      refine WL_s rfl rfl ?_
      have _f_35 := (_f_22.ch0 _cw_23)
      refine Step.call (r_call (xs := [.tmp 16, .const (Go.Value.int Go.IntKind.i64 1)]) fk58 rfl) (c_impl_alone _f_35 _ ) fun _v17 _w_36 _q17 => ?_
      obtain ⟨rfl, _cw_36⟩ := _q17
      have _cw_36z := _cw_36.size
      have E := E.trans _cw_36
      refine WL_step rfl rfl (r_assign rfl) ?_
      refine WL_nil ?_
      refine thn_nrm (_hK_33 _ _ ?_)
      clear _hK_33
      refine W_cond rfl (fun _h15 => ?_) (fun _h15 => ?_)
      · refine W_seq fun _K_37 _hK_37 => ?_
        refine W_region ?_
        have _f_38 := ((_f_19.ch0 _cw_23).ch0 _cw_36)
        refine WL_step rfl rfl (r_loadAtA0 _f_38.at_ agg28 sz28 rfl) ?_
        refine WL_s rfl rfl ?_
        have _f_39 := ((_f_21.ch0 _cw_23).ch0 _cw_36)
        refine Step.call (r_call (xs := [.tmp 18]) fk52 rfl) (c_impl_copyExpr _f_39 (by omega)) fun _v19 _w_40 _q19 => ?_
        obtain ⟨_u19, rfl, _q19, _lo19, _cw_40⟩ := _q19
        have _cw_40z := _cw_40.size
        have E := E.trans _cw_40
        obtain ⟨_Au19, _Cu19, _eu19⟩ := _q19.val
        subst _eu19
        have _lu19 := _q19.len
        have _hiu19 := _q19.lt
        refine WL_s rfl rfl ?_
        have _f_41 := ((((_m4.ch0 _cw_9).ch0 _cw_23).ch0 _cw_36).ch0 _cw_40)
        refine s_storeA (off := 0) 1 _f_41 sz28 rfl (us := [(.slice _Au19 (a).length _Cu19)]) rfl rfl rfl rfl fun _w_42 _m_43 _cw_42 => ?_
        have _cw_42z := _cw_42.size
        have E := E.step _cw_42 (fun i hi => .inl (by have _h1 := List.mem_singleton.1 hi; omega))
        replace _m_43 : Blk _w_42 _b4 28 [(.slice _Au19 (a).length _Cu19)] := _m_43
        refine WL_nil ?_
        refine thn_nrm (_hK_37 _ _ ?_)
        clear _hK_37
        refine W_ret (inB_ret (thn_ret ?_))
        clear _hK_5
        have _f_45 := (_q19.ch _cw_42 (fun g hg hm => by have _h0 := List.mem_singleton.1 hm; have _h2 := _lo19 _ hg; have _h3 := _hiu19 _ hg; omega))
        have _o_44 : Ol Token.cs 55 4 _w_42 (.slice _Au19 (a).length _Cu19) (uniE a b) := by
          have hx := _f_45
          (unfold uniE; simp_all)
        exact ret_intro [_] (resOf_loadA _m_43 rfl agg28 sz28 trivial) ⟨_, rfl, _o_44, Lo.down _lo19 (by omega), E⟩
      · refine W_skip ?_
        refine inB_nrm ?_
        refine thn_nrm (_hK_5 _ _ ?_)
        clear _hK_5
        refine W_seq fun _K_46 _hK_46 => ?_
        refine W_region ?_
        refine WL_step rfl rfl (r_build (parts := [(0, .const (Go.Value.int Go.IntKind.i64 5))]) (cells := [(.int .i64 5), (.int .i64 0), (.int .i64 0), (.int .i64 0)]) zr55 pl55 rfl rfl) ?_
        have _f_47 := ((_f_19.ch0 _cw_23).ch0 _cw_36)
        refine WL_step rfl rfl (r_loadAtA0 _f_47.at_ agg28 sz28 rfl) ?_
        have _f_48 := (_f_34.ch0 _cw_36)
        refine WL_step rfl rfl (r_loadAtA0 _f_48.at_ agg28 sz28 rfl) ?_
        refine WL_s rfl rfl ?_
        refine s_buildSlice (cs := Sv.cs) (parts := [(0, .tmp 21), (1, .tmp 22)]) (⟨none, 0, 0⟩ : Sv) [(⟨_A_a, a.length, _C_a⟩ : Sv), (⟨_A_b, b.length, _C_b⟩ : Sv)] el79 sz28 zr28 Sv.len (by decide) rfl rfl rfl (by decide) (by decide) rfl fun _v23 _w_49 _q23 _lo23 _cw_49 => ?_
        have _cw_49z := _cw_49.size
        have E := E.trans _cw_49
        obtain ⟨_Av23, _Cv23, _ev23⟩ := _q23.val
        subst _ev23
        have _lv23 := _q23.len
        have _hiv23 := _q23.lt
        have _f_50 := ((_f_35.ch0 _cw_36).ch0 _cw_49)
        have _f_51 := (((_f_21.ch0 _cw_23).ch0 _cw_36).ch0 _cw_49)
        have _rd23 : Rd Token.cs 4 _w_49 _w_49.heap.size ([(⟨_A_a, a.length, _C_a⟩ : Sv), (⟨_A_b, b.length, _C_b⟩ : Sv)]) ([a, b]) := (Rd.cons (_f_51.up (by omega)) (Rd.cons (_f_50.up (by omega)) Rd.nil))
        refine WL_s rfl rfl ?_
        refine Step.call (r_call (xs := [.tmp 20, .tmp 23]) fk53 rfl) (c_impl_joined ⟨5, 0, 0, 0⟩ _q23.ls _rd23 (by simp <;> omega)) fun _v24 _w_52 _q24 => ?_
        obtain ⟨_u24, rfl, _q24, _lo24, _cw_52⟩ := _q24
        have _cw_52z := _cw_52.size
        have E := E.trans _cw_52
        obtain ⟨_Au24, _Cu24, _eu24⟩ := _q24.val
        subst _eu24
        have _lu24 := _q24.len
        have _hiu24 := _q24.lt
        refine WL_s rfl rfl ?_
        have _f_53 := (((((_m4.ch0 _cw_9).ch0 _cw_23).ch0 _cw_36).ch0 _cw_49).ch0 _cw_52)
        refine s_storeA (off := 0) 1 _f_53 sz28 rfl (us := [(.slice _Au24 (([a, b]).flatten ++ [(⟨5, 0, 0, 0⟩ : Token)]).length _Cu24)]) rfl rfl rfl rfl fun _w_54 _m_55 _cw_54 => ?_
        have _cw_54z := _cw_54.size
        have E := E.step _cw_54 (fun i hi => .inl (by have _h1 := List.mem_singleton.1 hi; omega))
        replace _m_55 : Blk _w_54 _b4 28 [(.slice _Au24 (([a, b]).flatten ++ [(⟨5, 0, 0, 0⟩ : Token)]).length _Cu24)] := _m_55
        refine WL_nil ?_
        refine thn_nrm (_hK_46 _ _ ?_)
        clear _hK_46
        refine W_ret ?_
        have _f_57 := (_q24.ch _cw_54 (fun g hg hm => by have _h0 := List.mem_singleton.1 hm; have _h2 := _lo24 _ hg; have _h3 := _hiu24 _ hg; omega))
        have _o_56 : Ol Token.cs 55 4 _w_54 (.slice _Au24 (([a, b]).flatten ++ [(⟨5, 0, 0, 0⟩ : Token)]).length _Cu24) (uniE a b) := by
          have hx := _f_57
          (unfold uniE; simp_all)
        exact ret_intro [_] (resOf_loadA _m_55 rfl agg28 sz28 trivial) ⟨_, rfl, _o_56, Lo.down _lo24 (by omega), E⟩

/-- laws.eqToken -/
theorem c_laws_eqToken {w : World} (a : Token) (b : Token) :
    Ctr Try.prog 79 #[(.agg #[(.int .i64 a.kind), (.int .i64 a.letter), (.int .i64 a.low), (.int .i64 a.high)]), (.agg #[(.int .i64 b.kind), (.int .i64 b.letter), (.int .i64 b.low), (.int .i64 b.high)])] w (fun v w' => v = .bool (decide (a = b)) ∧ Ch [] w w') := by
  have E := Ch.refl [] w
  refine Ctr_of_W (N := 25) (vs0 := [(.agg #[(.int .i64 a.kind), (.int .i64 a.letter), (.int .i64 a.low), (.int .i64 a.high)]), (.agg #[(.int .i64 b.kind), (.int .i64 b.letter), (.int .i64 b.low), (.int .i64 b.high)])]) Try.func79 rfl rfl rfl ?_
  refine W_seq fun _K_1 _hK_1 => ?_
  refine W_region ?_
  refine WL_s rfl rfl ?_
  refine s_box rfl fun _b2 _w_2 _m2 _cw_2 _e2 => ?_
  have _cw_2z := _cw_2.size
  have E := E.trans _cw_2
  have _z2 := _m2.lt
  replace _m2 : Blk _w_2 _b2 55 [(.int .i64 a.kind), (.int .i64 a.letter), (.int .i64 a.low), (.int .i64 a.high)] := _m2
  refine WL_s rfl rfl ?_
  refine s_box rfl fun _b3 _w_3 _m3 _cw_3 _e3 => ?_
  have _cw_3z := _cw_3.size
  have E := E.trans _cw_3
  have _z3 := _m3.lt
  replace _m3 : Blk _w_3 _b3 55 [(.int .i64 b.kind), (.int .i64 b.letter), (.int .i64 b.low), (.int .i64 b.high)] := _m3
  refine WL_step rfl rfl (r_assign rfl) ?_
  refine WL_nil ?_
  refine thn_nrm (_hK_1 _ _ ?_)
  clear _hK_1
  refine W_seq fun _K_4 _hK_4 => ?_
  refine W_seq fun _K_5 _hK_5 => ?_
  refine W_region ?_
  refine WL_step rfl rfl (r_fieldAddr fa55_0 rfl) ?_
  have _f_6 := (_m2.ch0 _cw_3)
  refine WL_step rfl rfl (r_loadAt _f_6.at_ agg3 rfl rfl) ?_
  refine WL_step rfl rfl (r_fieldAddr fa55_0 rfl) ?_
  refine WL_step rfl rfl (r_loadAt _m3.at_ agg3 rfl rfl) ?_
  refine WL_step rfl rfl (r_neq rfl rfl) ?_
  refine WL_nil ?_
  refine thn_nrm (_hK_5 _ _ ?_)
  clear _hK_5
  refine W_cond rfl (fun _h9 => ?_) (fun _h9 => ?_)
  · have _h9 := bf_d (bt_n _h9)
    refine W_seq fun _K_7 _hK_7 => ?_
    refine W_region ?_
    refine WL_step rfl rfl (r_assign rfl) ?_
    refine WL_nil ?_
    refine thn_nrm (_hK_7 _ _ ?_)
    clear _hK_7
    refine W_ret (thn_ret ?_)
    clear _hK_4
    exact ret_intro [_] ⟨rfl, trivial⟩ ⟨congrArg Value.bool (decide_eq_false (fun e => _h9 (by rw [e]))).symm, E⟩
  · have _h9 := bt_d (bf_n _h9)
    refine W_skip ?_
    refine thn_nrm (_hK_4 _ _ ?_)
    clear _hK_4
    refine W_seq fun _K_8 _hK_8 => ?_
    refine W_seq fun _K_9 _hK_9 => ?_
    refine W_region ?_
    refine WL_step rfl rfl (r_fieldAddr fa55_1 rfl) ?_
    refine WL_step rfl rfl (r_loadAt _f_6.at_ agg3 rfl rfl) ?_
    refine WL_step rfl rfl (r_fieldAddr fa55_1 rfl) ?_
    refine WL_step rfl rfl (r_loadAt _m3.at_ agg3 rfl rfl) ?_
    refine WL_step rfl rfl (r_neq rfl rfl) ?_
    refine WL_nil ?_
    refine thn_nrm (_hK_9 _ _ ?_)
    clear _hK_9
    refine W_cond rfl (fun _h14 => ?_) (fun _h14 => ?_)
    · have _h14 := bf_d (bt_n _h14)
      refine W_seq fun _K_10 _hK_10 => ?_
      refine W_region ?_
      refine WL_step rfl rfl (r_assign rfl) ?_
      refine WL_nil ?_
      refine thn_nrm (_hK_10 _ _ ?_)
      clear _hK_10
      refine W_ret (thn_ret ?_)
      clear _hK_8
      exact ret_intro [_] ⟨rfl, trivial⟩ ⟨congrArg Value.bool (decide_eq_false (fun e => _h14 (by rw [e]))).symm, E⟩
    · have _h14 := bt_d (bf_n _h14)
      refine W_skip ?_
      refine thn_nrm (_hK_8 _ _ ?_)
      clear _hK_8
      refine W_seq fun _K_11 _hK_11 => ?_
      refine W_seq fun _K_12 _hK_12 => ?_
      refine W_region ?_
      refine WL_step rfl rfl (r_fieldAddr fa55_2 rfl) ?_
      refine WL_step rfl rfl (r_loadAt _f_6.at_ agg3 rfl rfl) ?_
      refine WL_step rfl rfl (r_fieldAddr fa55_2 rfl) ?_
      refine WL_step rfl rfl (r_loadAt _m3.at_ agg3 rfl rfl) ?_
      refine WL_step rfl rfl (r_neq rfl rfl) ?_
      refine WL_nil ?_
      refine thn_nrm (_hK_12 _ _ ?_)
      clear _hK_12
      refine W_cond rfl (fun _h19 => ?_) (fun _h19 => ?_)
      · have _h19 := bf_d (bt_n _h19)
        refine W_seq fun _K_13 _hK_13 => ?_
        refine W_region ?_
        refine WL_step rfl rfl (r_assign rfl) ?_
        refine WL_nil ?_
        refine thn_nrm (_hK_13 _ _ ?_)
        clear _hK_13
        refine W_ret (thn_ret ?_)
        clear _hK_11
        exact ret_intro [_] ⟨rfl, trivial⟩ ⟨congrArg Value.bool (decide_eq_false (fun e => _h19 (by rw [e]))).symm, E⟩
      · have _h19 := bt_d (bf_n _h19)
        refine W_skip ?_
        refine thn_nrm (_hK_11 _ _ ?_)
        clear _hK_11
        refine W_seq fun _K_14 _hK_14 => ?_
        refine W_seq fun _K_15 _hK_15 => ?_
        refine W_region ?_
        refine WL_step rfl rfl (r_fieldAddr fa55_3 rfl) ?_
        refine WL_step rfl rfl (r_loadAt _f_6.at_ agg3 rfl rfl) ?_
        refine WL_step rfl rfl (r_fieldAddr fa55_3 rfl) ?_
        refine WL_step rfl rfl (r_loadAt _m3.at_ agg3 rfl rfl) ?_
        refine WL_step rfl rfl (r_neq rfl rfl) ?_
        refine WL_nil ?_
        refine thn_nrm (_hK_15 _ _ ?_)
        clear _hK_15
        refine W_cond rfl (fun _h24 => ?_) (fun _h24 => ?_)
        · have _h24 := bf_d (bt_n _h24)
          refine W_seq fun _K_16 _hK_16 => ?_
          refine W_region ?_
          refine WL_step rfl rfl (r_assign rfl) ?_
          refine WL_nil ?_
          refine thn_nrm (_hK_16 _ _ ?_)
          clear _hK_16
          refine W_ret (thn_ret ?_)
          clear _hK_14
          exact ret_intro [_] ⟨rfl, trivial⟩ ⟨congrArg Value.bool (decide_eq_false (fun e => _h24 (by rw [e]))).symm, E⟩
        · have _h24 := bt_d (bf_n _h24)
          refine W_skip ?_
          refine thn_nrm (_hK_14 _ _ ?_)
          clear _hK_14
          refine W_seq fun _K_17 _hK_17 => ?_
          refine W_region ?_
          refine WL_step rfl rfl (r_assign rfl) ?_
          refine WL_nil ?_
          refine thn_nrm (_hK_17 _ _ ?_)
          clear _hK_17
          refine W_ret ?_
          exact ret_intro [_] ⟨rfl, trivial⟩ ⟨congrArg Value.bool (decide_eq_true (Token.inj (by rw [_h9, _h14, _h19, _h24]))).symm, E⟩

/-- laws.eqTokenS -/
theorem c_laws_eqTokenS {w : World} {_B_a : Nat} {_v_a : Value} {a : List Token} (_h_a : Ls Token.cs 4 w _B_a _v_a a) {_B_b : Nat} {_v_b : Value} {b : List Token} (_h_b : Ls Token.cs 4 w _B_b _v_b b) :
    Ctr Try.prog 54 #[_v_a, _v_b] w (fun v w' => v = .bool (decide (a = b)) ∧ Ch [] w w') := by
  obtain ⟨_A_a, _C_a, _e1_a⟩ := _h_a.val
  subst _e1_a
  have _l_a := _h_a.len
  have _h_a := _h_a.here (by decide)
  obtain ⟨_A_b, _C_b, _e1_b⟩ := _h_b.val
  subst _e1_b
  have _l_b := _h_b.len
  have _h_b := _h_b.here (by decide)
  have E := Ch.refl [] w
  refine Ctr_of_W (N := 27) (vs0 := [(.slice _A_a a.length _C_a), (.slice _A_b b.length _C_b)]) Try.func54 rfl rfl rfl ?_
  refine W_seq fun _K_1 _hK_1 => ?_
  refine W_region ?_
  refine WL_step rfl rfl (r_assign rfl) ?_
  refine WL_nil ?_
  refine thn_nrm (_hK_1 _ _ ?_)
  clear _hK_1
  refine W_seq fun _K_2 _hK_2 => ?_
  refine W_seq fun _K_3 _hK_3 => ?_
  refine W_region ?_
  refine WL_step rfl rfl (r_move rfl) ?_
  refine WL_step rfl rfl (r_len (by rw [el26]; rfl) rfl) ?_
  refine WL_step rfl rfl (r_move rfl) ?_
  refine WL_step rfl rfl (r_len (by rw [el26]; rfl) rfl) ?_
  refine WL_step rfl rfl (r_neq rfl rfl) ?_
  refine WL_nil ?_
  refine thn_nrm (_hK_3 _ _ ?_)
  clear _hK_3
  refine W_cond rfl (fun _h10 => ?_) (fun _h10 => ?_)
  · have _h10 := bf_d (bt_n _h10)
    refine W_seq fun _K_4 _hK_4 => ?_
    refine W_region ?_
    refine WL_step rfl rfl (r_assign rfl) ?_
    refine WL_nil ?_
    refine thn_nrm (_hK_4 _ _ ?_)
    clear _hK_4
    refine W_ret (thn_ret ?_)
    clear _hK_2
    exact ret_intro [_] ⟨rfl, trivial⟩ ⟨congrArg Value.bool (decide_eq_false (fun e => _h10 (by rw [e]))).symm, E⟩
  · have _h10 := bt_d (bf_n _h10)
    refine W_skip ?_
    refine thn_nrm (_hK_2 _ _ ?_)
    clear _hK_2
    refine W_seq fun _K_5 _hK_5 => ?_
    refine W_seq fun _K_6 _hK_6 => ?_
    refine W_region ?_
    refine WL_step rfl rfl (r_assign rfl) ?_
    refine WL_nil ?_
    refine thn_nrm (_hK_6 _ _ ?_)
    clear _hK_6
    refine W_block ?_
    refine W_loop (σ := Nat) (fun (k : Nat) => [(0, (.slice _A_a a.length _C_a)), (1, (.slice _A_b b.length _C_b)), (5, (.int .i64 ((k : Nat) : Int))), (6, (.slice _A_a a.length _C_a)), (7, (.int .i64 ((a.length : Nat) : Int))), (8, (.slice _A_b b.length _C_b)), (9, (.int .i64 ((b.length : Nat) : Int))), (10, (.bool (!decide (((a.length : Nat) : Int) = ((b.length : Nat) : Int)))))]) (fun (k : Nat) wx => Ch [] w wx ∧ w.heap.size ≤ wx.heap.size ∧ k ≤ a.length ∧ a.take k = b.take k) (fun (k : Nat) => a.length - k) 0 (Sub.cons rfl (Sub.cons rfl (Sub.cons rfl (Sub.cons rfl (Sub.cons rfl (Sub.cons rfl (Sub.cons rfl (Sub.cons rfl (Sub.nil _))))))))) ⟨E, (Nat.le_refl _), (by omega), rfl⟩ ?_
    rintro k _wr_7 ⟨E, _zz0, _hk, _ht⟩
    have _E0h := E
    have _E0hz := _E0h.size
    refine W_seq fun _K_8 _hK_8 => ?_
    refine W_seq fun _K_9 _hK_9 => ?_
    refine W_region ?_
    refine WL_step rfl rfl (r_move rfl) ?_
    refine WL_step rfl rfl (r_move rfl) ?_
    refine WL_step rfl rfl (r_len (by rw [el26]; rfl) rfl) ?_
    refine WL_step rfl rfl (r_lss rfl rfl) ?_
    refine WL_nil ?_
    refine thn_nrm (_hK_9 _ _ ?_)
    clear _hK_9
    refine W_cond rfl (fun _h14 => ?_) (fun _h14 => ?_)
    · have _h14 := bt_d _h14
      refine W_skip ?_
      refine thn_nrm (_hK_8 _ _ ?_)
      clear _hK_8
      refine W_seq fun _K_10 _hK_10 => ?_
      refine W_block ?_
      refine W_seq fun _K_11 _hK_11 => ?_
      refine W_drawC [] 10 mixed rfl fun _w_12 _cw_12 => ?_
      have _cw_12z := _cw_12.size
      have E := E.trans _cw_12
      refine DR_s 0 rfl (by kernel_rfl) rfl rfl (t_v (fun _ => (r_move rfl)) ?_)
      refine DR_s 1 rfl (by kernel_rfl) rfl rfl (t_v (fun _ => (r_move rfl)) ?_)
      have _f_13 := ((_h_a.ch0 _E0h).ch0 _cw_12)
      refine DR_s 2 rfl (by kernel_rfl) rfl rfl (t_index _f_13 Token.len el26 sz55 rfl rfl rfl (by omega) fun _p19 _y19 _hy19 _a19 => ?_)
      refine DR_s 3 rfl (by kernel_rfl) rfl rfl (t_loadAtA0 _a19 (fun i hi => by first | exact absurd hi (List.not_mem_nil) | (have _h1 := List.mem_singleton.1 hi; omega)) agg55 sz55 rfl ?_)
      refine DR_s 4 rfl (by kernel_rfl) rfl rfl (t_v (fun _ => (r_move rfl)) ?_)
      refine DR_s 5 rfl (by kernel_rfl) rfl rfl (t_v (fun _ => (r_move rfl)) ?_)
      have _f_14 := ((_h_b.ch0 _E0h).ch0 _cw_12)
      refine DR_s 6 rfl (by kernel_rfl) rfl rfl (t_index _f_14 Token.len el26 sz55 rfl rfl rfl (by omega) fun _p23 _y23 _hy23 _a23 => ?_)
      refine DR_s 7 rfl (by kernel_rfl) rfl rfl (t_loadAtA0 _a23 (fun i hi => by first | exact absurd hi (List.not_mem_nil) | (have _h1 := List.mem_singleton.1 hi; omega)) agg55 sz55 rfl ?_)
      refine DR_one 8 (by kernel_rfl) ?_
      refine DO_s rfl rfl rfl ?_
      refine Step.call (r_call (xs := [.tmp 20, .tmp 24]) fk79 rfl) (c_laws_eqToken _y19 _y23 ) fun _v25 _w_15 _q25 => ?_
      obtain ⟨rfl, _cw_15⟩ := _q25
      have _cw_15z := _cw_15.size
      have E := E.trans _cw_15
      have _S_16 : Ch [] _w_12 _w_15 := ((Ch.refl _ _).trans _cw_15.of_nil)
      refine ⟨_S_16, ?_⟩
      refine DR_s 9 rfl (by kernel_rfl) rfl rfl (t_v (fun _ => (r_not rfl)) ?_)
      refine DR_done (by kernel_rfl) ?_
      refine thn_nrm (_hK_11 _ _ ?_)
      clear _hK_11
      refine W_cond rfl (fun _h26 => ?_) (fun _h26 => ?_)
      · have _h26 := bf_d (bt_n _h26)
        refine W_seq fun _K_17 _hK_17 => ?_
        refine W_region ?_
        refine WL_step rfl rfl (r_assign rfl) ?_
        refine WL_nil ?_
        refine thn_nrm (_hK_17 _ _ ?_)
        clear _hK_17
        refine W_ret (inB_ret (thn_ret (thn_ret (inB_ret (thn_ret ?_)))))
        clear _hK_5 _hK_10
        exact ret_intro [_] ⟨rfl, trivial⟩ ⟨congrArg Value.bool (decide_eq_false (ne_of_get _hy19 _hy23 _h26)).symm, E⟩
      · have _h26 := bt_d (bf_n _h26)
        refine W_skip ?_
        refine inB_nrm ?_
        refine thn_nrm (_hK_10 _ _ ?_)
        clear _hK_10
        refine W_region ?_
        refine WL_step rfl rfl (r_move rfl) ?_
        refine WL_step rfl rfl (r_add (by omega) rfl rfl) ?_
        refine WL_step rfl rfl (r_assign rfl) ?_
        refine WL_nil ?_
        exact thn_nrm (Exists.intro (k + 1) ⟨⟨E, (by omega), (by omega), (take_eq_succ _ht _hy19 _hy23 _h26)⟩, Sub.cons rfl (Sub.cons rfl (Sub.cons rfl (Sub.cons rfl (Sub.cons rfl (Sub.cons rfl (Sub.cons rfl (Sub.cons rfl (Sub.nil _)))))))), (by first | omega | (dsimp only; omega))⟩)
    · have _h14 := bf_d _h14
      refine W_exit (thn_exit (thn_exit (inB_hit ?_)))
      refine thn_nrm (_hK_5 _ _ ?_)
      clear _hK_5
      refine W_seq fun _K_18 _hK_18 => ?_
      refine W_region ?_
      refine WL_step rfl rfl (r_assign rfl) ?_
      refine WL_nil ?_
      refine thn_nrm (_hK_18 _ _ ?_)
      clear _hK_18
      refine W_ret ?_
      clear _hK_8
      exact ret_intro [_] ⟨rfl, trivial⟩ ⟨congrArg Value.bool (decide_eq_true (eq_of_take _ht (by omega) (by omega))).symm, E⟩

/-- laws.eqExpr -/
theorem c_laws_eqExpr {w : World} {_B_a : Nat} {_v_a : Value} {a : List Token} (_h_a : Ls Token.cs 4 w _B_a _v_a a) {_B_b : Nat} {_v_b : Value} {b : List Token} (_h_b : Ls Token.cs 4 w _B_b _v_b b) :
    Ctr Try.prog 19 #[(.agg #[_v_a]), (.agg #[_v_b])] w (fun v w' => v = .bool (decide (a = b)) ∧ Ch [] w w') := by
  obtain ⟨_A_a, _C_a, _e1_a⟩ := _h_a.val
  subst _e1_a
  have _l_a := _h_a.len
  have _h_a := _h_a.here (by decide)
  obtain ⟨_A_b, _C_b, _e1_b⟩ := _h_b.val
  subst _e1_b
  have _l_b := _h_b.len
  have _h_b := _h_b.here (by decide)
  have E := Ch.refl [] w
  refine Ctr_of_W (N := 11) (vs0 := [(.agg #[(.slice _A_a a.length _C_a)]), (.agg #[(.slice _A_b b.length _C_b)])]) Try.func19 rfl rfl rfl ?_
  refine W_seq fun _K_1 _hK_1 => ?_
  refine W_region ?_
  refine WL_s rfl rfl ?_
  refine s_box rfl fun _b2 _w_2 _m2 _cw_2 _e2 => ?_
  have _cw_2z := _cw_2.size
  have E := E.trans _cw_2
  have _z2 := _m2.lt
  replace _m2 : Blk _w_2 _b2 28 [(.slice _A_a a.length _C_a)] := _m2
  refine WL_s rfl rfl ?_
  refine s_box rfl fun _b3 _w_3 _m3 _cw_3 _e3 => ?_
  have _cw_3z := _cw_3.size
  have E := E.trans _cw_3
  have _z3 := _m3.lt
  replace _m3 : Blk _w_3 _b3 28 [(.slice _A_b b.length _C_b)] := _m3
  refine WL_step rfl rfl (r_assign rfl) ?_
  refine WL_nil ?_
  refine thn_nrm (_hK_1 _ _ ?_)
  clear _hK_1
  refine W_seq fun _K_4 _hK_4 => ?_
  refine W_seq fun _K_5 _hK_5 => ?_
  refine W_region ?_
  refine WL_step rfl rfl (r_fieldAddr fa28_0 rfl) ?_
  have _f_6 := (_m2.ch0 _cw_3)
  refine WL_step rfl rfl (r_loadAt _f_6.at_ agg26 rfl rfl) ?_
  refine WL_step rfl rfl (r_fieldAddr fa28_0 rfl) ?_
  refine WL_step rfl rfl (r_loadAt _m3.at_ agg26 rfl rfl) ?_
  refine WL_s rfl rfl ?_
  have _f_7 := ((_h_a.ch0 _cw_2).ch0 _cw_3)
  have _f_8 := ((_h_b.ch0 _cw_2).ch0 _cw_3)
  refine Step.call (r_call (xs := [.tmp 6, .tmp 8]) fk54 rfl) (c_laws_eqTokenS _f_7 _f_8 ) fun _v9 _w_9 _q9 => ?_
  obtain ⟨rfl, _cw_9⟩ := _q9
  have _cw_9z := _cw_9.size
  have E := E.trans _cw_9
  refine WL_step rfl rfl (r_not rfl) ?_
  refine WL_nil ?_
  refine thn_nrm (_hK_5 _ _ ?_)
  clear _hK_5
  refine W_cond rfl (fun _h10 => ?_) (fun _h10 => ?_)
  · have _h10 := bf_d (bt_n _h10)
    refine W_seq fun _K_10 _hK_10 => ?_
    refine W_region ?_
    refine WL_step rfl rfl (r_assign rfl) ?_
    refine WL_nil ?_
    refine thn_nrm (_hK_10 _ _ ?_)
    clear _hK_10
    refine W_ret (thn_ret ?_)
    clear _hK_4
    exact ret_intro [_] ⟨rfl, trivial⟩ ⟨congrArg Value.bool (by simp_all), E⟩
  · have _h10 := bt_d (bf_n _h10)
    refine W_skip ?_
    refine thn_nrm (_hK_4 _ _ ?_)
    clear _hK_4
    refine W_seq fun _K_11 _hK_11 => ?_
    refine W_region ?_
    refine WL_step rfl rfl (r_assign rfl) ?_
    refine WL_nil ?_
    refine thn_nrm (_hK_11 _ _ ?_)
    clear _hK_11
    refine W_ret ?_
    exact ret_intro [_] ⟨rfl, trivial⟩ ⟨congrArg Value.bool (by simp_all), E⟩

/-- laws.heldTokenS -/
theorem c_laws_heldTokenS {w : World} {_B_a : Nat} {_v_a : Value} {a : List Token} (_h_a : Ls Token.cs 4 w _B_a _v_a a) (k : Int) (hk0 : 0 ≤ k) (hkk : k + 4 * a.length ≤ 4611686018427387904) :
    Ctr Try.prog 56 #[_v_a, (.int .i64 k)] w (fun v w' => v = .int .i64 (if a = mkToken k a.length then k + 4 * a.length else -1) ∧ Ch [] w w') := by
  obtain ⟨_A_a, _C_a, _e1_a⟩ := _h_a.val
  subst _e1_a
  have _l_a := _h_a.len
  have _h_a := _h_a.here (by decide)
  have E := Ch.refl [] w
  refine Ctr_of_W (N := 49) (vs0 := [(.slice _A_a a.length _C_a), (.int .i64 k)]) Try.func56 rfl rfl rfl ?_
  refine W_seq fun _K_1 _hK_1 => ?_
  refine W_region ?_
  refine WL_step rfl rfl (r_assign rfl) ?_
  refine WL_nil ?_
  refine thn_nrm (_hK_1 _ _ ?_)
  clear _hK_1
  refine W_seq fun _K_2 _hK_2 => ?_
  refine W_seq fun _K_3 _hK_3 => ?_
  refine W_region ?_
  refine WL_step rfl rfl (r_assign rfl) ?_
  refine WL_nil ?_
  refine thn_nrm (_hK_3 _ _ ?_)
  clear _hK_3
  refine W_block ?_
  refine W_loop (σ := Nat × Int) (fun ⟨i, kk⟩ => [(0, (.slice _A_a a.length _C_a)), (1, (.int .i64 kk)), (5, (.int .i64 ((i : Nat) : Int)))]) (fun ⟨i, kk⟩ wx => Ch [] w wx ∧ w.heap.size ≤ wx.heap.size ∧ i ≤ a.length ∧ kk = k + 4 * i ∧ a.take i = mkToken k i) (fun ⟨i, kk⟩ => a.length - i) (0, k) (Sub.cons rfl (Sub.cons rfl (Sub.cons rfl (Sub.nil _)))) ⟨E, (Nat.le_refl _), (by omega), (by omega), rfl⟩ ?_
  rintro ⟨i, kk⟩ _wr_4 ⟨E, _zz0, hi, hq, _ht⟩
  have _E0h := E
  have _E0hz := _E0h.size
  refine W_seq fun _K_5 _hK_5 => ?_
  refine W_seq fun _K_6 _hK_6 => ?_
  refine W_region ?_
  refine WL_step rfl rfl (r_move rfl) ?_
  refine WL_step rfl rfl (r_move rfl) ?_
  refine WL_step rfl rfl (r_len (by rw [el26]; rfl) rfl) ?_
  refine WL_step rfl rfl (r_lss rfl rfl) ?_
  refine WL_nil ?_
  refine thn_nrm (_hK_6 _ _ ?_)
  clear _hK_6
  refine W_cond rfl (fun _h9 => ?_) (fun _h9 => ?_)
  · have _h9 := bt_d _h9
    refine W_skip ?_
    refine thn_nrm (_hK_5 _ _ ?_)
    clear _hK_5
    refine W_seq fun _K_7 _hK_7 => ?_
    refine W_block ?_
    refine W_seq fun _K_8 _hK_8 => ?_
    refine W_seq fun _K_9 _hK_9 => ?_
    refine W_region ?_
    refine WL_step rfl rfl (r_move rfl) ?_
    refine WL_step rfl rfl (r_move rfl) ?_
    refine WL_s rfl rfl ?_
    have _f_10 := (_h_a.ch0 _E0h)
    refine (s_index _f_10 Token.len el26 sz55 rfl rfl rfl (by omega) fun _p14 _y14 _hy14 _a14 => ?_)
    refine WL_step rfl rfl (r_fieldAddr fa55_0 rfl) ?_
    refine WL_step rfl rfl (r_loadAt _a14 agg3 rfl rfl) ?_
    refine WL_step rfl rfl (r_move rfl) ?_
    refine WL_step rfl rfl (r_neq rfl rfl) ?_
    refine WL_nil ?_
    refine thn_nrm (_hK_9 _ _ ?_)
    clear _hK_9
    refine W_cond rfl (fun _h18 => ?_) (fun _h18 => ?_)
    · have _h18 := bf_d (bt_n _h18)
      refine W_seq fun _K_11 _hK_11 => ?_
      refine W_region ?_
      refine WL_step rfl rfl (r_assign rfl) ?_
      refine WL_nil ?_
      refine thn_nrm (_hK_11 _ _ ?_)
      clear _hK_11
      refine W_ret (thn_ret (inB_ret (thn_ret (thn_ret (inB_ret (thn_ret ?_))))))
      clear _hK_2 _hK_7 _hK_8
      exact ret_intro [_] ⟨rfl, trivial⟩ ⟨congrArg (Value.int .i64) (if_neg (fun e => _h18 (by have _e2 := (heldToken_get e _hy14).1; omega))).symm, E⟩
    · have _h18 := bt_d (bf_n _h18)
      refine W_skip ?_
      refine thn_nrm (_hK_8 _ _ ?_)
      clear _hK_8
      refine W_seq fun _K_12 _hK_12 => ?_
      refine W_region ?_
      refine WL_step rfl rfl (r_move rfl) ?_
      refine WL_step rfl rfl (r_add (by omega) rfl rfl) ?_
      refine WL_step rfl rfl (r_assign rfl) ?_
      refine WL_nil ?_
      refine thn_nrm (_hK_12 _ _ ?_)
      clear _hK_12
      refine W_seq fun _K_13 _hK_13 => ?_
      refine W_seq fun _K_14 _hK_14 => ?_
      refine W_region ?_
      refine WL_step rfl rfl (r_move rfl) ?_
      refine WL_step rfl rfl (r_move rfl) ?_
      refine WL_s rfl rfl ?_
      refine (s_index _f_10 Token.len el26 sz55 rfl rfl rfl (by omega) fun _p23 _y23 _hy23 _a23 => ?_)
      refine WL_step rfl rfl (r_fieldAddr fa55_1 rfl) ?_
      refine WL_step rfl rfl (r_loadAt _a23 agg3 rfl rfl) ?_
      refine WL_step rfl rfl (r_move rfl) ?_
      refine WL_step rfl rfl (r_neq rfl rfl) ?_
      refine WL_nil ?_
      refine thn_nrm (_hK_14 _ _ ?_)
      clear _hK_14
      refine W_cond rfl (fun _h27 => ?_) (fun _h27 => ?_)
      · have _h27 := bf_d (bt_n _h27)
        refine W_seq fun _K_15 _hK_15 => ?_
        refine W_region ?_
        refine WL_step rfl rfl (r_assign rfl) ?_
        refine WL_nil ?_
        refine thn_nrm (_hK_15 _ _ ?_)
        clear _hK_15
        refine W_ret (thn_ret (inB_ret (thn_ret (thn_ret (inB_ret (thn_ret ?_))))))
        clear _hK_2 _hK_7 _hK_13
        exact ret_intro [_] ⟨rfl, trivial⟩ ⟨congrArg (Value.int .i64) (if_neg (fun e => _h27 (by have _e2 := (heldToken_get e _hy23).2.1; omega))).symm, E⟩
      · have _h27 := bt_d (bf_n _h27)
        refine W_skip ?_
        refine thn_nrm (_hK_13 _ _ ?_)
        clear _hK_13
        refine W_seq fun _K_16 _hK_16 => ?_
        refine W_region ?_
        refine WL_step rfl rfl (r_move rfl) ?_
        refine WL_step rfl rfl (r_add (by omega) rfl rfl) ?_
        refine WL_step rfl rfl (r_assign rfl) ?_
        refine WL_nil ?_
        refine thn_nrm (_hK_16 _ _ ?_)
        clear _hK_16
        refine W_seq fun _K_17 _hK_17 => ?_
        refine W_seq fun _K_18 _hK_18 => ?_
        refine W_region ?_
        refine WL_step rfl rfl (r_move rfl) ?_
        refine WL_step rfl rfl (r_move rfl) ?_
        refine WL_s rfl rfl ?_
        refine (s_index _f_10 Token.len el26 sz55 rfl rfl rfl (by omega) fun _p32 _y32 _hy32 _a32 => ?_)
        refine WL_step rfl rfl (r_fieldAddr fa55_2 rfl) ?_
        refine WL_step rfl rfl (r_loadAt _a32 agg3 rfl rfl) ?_
        refine WL_step rfl rfl (r_move rfl) ?_
        refine WL_step rfl rfl (r_neq rfl rfl) ?_
        refine WL_nil ?_
        refine thn_nrm (_hK_18 _ _ ?_)
        clear _hK_18
        refine W_cond rfl (fun _h36 => ?_) (fun _h36 => ?_)
        · have _h36 := bf_d (bt_n _h36)
          refine W_seq fun _K_19 _hK_19 => ?_
          refine W_region ?_
          refine WL_step rfl rfl (r_assign rfl) ?_
          refine WL_nil ?_
          refine thn_nrm (_hK_19 _ _ ?_)
          clear _hK_19
          refine W_ret (thn_ret (inB_ret (thn_ret (thn_ret (inB_ret (thn_ret ?_))))))
          clear _hK_2 _hK_7 _hK_17
          exact ret_intro [_] ⟨rfl, trivial⟩ ⟨congrArg (Value.int .i64) (if_neg (fun e => _h36 (by have _e2 := (heldToken_get e _hy32).2.2.1; omega))).symm, E⟩
        · have _h36 := bt_d (bf_n _h36)
          refine W_skip ?_
          refine thn_nrm (_hK_17 _ _ ?_)
          clear _hK_17
          refine W_seq fun _K_20 _hK_20 => ?_
          refine W_region ?_
          refine WL_step rfl rfl (r_move rfl) ?_
          refine WL_step rfl rfl (r_add (by omega) rfl rfl) ?_
          refine WL_step rfl rfl (r_assign rfl) ?_
          refine WL_nil ?_
          refine thn_nrm (_hK_20 _ _ ?_)
          clear _hK_20
          refine W_seq fun _K_21 _hK_21 => ?_
          refine W_seq fun _K_22 _hK_22 => ?_
          refine W_region ?_
          refine WL_step rfl rfl (r_move rfl) ?_
          refine WL_step rfl rfl (r_move rfl) ?_
          refine WL_s rfl rfl ?_
          refine (s_index _f_10 Token.len el26 sz55 rfl rfl rfl (by omega) fun _p41 _y41 _hy41 _a41 => ?_)
          refine WL_step rfl rfl (r_fieldAddr fa55_3 rfl) ?_
          refine WL_step rfl rfl (r_loadAt _a41 agg3 rfl rfl) ?_
          refine WL_step rfl rfl (r_move rfl) ?_
          refine WL_step rfl rfl (r_neq rfl rfl) ?_
          refine WL_nil ?_
          refine thn_nrm (_hK_22 _ _ ?_)
          clear _hK_22
          refine W_cond rfl (fun _h45 => ?_) (fun _h45 => ?_)
          · have _h45 := bf_d (bt_n _h45)
            refine W_seq fun _K_23 _hK_23 => ?_
            refine W_region ?_
            refine WL_step rfl rfl (r_assign rfl) ?_
            refine WL_nil ?_
            refine thn_nrm (_hK_23 _ _ ?_)
            clear _hK_23
            refine W_ret (thn_ret (inB_ret (thn_ret (thn_ret (inB_ret (thn_ret ?_))))))
            clear _hK_2 _hK_7 _hK_21
            exact ret_intro [_] ⟨rfl, trivial⟩ ⟨congrArg (Value.int .i64) (if_neg (fun e => _h45 (by have _e2 := (heldToken_get e _hy41).2.2.2; omega))).symm, E⟩
          · have _h45 := bt_d (bf_n _h45)
            refine W_skip ?_
            refine thn_nrm (_hK_21 _ _ ?_)
            clear _hK_21
            refine W_region ?_
            refine WL_step rfl rfl (r_move rfl) ?_
            refine WL_step rfl rfl (r_add (by omega) rfl rfl) ?_
            refine WL_step rfl rfl (r_assign rfl) ?_
            refine WL_nil ?_
            refine inB_nrm ?_
            refine thn_nrm (_hK_7 _ _ ?_)
            clear _hK_7
            refine W_region ?_
            refine WL_step rfl rfl (r_move rfl) ?_
            refine WL_step rfl rfl (r_add (by omega) rfl rfl) ?_
            refine WL_step rfl rfl (r_assign rfl) ?_
            refine WL_nil ?_
            exact thn_nrm (Exists.intro ((i + 1), ((((kk + 1) + 1) + 1) + 1)) ⟨⟨E, (by omega), (by omega), (by omega), (heldToken_step _ht hq _hy14 _h18 _hy23 _h27 _hy32 _h36 _hy41 _h45)⟩, Sub.cons rfl (Sub.cons rfl (Sub.cons rfl (Sub.nil _))), (by first | omega | (dsimp only; omega))⟩)
  · have _h9 := bf_d _h9
    refine W_exit (thn_exit (thn_exit (inB_hit ?_)))
    refine thn_nrm (_hK_2 _ _ ?_)
    clear _hK_2
    refine W_seq fun _K_24 _hK_24 => ?_
    refine W_region ?_
    refine WL_step rfl rfl (r_move rfl) ?_
    refine WL_step rfl rfl (r_assign rfl) ?_
    refine WL_nil ?_
    refine thn_nrm (_hK_24 _ _ ?_)
    clear _hK_24
    refine W_ret ?_
    clear _hK_5
    exact ret_intro [_] ⟨rfl, trivial⟩ ⟨congrArg (Value.int .i64) (by rw [if_pos (heldToken_all _ht (by omega) (by omega))]; omega), E⟩

/-- laws.heldExpr -/
theorem c_laws_heldExpr {w : World} {_B_a : Nat} {_v_a : Value} {a : List Token} (_h_a : Ls Token.cs 4 w _B_a _v_a a) (k : Int) (hk0 : 0 ≤ k) (hkk : k + 4 * a.length ≤ 4611686018427387904) :
    Ctr Try.prog 21 #[(.agg #[_v_a]), (.int .i64 k)] w (fun v w' => v = .int .i64 (if a = mkToken k a.length then k + 4 * a.length else -1) ∧ Ch [] w w') := by
  obtain ⟨_A_a, _C_a, _e1_a⟩ := _h_a.val
  subst _e1_a
  have _l_a := _h_a.len
  have _h_a := _h_a.here (by decide)
  have E := Ch.refl [] w
  refine Ctr_of_W (N := 12) (vs0 := [(.agg #[(.slice _A_a a.length _C_a)]), (.int .i64 k)]) Try.func21 rfl rfl rfl ?_
  refine W_seq fun _K_1 _hK_1 => ?_
  refine W_region ?_
  refine WL_s rfl rfl ?_
  refine s_box rfl fun _b2 _w_2 _m2 _cw_2 _e2 => ?_
  have _cw_2z := _cw_2.size
  have E := E.trans _cw_2
  have _z2 := _m2.lt
  replace _m2 : Blk _w_2 _b2 28 [(.slice _A_a a.length _C_a)] := _m2
  refine WL_step rfl rfl (r_assign rfl) ?_
  refine WL_nil ?_
  refine thn_nrm (_hK_1 _ _ ?_)
  clear _hK_1
  refine W_seq fun _K_3 _hK_3 => ?_
  refine W_region ?_
  refine WL_step rfl rfl (r_fieldAddr fa28_0 rfl) ?_
  refine WL_step rfl rfl (r_loadAt _m2.at_ agg26 rfl rfl) ?_
  refine WL_step rfl rfl (r_move rfl) ?_
  refine WL_s rfl rfl ?_
  have _f_4 := (_h_a.ch0 _cw_2)
  refine Step.call (r_call (xs := [.tmp 6, .tmp 7]) fk56 rfl) (c_laws_heldTokenS _f_4 _ (by omega) (by first | omega | (simp <;> omega))) fun _v8 _w_5 _q8 => ?_
  obtain ⟨rfl, _cw_5⟩ := _q8
  have _cw_5z := _cw_5.size
  have E := E.trans _cw_5
  refine WL_step rfl rfl (r_assign rfl) ?_
  refine WL_nil ?_
  refine thn_nrm (_hK_3 _ _ ?_)
  clear _hK_3
  refine W_seq fun _K_6 _hK_6 => ?_
  refine W_seq fun _K_7 _hK_7 => ?_
  refine W_region ?_
  refine WL_step rfl rfl (r_move rfl) ?_
  refine WL_step rfl rfl (r_lss rfl rfl) ?_
  refine WL_nil ?_
  refine thn_nrm (_hK_7 _ _ ?_)
  clear _hK_7
  refine W_cond rfl (fun _h10 => ?_) (fun _h10 => ?_)
  · have _h10 := bt_d _h10
    refine W_seq fun _K_8 _hK_8 => ?_
    refine W_region ?_
    refine WL_step rfl rfl (r_assign rfl) ?_
    refine WL_nil ?_
    refine thn_nrm (_hK_8 _ _ ?_)
    clear _hK_8
    refine W_ret (thn_ret ?_)
    clear _hK_6
    exact ret_intro [_] ⟨rfl, trivial⟩ ⟨congrArg (Value.int .i64) (by split <;> (first | rfl | (rename_i hc; rw [if_pos hc] at _h10; omega))), E⟩
  · have _h10 := bf_d _h10
    refine W_skip ?_
    refine thn_nrm (_hK_6 _ _ ?_)
    clear _hK_6
    refine W_seq fun _K_9 _hK_9 => ?_
    refine W_region ?_
    refine WL_step rfl rfl (r_move rfl) ?_
    refine WL_step rfl rfl (r_assign rfl) ?_
    refine WL_nil ?_
    refine thn_nrm (_hK_9 _ _ ?_)
    clear _hK_9
    refine W_ret ?_
    exact ret_intro [_] ⟨rfl, trivial⟩ ⟨congrArg (Value.int .i64) rfl, E⟩

/-- laws.markTokenS -/
theorem c_laws_markTokenS {w : World} {e_a : Nat} {_v_a : Value} {a : List Token} (_h_a : Ol Token.cs e_a 4 w _v_a a) (k : Int) (hk0 : 0 ≤ k) (hkk : k + 4 * a.length ≤ 4611686018427387904) :
    Ctr Try.prog 55 #[_v_a, (.int .i64 k)] w (fun v w' => v = .int .i64 (k + 4 * a.length) ∧ Ol Token.cs e_a 4 w' _v_a (mkToken k a.length) ∧ Ch (bl _v_a) w w') := by
  obtain ⟨_A_a, _C_a, _e1_a⟩ := _h_a.val
  subst _e1_a
  have _l_a := _h_a.len
  have _lt_a := _h_a.lt
  have E := Ch.refl (bl (.slice _A_a a.length _C_a)) w
  refine Ctr_of_W (N := 41) (vs0 := [(.slice _A_a a.length _C_a), (.int .i64 k)]) Try.func55 rfl rfl rfl ?_
  refine W_seq fun _K_1 _hK_1 => ?_
  refine W_region ?_
  refine WL_step rfl rfl (r_assign rfl) ?_
  refine WL_nil ?_
  refine thn_nrm (_hK_1 _ _ ?_)
  clear _hK_1
  refine W_seq fun _K_2 _hK_2 => ?_
  refine W_seq fun _K_3 _hK_3 => ?_
  refine W_region ?_
  refine WL_step rfl rfl (r_assign rfl) ?_
  refine WL_nil ?_
  refine thn_nrm (_hK_3 _ _ ?_)
  clear _hK_3
  refine W_block ?_
  have _oi_4 : Ol Token.cs e_a 4 w (.slice _A_a a.length _C_a) (mkToken k 0 ++ a.drop 0) := by
    have hx := _h_a
    simpa [mkToken] using hx
  refine W_loop (σ := Nat × Int) (fun ⟨i, kk⟩ => [(0, (.slice _A_a a.length _C_a)), (1, (.int .i64 kk)), (4, (.int .i64 0)), (5, (.int .i64 ((i : Nat) : Int)))]) (fun ⟨i, kk⟩ wx => Ch (bl (.slice _A_a a.length _C_a)) w wx ∧ w.heap.size ≤ wx.heap.size ∧ i ≤ a.length ∧ kk = k + 4 * i ∧ Ol Token.cs e_a 4 wx (.slice _A_a a.length _C_a) (mkToken k i ++ a.drop i)) (fun ⟨i, kk⟩ => a.length - i) (0, k) (Sub.cons rfl (Sub.cons rfl (Sub.cons rfl (Sub.cons rfl (Sub.nil _))))) ⟨E, (Nat.le_refl _), (by omega), (by omega), _oi_4⟩ ?_
  rintro ⟨i, kk⟩ _wr_5 ⟨E, _zz0, hi, hq, _o0_0⟩
  have _E0h := E
  have _E0hz := _E0h.size
  refine W_seq fun _K_6 _hK_6 => ?_
  refine W_seq fun _K_7 _hK_7 => ?_
  refine W_region ?_
  refine WL_step rfl rfl (r_move rfl) ?_
  refine WL_step rfl rfl (r_move rfl) ?_
  refine WL_step rfl rfl (r_len (by rw [el26]; rfl) rfl) ?_
  refine WL_step rfl rfl (r_lss rfl rfl) ?_
  refine WL_nil ?_
  refine thn_nrm (_hK_7 _ _ ?_)
  clear _hK_7
  refine W_cond rfl (fun _h9 => ?_) (fun _h9 => ?_)
  · have _h9 := bt_d _h9
    refine W_skip ?_
    refine thn_nrm (_hK_6 _ _ ?_)
    clear _hK_6
    refine W_seq fun _K_8 _hK_8 => ?_
    refine W_block ?_
    refine W_seq fun _K_9 _hK_9 => ?_
    refine W_region ?_
    refine WL_step rfl rfl (r_move rfl) ?_
    refine WL_step rfl rfl (r_move rfl) ?_
    refine WL_step rfl rfl (r_move rfl) ?_
    refine WL_s rfl rfl ?_
    refine s_indexO (j := i) _o0_0 el26 sz55 rfl rfl rfl (by first | omega | (simp [mkToken] <;> omega)) fun _g15 _o15 _cp15 _q15 => ?_
    refine WL_step rfl rfl (r_fieldAddr fa55_0 rfl) ?_
    refine WL_s rfl rfl ?_
    obtain ⟨ye_12, hy_13⟩ := get_some (xs := mkToken k i ++ a.drop i) (j := i) (by first | omega | (simp [mkToken] <;> omega))
    refine s_storeF (j := i) 0 (⟨ye_12.kind, ye_12.letter, ye_12.low, ye_12.high⟩ : Token) (⟨kk, ye_12.letter, ye_12.low, ye_12.high⟩ : Token) _o0_0 _q15 hy_13 Token.len rfl sz3 rfl rfl rfl rfl fun _w_10 _o_11 _cw_10 => ?_
    have _cw_10z := _cw_10.size
    have E := E.trans _cw_10
    refine WL_nil ?_
    refine thn_nrm (_hK_9 _ _ ?_)
    clear _hK_9
    refine W_seq fun _K_14 _hK_14 => ?_
    refine W_region ?_
    refine WL_step rfl rfl (r_move rfl) ?_
    refine WL_step rfl rfl (r_add (by omega) rfl rfl) ?_
    refine WL_step rfl rfl (r_assign rfl) ?_
    refine WL_nil ?_
    refine thn_nrm (_hK_14 _ _ ?_)
    clear _hK_14
    refine W_seq fun _K_15 _hK_15 => ?_
    refine W_region ?_
    refine WL_step rfl rfl (r_move rfl) ?_
    refine WL_step rfl rfl (r_move rfl) ?_
    refine WL_step rfl rfl (r_move rfl) ?_
    refine WL_s rfl rfl ?_
    refine s_indexO (j := i) _o_11 el26 sz55 rfl rfl rfl (by first | omega | (simp [mkToken] <;> omega)) fun _g22 _o22 _cp22 _q22 => ?_
    refine WL_step rfl rfl (r_fieldAddr fa55_1 rfl) ?_
    refine WL_s rfl rfl ?_
    refine s_storeF (j := i) 1 (⟨kk, ye_12.letter, ye_12.low, ye_12.high⟩ : Token) (⟨kk, (kk + 1), ye_12.low, ye_12.high⟩ : Token) _o_11 _q22 (get_set hy_13 _) Token.len rfl sz3 rfl rfl rfl rfl fun _w_16 _o_17 _cw_16 => ?_
    rw [List.set_set] at _o_17
    have _cw_16z := _cw_16.size
    have E := E.trans _cw_16
    refine WL_nil ?_
    refine thn_nrm (_hK_15 _ _ ?_)
    clear _hK_15
    refine W_seq fun _K_18 _hK_18 => ?_
    refine W_region ?_
    refine WL_step rfl rfl (r_move rfl) ?_
    refine WL_step rfl rfl (r_add (by omega) rfl rfl) ?_
    refine WL_step rfl rfl (r_assign rfl) ?_
    refine WL_nil ?_
    refine thn_nrm (_hK_18 _ _ ?_)
    clear _hK_18
    refine W_seq fun _K_19 _hK_19 => ?_
    refine W_region ?_
    refine WL_step rfl rfl (r_move rfl) ?_
    refine WL_step rfl rfl (r_move rfl) ?_
    refine WL_step rfl rfl (r_move rfl) ?_
    refine WL_s rfl rfl ?_
    refine s_indexO (j := i) _o_17 el26 sz55 rfl rfl rfl (by first | omega | (simp [mkToken] <;> omega)) fun _g29 _o29 _cp29 _q29 => ?_
    refine WL_step rfl rfl (r_fieldAddr fa55_2 rfl) ?_
    refine WL_s rfl rfl ?_
    refine s_storeF (j := i) 2 (⟨kk, (kk + 1), ye_12.low, ye_12.high⟩ : Token) (⟨kk, (kk + 1), ((kk + 1) + 1), ye_12.high⟩ : Token) _o_17 _q29 (get_set hy_13 _) Token.len rfl sz3 rfl rfl rfl rfl fun _w_20 _o_21 _cw_20 => ?_
    rw [List.set_set] at _o_21
    have _cw_20z := _cw_20.size
    have E := E.trans _cw_20
    refine WL_nil ?_
    refine thn_nrm (_hK_19 _ _ ?_)
    clear _hK_19
    refine W_seq fun _K_22 _hK_22 => ?_
    refine W_region ?_
    refine WL_step rfl rfl (r_move rfl) ?_
    refine WL_step rfl rfl (r_add (by omega) rfl rfl) ?_
    refine WL_step rfl rfl (r_assign rfl) ?_
    refine WL_nil ?_
    refine thn_nrm (_hK_22 _ _ ?_)
    clear _hK_22
    refine W_seq fun _K_23 _hK_23 => ?_
    refine W_region ?_
    refine WL_step rfl rfl (r_move rfl) ?_
    refine WL_step rfl rfl (r_move rfl) ?_
    refine WL_step rfl rfl (r_move rfl) ?_
    refine WL_s rfl rfl ?_
    refine s_indexO (j := i) _o_21 el26 sz55 rfl rfl rfl (by first | omega | (simp [mkToken] <;> omega)) fun _g36 _o36 _cp36 _q36 => ?_
    refine WL_step rfl rfl (r_fieldAddr fa55_3 rfl) ?_
    refine WL_s rfl rfl ?_
    refine s_storeF (j := i) 3 (⟨kk, (kk + 1), ((kk + 1) + 1), ye_12.high⟩ : Token) (⟨kk, (kk + 1), ((kk + 1) + 1), (((kk + 1) + 1) + 1)⟩ : Token) _o_21 _q36 (get_set hy_13 _) Token.len rfl sz3 rfl rfl rfl rfl fun _w_24 _o_25 _cw_24 => ?_
    rw [List.set_set] at _o_25
    have _cw_24z := _cw_24.size
    have E := E.trans _cw_24
    refine WL_nil ?_
    refine thn_nrm (_hK_23 _ _ ?_)
    clear _hK_23
    refine W_region ?_
    refine WL_step rfl rfl (r_move rfl) ?_
    refine WL_step rfl rfl (r_add (by omega) rfl rfl) ?_
    refine WL_step rfl rfl (r_assign rfl) ?_
    refine WL_nil ?_
    refine inB_nrm ?_
    refine thn_nrm (_hK_8 _ _ ?_)
    clear _hK_8
    refine W_region ?_
    refine WL_step rfl rfl (r_move rfl) ?_
    refine WL_step rfl rfl (r_add (by omega) rfl rfl) ?_
    refine WL_step rfl rfl (r_assign rfl) ?_
    refine WL_nil ?_
    have _on_26 : Ol Token.cs e_a 4 _w_24 (.slice _A_a a.length _C_a) (mkToken k (i + 1) ++ a.drop (i + 1)) := by
      have hx := _o_25
      rwa [mkToken_step a (by omega) hq] at hx
    exact thn_nrm (Exists.intro ((i + 1), ((((kk + 1) + 1) + 1) + 1)) ⟨⟨E, (by omega), (by omega), (by omega), _on_26⟩, Sub.cons rfl (Sub.cons rfl (Sub.cons rfl (Sub.cons rfl (Sub.nil _)))), (by first | omega | (dsimp only; omega))⟩)
  · have _h9 := bf_d _h9
    refine W_exit (thn_exit (thn_exit (inB_hit ?_)))
    refine thn_nrm (_hK_2 _ _ ?_)
    clear _hK_2
    refine W_seq fun _K_27 _hK_27 => ?_
    refine W_region ?_
    refine WL_step rfl rfl (r_move rfl) ?_
    refine WL_step rfl rfl (r_assign rfl) ?_
    refine WL_nil ?_
    refine thn_nrm (_hK_27 _ _ ?_)
    clear _hK_27
    refine W_ret ?_
    clear _hK_6
    have _o_28 : Ol Token.cs e_a 4 _wr_5 (.slice _A_a a.length _C_a) (mkToken k a.length) := by
      have hx := _o0_0
      have _e1 : i = a.length := (by omega); subst _e1; simpa using hx
    exact ret_intro [_] ⟨rfl, trivial⟩ ⟨congrArg (Value.int .i64) (by omega), _o_28, E⟩

/-- laws.markExpr -/
theorem c_laws_markExpr {w : World} {e_a : Nat} {_v_a : Value} {a : List Token} (_h_a : Ol Token.cs e_a 4 w _v_a a) (k : Int) (hk0 : 0 ≤ k) (hkk : k + 4 * a.length ≤ 4611686018427387904) :
    Ctr Try.prog 20 #[(.agg #[_v_a]), (.int .i64 k)] w (fun v w' => v = .int .i64 (k + 4 * a.length) ∧ Ol Token.cs e_a 4 w' _v_a (mkToken k a.length) ∧ Ch (bl _v_a) w w') := by
  obtain ⟨_A_a, _C_a, _e1_a⟩ := _h_a.val
  subst _e1_a
  have _l_a := _h_a.len
  have _lt_a := _h_a.lt
  have E := Ch.refl (bl (.slice _A_a a.length _C_a)) w
  refine Ctr_of_W (N := 10) (vs0 := [(.agg #[(.slice _A_a a.length _C_a)]), (.int .i64 k)]) Try.func20 rfl rfl rfl ?_
  refine W_seq fun _K_1 _hK_1 => ?_
  refine W_region ?_
  refine WL_s rfl rfl ?_
  refine s_box rfl fun _b2 _w_2 _m2 _cw_2 _e2 => ?_
  have _cw_2z := _cw_2.size
  have E := E.trans _cw_2.of_nil
  have _z2 := _m2.lt
  replace _m2 : Blk _w_2 _b2 28 [(.slice _A_a a.length _C_a)] := _m2
  refine WL_step rfl rfl (r_assign rfl) ?_
  refine WL_nil ?_
  refine thn_nrm (_hK_1 _ _ ?_)
  clear _hK_1
  refine W_seq fun _K_3 _hK_3 => ?_
  refine W_region ?_
  refine WL_step rfl rfl (r_fieldAddr fa28_0 rfl) ?_
  refine WL_step rfl rfl (r_loadAt _m2.at_ agg26 rfl rfl) ?_
  refine WL_step rfl rfl (r_move rfl) ?_
  refine WL_s rfl rfl ?_
  have _f_4 := (_h_a.ch0 _cw_2)
  refine Step.call (r_call (xs := [.tmp 6, .tmp 7]) fk55 rfl) (c_laws_markTokenS _f_4 _ (by omega) (by first | omega | (simp <;> omega))) fun _v8 _w_5 _q8 => ?_
  obtain ⟨rfl, _q8, _cw_5⟩ := _q8
  have _cw_5z := _cw_5.size
  have E := E.trans _cw_5
  refine WL_step rfl rfl (r_assign rfl) ?_
  refine WL_nil ?_
  refine thn_nrm (_hK_3 _ _ ?_)
  clear _hK_3
  refine W_seq fun _K_6 _hK_6 => ?_
  refine W_region ?_
  refine WL_step rfl rfl (r_move rfl) ?_
  refine WL_step rfl rfl (r_assign rfl) ?_
  refine WL_nil ?_
  refine thn_nrm (_hK_6 _ _ ?_)
  clear _hK_6
  refine W_ret ?_
  have _o_7 : Ol Token.cs e_a 4 _w_5 (.slice _A_a a.length _C_a) (mkToken k a.length) := by
    have hx := _q8
    first | exact hx | simpa using hx
  exact ret_intro [_] ⟨rfl, trivial⟩ ⟨congrArg (Value.int .i64) rfl, _o_7, E⟩

/-- laws.szTokenS -/
theorem c_laws_szTokenS {w : World} {_B_a : Nat} {_v_a : Value} {a : List Token} (_h_a : Ls Token.cs 4 w _B_a _v_a a) (left : Int) (hl : left ≤ 1048576) (_h0 : 0 ≤ left) :
    Ctr Try.prog 47 #[_v_a, (.int .i64 left)] w (fun v w' => v = .int .i64 (if left < a.length then -1 else left - a.length) ∧ Ch [] w w') := by
  obtain ⟨_A_a, _C_a, _e1_a⟩ := _h_a.val
  subst _e1_a
  have _l_a := _h_a.len
  have _h_a := _h_a.here (by decide)
  have E := Ch.refl [] w
  refine Ctr_of_W (N := 12) (vs0 := [(.slice _A_a a.length _C_a), (.int .i64 left)]) Try.func47 rfl rfl rfl ?_
  refine W_seq fun _K_1 _hK_1 => ?_
  refine W_region ?_
  refine WL_step rfl rfl (r_assign rfl) ?_
  refine WL_nil ?_
  refine thn_nrm (_hK_1 _ _ ?_)
  clear _hK_1
  refine W_seq fun _K_2 _hK_2 => ?_
  refine W_region ?_
  refine WL_step rfl rfl (r_move rfl) ?_
  refine WL_step rfl rfl (r_move rfl) ?_
  refine WL_step rfl rfl (r_len (by rw [el22]; rfl) rfl) ?_
  refine WL_step rfl rfl (r_sub (by omega) rfl rfl) ?_
  refine WL_step rfl rfl (r_assign rfl) ?_
  refine WL_nil ?_
  refine thn_nrm (_hK_2 _ _ ?_)
  clear _hK_2
  refine W_seq fun _K_3 _hK_3 => ?_
  refine W_seq fun _K_4 _hK_4 => ?_
  refine W_region ?_
  refine WL_step rfl rfl (r_move rfl) ?_
  refine WL_step rfl rfl (r_lss rfl rfl) ?_
  refine WL_nil ?_
  refine thn_nrm (_hK_4 _ _ ?_)
  clear _hK_4
  refine W_cond rfl (fun _h10 => ?_) (fun _h10 => ?_)
  · have _h10 := bt_d _h10
    refine W_seq fun _K_5 _hK_5 => ?_
    refine W_region ?_
    refine WL_step rfl rfl (r_assign rfl) ?_
    refine WL_nil ?_
    refine thn_nrm (_hK_5 _ _ ?_)
    clear _hK_5
    refine W_ret (thn_ret ?_)
    clear _hK_3
    exact ret_intro [_] ⟨rfl, trivial⟩ ⟨congrArg (Value.int .i64) (if_pos (by omega)).symm, E⟩
  · have _h10 := bf_d _h10
    refine W_skip ?_
    refine thn_nrm (_hK_3 _ _ ?_)
    clear _hK_3
    refine W_seq fun _K_6 _hK_6 => ?_
    refine W_region ?_
    refine WL_step rfl rfl (r_move rfl) ?_
    refine WL_step rfl rfl (r_assign rfl) ?_
    refine WL_nil ?_
    refine thn_nrm (_hK_6 _ _ ?_)
    clear _hK_6
    refine W_ret ?_
    exact ret_intro [_] ⟨rfl, trivial⟩ ⟨congrArg (Value.int .i64) (if_neg (by omega)).symm, E⟩

/-- laws.szExpr -/
theorem c_laws_szExpr {w : World} {_B_a : Nat} {_v_a : Value} {a : List Token} (_h_a : Ls Token.cs 4 w _B_a _v_a a) (left : Int) (hl : left ≤ 1048576) (_h0 : 0 ≤ left) :
    Ctr Try.prog 15 #[(.agg #[_v_a]), (.int .i64 left)] w (fun v w' => v = .int .i64 (if left < a.length then -1 else left - a.length) ∧ Ch [] w w') := by
  obtain ⟨_A_a, _C_a, _e1_a⟩ := _h_a.val
  subst _e1_a
  have _l_a := _h_a.len
  have _h_a := _h_a.here (by decide)
  have E := Ch.refl [] w
  refine Ctr_of_W (N := 12) (vs0 := [(.agg #[(.slice _A_a a.length _C_a)]), (.int .i64 left)]) Try.func15 rfl rfl rfl ?_
  refine W_seq fun _K_1 _hK_1 => ?_
  refine W_region ?_
  refine WL_s rfl rfl ?_
  refine s_box rfl fun _b2 _w_2 _m2 _cw_2 _e2 => ?_
  have _cw_2z := _cw_2.size
  have E := E.trans _cw_2
  have _z2 := _m2.lt
  replace _m2 : Blk _w_2 _b2 24 [(.slice _A_a a.length _C_a)] := _m2
  refine WL_step rfl rfl (r_assign rfl) ?_
  refine WL_nil ?_
  refine thn_nrm (_hK_1 _ _ ?_)
  clear _hK_1
  refine W_seq fun _K_3 _hK_3 => ?_
  refine W_region ?_
  refine WL_step rfl rfl (r_fieldAddr fa24_0 rfl) ?_
  refine WL_step rfl rfl (r_loadAt _m2.at_ agg22 rfl rfl) ?_
  refine WL_step rfl rfl (r_move rfl) ?_
  refine WL_s rfl rfl ?_
  have _f_4 := (_h_a.ch0 _cw_2)
  refine Step.call (r_call (xs := [.tmp 6, .tmp 7]) fk47 rfl) (c_laws_szTokenS _f_4 _ (by omega) (by omega)) fun _v8 _w_5 _q8 => ?_
  obtain ⟨rfl, _cw_5⟩ := _q8
  have _cw_5z := _cw_5.size
  have E := E.trans _cw_5
  refine WL_step rfl rfl (r_assign rfl) ?_
  refine WL_nil ?_
  refine thn_nrm (_hK_3 _ _ ?_)
  clear _hK_3
  refine W_seq fun _K_6 _hK_6 => ?_
  refine W_seq fun _K_7 _hK_7 => ?_
  refine W_region ?_
  refine WL_step rfl rfl (r_move rfl) ?_
  refine WL_step rfl rfl (r_lss rfl rfl) ?_
  refine WL_nil ?_
  refine thn_nrm (_hK_7 _ _ ?_)
  clear _hK_7
  refine W_cond rfl (fun _h10 => ?_) (fun _h10 => ?_)
  · have _h10 := bt_d _h10
    refine W_seq fun _K_8 _hK_8 => ?_
    refine W_region ?_
    refine WL_step rfl rfl (r_assign rfl) ?_
    refine WL_nil ?_
    refine thn_nrm (_hK_8 _ _ ?_)
    clear _hK_8
    refine W_ret (thn_ret ?_)
    clear _hK_6
    exact ret_intro [_] ⟨rfl, trivial⟩ ⟨congrArg (Value.int .i64) (by split <;> omega), E⟩
  · have _h10 := bf_d _h10
    refine W_skip ?_
    refine thn_nrm (_hK_6 _ _ ?_)
    clear _hK_6
    refine W_seq fun _K_9 _hK_9 => ?_
    refine W_region ?_
    refine WL_step rfl rfl (r_move rfl) ?_
    refine WL_step rfl rfl (r_assign rfl) ?_
    refine WL_nil ?_
    refine thn_nrm (_hK_9 _ _ ?_)
    clear _hK_9
    refine W_ret ?_
    exact ret_intro [_] ⟨rfl, trivial⟩ ⟨congrArg (Value.int .i64) (by split <;> omega), E⟩

/-- laws.toToken -/
theorem c_laws_toToken {w : World} (a : Token) :
    Ctr Try.prog 78 #[(.agg #[(.int .i64 a.kind), (.int .i64 a.letter), (.int .i64 a.low), (.int .i64 a.high)])] w (fun v w' => v = .agg (Token.cs (a)).toArray ∧ Ch [] w w') := by
  have E := Ch.refl [] w
  refine Ctr_of_W (N := 17) (vs0 := [(.agg #[(.int .i64 a.kind), (.int .i64 a.letter), (.int .i64 a.low), (.int .i64 a.high)])]) Try.func78 rfl rfl rfl ?_
  refine W_seq fun _K_1 _hK_1 => ?_
  refine W_region ?_
  refine WL_s rfl rfl ?_
  refine s_box rfl fun _b1 _w_2 _m1 _cw_2 _e1 => ?_
  have _cw_2z := _cw_2.size
  have E := E.trans _cw_2
  have _z1 := _m1.lt
  replace _m1 : Blk _w_2 _b1 78 [(.int .i64 a.kind), (.int .i64 a.letter), (.int .i64 a.low), (.int .i64 a.high)] := _m1
  refine WL_s rfl rfl ?_
  refine s_alloc zr55 fun _b2 _w_3 _m2 _cw_3 _e2 => ?_
  have _cw_3z := _cw_3.size
  have E := E.trans _cw_3
  have _z2 := _m2.lt
  replace _m2 : Blk _w_3 _b2 55 [(.int .i64 0), (.int .i64 0), (.int .i64 0), (.int .i64 0)] := _m2
  refine WL_nil ?_
  refine thn_nrm (_hK_1 _ _ ?_)
  clear _hK_1
  refine W_seq fun _K_4 _hK_4 => ?_
  refine W_region ?_
  refine WL_s rfl rfl ?_
  refine s_alloc zr55 fun _b3 _w_5 _m3 _cw_5 _e3 => ?_
  have _cw_5z := _cw_5.size
  have E := E.trans _cw_5
  have _z3 := _m3.lt
  replace _m3 : Blk _w_5 _b3 55 [(.int .i64 0), (.int .i64 0), (.int .i64 0), (.int .i64 0)] := _m3
  refine WL_nil ?_
  refine thn_nrm (_hK_4 _ _ ?_)
  clear _hK_4
  refine W_seq fun _K_6 _hK_6 => ?_
  refine W_region ?_
  refine WL_step rfl rfl (r_fieldAddr fa78_0 rfl) ?_
  have _f_7 := ((_m1.ch0 _cw_3).ch0 _cw_5)
  refine WL_step rfl rfl (r_loadAt _f_7.at_ agg3 rfl rfl) ?_
  refine WL_step rfl rfl (r_fieldAddr fa55_0 rfl) ?_
  refine WL_s rfl rfl ?_
  refine s_store1 (off := 0) _m3 sz3 rfl rfl rfl rfl fun _w_8 _m_9 _cw_8 => ?_
  have _cw_8z := _cw_8.size
  have E := E.step _cw_8 (fun i hi => .inl (by have _h1 := List.mem_singleton.1 hi; omega))
  replace _m_9 : Blk _w_8 _b3 55 [(.int .i64 a.kind), (.int .i64 0), (.int .i64 0), (.int .i64 0)] := _m_9
  refine WL_nil ?_
  refine thn_nrm (_hK_6 _ _ ?_)
  clear _hK_6
  refine W_seq fun _K_10 _hK_10 => ?_
  refine W_region ?_
  refine WL_step rfl rfl (r_fieldAddr fa78_1 rfl) ?_
  have _f_11 := (_f_7.ch _cw_8 (fun hm => by have _h1 := List.mem_singleton.1 hm; omega))
  refine WL_step rfl rfl (r_loadAt _f_11.at_ agg3 rfl rfl) ?_
  refine WL_step rfl rfl (r_fieldAddr fa55_1 rfl) ?_
  refine WL_s rfl rfl ?_
  refine s_store1 (off := 1) _m_9 sz3 rfl rfl rfl rfl fun _w_12 _m_13 _cw_12 => ?_
  have _cw_12z := _cw_12.size
  have E := E.step _cw_12 (fun i hi => .inl (by have _h1 := List.mem_singleton.1 hi; omega))
  replace _m_13 : Blk _w_12 _b3 55 [(.int .i64 a.kind), (.int .i64 a.letter), (.int .i64 0), (.int .i64 0)] := _m_13
  refine WL_nil ?_
  refine thn_nrm (_hK_10 _ _ ?_)
  clear _hK_10
  refine W_seq fun _K_14 _hK_14 => ?_
  refine W_region ?_
  refine WL_step rfl rfl (r_fieldAddr fa78_2 rfl) ?_
  have _f_15 := (_f_11.ch _cw_12 (fun hm => by have _h1 := List.mem_singleton.1 hm; omega))
  refine WL_step rfl rfl (r_loadAt _f_15.at_ agg3 rfl rfl) ?_
  refine WL_step rfl rfl (r_fieldAddr fa55_2 rfl) ?_
  refine WL_s rfl rfl ?_
  refine s_store1 (off := 2) _m_13 sz3 rfl rfl rfl rfl fun _w_16 _m_17 _cw_16 => ?_
  have _cw_16z := _cw_16.size
  have E := E.step _cw_16 (fun i hi => .inl (by have _h1 := List.mem_singleton.1 hi; omega))
  replace _m_17 : Blk _w_16 _b3 55 [(.int .i64 a.kind), (.int .i64 a.letter), (.int .i64 a.low), (.int .i64 0)] := _m_17
  refine WL_nil ?_
  refine thn_nrm (_hK_14 _ _ ?_)
  clear _hK_14
  refine W_seq fun _K_18 _hK_18 => ?_
  refine W_region ?_
  refine WL_step rfl rfl (r_fieldAddr fa78_3 rfl) ?_
  have _f_19 := (_f_15.ch _cw_16 (fun hm => by have _h1 := List.mem_singleton.1 hm; omega))
  refine WL_step rfl rfl (r_loadAt _f_19.at_ agg3 rfl rfl) ?_
  refine WL_step rfl rfl (r_fieldAddr fa55_3 rfl) ?_
  refine WL_s rfl rfl ?_
  refine s_store1 (off := 3) _m_17 sz3 rfl rfl rfl rfl fun _w_20 _m_21 _cw_20 => ?_
  have _cw_20z := _cw_20.size
  have E := E.step _cw_20 (fun i hi => .inl (by have _h1 := List.mem_singleton.1 hi; omega))
  replace _m_21 : Blk _w_20 _b3 55 [(.int .i64 a.kind), (.int .i64 a.letter), (.int .i64 a.low), (.int .i64 a.high)] := _m_21
  refine WL_nil ?_
  refine thn_nrm (_hK_18 _ _ ?_)
  clear _hK_18
  refine W_seq fun _K_22 _hK_22 => ?_
  refine W_region ?_
  refine WL_step rfl rfl (r_loadAtA0 _m_21.at_ agg55 sz55 rfl) ?_
  refine WL_s rfl rfl ?_
  have _f_23 := (((((_m2.ch0 _cw_5).ch _cw_8 (fun hm => by have _h1 := List.mem_singleton.1 hm; omega)).ch _cw_12 (fun hm => by have _h1 := List.mem_singleton.1 hm; omega)).ch _cw_16 (fun hm => by have _h1 := List.mem_singleton.1 hm; omega)).ch _cw_20 (fun hm => by have _h1 := List.mem_singleton.1 hm; omega))
  refine s_storeA (off := 0) 4 _f_23 sz55 rfl (us := [(.int .i64 a.kind), (.int .i64 a.letter), (.int .i64 a.low), (.int .i64 a.high)]) rfl rfl rfl rfl fun _w_24 _m_25 _cw_24 => ?_
  have _cw_24z := _cw_24.size
  have E := E.step _cw_24 (fun i hi => .inl (by have _h1 := List.mem_singleton.1 hi; omega))
  replace _m_25 : Blk _w_24 _b2 55 [(.int .i64 a.kind), (.int .i64 a.letter), (.int .i64 a.low), (.int .i64 a.high)] := _m_25
  refine WL_nil ?_
  refine thn_nrm (_hK_22 _ _ ?_)
  clear _hK_22
  refine W_ret ?_
  exact ret_intro [_] (resOf_loadA _m_25 rfl agg55 sz55 trivial) ⟨by simp [packed, Token.cs], E⟩

/-- laws.toTokenS -/
theorem c_laws_toTokenS {w : World} {_B_a : Nat} {_v_a : Value} {a : List Token} (_h_a : Ls Token.cs 4 w _B_a _v_a a) (hb : a.length ≤ 1048576) :
    Ctr Try.prog 50 #[_v_a] w (fun v w' => Ol Token.cs 55 4 w' v (a) ∧ Lo w.heap.size v ∧ Ch [] w w') := by
  obtain ⟨_A_a, _C_a, _e1_a⟩ := _h_a.val
  subst _e1_a
  have _l_a := _h_a.len
  have _h_a := _h_a.here (by decide)
  have E := Ch.refl [] w
  refine Ctr_of_W (N := 23) (vs0 := [(.slice _A_a a.length _C_a)]) Try.func50 rfl rfl rfl ?_
  refine W_seq fun _K_1 _hK_1 => ?_
  refine W_region ?_
  refine WL_step rfl rfl (r_assign rfl) ?_
  refine WL_nil ?_
  refine thn_nrm (_hK_1 _ _ ?_)
  clear _hK_1
  refine W_seq fun _K_2 _hK_2 => ?_
  refine W_region ?_
  refine WL_step rfl rfl (r_move rfl) ?_
  refine WL_step rfl rfl (r_len (by rw [el22]; rfl) rfl) ?_
  refine WL_s rfl rfl ?_
  refine s_make (cs := Token.cs) (⟨0, 0, 0, 0⟩ : Token) el26 sz55 by55 zr55 Token.len (by decide) rfl rfl (by omega) (by omega) fun _v7 _w_3 _q7 _lo7 _cw_3 => ?_
  have _cw_3z := _cw_3.size
  have E := E.trans _cw_3
  obtain ⟨_Av7, _Cv7, _ev7⟩ := _q7.val
  subst _ev7
  have _lv7 := _q7.len
  have _hiv7 := _q7.lt
  refine WL_step rfl rfl (r_assign rfl) ?_
  refine WL_nil ?_
  refine thn_nrm (_hK_2 _ _ ?_)
  clear _hK_2
  refine W_seq fun _K_4 _hK_4 => ?_
  refine W_seq fun _K_5 _hK_5 => ?_
  refine W_region ?_
  refine WL_step rfl rfl (r_assign rfl) ?_
  refine WL_nil ?_
  refine thn_nrm (_hK_5 _ _ ?_)
  clear _hK_5
  refine W_block ?_
  have _oi_6 : Ol Token.cs 55 4 _w_3 (.slice _Av7 ((List.replicate a.length (⟨0, 0, 0, 0⟩ : Token))).length _Cv7) (a.take 0 ++ List.replicate (a.length - 0) (⟨0, 0, 0, 0⟩ : Token)) := by
    have hx := _q7
    simpa using hx
  refine W_loop (σ := Nat) (fun (k : Nat) => [(0, (.slice _A_a a.length _C_a)), (2, (.slice none 0 0)), (3, (.slice _Av7 ((List.replicate a.length (⟨0, 0, 0, 0⟩ : Token))).length _Cv7)), (4, (.int .i64 ((k : Nat) : Int))), (5, (.slice _A_a a.length _C_a)), (6, (.int .i64 ((a.length : Nat) : Int))), (7, (.slice _Av7 ((List.replicate a.length (⟨0, 0, 0, 0⟩ : Token))).length _Cv7))]) (fun (k : Nat) wx => Ch [] w wx ∧ _w_3.heap.size ≤ wx.heap.size ∧ k ≤ a.length ∧ Ol Token.cs 55 4 wx (.slice _Av7 ((List.replicate a.length (⟨0, 0, 0, 0⟩ : Token))).length _Cv7) (a.take k ++ List.replicate (a.length - k) (⟨0, 0, 0, 0⟩ : Token))) (fun (k : Nat) => a.length - k) 0 (Sub.cons rfl (Sub.cons rfl (Sub.cons rfl (Sub.cons rfl (Sub.cons rfl (Sub.cons rfl (Sub.cons rfl (Sub.nil _)))))))) ⟨E, (Nat.le_refl _), (by omega), _oi_6⟩ ?_
  rintro k _wr_7 ⟨E, _zz0, _hk, _o0_3⟩
  have _E0h := E
  have _E0hz := _E0h.size
  refine W_seq fun _K_8 _hK_8 => ?_
  refine W_seq fun _K_9 _hK_9 => ?_
  refine W_region ?_
  refine WL_step rfl rfl (r_move rfl) ?_
  refine WL_step rfl rfl (r_move rfl) ?_
  refine WL_step rfl rfl (r_len (by rw [el22]; rfl) rfl) ?_
  refine WL_step rfl rfl (r_lss rfl rfl) ?_
  refine WL_nil ?_
  refine thn_nrm (_hK_9 _ _ ?_)
  clear _hK_9
  refine W_cond rfl (fun _h11 => ?_) (fun _h11 => ?_)
  · have _h11 := bt_d _h11
    refine W_skip ?_
    refine thn_nrm (_hK_8 _ _ ?_)
    clear _hK_8
    refine W_seq fun _K_10 _hK_10 => ?_
    refine W_block ?_
    refine W_region ?_
    refine WL_step rfl rfl (r_move rfl) ?_
    refine WL_step rfl rfl (r_move rfl) ?_
    refine WL_step rfl rfl (r_move rfl) ?_
    refine WL_step rfl rfl (r_move rfl) ?_
    refine WL_s rfl rfl ?_
    have _f_11 := (_h_a.ch0 _E0h)
    refine (s_index _f_11 Token.len el22 sz78 rfl rfl rfl (by omega) fun _p18 _y18 _hy18 _a18 => ?_)
    refine WL_step rfl rfl (r_loadAtA0 _a18 agg78 sz78 rfl) ?_
    refine WL_s rfl rfl ?_
    refine Step.call (r_call (xs := [.tmp 19]) fk78 rfl) (c_laws_toToken _y18 ) fun _v20 _w_12 _q20 => ?_
    obtain ⟨rfl, _cw_12⟩ := _q20
    have _cw_12z := _cw_12.size
    have E := E.trans _cw_12
    refine WL_s rfl rfl ?_
    have _f_13 := (_o0_3.ch0 _cw_12)
    refine s_indexO (j := k) _f_13 el26 sz55 rfl rfl rfl (by simp; omega) fun _g21 _o21 _cp21 _q21 => ?_
    refine WL_s rfl rfl ?_
    refine s_storeO (j := k) _y18 _f_13 _q21 Token.len sz55 rfl rfl rfl rfl (by simp; omega) fun _w_14 _o_15 _cw_14 => ?_
    have _cw_14z := _cw_14.size
    have E := E.step _cw_14 (fun i hi => .inl (by have _h1 := _lo7 _ hi; omega))
    refine WL_nil ?_
    refine inB_nrm ?_
    refine thn_nrm (_hK_10 _ _ ?_)
    clear _hK_10
    refine W_region ?_
    refine WL_step rfl rfl (r_move rfl) ?_
    refine WL_step rfl rfl (r_add (by omega) rfl rfl) ?_
    refine WL_step rfl rfl (r_assign rfl) ?_
    refine WL_nil ?_
    have _on_16 : Ol Token.cs 55 4 _w_14 (.slice _Av7 ((List.replicate a.length (⟨0, 0, 0, 0⟩ : Token))).length _Cv7) (a.take (k + 1) ++ List.replicate (a.length - (k + 1)) (⟨0, 0, 0, 0⟩ : Token)) := by
      have hx := _o_15
      rwa [fill_step a (⟨0, 0, 0, 0⟩ : Token) _hy18] at hx
    exact thn_nrm (Exists.intro (k + 1) ⟨⟨E, (by omega), (by omega), _on_16⟩, Sub.cons rfl (Sub.cons rfl (Sub.cons rfl (Sub.cons rfl (Sub.cons rfl (Sub.cons rfl (Sub.cons rfl (Sub.nil _))))))), (by first | omega | (dsimp only; omega))⟩)
  · have _h11 := bf_d _h11
    refine W_exit (thn_exit (thn_exit (inB_hit ?_)))
    refine thn_nrm (_hK_4 _ _ ?_)
    clear _hK_4
    refine W_seq fun _K_17 _hK_17 => ?_
    refine W_region ?_
    refine WL_step rfl rfl (r_move rfl) ?_
    refine WL_step rfl rfl (r_assign rfl) ?_
    refine WL_nil ?_
    refine thn_nrm (_hK_17 _ _ ?_)
    clear _hK_17
    refine W_ret ?_
    clear _hK_8
    have _o_18 : Ol Token.cs 55 4 _wr_7 (.slice _Av7 ((List.replicate a.length (⟨0, 0, 0, 0⟩ : Token))).length _Cv7) (a) := by
      have hx := _o0_3
      simpa [List.take_of_length_le (show a.length ≤ k by omega), show a.length - k = 0 by omega] using hx
    exact ret_intro [_] ⟨rfl, trivial⟩ ⟨_o_18, Lo.down _lo7 (by omega), E⟩

/-- laws.toExpr -/
theorem c_laws_toExpr {w : World} {_B_a : Nat} {_v_a : Value} {a : List Token} (_h_a : Ls Token.cs 4 w _B_a _v_a a) (hb : a.length ≤ 1048576) :
    Ctr Try.prog 17 #[(.agg #[_v_a])] w (fun v w' => ∃ u, v = .agg #[u] ∧ Ol Token.cs 55 4 w' u (a) ∧ Lo w.heap.size u ∧ Ch [] w w') := by
  obtain ⟨_A_a, _C_a, _e1_a⟩ := _h_a.val
  subst _e1_a
  have _l_a := _h_a.len
  have _h_a := _h_a.here (by decide)
  have E := Ch.refl [] w
  refine Ctr_of_W (N := 9) (vs0 := [(.agg #[(.slice _A_a a.length _C_a)])]) Try.func17 rfl rfl rfl ?_
  refine W_seq fun _K_1 _hK_1 => ?_
  refine W_region ?_
  refine WL_s rfl rfl ?_
  refine s_box rfl fun _b1 _w_2 _m1 _cw_2 _e1 => ?_
  have _cw_2z := _cw_2.size
  have E := E.trans _cw_2
  have _z1 := _m1.lt
  replace _m1 : Blk _w_2 _b1 24 [(.slice _A_a a.length _C_a)] := _m1
  refine WL_s rfl rfl ?_
  refine s_alloc zr28 fun _b2 _w_3 _m2 _cw_3 _e2 => ?_
  have _cw_3z := _cw_3.size
  have E := E.trans _cw_3
  have _z2 := _m2.lt
  replace _m2 : Blk _w_3 _b2 28 [(.slice none 0 0)] := _m2
  refine WL_nil ?_
  refine thn_nrm (_hK_1 _ _ ?_)
  clear _hK_1
  refine W_seq fun _K_4 _hK_4 => ?_
  refine W_region ?_
  refine WL_s rfl rfl ?_
  refine s_alloc zr28 fun _b3 _w_5 _m3 _cw_5 _e3 => ?_
  have _cw_5z := _cw_5.size
  have E := E.trans _cw_5
  have _z3 := _m3.lt
  replace _m3 : Blk _w_5 _b3 28 [(.slice none 0 0)] := _m3
  refine WL_nil ?_
  refine thn_nrm (_hK_4 _ _ ?_)
  clear _hK_4
  refine W_seq fun _K_6 _hK_6 => ?_
  refine W_region ?_
  refine WL_step rfl rfl (r_fieldAddr fa24_0 rfl) ?_
  have _f_7 := ((_m1.ch0 _cw_3).ch0 _cw_5)
  refine WL_step rfl rfl (r_loadAt _f_7.at_ agg22 rfl rfl) ?_
  refine WL_s rfl rfl ?_
  have _f_8 := (((_h_a.ch0 _cw_2).ch0 _cw_3).ch0 _cw_5)
  refine Step.call (r_call (xs := [.tmp 5]) fk50 rfl) (c_laws_toTokenS _f_8 (by omega)) fun _v6 _w_9 _q6 => ?_
  obtain ⟨_q6, _lo6, _cw_9⟩ := _q6
  have _cw_9z := _cw_9.size
  have E := E.trans _cw_9
  obtain ⟨_Av6, _Cv6, _ev6⟩ := _q6.val
  subst _ev6
  have _lv6 := _q6.len
  have _hiv6 := _q6.lt
  refine WL_step rfl rfl (r_fieldAddr fa28_0 rfl) ?_
  refine WL_s rfl rfl ?_
  have _f_10 := (_m3.ch0 _cw_9)
  refine s_store1 (off := 0) _f_10 sz26 rfl rfl rfl rfl fun _w_11 _m_12 _cw_11 => ?_
  have _cw_11z := _cw_11.size
  have E := E.step _cw_11 (fun i hi => .inl (by have _h1 := List.mem_singleton.1 hi; omega))
  replace _m_12 : Blk _w_11 _b3 28 [(.slice _Av6 (a).length _Cv6)] := _m_12
  refine WL_nil ?_
  refine thn_nrm (_hK_6 _ _ ?_)
  clear _hK_6
  refine W_seq fun _K_13 _hK_13 => ?_
  refine W_region ?_
  refine WL_step rfl rfl (r_loadAtA0 _m_12.at_ agg28 sz28 rfl) ?_
  refine WL_s rfl rfl ?_
  have _f_14 := (((_m2.ch0 _cw_5).ch0 _cw_9).ch _cw_11 (fun hm => by have _h1 := List.mem_singleton.1 hm; omega))
  refine s_storeA (off := 0) 1 _f_14 sz28 rfl (us := [(.slice _Av6 (a).length _Cv6)]) rfl rfl rfl rfl fun _w_15 _m_16 _cw_15 => ?_
  have _cw_15z := _cw_15.size
  have E := E.step _cw_15 (fun i hi => .inl (by have _h1 := List.mem_singleton.1 hi; omega))
  replace _m_16 : Blk _w_15 _b2 28 [(.slice _Av6 (a).length _Cv6)] := _m_16
  refine WL_nil ?_
  refine thn_nrm (_hK_13 _ _ ?_)
  clear _hK_13
  refine W_ret ?_
  have _f_18 := ((_q6.ch _cw_11 (fun g hg hm => by have _h0 := List.mem_singleton.1 hm; have _h2 := _lo6 _ hg; have _h3 := _hiv6 _ hg; omega)).ch _cw_15 (fun g hg hm => by have _h0 := List.mem_singleton.1 hm; have _h2 := _lo6 _ hg; have _h3 := _hiv6 _ hg; omega))
  have _o_17 : Ol Token.cs 55 4 _w_15 (.slice _Av6 (a).length _Cv6) (a) := by
    have hx := _f_18
    first | exact hx | simpa using hx
  exact ret_intro [_] (resOf_loadA _m_16 rfl agg28 sz28 trivial) ⟨_, rfl, _o_17, Lo.down _lo6 (by omega), E⟩

/-- spec.EqualExprs -/
theorem c_spec_EqualExprs {w : World} {_B_a : Nat} {_v_a : Value} {a : List Token} (_h_a : Ls Token.cs 4 w _B_a _v_a a) {_B_b : Nat} {_v_b : Value} {b : List Token} (_h_b : Ls Token.cs 4 w _B_b _v_b b) :
    Ctr Try.prog 62 #[(.agg #[_v_a]), (.agg #[_v_b])] w (fun v w' => v = .bool (decide (a = b)) ∧ Ch [] w w') := by
  obtain ⟨_A_a, _C_a, _e1_a⟩ := _h_a.val
  subst _e1_a
  have _l_a := _h_a.len
  have _h_a := _h_a.here (by decide)
  obtain ⟨_A_b, _C_b, _e1_b⟩ := _h_b.val
  subst _e1_b
  have _l_b := _h_b.len
  have _h_b := _h_b.here (by decide)
  have E := Ch.refl [] w
  refine Ctr_of_W (N := 31) (vs0 := [(.agg #[(.slice _A_a a.length _C_a)]), (.agg #[(.slice _A_b b.length _C_b)])]) Try.func62 rfl rfl rfl ?_
  refine W_seq fun _K_1 _hK_1 => ?_
  refine W_region ?_
  refine WL_s rfl rfl ?_
  refine s_box rfl fun _b2 _w_2 _m2 _cw_2 _e2 => ?_
  have _cw_2z := _cw_2.size
  have E := E.trans _cw_2
  have _z2 := _m2.lt
  replace _m2 : Blk _w_2 _b2 28 [(.slice _A_a a.length _C_a)] := _m2
  refine WL_s rfl rfl ?_
  refine s_box rfl fun _b3 _w_3 _m3 _cw_3 _e3 => ?_
  have _cw_3z := _cw_3.size
  have E := E.trans _cw_3
  have _z3 := _m3.lt
  replace _m3 : Blk _w_3 _b3 28 [(.slice _A_b b.length _C_b)] := _m3
  refine WL_step rfl rfl (r_assign rfl) ?_
  refine WL_nil ?_
  refine thn_nrm (_hK_1 _ _ ?_)
  clear _hK_1
  refine W_seq fun _K_4 _hK_4 => ?_
  refine W_seq fun _K_5 _hK_5 => ?_
  refine W_region ?_
  refine WL_step rfl rfl (r_fieldAddr fa28_0 rfl) ?_
  have _f_6 := (_m2.ch0 _cw_3)
  refine WL_step rfl rfl (r_loadAt _f_6.at_ agg26 rfl rfl) ?_
  refine WL_step rfl rfl (r_len (by rw [el26]; rfl) rfl) ?_
  refine WL_step rfl rfl (r_fieldAddr fa28_0 rfl) ?_
  refine WL_step rfl rfl (r_loadAt _m3.at_ agg26 rfl rfl) ?_
  refine WL_step rfl rfl (r_len (by rw [el26]; rfl) rfl) ?_
  refine WL_step rfl rfl (r_neq rfl rfl) ?_
  refine WL_nil ?_
  refine thn_nrm (_hK_5 _ _ ?_)
  clear _hK_5
  refine W_cond rfl (fun _h12 => ?_) (fun _h12 => ?_)
  · have _h12 := bf_d (bt_n _h12)
    refine W_seq fun _K_7 _hK_7 => ?_
    refine W_region ?_
    refine WL_step rfl rfl (r_assign rfl) ?_
    refine WL_nil ?_
    refine thn_nrm (_hK_7 _ _ ?_)
    clear _hK_7
    refine W_ret (thn_ret ?_)
    clear _hK_4
    exact ret_intro [_] ⟨rfl, trivial⟩ ⟨congrArg Value.bool (decide_eq_false (fun e => _h12 (by rw [e]))).symm, E⟩
  · have _h12 := bt_d (bf_n _h12)
    refine W_skip ?_
    refine thn_nrm (_hK_4 _ _ ?_)
    clear _hK_4
    refine W_seq fun _K_8 _hK_8 => ?_
    refine W_seq fun _K_9 _hK_9 => ?_
    refine W_region ?_
    refine WL_step rfl rfl (r_assign rfl) ?_
    refine WL_nil ?_
    refine thn_nrm (_hK_9 _ _ ?_)
    clear _hK_9
    refine W_block ?_
    refine W_loop (σ := Nat) (fun (k : Nat) => [(0, (.agg #[(.slice _A_a a.length _C_a)])), (1, (.agg #[(.slice _A_b b.length _C_b)])), (2, (.pointer (some ⟨_b2, 0, none⟩))), (3, (.pointer (some ⟨_b3, 0, none⟩))), (5, (.int .i64 ((k : Nat) : Int))), (6, (.pointer (some (Addr.add ⟨_b2, 0, none⟩ 0)))), (7, (.slice _A_a a.length _C_a)), (8, (.int .i64 ((a.length : Nat) : Int))), (9, (.pointer (some (Addr.add ⟨_b3, 0, none⟩ 0)))), (10, (.slice _A_b b.length _C_b)), (11, (.int .i64 ((b.length : Nat) : Int))), (12, (.bool (!decide (((a.length : Nat) : Int) = ((b.length : Nat) : Int)))))]) (fun (k : Nat) wx => Ch [] w wx ∧ _w_3.heap.size ≤ wx.heap.size ∧ k ≤ a.length ∧ a.take k = b.take k ∧ Blk wx _b2 28 [(.slice _A_a a.length _C_a)] ∧ Blk wx _b3 28 [(.slice _A_b b.length _C_b)]) (fun (k : Nat) => a.length - k) 0 (Sub.cons rfl (Sub.cons rfl (Sub.cons rfl (Sub.cons rfl (Sub.cons rfl (Sub.cons rfl (Sub.cons rfl (Sub.cons rfl (Sub.cons rfl (Sub.cons rfl (Sub.cons rfl (Sub.cons rfl (Sub.nil _))))))))))))) ⟨E, (Nat.le_refl _), (by omega), rfl, _f_6, _m3⟩ ?_
    rintro k _wr_10 ⟨E, _zz0, _hk, _ht, _F0_2, _F0_3⟩
    have _E0h := E
    have _E0hz := _E0h.size
    have _F0_2z := _F0_2.lt
    have _F0_3z := _F0_3.lt
    refine W_seq fun _K_11 _hK_11 => ?_
    refine W_seq fun _K_12 _hK_12 => ?_
    refine W_region ?_
    refine WL_step rfl rfl (r_move rfl) ?_
    refine WL_step rfl rfl (r_fieldAddr fa28_0 rfl) ?_
    refine WL_step rfl rfl (r_loadAt _F0_2.at_ agg26 rfl rfl) ?_
    refine WL_step rfl rfl (r_len (by rw [el26]; rfl) rfl) ?_
    refine WL_step rfl rfl (r_lss rfl rfl) ?_
    refine WL_nil ?_
    refine thn_nrm (_hK_12 _ _ ?_)
    clear _hK_12
    refine W_cond rfl (fun _h17 => ?_) (fun _h17 => ?_)
    · have _h17 := bt_d _h17
      refine W_skip ?_
      refine thn_nrm (_hK_11 _ _ ?_)
      clear _hK_11
      refine W_seq fun _K_13 _hK_13 => ?_
      refine W_block ?_
      refine W_seq fun _K_14 _hK_14 => ?_
      refine W_drawC [] 11 mixed rfl fun _w_15 _cw_15 => ?_
      have _cw_15z := _cw_15.size
      have E := E.trans _cw_15
      refine DR_s 0 rfl (by kernel_rfl) rfl rfl (t_v (fun _ => (r_fieldAddr fa28_0 rfl)) ?_)
      have _f_16 := (_F0_2.ch0 _cw_15)
      refine DR_s 1 rfl (by kernel_rfl) rfl rfl (t_loadAt _f_16.at_ (fun i hi => by first | exact absurd hi (List.not_mem_nil) | (have _h1 := List.mem_singleton.1 hi; omega)) agg26 rfl rfl ?_)
      refine DR_s 2 rfl (by kernel_rfl) rfl rfl (t_v (fun _ => (r_move rfl)) ?_)
      have _f_17 := ((_h_a.ch0 _E0h).ch0 _cw_15)
      refine DR_s 3 rfl (by kernel_rfl) rfl rfl (t_index _f_17 Token.len el26 sz55 rfl rfl rfl (by omega) fun _p23 _y23 _hy23 _a23 => ?_)
      refine DR_s 4 rfl (by kernel_rfl) rfl rfl (t_loadAtA0 _a23 (fun i hi => by first | exact absurd hi (List.not_mem_nil) | (have _h1 := List.mem_singleton.1 hi; omega)) agg55 sz55 rfl ?_)
      refine DR_s 5 rfl (by kernel_rfl) rfl rfl (t_v (fun _ => (r_fieldAddr fa28_0 rfl)) ?_)
      have _f_18 := (_F0_3.ch0 _cw_15)
      refine DR_s 6 rfl (by kernel_rfl) rfl rfl (t_loadAt _f_18.at_ (fun i hi => by first | exact absurd hi (List.not_mem_nil) | (have _h1 := List.mem_singleton.1 hi; omega)) agg26 rfl rfl ?_)
      refine DR_s 7 rfl (by kernel_rfl) rfl rfl (t_v (fun _ => (r_move rfl)) ?_)
      have _f_19 := ((_h_b.ch0 _E0h).ch0 _cw_15)
      refine DR_s 8 rfl (by kernel_rfl) rfl rfl (t_index _f_19 Token.len el26 sz55 rfl rfl rfl (by omega) fun _p28 _y28 _hy28 _a28 => ?_)
      refine DR_s 9 rfl (by kernel_rfl) rfl rfl (t_loadAtA0 _a28 (fun i hi => by first | exact absurd hi (List.not_mem_nil) | (have _h1 := List.mem_singleton.1 hi; omega)) agg55 sz55 rfl ?_)
      refine DR_s 10 rfl (by kernel_rfl) rfl rfl (t_v (fun _ => (r_neqI [_y23.kind, _y23.letter, _y23.low, _y23.high] [_y28.kind, _y28.letter, _y28.low, _y28.high] ist55 rfl rfl rfl)) ?_)
      refine DR_done (by kernel_rfl) ?_
      refine thn_nrm (_hK_14 _ _ ?_)
      clear _hK_14
      refine W_cond rfl (fun _h30 => ?_) (fun _h30 => ?_)
      · have _h30 := bf_d (bt_n _h30)
        refine W_seq fun _K_20 _hK_20 => ?_
        refine W_region ?_
        refine WL_step rfl rfl (r_assign rfl) ?_
        refine WL_nil ?_
        refine thn_nrm (_hK_20 _ _ ?_)
        clear _hK_20
        refine W_ret (inB_ret (thn_ret (thn_ret (inB_ret (thn_ret ?_)))))
        clear _hK_8 _hK_13
        exact ret_intro [_] ⟨rfl, trivial⟩ ⟨congrArg Value.bool (decide_eq_false (ne_of_get _hy23 _hy28 (fun e => _h30 (by rw [e])))).symm, E⟩
      · have _h30 := bt_d (bf_n _h30)
        refine W_skip ?_
        refine inB_nrm ?_
        refine thn_nrm (_hK_13 _ _ ?_)
        clear _hK_13
        refine W_region ?_
        refine WL_step rfl rfl (r_move rfl) ?_
        refine WL_step rfl rfl (r_add (by omega) rfl rfl) ?_
        refine WL_step rfl rfl (r_assign rfl) ?_
        refine WL_nil ?_
        exact thn_nrm (Exists.intro (k + 1) ⟨⟨E, (by omega), (by omega), (take_eq_succ _ht _hy23 _hy28 (Token.inj _h30)), _f_16, _f_18⟩, Sub.cons rfl (Sub.cons rfl (Sub.cons rfl (Sub.cons rfl (Sub.cons rfl (Sub.cons rfl (Sub.cons rfl (Sub.cons rfl (Sub.cons rfl (Sub.cons rfl (Sub.cons rfl (Sub.cons rfl (Sub.nil _)))))))))))), (by first | omega | (dsimp only; omega))⟩)
    · have _h17 := bf_d _h17
      refine W_exit (thn_exit (thn_exit (inB_hit ?_)))
      refine thn_nrm (_hK_8 _ _ ?_)
      clear _hK_8
      refine W_seq fun _K_21 _hK_21 => ?_
      refine W_region ?_
      refine WL_step rfl rfl (r_assign rfl) ?_
      refine WL_nil ?_
      refine thn_nrm (_hK_21 _ _ ?_)
      clear _hK_21
      refine W_ret ?_
      clear _hK_11
      exact ret_intro [_] ⟨rfl, trivial⟩ ⟨congrArg Value.bool (decide_eq_true (eq_of_take _ht (by omega) (by omega))).symm, E⟩

/-- spec.l8Copy -/
theorem c_spec_l8Copy {w : World} {_B_l : Nat} {_v_l : Value} {l : List Token} (_h_l : Ls Token.cs 4 w _B_l _v_l l) (hb : l.length ≤ 4194304) :
    Ctr Try.prog 49 #[_v_l] w (fun v w' => ∃ u, v = .agg #[u] ∧ Ol Token.cs 55 4 w' u (l) ∧ Lo w.heap.size u ∧ Ch [] w w') := by
  obtain ⟨_A_l, _C_l, _e1_l⟩ := _h_l.val
  subst _e1_l
  have _l_l := _h_l.len
  have _h_l := _h_l.here (by decide)
  have E := Ch.refl [] w
  refine Ctr_of_W (N := 7) (vs0 := [(.slice _A_l l.length _C_l)]) Try.func49 rfl rfl rfl ?_
  refine W_seq fun _K_1 _hK_1 => ?_
  refine W_region ?_
  refine WL_s rfl rfl ?_
  refine s_alloc zr28 fun _b2 _w_2 _m2 _cw_2 _e2 => ?_
  have _cw_2z := _cw_2.size
  have E := E.trans _cw_2
  have _z2 := _m2.lt
  replace _m2 : Blk _w_2 _b2 28 [(.slice none 0 0)] := _m2
  refine WL_nil ?_
  refine thn_nrm (_hK_1 _ _ ?_)
  clear _hK_1
  refine W_seq fun _K_3 _hK_3 => ?_
  refine W_region ?_
  refine WL_s rfl rfl ?_
  refine s_buildSlice0 (k := 4) Token.cs el26 sz55 fun _v3 _w_4 _q3 _lo3 _cw_4 => ?_
  have _cw_4z := _cw_4.size
  have E := E.trans _cw_4
  obtain ⟨_Av3, _Cv3, _ev3⟩ := _q3.val
  subst _ev3
  have _lv3 := _q3.len
  have _hiv3 := _q3.lt
  refine WL_step rfl rfl (r_move rfl) ?_
  refine WL_s rfl rfl ?_
  have _f_6 := ((_h_l.ch0 _cw_2).ch0 _cw_4)
  refine s_append (cs := Token.cs) el26 sz55 by55 zr55 rfl (by decide) Token.one _q3 _f_6 rfl rfl (by first | omega | (simp only [List.length_append, List.length_nil, List.length_cons, List.length_replicate, List.length_set, List.length_reverse, List.length_map] at *; omega) | (simp at *; omega)) (by first | omega | (simp only [List.length_append, List.length_nil, List.length_cons, List.length_replicate, List.length_set, List.length_reverse, List.length_map] at *; omega) | (simp at *; omega)) _lo3 (by omega) fun _v5 _w_5 _q5 _lo5 _ap5 _cw_5 => ?_
  have _cw_5z := _cw_5.size
  have E := E.step _cw_5 (fun i hi => .inl (by have _h1 := _lo3 _ hi; omega))
  replace _q5 : Ol Token.cs 55 4 _w_5 _v5 l := _q5
  obtain ⟨_Av5, _Cv5, _ev5⟩ := _q5.val
  subst _ev5
  have _lv5 := _q5.len
  have _hiv5 := _q5.lt
  refine WL_step rfl rfl (r_build (parts := [(0, .tmp 5)]) (cells := [(.slice _Av5 (l).length _Cv5)]) zr28 pl28 rfl rfl) ?_
  refine WL_s rfl rfl ?_
  have _f_7 := ((_m2.ch0 _cw_4).ch _cw_5 (fun hm => by have _h1 := _lo3 _ hm; have _h2 := _hiv3 _ hm; omega))
  refine s_storeA (off := 0) 1 _f_7 sz28 rfl (us := [(.slice _Av5 (l).length _Cv5)]) rfl rfl rfl rfl fun _w_8 _m_9 _cw_8 => ?_
  have _cw_8z := _cw_8.size
  have E := E.step _cw_8 (fun i hi => .inl (by have _h1 := List.mem_singleton.1 hi; omega))
  replace _m_9 : Blk _w_8 _b2 28 [(.slice _Av5 (l).length _Cv5)] := _m_9
  refine WL_nil ?_
  refine thn_nrm (_hK_3 _ _ ?_)
  clear _hK_3
  refine W_ret ?_
  have _f_11 := (_q5.ch _cw_8 (fun g hg hm => by have _h0 := List.mem_singleton.1 hm; rcases _ap5 with ea | ea; (rw [ea] at hg; have _h2 := _lo3 _ hg; have _h3 := _hiv3 _ hg; omega); (rw [ea] at hg; have _z1 := List.mem_singleton.1 hg; omega)))
  have _o_10 : Ol Token.cs 55 4 _w_8 (.slice _Av5 (l).length _Cv5) (l) := by
    have hx := _f_11
    first | exact hx | simpa using hx
  exact ret_intro [_] (resOf_loadA _m_9 rfl agg28 sz28 trivial) ⟨_, rfl, _o_10, Lo.down _lo5 (by omega), E⟩

/-- spec.l8Is -/
theorem c_spec_l8Is {w : World} {_B_e : Nat} {_v_e : Value} {e : List Token} (_h_e : Ls Token.cs 4 w _B_e _v_e e) (kind : Int) :
    Ctr Try.prog 57 #[(.agg #[_v_e]), (.int .i64 kind)] w (fun v w' => v = .bool (isK e kind) ∧ Ch [] w w') := by
  obtain ⟨_A_e, _C_e, _e1_e⟩ := _h_e.val
  subst _e1_e
  have _l_e := _h_e.len
  have _h_e := _h_e.here (by decide)
  have E := Ch.refl [] w
  refine Ctr_of_W (N := 18) (vs0 := [(.agg #[(.slice _A_e e.length _C_e)]), (.int .i64 kind)]) Try.func57 rfl rfl rfl ?_
  refine W_seq fun _K_1 _hK_1 => ?_
  refine W_region ?_
  refine WL_s rfl rfl ?_
  refine s_box rfl fun _b2 _w_2 _m2 _cw_2 _e2 => ?_
  have _cw_2z := _cw_2.size
  have E := E.trans _cw_2
  have _z2 := _m2.lt
  replace _m2 : Blk _w_2 _b2 28 [(.slice _A_e e.length _C_e)] := _m2
  refine WL_step rfl rfl (r_assign rfl) ?_
  refine WL_nil ?_
  refine thn_nrm (_hK_1 _ _ ?_)
  clear _hK_1
  refine W_seq fun _K_3 _hK_3 => ?_
  refine W_region ?_
  refine WL_step rfl rfl (r_fieldAddr fa28_0 rfl) ?_
  refine WL_step rfl rfl (r_loadAt _m2.at_ agg26 rfl rfl) ?_
  refine WL_step rfl rfl (r_len (by rw [el26]; rfl) rfl) ?_
  refine WL_step rfl rfl (r_eql rfl rfl) ?_
  refine WL_step rfl rfl (r_move rfl) ?_
  refine WL_split (d := 9) rfl (fun _h9 => ?_) (fun _h9 => ?_)
  · have _h9 := bt_d _h9
    refine WL_step rfl rfl (r_fieldAddr fa28_0 rfl) ?_
    refine WL_step rfl rfl (r_loadAt _m2.at_ agg26 rfl rfl) ?_
    refine WL_s rfl rfl ?_
    have _f_4 := (_h_e.ch0 _cw_2)
    refine (s_index (j := 0) _f_4 Token.len el26 sz55 rfl rfl rfl (by omega) fun _p12 _y12 _hy12 _a12 => ?_)
    refine WL_step rfl rfl (r_fieldAddr fa55_0 rfl) ?_
    refine WL_step rfl rfl (r_loadAt _a12 agg3 rfl rfl) ?_
    refine WL_step rfl rfl (r_move rfl) ?_
    refine WL_step rfl rfl (r_eql rfl rfl) ?_
    refine WL_step rfl rfl (r_pickT rfl rfl) ?_
    refine WL_step rfl rfl (r_assign rfl) ?_
    refine WL_nil ?_
    refine thn_nrm (_hK_3 _ _ ?_)
    clear _hK_3
    refine W_ret ?_
    exact ret_intro [_] ⟨rfl, trivial⟩ ⟨congrArg Value.bool (by first | exact isK_n _h9 | exact isK_y _h9 _hy12 | (cases hb : decide (_y12.kind = kind) <;> rw [← hb] <;> exact isK_y _h9 _hy12)), E⟩
  · have _h9 := bf_d _h9
    refine WL_skip rfl rfl ?_
    refine WL_skip rfl rfl ?_
    refine WL_skip rfl rfl ?_
    refine WL_skip rfl rfl ?_
    refine WL_skip rfl rfl ?_
    refine WL_skip rfl rfl ?_
    refine WL_skip rfl rfl ?_
    refine WL_step rfl rfl (r_pickF rfl rfl) ?_
    refine WL_step rfl rfl (r_assign rfl) ?_
    refine WL_nil ?_
    refine thn_nrm (_hK_3 _ _ ?_)
    clear _hK_3
    refine W_ret ?_
    exact ret_intro [_] ⟨rfl, trivial⟩ ⟨congrArg Value.bool (by first | exact isK_n _h9 | exact isK_y _h9 _hy12 | (cases hb : decide (_y12.kind = kind) <;> rw [← hb] <;> exact isK_y _h9 _hy12)), E⟩

/-- spec.l8Join -/
theorem c_spec_l8Join {w : World} {_B_a : Nat} {_v_a : Value} {a : List Token} (_h_a : Ls Token.cs 4 w _B_a _v_a a) {_B_b : Nat} {_v_b : Value} {b : List Token} (_h_b : Ls Token.cs 4 w _B_b _v_b b) (t : Token) (hb : a.length + b.length ≤ 4194304) :
    Ctr Try.prog 59 #[(.agg #[_v_a]), (.agg #[_v_b]), (.agg #[(.int .i64 t.kind), (.int .i64 t.letter), (.int .i64 t.low), (.int .i64 t.high)])] w (fun v w' => ∃ u, v = .agg #[u] ∧ Ol Token.cs 55 4 w' u (a ++ b ++ [t]) ∧ Lo w.heap.size u ∧ Ch [] w w') := by
  obtain ⟨_A_a, _C_a, _e1_a⟩ := _h_a.val
  subst _e1_a
  have _l_a := _h_a.len
  have _h_a := _h_a.here (by decide)
  obtain ⟨_A_b, _C_b, _e1_b⟩ := _h_b.val
  subst _e1_b
  have _l_b := _h_b.len
  have _h_b := _h_b.here (by decide)
  have E := Ch.refl [] w
  refine Ctr_of_W (N := 24) (vs0 := [(.agg #[(.slice _A_a a.length _C_a)]), (.agg #[(.slice _A_b b.length _C_b)]), (.agg #[(.int .i64 t.kind), (.int .i64 t.letter), (.int .i64 t.low), (.int .i64 t.high)])]) Try.func59 rfl rfl rfl ?_
  refine W_seq fun _K_1 _hK_1 => ?_
  refine W_region ?_
  refine WL_s rfl rfl ?_
  refine s_box rfl fun _b3 _w_2 _m3 _cw_2 _e3 => ?_
  have _cw_2z := _cw_2.size
  have E := E.trans _cw_2
  have _z3 := _m3.lt
  replace _m3 : Blk _w_2 _b3 28 [(.slice _A_a a.length _C_a)] := _m3
  refine WL_s rfl rfl ?_
  refine s_box rfl fun _b4 _w_3 _m4 _cw_3 _e4 => ?_
  have _cw_3z := _cw_3.size
  have E := E.trans _cw_3
  have _z4 := _m4.lt
  replace _m4 : Blk _w_3 _b4 28 [(.slice _A_b b.length _C_b)] := _m4
  refine WL_s rfl rfl ?_
  refine s_box rfl fun _b5 _w_4 _m5 _cw_4 _e5 => ?_
  have _cw_4z := _cw_4.size
  have E := E.trans _cw_4
  have _z5 := _m5.lt
  replace _m5 : Blk _w_4 _b5 55 [(.int .i64 t.kind), (.int .i64 t.letter), (.int .i64 t.low), (.int .i64 t.high)] := _m5
  refine WL_s rfl rfl ?_
  refine s_alloc zr28 fun _b6 _w_5 _m6 _cw_5 _e6 => ?_
  have _cw_5z := _cw_5.size
  have E := E.trans _cw_5
  have _z6 := _m6.lt
  replace _m6 : Blk _w_5 _b6 28 [(.slice none 0 0)] := _m6
  refine WL_nil ?_
  refine thn_nrm (_hK_1 _ _ ?_)
  clear _hK_1
  refine W_seq fun _K_6 _hK_6 => ?_
  refine W_region ?_
  refine WL_step rfl rfl (r_fieldAddr fa28_0 rfl) ?_
  have _f_7 := (((_m3.ch0 _cw_3).ch0 _cw_4).ch0 _cw_5)
  refine WL_step rfl rfl (r_loadAt _f_7.at_ agg26 rfl rfl) ?_
  refine WL_s rfl rfl ?_
  have _f_8 := ((((_h_a.ch0 _cw_2).ch0 _cw_3).ch0 _cw_4).ch0 _cw_5)
  refine Step.call (r_call (xs := [.tmp 9]) fk49 rfl) (c_spec_l8Copy _f_8 (by omega)) fun _v10 _w_9 _q10 => ?_
  obtain ⟨_u10, rfl, _q10, _lo10, _cw_9⟩ := _q10
  have _cw_9z := _cw_9.size
  have E := E.trans _cw_9
  obtain ⟨_Au10, _Cu10, _eu10⟩ := _q10.val
  subst _eu10
  have _lu10 := _q10.len
  have _hiu10 := _q10.lt
  refine WL_s rfl rfl ?_
  refine s_alloc zr28 fun _b7 _w_10 _m7 _cw_10 _e7 => ?_
  have _cw_10z := _cw_10.size
  have E := E.trans _cw_10
  have _z7 := _m7.lt
  replace _m7 : Blk _w_10 _b7 28 [(.slice none 0 0)] := _m7
  refine WL_s rfl rfl ?_
  refine s_storeA (off := 0) 1 _m7 sz28 rfl (us := [(.slice _Au10 (a).length _Cu10)]) rfl rfl rfl rfl fun _w_11 _m_12 _cw_11 => ?_
  have _cw_11z := _cw_11.size
  have E := E.step _cw_11 (fun i hi => .inl (by have _h1 := List.mem_singleton.1 hi; omega))
  replace _m_12 : Blk _w_11 _b7 28 [(.slice _Au10 (a).length _Cu10)] := _m_12
  refine WL_nil ?_
  refine thn_nrm (_hK_6 _ _ ?_)
  clear _hK_6
  refine W_seq fun _K_13 _hK_13 => ?_
  refine W_region ?_
  refine WL_step rfl rfl (r_fieldAddr fa28_0 rfl) ?_
  refine WL_step rfl rfl (r_loadAt _m_12.at_ agg26 rfl rfl) ?_
  refine WL_step rfl rfl (r_fieldAddr fa28_0 rfl) ?_
  have _f_14 := (((((_m4.ch0 _cw_4).ch0 _cw_5).ch0 _cw_9).ch0 _cw_10).ch _cw_11 (fun hm => by have _h1 := List.mem_singleton.1 hm; omega))
  refine WL_step rfl rfl (r_loadAt _f_14.at_ agg26 rfl rfl) ?_
  refine WL_s rfl rfl ?_
  have _f_16 := ((_q10.ch0 _cw_10).ch _cw_11 (fun g hg hm => by have _h0 := List.mem_singleton.1 hm; have _h2 := _lo10 _ hg; have _h3 := _hiu10 _ hg; omega))
  have _f_17 := (((((((_h_b.ch0 _cw_2).ch0 _cw_3).ch0 _cw_4).ch0 _cw_5).ch0 _cw_9).ch0 _cw_10).ch _cw_11 (fun i hi => by have _h1 := List.mem_singleton.1 hi; omega))
  refine s_append (cs := Token.cs) el26 sz55 by55 zr55 rfl (by decide) Token.one _f_16 _f_17 rfl rfl (by first | omega | (simp only [List.length_append, List.length_nil, List.length_cons, List.length_replicate, List.length_set, List.length_reverse, List.length_map] at *; omega) | (simp at *; omega)) (by first | omega | (simp only [List.length_append, List.length_nil, List.length_cons, List.length_replicate, List.length_set, List.length_reverse, List.length_map] at *; omega) | (simp at *; omega)) _lo10 (by omega) fun _v15 _w_15 _q15 _lo15 _ap15 _cw_15 => ?_
  have _cw_15z := _cw_15.size
  have E := E.step _cw_15 (fun i hi => .inl (by have _h1 := _lo10 _ hi; omega))
  obtain ⟨_Av15, _Cv15, _ev15⟩ := _q15.val
  subst _ev15
  have _lv15 := _q15.len
  have _hiv15 := _q15.lt
  refine WL_step rfl rfl (r_fieldAddr fa28_0 rfl) ?_
  refine WL_s rfl rfl ?_
  have _f_18 := (_m_12.ch _cw_15 (fun hm => by have _h1 := _lo10 _ hm; have _h2 := _hiu10 _ hm; omega))
  refine s_store1 (off := 0) _f_18 sz26 rfl rfl rfl rfl fun _w_19 _m_20 _cw_19 => ?_
  have _cw_19z := _cw_19.size
  have E := E.step _cw_19 (fun i hi => .inl (by have _h1 := List.mem_singleton.1 hi; omega))
  replace _m_20 : Blk _w_19 _b7 28 [(.slice _Av15 ((a ++ b)).length _Cv15)] := _m_20
  refine WL_nil ?_
  refine thn_nrm (_hK_13 _ _ ?_)
  clear _hK_13
  refine W_seq fun _K_21 _hK_21 => ?_
  refine W_region ?_
  refine WL_step rfl rfl (r_fieldAddr fa28_0 rfl) ?_
  refine WL_step rfl rfl (r_loadAt _m_20.at_ agg26 rfl rfl) ?_
  have _f_22 := ((((((_m5.ch0 _cw_5).ch0 _cw_9).ch0 _cw_10).ch _cw_11 (fun hm => by have _h1 := List.mem_singleton.1 hm; omega)).ch _cw_15 (fun hm => by have _h1 := _lo10 _ hm; have _h2 := _hiu10 _ hm; omega)).ch _cw_19 (fun hm => by have _h1 := List.mem_singleton.1 hm; omega))
  refine WL_step rfl rfl (r_loadAtA0 _f_22.at_ agg55 sz55 rfl) ?_
  refine WL_s rfl rfl ?_
  refine s_buildSlice (cs := Token.cs) (parts := [(0, .tmp 19)]) (⟨0, 0, 0, 0⟩ : Token) [t] el26 sz55 zr55 Token.len (by decide) rfl rfl rfl (by decide) (by decide) rfl fun _v20 _w_23 _q20 _lo20 _cw_23 => ?_
  have _cw_23z := _cw_23.size
  have E := E.trans _cw_23
  obtain ⟨_Av20, _Cv20, _ev20⟩ := _q20.val
  subst _ev20
  have _lv20 := _q20.len
  have _hiv20 := _q20.lt
  refine WL_s rfl rfl ?_
  have _f_25 := ((_q15.ch _cw_19 (fun g hg hm => by have _h0 := List.mem_singleton.1 hm; rcases _ap15 with ea | ea; (rw [ea] at hg; have _h2 := _lo10 _ hg; have _h3 := _hiu10 _ hg; omega); (rw [ea] at hg; have _z1 := List.mem_singleton.1 hg; omega))).ch0 _cw_23)
  refine s_append (cs := Token.cs) el26 sz55 by55 zr55 rfl (by decide) Token.one _f_25 _q20.ls rfl rfl (by first | omega | (simp only [List.length_append, List.length_nil, List.length_cons, List.length_replicate, List.length_set, List.length_reverse, List.length_map] at *; omega) | (simp at *; omega)) (by first | omega | (simp only [List.length_append, List.length_nil, List.length_cons, List.length_replicate, List.length_set, List.length_reverse, List.length_map] at *; omega) | (simp at *; omega)) _lo15 (by omega) fun _v21 _w_24 _q21 _lo21 _ap21 _cw_24 => ?_
  have _cw_24z := _cw_24.size
  have E := E.step _cw_24 (fun i hi => .inl (by have _h1 := _lo15 _ hi; omega))
  obtain ⟨_Av21, _Cv21, _ev21⟩ := _q21.val
  subst _ev21
  have _lv21 := _q21.len
  have _hiv21 := _q21.lt
  refine WL_step rfl rfl (r_fieldAddr fa28_0 rfl) ?_
  refine WL_s rfl rfl ?_
  have _f_26 := ((_m_20.ch0 _cw_23).ch _cw_24 (fun hm => by rcases _ap15 with ea | ea; (rw [ea] at hm; have _h1 := _lo10 _ hm; have _h2 := _hiu10 _ hm; omega); (rw [ea] at hm; have _z1 := List.mem_singleton.1 hm; omega)))
  refine s_store1 (off := 0) _f_26 sz26 rfl rfl rfl rfl fun _w_27 _m_28 _cw_27 => ?_
  have _cw_27z := _cw_27.size
  have E := E.step _cw_27 (fun i hi => .inl (by have _h1 := List.mem_singleton.1 hi; omega))
  replace _m_28 : Blk _w_27 _b7 28 [(.slice _Av21 (((a ++ b) ++ [t])).length _Cv21)] := _m_28
  refine WL_nil ?_
  refine thn_nrm (_hK_21 _ _ ?_)
  clear _hK_21
  refine W_seq fun _K_29 _hK_29 => ?_
  refine W_region ?_
  refine WL_step rfl rfl (r_loadAtA0 _m_28.at_ agg28 sz28 rfl) ?_
  refine WL_s rfl rfl ?_
  have _f_30 := ((((((((_m6.ch0 _cw_9).ch0 _cw_10).ch _cw_11 (fun hm => by have _h1 := List.mem_singleton.1 hm; omega)).ch _cw_15 (fun hm => by have _h1 := _lo10 _ hm; have _h2 := _hiu10 _ hm; omega)).ch _cw_19 (fun hm => by have _h1 := List.mem_singleton.1 hm; omega)).ch0 _cw_23).ch _cw_24 (fun hm => by rcases _ap15 with ea | ea; (rw [ea] at hm; have _h1 := _lo10 _ hm; have _h2 := _hiu10 _ hm; omega); (rw [ea] at hm; have _z1 := List.mem_singleton.1 hm; omega))).ch _cw_27 (fun hm => by have _h1 := List.mem_singleton.1 hm; omega))
  refine s_storeA (off := 0) 1 _f_30 sz28 rfl (us := [(.slice _Av21 (((a ++ b) ++ [t])).length _Cv21)]) rfl rfl rfl rfl fun _w_31 _m_32 _cw_31 => ?_
  have _cw_31z := _cw_31.size
  have E := E.step _cw_31 (fun i hi => .inl (by have _h1 := List.mem_singleton.1 hi; omega))
  replace _m_32 : Blk _w_31 _b6 28 [(.slice _Av21 (((a ++ b) ++ [t])).length _Cv21)] := _m_32
  refine WL_nil ?_
  refine thn_nrm (_hK_29 _ _ ?_)
  clear _hK_29
  refine W_ret ?_
  have _f_34 := ((_q21.ch _cw_27 (fun g hg hm => by have _h0 := List.mem_singleton.1 hm; rcases _ap21 with ea | ea; (rw [ea] at hg; rcases _ap15 with ea | ea; (rw [ea] at hg; have _h2 := _lo10 _ hg; have _h3 := _hiu10 _ hg; omega); (rw [ea] at hg; have _z1 := List.mem_singleton.1 hg; omega)); (rw [ea] at hg; have _z1 := List.mem_singleton.1 hg; omega))).ch _cw_31 (fun g hg hm => by have _h0 := List.mem_singleton.1 hm; rcases _ap21 with ea | ea; (rw [ea] at hg; rcases _ap15 with ea | ea; (rw [ea] at hg; have _h2 := _lo10 _ hg; have _h3 := _hiu10 _ hg; omega); (rw [ea] at hg; have _z1 := List.mem_singleton.1 hg; omega)); (rw [ea] at hg; have _z1 := List.mem_singleton.1 hg; omega)))
  have _o_33 : Ol Token.cs 55 4 _w_31 (.slice _Av21 (((a ++ b) ++ [t])).length _Cv21) (a ++ b ++ [t]) := by
    have hx := _f_34
    first | exact hx | simpa using hx
  exact ret_intro [_] (resOf_loadA _m_32 rfl agg28 sz28 trivial) ⟨_, rfl, _o_33, Lo.down _lo21 (by omega), E⟩

/-- spec.UnionExpr -/
theorem c_spec_UnionExpr {w : World} {_B_a : Nat} {_v_a : Value} {a : List Token} (_h_a : Ls Token.cs 4 w _B_a _v_a a) {_B_b : Nat} {_v_b : Value} {b : List Token} (_h_b : Ls Token.cs 4 w _B_b _v_b b) (hb : a.length + b.length ≤ 1048576) :
    Ctr Try.prog 30 #[(.agg #[_v_a]), (.agg #[_v_b])] w (fun v w' => ∃ u, v = .agg #[u] ∧ Ol Token.cs 55 4 w' u (uniE a b) ∧ Lo w.heap.size u ∧ Ch [] w w') := by
  obtain ⟨_A_a, _C_a, _e1_a⟩ := _h_a.val
  subst _e1_a
  have _l_a := _h_a.len
  have _h_a := _h_a.here (by decide)
  obtain ⟨_A_b, _C_b, _e1_b⟩ := _h_b.val
  subst _e1_b
  have _l_b := _h_b.len
  have _h_b := _h_b.here (by decide)
  have E := Ch.refl [] w
  refine Ctr_of_W (N := 26) (vs0 := [(.agg #[(.slice _A_a a.length _C_a)]), (.agg #[(.slice _A_b b.length _C_b)])]) Try.func30 rfl rfl rfl ?_
  refine W_seq fun _K_1 _hK_1 => ?_
  refine W_region ?_
  refine WL_s rfl rfl ?_
  refine s_box rfl fun _b2 _w_2 _m2 _cw_2 _e2 => ?_
  have _cw_2z := _cw_2.size
  have E := E.trans _cw_2
  have _z2 := _m2.lt
  replace _m2 : Blk _w_2 _b2 28 [(.slice _A_a a.length _C_a)] := _m2
  refine WL_s rfl rfl ?_
  refine s_box rfl fun _b3 _w_3 _m3 _cw_3 _e3 => ?_
  have _cw_3z := _cw_3.size
  have E := E.trans _cw_3
  have _z3 := _m3.lt
  replace _m3 : Blk _w_3 _b3 28 [(.slice _A_b b.length _C_b)] := _m3
  refine WL_s rfl rfl ?_
  refine s_alloc zr28 fun _b4 _w_4 _m4 _cw_4 _e4 => ?_
  have _cw_4z := _cw_4.size
  have E := E.trans _cw_4
  have _z4 := _m4.lt
  replace _m4 : Blk _w_4 _b4 28 [(.slice none 0 0)] := _m4
  refine WL_nil ?_
  refine thn_nrm (_hK_1 _ _ ?_)
  clear _hK_1
  refine W_seq fun _K_5 _hK_5 => ?_
  refine W_block ?_
  refine W_seq fun _K_6 _hK_6 => ?_
  refine W_region ?_
  have _f_7 := ((_m2.ch0 _cw_3).ch0 _cw_4)
  refine WL_step rfl rfl (r_loadAtA0 _f_7.at_ agg28 sz28 rfl) ?_
  refine WL_s rfl rfl ?_
  have _f_8 := (((_h_a.ch0 _cw_2).ch0 _cw_3).ch0 _cw_4)
  refine Step.call (r_call (xs := [.tmp 6, .const (Go.Value.int Go.IntKind.i64 1)]) fk57 rfl) (c_spec_l8Is _f_8 _ ) fun _v7 _w_9 _q7 => ?_
  obtain ⟨rfl, _cw_9⟩ := _q7
  have _cw_9z := _cw_9.size
  have E := E.trans _cw_9
  refine WL_step rfl rfl (r_move rfl) ?_
  refine WL_split (d := 8) rfl (fun _h8 => ?_) (fun _h8 => ?_)
  · refine WL_skip rfl rfl ?_
    refine WL_skip rfl rfl ?_
    refine WL_skip rfl rfl ?_
    refine WL_step rfl rfl (r_pickT rfl rfl) ?_
    refine WL_step rfl rfl (r_assign rfl) ?_
    refine WL_nil ?_
    refine thn_nrm (_hK_6 _ _ ?_)
    clear _hK_6
    refine W_condT rfl ?_
    refine W_seq fun _K_10 _hK_10 => ?_
    refine W_region ?_
    refine WL_step rfl rfl (r_fieldAddr fa28_0 rfl) ?_
    have _f_11 := ((_m3.ch0 _cw_4).ch0 _cw_9)
    refine WL_step rfl rfl (r_loadAt _f_11.at_ agg26 rfl rfl) ?_
    refine WL_s rfl rfl ?_
    have _f_12 := ((((_h_b.ch0 _cw_2).ch0 _cw_3).ch0 _cw_4).ch0 _cw_9)
    refine Step.call (r_call (xs := [.tmp 14]) fk49 rfl) (c_spec_l8Copy _f_12 (by omega)) fun _v15 _w_13 _q15 => ?_
    obtain ⟨_u15, rfl, _q15, _lo15, _cw_13⟩ := _q15
    have _cw_13z := _cw_13.size
    have E := E.trans _cw_13
    obtain ⟨_Au15, _Cu15, _eu15⟩ := _q15.val
    subst _eu15
    have _lu15 := _q15.len
    have _hiu15 := _q15.lt
    refine WL_s rfl rfl ?_
    have _f_14 := ((_m4.ch0 _cw_9).ch0 _cw_13)
    refine s_storeA (off := 0) 1 _f_14 sz28 rfl (us := [(.slice _Au15 (b).length _Cu15)]) rfl rfl rfl rfl fun _w_15 _m_16 _cw_15 => ?_
    have _cw_15z := _cw_15.size
    have E := E.step _cw_15 (fun i hi => .inl (by have _h1 := List.mem_singleton.1 hi; omega))
    replace _m_16 : Blk _w_15 _b4 28 [(.slice _Au15 (b).length _Cu15)] := _m_16
    refine WL_nil ?_
    refine thn_nrm (_hK_10 _ _ ?_)
    clear _hK_10
    refine W_ret (inB_ret (thn_ret ?_))
    clear _hK_5
    have _f_18 := (_q15.ch _cw_15 (fun g hg hm => by have _h0 := List.mem_singleton.1 hm; have _h2 := _lo15 _ hg; have _h3 := _hiu15 _ hg; omega))
    have _o_17 : Ol Token.cs 55 4 _w_15 (.slice _Au15 (b).length _Cu15) (uniE a b) := by
      have hx := _f_18
      (unfold uniE; simp_all)
    exact ret_intro [_] (resOf_loadA _m_16 rfl agg28 sz28 trivial) ⟨_, rfl, _o_17, Lo.down _lo15 (by omega), E⟩
  · have _f_19 := (_f_7.ch0 _cw_9)
    refine WL_step rfl rfl (r_loadAtA0 _f_19.at_ agg28 sz28 rfl) ?_
    have _f_20 := ((_m3.ch0 _cw_4).ch0 _cw_9)
    refine WL_step rfl rfl (r_loadAtA0 _f_20.at_ agg28 sz28 rfl) ?_
    refine WL_s rfl rfl ?_
    have _f_21 := (_f_8.ch0 _cw_9)
    have _f_22 := ((((_h_b.ch0 _cw_2).ch0 _cw_3).ch0 _cw_4).ch0 _cw_9)
    refine Step.call (r_call (xs := [.tmp 9, .tmp 10]) fk62 rfl) (c_spec_EqualExprs _f_21 _f_22 ) fun _v11 _w_23 _q11 => ?_
    obtain ⟨rfl, _cw_23⟩ := _q11
    have _cw_23z := _cw_23.size
    have E := E.trans _cw_23
    refine WL_step rfl rfl (r_pickF rfl rfl) ?_
    refine WL_step rfl rfl (r_assign rfl) ?_
    refine WL_nil ?_
    refine thn_nrm (_hK_6 _ _ ?_)
    clear _hK_6
    refine W_cond rfl (fun _h5 => ?_) (fun _h5 => ?_)
    · have _h5 := bt_d _h5
      refine W_seq fun _K_24 _hK_24 => ?_
      refine W_region ?_
      refine WL_step rfl rfl (r_fieldAddr fa28_0 rfl) ?_
      have _f_25 := (_f_20.ch0 _cw_23)
      refine WL_step rfl rfl (r_loadAt _f_25.at_ agg26 rfl rfl) ?_
      refine WL_s rfl rfl ?_
      have _f_26 := (_f_22.ch0 _cw_23)
      refine Step.call (r_call (xs := [.tmp 14]) fk49 rfl) (c_spec_l8Copy _f_26 (by omega)) fun _v15 _w_27 _q15 => ?_
      obtain ⟨_u15, rfl, _q15, _lo15, _cw_27⟩ := _q15
      have _cw_27z := _cw_27.size
      have E := E.trans _cw_27
      obtain ⟨_Au15, _Cu15, _eu15⟩ := _q15.val
      subst _eu15
      have _lu15 := _q15.len
      have _hiu15 := _q15.lt
      refine WL_s rfl rfl ?_
      have _f_28 := (((_m4.ch0 _cw_9).ch0 _cw_23).ch0 _cw_27)
      refine s_storeA (off := 0) 1 _f_28 sz28 rfl (us := [(.slice _Au15 (b).length _Cu15)]) rfl rfl rfl rfl fun _w_29 _m_30 _cw_29 => ?_
      have _cw_29z := _cw_29.size
      have E := E.step _cw_29 (fun i hi => .inl (by have _h1 := List.mem_singleton.1 hi; omega))
      replace _m_30 : Blk _w_29 _b4 28 [(.slice _Au15 (b).length _Cu15)] := _m_30
      refine WL_nil ?_
      refine thn_nrm (_hK_24 _ _ ?_)
      clear _hK_24
      refine W_ret (inB_ret (thn_ret ?_))
      clear _hK_5
      have _f_32 := (_q15.ch _cw_29 (fun g hg hm => by have _h0 := List.mem_singleton.1 hm; have _h2 := _lo15 _ hg; have _h3 := _hiu15 _ hg; omega))
      have _o_31 : Ol Token.cs 55 4 _w_29 (.slice _Au15 (b).length _Cu15) (uniE a b) := by
        have hx := _f_32
        (unfold uniE; simp_all)
      exact ret_intro [_] (resOf_loadA _m_30 rfl agg28 sz28 trivial) ⟨_, rfl, _o_31, Lo.down _lo15 (by omega), E⟩
    · have _h5 := bf_d _h5
      refine W_seq fun _K_33 _hK_33 => ?_
      refine W_region ?_
      have _f_34 := (_f_20.ch0 _cw_23)
      refine WL_step rfl rfl (r_loadAtA0 _f_34.at_ agg28 sz28 rfl) ?_
      refine WL_s rfl rfl ?_
      have _f_35 := (_f_22.ch0 _cw_23)
      refine Step.call (r_call (xs := [.tmp 17, .const (Go.Value.int Go.IntKind.i64 1)]) fk57 rfl) (c_spec_l8Is _f_35 _ ) fun _v18 _w_36 _q18 => ?_
      obtain ⟨rfl, _cw_36⟩ := _q18
      have _cw_36z := _cw_36.size
      have E := E.trans _cw_36
      refine WL_step rfl rfl (r_assign rfl) ?_
      refine WL_nil ?_
      refine thn_nrm (_hK_33 _ _ ?_)
      clear _hK_33
      refine W_cond rfl (fun _h16 => ?_) (fun _h16 => ?_)
      · refine W_seq fun _K_37 _hK_37 => ?_
        refine W_region ?_
        refine WL_step rfl rfl (r_fieldAddr fa28_0 rfl) ?_
        have _f_38 := ((_f_19.ch0 _cw_23).ch0 _cw_36)
        refine WL_step rfl rfl (r_loadAt _f_38.at_ agg26 rfl rfl) ?_
        refine WL_s rfl rfl ?_
        have _f_39 := ((_f_21.ch0 _cw_23).ch0 _cw_36)
        refine Step.call (r_call (xs := [.tmp 20]) fk49 rfl) (c_spec_l8Copy _f_39 (by omega)) fun _v21 _w_40 _q21 => ?_
        obtain ⟨_u21, rfl, _q21, _lo21, _cw_40⟩ := _q21
        have _cw_40z := _cw_40.size
        have E := E.trans _cw_40
        obtain ⟨_Au21, _Cu21, _eu21⟩ := _q21.val
        subst _eu21
        have _lu21 := _q21.len
        have _hiu21 := _q21.lt
        refine WL_s rfl rfl ?_
        have _f_41 := ((((_m4.ch0 _cw_9).ch0 _cw_23).ch0 _cw_36).ch0 _cw_40)
        refine s_storeA (off := 0) 1 _f_41 sz28 rfl (us := [(.slice _Au21 (a).length _Cu21)]) rfl rfl rfl rfl fun _w_42 _m_43 _cw_42 => ?_
        have _cw_42z := _cw_42.size
        have E := E.step _cw_42 (fun i hi => .inl (by have _h1 := List.mem_singleton.1 hi; omega))
        replace _m_43 : Blk _w_42 _b4 28 [(.slice _Au21 (a).length _Cu21)] := _m_43
        refine WL_nil ?_
        refine thn_nrm (_hK_37 _ _ ?_)
        clear _hK_37
        refine W_ret (inB_ret (thn_ret ?_))
        clear _hK_5
        have _f_45 := (_q21.ch _cw_42 (fun g hg hm => by have _h0 := List.mem_singleton.1 hm; have _h2 := _lo21 _ hg; have _h3 := _hiu21 _ hg; omega))
        have _o_44 : Ol Token.cs 55 4 _w_42 (.slice _Au21 (a).length _Cu21) (uniE a b) := by
          have hx := _f_45
          (unfold uniE; simp_all)
        exact ret_intro [_] (resOf_loadA _m_43 rfl agg28 sz28 trivial) ⟨_, rfl, _o_44, Lo.down _lo21 (by omega), E⟩
      · refine W_skip ?_
        refine inB_nrm ?_
        refine thn_nrm (_hK_5 _ _ ?_)
        clear _hK_5
        refine W_seq fun _K_46 _hK_46 => ?_
        refine W_region ?_
        have _f_47 := ((_f_19.ch0 _cw_23).ch0 _cw_36)
        refine WL_step rfl rfl (r_loadAtA0 _f_47.at_ agg28 sz28 rfl) ?_
        have _f_48 := (_f_34.ch0 _cw_36)
        refine WL_step rfl rfl (r_loadAtA0 _f_48.at_ agg28 sz28 rfl) ?_
        refine WL_step rfl rfl (r_build (parts := [(0, .const (Go.Value.int Go.IntKind.i64 5))]) (cells := [(.int .i64 5), (.int .i64 0), (.int .i64 0), (.int .i64 0)]) zr55 pl55 rfl rfl) ?_
        refine WL_s rfl rfl ?_
        have _f_49 := ((_f_21.ch0 _cw_23).ch0 _cw_36)
        have _f_50 := (_f_35.ch0 _cw_36)
        refine Step.call (r_call (xs := [.tmp 22, .tmp 23, .tmp 24]) fk59 rfl) (c_spec_l8Join _f_49 _f_50 ⟨5, 0, 0, 0⟩ (by omega)) fun _v25 _w_51 _q25 => ?_
        obtain ⟨_u25, rfl, _q25, _lo25, _cw_51⟩ := _q25
        have _cw_51z := _cw_51.size
        have E := E.trans _cw_51
        obtain ⟨_Au25, _Cu25, _eu25⟩ := _q25.val
        subst _eu25
        have _lu25 := _q25.len
        have _hiu25 := _q25.lt
        refine WL_s rfl rfl ?_
        have _f_52 := ((((_m4.ch0 _cw_9).ch0 _cw_23).ch0 _cw_36).ch0 _cw_51)
        refine s_storeA (off := 0) 1 _f_52 sz28 rfl (us := [(.slice _Au25 (a ++ b ++ [(⟨5, 0, 0, 0⟩ : Token)]).length _Cu25)]) rfl rfl rfl rfl fun _w_53 _m_54 _cw_53 => ?_
        have _cw_53z := _cw_53.size
        have E := E.step _cw_53 (fun i hi => .inl (by have _h1 := List.mem_singleton.1 hi; omega))
        replace _m_54 : Blk _w_53 _b4 28 [(.slice _Au25 (a ++ b ++ [(⟨5, 0, 0, 0⟩ : Token)]).length _Cu25)] := _m_54
        refine WL_nil ?_
        refine thn_nrm (_hK_46 _ _ ?_)
        clear _hK_46
        refine W_ret ?_
        have _f_56 := (_q25.ch _cw_53 (fun g hg hm => by have _h0 := List.mem_singleton.1 hm; have _h2 := _lo25 _ hg; have _h3 := _hiu25 _ hg; omega))
        have _o_55 : Ol Token.cs 55 4 _w_53 (.slice _Au25 (a ++ b ++ [(⟨5, 0, 0, 0⟩ : Token)]).length _Cu25) (uniE a b) := by
          have hx := _f_56
          (unfold uniE; simp_all)
        exact ret_intro [_] (resOf_loadA _m_54 rfl agg28 sz28 trivial) ⟨_, rfl, _o_55, Lo.down _lo25 (by omega), E⟩

/-- laws.FnExactUnionExpr -/
theorem c_laws_FnExactUnionExpr {w : World} {_B_a : Nat} {_v_a : Value} {a : List Token} (_h_a : Ls Token.cs 4 w _B_a _v_a a) {_B_b : Nat} {_v_b : Value} {b : List Token} (_h_b : Ls Token.cs 4 w _B_b _v_b b) :
    Ctr Try.prog 8 #[(.agg #[_v_a]), (.agg #[_v_b])] w (fun v w' => v = .bool (true) ∧ Ch [] w w') := by
  obtain ⟨_A_a, _C_a, _e1_a⟩ := _h_a.val
  subst _e1_a
  have _l_a := _h_a.len
  have _h_a := _h_a.here (by decide)
  obtain ⟨_A_b, _C_b, _e1_b⟩ := _h_b.val
  subst _e1_b
  have _l_b := _h_b.len
  have _h_b := _h_b.here (by decide)
  have E := Ch.refl [] w
  have hr := uniE_len a b
  refine Ctr_of_W (N := 92) (vs0 := [(.agg #[(.slice _A_a a.length _C_a)]), (.agg #[(.slice _A_b b.length _C_b)])]) Try.func8 rfl rfl rfl ?_
  refine W_seq fun _K_1 _hK_1 => ?_
  refine W_region ?_
  refine WL_s rfl rfl ?_
  refine s_box rfl fun _b2 _w_2 _m2 _cw_2 _e2 => ?_
  have _cw_2z := _cw_2.size
  have E := E.trans _cw_2
  have _z2 := _m2.lt
  replace _m2 : Blk _w_2 _b2 24 [(.slice _A_a a.length _C_a)] := _m2
  refine WL_s rfl rfl ?_
  refine s_box rfl fun _b3 _w_3 _m3 _cw_3 _e3 => ?_
  have _cw_3z := _cw_3.size
  have E := E.trans _cw_3
  have _z3 := _m3.lt
  replace _m3 : Blk _w_3 _b3 24 [(.slice _A_b b.length _C_b)] := _m3
  refine WL_step rfl rfl (r_assign rfl) ?_
  refine WL_nil ?_
  refine thn_nrm (_hK_1 _ _ ?_)
  clear _hK_1
  refine W_seq fun _K_4 _hK_4 => ?_
  refine W_region ?_
  refine WL_step rfl rfl (r_assign rfl) ?_
  refine WL_nil ?_
  refine thn_nrm (_hK_4 _ _ ?_)
  clear _hK_4
  refine W_seq fun _K_5 _hK_5 => ?_
  refine W_region ?_
  have _f_6 := (_m2.ch0 _cw_3)
  refine WL_step rfl rfl (r_loadAtA0 _f_6.at_ agg24 sz24 rfl) ?_
  refine WL_step rfl rfl (r_move rfl) ?_
  refine WL_s rfl rfl ?_
  have _f_7 := ((_h_a.ch0 _cw_2).ch0 _cw_3)
  refine Step.call (r_call (xs := [.tmp 14, .tmp 15]) fk15 rfl) (c_laws_szExpr _f_7 _ (by omega) (by omega)) fun _v16 _w_8 _q16 => ?_
  obtain ⟨rfl, _cw_8⟩ := _q16
  have _cw_8z := _cw_8.size
  have E := E.trans _cw_8
  refine WL_step rfl rfl (r_assign rfl) ?_
  refine WL_nil ?_
  refine thn_nrm (_hK_5 _ _ ?_)
  clear _hK_5
  refine W_seq fun _K_9 _hK_9 => ?_
  refine W_seq fun _K_10 _hK_10 => ?_
  refine W_region ?_
  refine WL_step rfl rfl (r_move rfl) ?_
  refine WL_step rfl rfl (r_lss rfl rfl) ?_
  refine WL_nil ?_
  refine thn_nrm (_hK_10 _ _ ?_)
  clear _hK_10
  refine W_cond rfl (fun _h18 => ?_) (fun _h18 => ?_)
  · have _h18 := bt_d _h18
    refine W_seq fun _K_11 _hK_11 => ?_
    refine W_region ?_
    refine WL_step rfl rfl (r_assign rfl) ?_
    refine WL_nil ?_
    refine thn_nrm (_hK_11 _ _ ?_)
    clear _hK_11
    refine W_ret (thn_ret ?_)
    clear _hK_9
    exact ret_intro [_] ⟨rfl, trivial⟩ ⟨congrArg Value.bool (by first | rfl | (exfalso; omega) | (exfalso; revert _h18; simp; done) | (exfalso; revert _h18; simp; omega)), E⟩
  · have _h18 := bf_d _h18
    refine W_skip ?_
    refine thn_nrm (_hK_9 _ _ ?_)
    clear _hK_9
    refine W_seq fun _K_12 _hK_12 => ?_
    refine W_region ?_
    have _f_13 := (_m3.ch0 _cw_8)
    refine WL_step rfl rfl (r_loadAtA0 _f_13.at_ agg24 sz24 rfl) ?_
    refine WL_step rfl rfl (r_move rfl) ?_
    refine WL_s rfl rfl ?_
    have _f_14 := (((_h_b.ch0 _cw_2).ch0 _cw_3).ch0 _cw_8)
    refine Step.call (r_call (xs := [.tmp 19, .tmp 20]) fk15 rfl) (c_laws_szExpr _f_14 _ (by omega) (by omega)) fun _v21 _w_15 _q21 => ?_
    obtain ⟨rfl, _cw_15⟩ := _q21
    have _cw_15z := _cw_15.size
    have E := E.trans _cw_15
    refine WL_step rfl rfl (r_assign rfl) ?_
    refine WL_nil ?_
    refine thn_nrm (_hK_12 _ _ ?_)
    clear _hK_12
    refine W_seq fun _K_16 _hK_16 => ?_
    refine W_seq fun _K_17 _hK_17 => ?_
    refine W_region ?_
    refine WL_step rfl rfl (r_move rfl) ?_
    refine WL_step rfl rfl (r_lss rfl rfl) ?_
    refine WL_nil ?_
    refine thn_nrm (_hK_17 _ _ ?_)
    clear _hK_17
    refine W_cond rfl (fun _h23 => ?_) (fun _h23 => ?_)
    · have _h23 := bt_d _h23
      refine W_seq fun _K_18 _hK_18 => ?_
      refine W_region ?_
      refine WL_step rfl rfl (r_assign rfl) ?_
      refine WL_nil ?_
      refine thn_nrm (_hK_18 _ _ ?_)
      clear _hK_18
      refine W_ret (thn_ret ?_)
      clear _hK_16
      exact ret_intro [_] ⟨rfl, trivial⟩ ⟨congrArg Value.bool (by first | rfl | (exfalso; omega) | (exfalso; revert _h23; simp; done) | (exfalso; revert _h23; simp; omega)), E⟩
    · have _h23 := bf_d _h23
      refine W_skip ?_
      refine thn_nrm (_hK_16 _ _ ?_)
      clear _hK_16
      refine W_seq fun _K_19 _hK_19 => ?_
      have _J_21 : ∀ (lj : KL) (_wj_20 : World) (jb6 : Nat) (ju6_0 : Value), Go.KLib.Sub [(2, (.pointer (some ⟨_b2, 0, none⟩))), (3, (.pointer (some ⟨_b3, 0, none⟩))), (4, (.bool false)), (6, (.pointer (some ⟨jb6, 0, none⟩)))] lj → Ch [] _w_15 _wj_20 → Ol Token.cs 55 4 _wj_20 ju6_0 (uniE a b) → Lo _w_15.heap.size ju6_0 → Blk _wj_20 jb6 28 [ju6_0] → _w_15.heap.size ≤ jb6 → jb6 ∉ bl ju6_0 → _K_19 lj _wj_20 := by
        intro lj _wj_20 jb6 ju6_0 _jsub _cjK_19 _qju6_0 _loju6_0 _mjb6 _ejb6 _nbjb6ju6_0
        refine _hK_19 _ _ (W_sub _jsub ?_)
        clear _hK_19
        have _cjK_19z := _cjK_19.size
        have E := E.trans _cjK_19
        obtain ⟨_Aju6_0, _Cju6_0, _eju6_0⟩ := _qju6_0.val
        subst _eju6_0
        have _lju6_0 := _qju6_0.len
        have _hiju6_0 := _qju6_0.lt
        have _zjb6 := _mjb6.lt
        refine W_seq fun _K_22 _hK_22 => ?_
        refine W_region ?_
        have _f_23 := (((_f_6.ch0 _cw_8).ch0 _cw_15).ch0 _cjK_19)
        refine WL_step rfl rfl (r_loadAtA0 _f_23.at_ agg24 sz24 rfl) ?_
        refine WL_s rfl rfl ?_
        have _f_24 := (((_f_7.ch0 _cw_8).ch0 _cw_15).ch0 _cjK_19)
        refine Step.call (r_call (xs := [.tmp 29]) fk17 rfl) (c_laws_toExpr _f_24 (by omega)) fun _v30 _w_25 _q30 => ?_
        obtain ⟨_u30, rfl, _q30, _lo30, _cw_25⟩ := _q30
        have _cw_25z := _cw_25.size
        have E := E.trans _cw_25
        obtain ⟨_Au30, _Cu30, _eu30⟩ := _q30.val
        subst _eu30
        have _lu30 := _q30.len
        have _hiu30 := _q30.lt
        refine WL_s rfl rfl ?_
        refine s_alloc zr28 fun _b7 _w_26 _m7 _cw_26 _e7 => ?_
        have _cw_26z := _cw_26.size
        have E := E.trans _cw_26
        have _z7 := _m7.lt
        replace _m7 : Blk _w_26 _b7 28 [(.slice none 0 0)] := _m7
        refine WL_s rfl rfl ?_
        refine s_storeA (off := 0) 1 _m7 sz28 rfl (us := [(.slice _Au30 (a).length _Cu30)]) rfl rfl rfl rfl fun _w_27 _m_28 _cw_27 => ?_
        have _cw_27z := _cw_27.size
        have E := E.step _cw_27 (fun i hi => .inl (by have _h1 := List.mem_singleton.1 hi; omega))
        replace _m_28 : Blk _w_27 _b7 28 [(.slice _Au30 (a).length _Cu30)] := _m_28
        refine WL_nil ?_
        refine thn_nrm (_hK_22 _ _ ?_)
        clear _hK_22
        refine W_seq fun _K_29 _hK_29 => ?_
        refine W_region ?_
        have _f_30 := (((((_f_13.ch0 _cw_15).ch0 _cjK_19).ch0 _cw_25).ch0 _cw_26).ch _cw_27 (fun hm => by have _h1 := List.mem_singleton.1 hm; omega))
        refine WL_step rfl rfl (r_loadAtA0 _f_30.at_ agg24 sz24 rfl) ?_
        refine WL_s rfl rfl ?_
        have _f_31 := (((((_f_14.ch0 _cw_15).ch0 _cjK_19).ch0 _cw_25).ch0 _cw_26).ch _cw_27 (fun i hi => by have _h1 := List.mem_singleton.1 hi; omega))
        refine Step.call (r_call (xs := [.tmp 31]) fk17 rfl) (c_laws_toExpr _f_31 (by omega)) fun _v32 _w_32 _q32 => ?_
        obtain ⟨_u32, rfl, _q32, _lo32, _cw_32⟩ := _q32
        have _cw_32z := _cw_32.size
        have E := E.trans _cw_32
        obtain ⟨_Au32, _Cu32, _eu32⟩ := _q32.val
        subst _eu32
        have _lu32 := _q32.len
        have _hiu32 := _q32.lt
        refine WL_s rfl rfl ?_
        refine s_alloc zr28 fun _b8 _w_33 _m8 _cw_33 _e8 => ?_
        have _cw_33z := _cw_33.size
        have E := E.trans _cw_33
        have _z8 := _m8.lt
        replace _m8 : Blk _w_33 _b8 28 [(.slice none 0 0)] := _m8
        refine WL_s rfl rfl ?_
        refine s_storeA (off := 0) 1 _m8 sz28 rfl (us := [(.slice _Au32 (b).length _Cu32)]) rfl rfl rfl rfl fun _w_34 _m_35 _cw_34 => ?_
        have _cw_34z := _cw_34.size
        have E := E.step _cw_34 (fun i hi => .inl (by have _h1 := List.mem_singleton.1 hi; omega))
        replace _m_35 : Blk _w_34 _b8 28 [(.slice _Au32 (b).length _Cu32)] := _m_35
        refine WL_nil ?_
        refine thn_nrm (_hK_29 _ _ ?_)
        clear _hK_29
        refine W_seq fun _K_36 _hK_36 => ?_
        refine W_region ?_
        have _f_37 := (((_m_28.ch0 _cw_32).ch0 _cw_33).ch _cw_34 (fun hm => by have _h1 := List.mem_singleton.1 hm; omega))
        refine WL_step rfl rfl (r_loadAtA0 _f_37.at_ agg28 sz28 rfl) ?_
        refine WL_step rfl rfl (r_loadAtA0 _m_35.at_ agg28 sz28 rfl) ?_
        refine WL_s rfl rfl ?_
        have _f_38 := (((((_q30.ch0 _cw_26).ch _cw_27 (fun g hg hm => by have _h0 := List.mem_singleton.1 hm; have _h2 := _lo30 _ hg; have _h3 := _hiu30 _ hg; omega)).ch0 _cw_32).ch0 _cw_33).ch _cw_34 (fun g hg hm => by have _h0 := List.mem_singleton.1 hm; have _h2 := _lo30 _ hg; have _h3 := _hiu30 _ hg; omega))
        have _f_39 := ((_q32.ch0 _cw_33).ch _cw_34 (fun g hg hm => by have _h0 := List.mem_singleton.1 hm; have _h2 := _lo32 _ hg; have _h3 := _hiu32 _ hg; omega))
        refine Step.call (r_call (xs := [.tmp 33, .tmp 34]) fk31 rfl) (c_impl_UnionExpr _f_38.ls _f_39.ls (by omega)) fun _v35 _w_40 _q35 => ?_
        obtain ⟨_u35, rfl, _q35, _lo35, _cw_40⟩ := _q35
        have _cw_40z := _cw_40.size
        have E := E.trans _cw_40
        obtain ⟨_Au35, _Cu35, _eu35⟩ := _q35.val
        subst _eu35
        have _lu35 := _q35.len
        have _hiu35 := _q35.lt
        refine WL_s rfl rfl ?_
        refine s_alloc zr28 fun _b9 _w_41 _m9 _cw_41 _e9 => ?_
        have _cw_41z := _cw_41.size
        have E := E.trans _cw_41
        have _z9 := _m9.lt
        replace _m9 : Blk _w_41 _b9 28 [(.slice none 0 0)] := _m9
        refine WL_s rfl rfl ?_
        refine s_storeA (off := 0) 1 _m9 sz28 rfl (us := [(.slice _Au35 (uniE a b).length _Cu35)]) rfl rfl rfl rfl fun _w_42 _m_43 _cw_42 => ?_
        have _cw_42z := _cw_42.size
        have E := E.step _cw_42 (fun i hi => .inl (by have _h1 := List.mem_singleton.1 hi; omega))
        replace _m_43 : Blk _w_42 _b9 28 [(.slice _Au35 (uniE a b).length _Cu35)] := _m_43
        refine WL_nil ?_
        refine thn_nrm (_hK_36 _ _ ?_)
        clear _hK_36
        refine W_seq fun _K_44 _hK_44 => ?_
        refine W_seq fun _K_45 _hK_45 => ?_
        refine W_region ?_
        refine WL_step rfl rfl (r_loadAtA0 _m_43.at_ agg28 sz28 rfl) ?_
        have _f_46 := (((((((((_mjb6.ch0 _cw_25).ch0 _cw_26).ch _cw_27 (fun hm => by have _h1 := List.mem_singleton.1 hm; omega)).ch0 _cw_32).ch0 _cw_33).ch _cw_34 (fun hm => by have _h1 := List.mem_singleton.1 hm; omega)).ch0 _cw_40).ch0 _cw_41).ch _cw_42 (fun hm => by have _h1 := List.mem_singleton.1 hm; omega))
        refine WL_step rfl rfl (r_loadAtA0 _f_46.at_ agg28 sz28 rfl) ?_
        refine WL_s rfl rfl ?_
        have _f_47 := ((_q35.ch0 _cw_41).ch _cw_42 (fun g hg hm => by have _h0 := List.mem_singleton.1 hm; have _h2 := _lo35 _ hg; have _h3 := _hiu35 _ hg; omega))
        have _f_48 := (((((((((_qju6_0.ch0 _cw_25).ch0 _cw_26).ch _cw_27 (fun g hg hm => by have _h0 := List.mem_singleton.1 hm; have _h2 := _loju6_0 _ hg; have _h3 := _hiju6_0 _ hg; omega)).ch0 _cw_32).ch0 _cw_33).ch _cw_34 (fun g hg hm => by have _h0 := List.mem_singleton.1 hm; have _h2 := _loju6_0 _ hg; have _h3 := _hiju6_0 _ hg; omega)).ch0 _cw_40).ch0 _cw_41).ch _cw_42 (fun g hg hm => by have _h0 := List.mem_singleton.1 hm; have _h2 := _loju6_0 _ hg; have _h3 := _hiju6_0 _ hg; omega))
        refine Step.call (r_call (xs := [.tmp 36, .tmp 37]) fk19 rfl) (c_laws_eqExpr _f_47.ls _f_48.ls ) fun _v38 _w_49 _q38 => ?_
        obtain ⟨rfl, _cw_49⟩ := _q38
        have _cw_49z := _cw_49.size
        have E := E.trans _cw_49
        refine WL_step rfl rfl (r_not rfl) ?_
        refine WL_nil ?_
        refine thn_nrm (_hK_45 _ _ ?_)
        clear _hK_45
        refine W_cond rfl (fun _h39 => ?_) (fun _h39 => ?_)
        · have _h39 := bf_d (bt_n _h39)
          refine W_seq fun _K_50 _hK_50 => ?_
          refine W_region ?_
          refine WL_step rfl rfl (r_assign rfl) ?_
          refine WL_nil ?_
          refine thn_nrm (_hK_50 _ _ ?_)
          clear _hK_50
          refine W_ret (thn_ret ?_)
          clear _hK_44
          exact ret_intro [_] ⟨rfl, trivial⟩ ⟨congrArg Value.bool (by first | rfl | (exfalso; omega) | (exfalso; revert _h39; simp; done) | (exfalso; revert _h39; simp; omega)), E⟩
        · have _h39 := bt_d (bf_n _h39)
          refine W_skip ?_
          refine thn_nrm (_hK_44 _ _ ?_)
          clear _hK_44
          refine W_seq fun _K_51 _hK_51 => ?_
          refine W_seq fun _K_52 _hK_52 => ?_
          refine W_drawC [] 5 mixed rfl fun _w_53 _cw_53 => ?_
          have _cw_53z := _cw_53.size
          have E := E.trans _cw_53
          have _f_54 := (((((_f_37.ch0 _cw_40).ch0 _cw_41).ch _cw_42 (fun hm => by have _h1 := List.mem_singleton.1 hm; omega)).ch0 _cw_49).ch0 _cw_53)
          refine DR_s 0 rfl (by kernel_rfl) rfl rfl (t_loadAtA0 _f_54.at_ (fun i hi => by first | exact absurd hi (List.not_mem_nil) | (have _h1 := List.mem_singleton.1 hi; omega)) agg28 sz28 rfl ?_)
          have _f_55 := (((((((((((_f_23.ch0 _cw_25).ch0 _cw_26).ch _cw_27 (fun hm => by have _h1 := List.mem_singleton.1 hm; omega)).ch0 _cw_32).ch0 _cw_33).ch _cw_34 (fun hm => by have _h1 := List.mem_singleton.1 hm; omega)).ch0 _cw_40).ch0 _cw_41).ch _cw_42 (fun hm => by have _h1 := List.mem_singleton.1 hm; omega)).ch0 _cw_49).ch0 _cw_53)
          refine DR_s 1 rfl (by kernel_rfl) rfl rfl (t_loadAtA0 _f_55.at_ (fun i hi => by first | exact absurd hi (List.not_mem_nil) | (have _h1 := List.mem_singleton.1 hi; omega)) agg24 sz24 rfl ?_)
          refine DR_one 2 (by kernel_rfl) ?_
          refine DO_s rfl rfl rfl ?_
          have _f_56 := (((((((((((_f_24.ch0 _cw_25).ch0 _cw_26).ch _cw_27 (fun i hi => by have _h1 := List.mem_singleton.1 hi; omega)).ch0 _cw_32).ch0 _cw_33).ch _cw_34 (fun i hi => by have _h1 := List.mem_singleton.1 hi; omega)).ch0 _cw_40).ch0 _cw_41).ch _cw_42 (fun i hi => by have _h1 := List.mem_singleton.1 hi; omega)).ch0 _cw_49).ch0 _cw_53)
          refine Step.call (r_call (xs := [.tmp 41]) fk17 rfl) (c_laws_toExpr _f_56 (by omega)) fun _v42 _w_57 _q42 => ?_
          obtain ⟨_u42, rfl, _q42, _lo42, _cw_57⟩ := _q42
          have _cw_57z := _cw_57.size
          have E := E.trans _cw_57
          obtain ⟨_Au42, _Cu42, _eu42⟩ := _q42.val
          subst _eu42
          have _lu42 := _q42.len
          have _hiu42 := _q42.lt
          have _S_58 : Ch [] _w_53 _w_57 := ((Ch.refl _ _).trans _cw_57.of_nil)
          refine ⟨_S_58, ?_⟩
          refine DR_one 3 (by kernel_rfl) ?_
          refine DO_s rfl rfl rfl ?_
          have _f_59 := ((((((_f_38.ch0 _cw_40).ch0 _cw_41).ch _cw_42 (fun g hg hm => by have _h0 := List.mem_singleton.1 hm; have _h2 := _lo30 _ hg; have _h3 := _hiu30 _ hg; omega)).ch0 _cw_49).ch0 _cw_53).ch0 _cw_57)
          refine Step.call (r_call (xs := [.tmp 40, .tmp 42]) fk19 rfl) (c_laws_eqExpr _f_59.ls _q42.ls ) fun _v43 _w_60 _q43 => ?_
          obtain ⟨rfl, _cw_60⟩ := _q43
          have _cw_60z := _cw_60.size
          have E := E.trans _cw_60
          have _S_61 : Ch [] _w_53 _w_60 := (_S_58.trans _cw_60.of_nil)
          refine ⟨_S_61, ?_⟩
          refine DR_s 4 rfl (by kernel_rfl) rfl rfl (t_v (fun _ => (r_not rfl)) ?_)
          refine DR_done (by kernel_rfl) ?_
          refine thn_nrm (_hK_52 _ _ ?_)
          clear _hK_52
          refine W_cond rfl (fun _h44 => ?_) (fun _h44 => ?_)
          · have _h44 := bf_d (bt_n _h44)
            refine W_seq fun _K_62 _hK_62 => ?_
            refine W_region ?_
            refine WL_step rfl rfl (r_assign rfl) ?_
            refine WL_nil ?_
            refine thn_nrm (_hK_62 _ _ ?_)
            clear _hK_62
            refine W_ret (thn_ret ?_)
            clear _hK_51
            exact ret_intro [_] ⟨rfl, trivial⟩ ⟨congrArg Value.bool (by first | rfl | (exfalso; omega) | (exfalso; revert _h44; simp; done) | (exfalso; revert _h44; simp; omega)), E⟩
          · have _h44 := bt_d (bf_n _h44)
            refine W_skip ?_
            refine thn_nrm (_hK_51 _ _ ?_)
            clear _hK_51
            refine W_seq fun _K_63 _hK_63 => ?_
            refine W_seq fun _K_64 _hK_64 => ?_
            refine W_drawC [] 5 mixed rfl fun _w_65 _cw_65 => ?_
            have _cw_65z := _cw_65.size
            have E := E.trans _cw_65
            have _f_66 := ((((((((_m_35.ch0 _cw_40).ch0 _cw_41).ch _cw_42 (fun hm => by have _h1 := List.mem_singleton.1 hm; omega)).ch0 _cw_49).ch0 _cw_53).ch0 _cw_57).ch0 _cw_60).ch0 _cw_65)
            refine DR_s 0 rfl (by kernel_rfl) rfl rfl (t_loadAtA0 _f_66.at_ (fun i hi => by first | exact absurd hi (List.not_mem_nil) | (have _h1 := List.mem_singleton.1 hi; omega)) agg28 sz28 rfl ?_)
            have _f_67 := (((((((((((_f_30.ch0 _cw_32).ch0 _cw_33).ch _cw_34 (fun hm => by have _h1 := List.mem_singleton.1 hm; omega)).ch0 _cw_40).ch0 _cw_41).ch _cw_42 (fun hm => by have _h1 := List.mem_singleton.1 hm; omega)).ch0 _cw_49).ch0 _cw_53).ch0 _cw_57).ch0 _cw_60).ch0 _cw_65)
            refine DR_s 1 rfl (by kernel_rfl) rfl rfl (t_loadAtA0 _f_67.at_ (fun i hi => by first | exact absurd hi (List.not_mem_nil) | (have _h1 := List.mem_singleton.1 hi; omega)) agg24 sz24 rfl ?_)
            refine DR_one 2 (by kernel_rfl) ?_
            refine DO_s rfl rfl rfl ?_
            have _f_68 := (((((((((((_f_31.ch0 _cw_32).ch0 _cw_33).ch _cw_34 (fun i hi => by have _h1 := List.mem_singleton.1 hi; omega)).ch0 _cw_40).ch0 _cw_41).ch _cw_42 (fun i hi => by have _h1 := List.mem_singleton.1 hi; omega)).ch0 _cw_49).ch0 _cw_53).ch0 _cw_57).ch0 _cw_60).ch0 _cw_65)
            refine Step.call (r_call (xs := [.tmp 46]) fk17 rfl) (c_laws_toExpr _f_68 (by omega)) fun _v47 _w_69 _q47 => ?_
            obtain ⟨_u47, rfl, _q47, _lo47, _cw_69⟩ := _q47
            have _cw_69z := _cw_69.size
            have E := E.trans _cw_69
            obtain ⟨_Au47, _Cu47, _eu47⟩ := _q47.val
            subst _eu47
            have _lu47 := _q47.len
            have _hiu47 := _q47.lt
            have _S_70 : Ch [] _w_65 _w_69 := ((Ch.refl _ _).trans _cw_69.of_nil)
            refine ⟨_S_70, ?_⟩
            refine DR_one 3 (by kernel_rfl) ?_
            refine DO_s rfl rfl rfl ?_
            have _f_71 := (((((((((_f_39.ch0 _cw_40).ch0 _cw_41).ch _cw_42 (fun g hg hm => by have _h0 := List.mem_singleton.1 hm; have _h2 := _lo32 _ hg; have _h3 := _hiu32 _ hg; omega)).ch0 _cw_49).ch0 _cw_53).ch0 _cw_57).ch0 _cw_60).ch0 _cw_65).ch0 _cw_69)
            refine Step.call (r_call (xs := [.tmp 45, .tmp 47]) fk19 rfl) (c_laws_eqExpr _f_71.ls _q47.ls ) fun _v48 _w_72 _q48 => ?_
            obtain ⟨rfl, _cw_72⟩ := _q48
            have _cw_72z := _cw_72.size
            have E := E.trans _cw_72
            have _S_73 : Ch [] _w_65 _w_72 := (_S_70.trans _cw_72.of_nil)
            refine ⟨_S_73, ?_⟩
            refine DR_s 4 rfl (by kernel_rfl) rfl rfl (t_v (fun _ => (r_not rfl)) ?_)
            refine DR_done (by kernel_rfl) ?_
            refine thn_nrm (_hK_64 _ _ ?_)
            clear _hK_64
            refine W_cond rfl (fun _h49 => ?_) (fun _h49 => ?_)
            · have _h49 := bf_d (bt_n _h49)
              refine W_seq fun _K_74 _hK_74 => ?_
              refine W_region ?_
              refine WL_step rfl rfl (r_assign rfl) ?_
              refine WL_nil ?_
              refine thn_nrm (_hK_74 _ _ ?_)
              clear _hK_74
              refine W_ret (thn_ret ?_)
              clear _hK_63
              exact ret_intro [_] ⟨rfl, trivial⟩ ⟨congrArg Value.bool (by first | rfl | (exfalso; omega) | (exfalso; revert _h49; simp; done) | (exfalso; revert _h49; simp; omega)), E⟩
            · have _h49 := bt_d (bf_n _h49)
              refine W_skip ?_
              refine thn_nrm (_hK_63 _ _ ?_)
              clear _hK_63
              refine W_seq fun _K_75 _hK_75 => ?_
              refine W_region ?_
              refine WL_step rfl rfl (r_assign rfl) ?_
              refine WL_nil ?_
              refine thn_nrm (_hK_75 _ _ ?_)
              clear _hK_75
              refine W_seq fun _K_76 _hK_76 => ?_
              refine W_region ?_
              have _f_77 := (((((_f_54.ch0 _cw_57).ch0 _cw_60).ch0 _cw_65).ch0 _cw_69).ch0 _cw_72)
              refine WL_step rfl rfl (r_loadAtA0 _f_77.at_ agg28 sz28 rfl) ?_
              refine WL_step rfl rfl (r_move rfl) ?_
              refine WL_s rfl rfl ?_
              have _f_78 := ((((_f_59.ch0 _cw_60).ch0 _cw_65).ch0 _cw_69).ch0 _cw_72)
              refine Step.call (r_call (xs := [.tmp 50, .tmp 51]) fk20 rfl) (c_laws_markExpr _f_78 _ (by omega) (by first | omega | (simp <;> omega))) fun _v52 _w_79 _q52 => ?_
              obtain ⟨rfl, _q52, _cw_79⟩ := _q52
              have _cw_79z := _cw_79.size
              have E := E.step _cw_79 (fun i hi => .inl (by have _h1 := _lo30 _ hi; omega))
              refine WL_step rfl rfl (r_assign rfl) ?_
              refine WL_nil ?_
              refine thn_nrm (_hK_76 _ _ ?_)
              clear _hK_76
              refine W_seq fun _K_80 _hK_80 => ?_
              refine W_region ?_
              have _f_81 := (((_f_66.ch0 _cw_69).ch0 _cw_72).ch _cw_79 (fun hm => by have _h1 := _lo30 _ hm; have _h2 := _hiu30 _ hm; omega))
              refine WL_step rfl rfl (r_loadAtA0 _f_81.at_ agg28 sz28 rfl) ?_
              refine WL_step rfl rfl (r_move rfl) ?_
              refine WL_s rfl rfl ?_
              have _f_82 := ((_f_71.ch0 _cw_72).ch _cw_79 (fun g hg hm => by have _h1 := _lo30 _ hm; have _h2 := _hiu30 _ hm; have _h3 := _lo32 _ hg; have _h4 := _hiu32 _ hg; omega))
              refine Step.call (r_call (xs := [.tmp 53, .tmp 54]) fk20 rfl) (c_laws_markExpr _f_82 _ (by omega) (by first | omega | (simp <;> omega))) fun _v55 _w_83 _q55 => ?_
              obtain ⟨rfl, _q55, _cw_83⟩ := _q55
              have _cw_83z := _cw_83.size
              have E := E.step _cw_83 (fun i hi => .inl (by have _h1 := _lo32 _ hi; omega))
              refine WL_step rfl rfl (r_assign rfl) ?_
              refine WL_nil ?_
              refine thn_nrm (_hK_80 _ _ ?_)
              clear _hK_80
              refine W_seq fun _K_84 _hK_84 => ?_
              refine W_seq fun _K_85 _hK_85 => ?_
              refine W_region ?_
              refine WL_step rfl rfl (r_move rfl) ?_
              refine WL_step rfl rfl (r_lss rfl rfl) ?_
              refine WL_step rfl rfl (r_move rfl) ?_
              refine WL_split (d := 58) rfl (fun _h58 => ?_) (fun _h58 => ?_)
              · have _h58 := bt_d _h58
                refine WL_skip rfl rfl ?_
                refine WL_skip rfl rfl ?_
                refine WL_skip rfl rfl ?_
                refine WL_skip rfl rfl ?_
                refine WL_step rfl rfl (r_pickT rfl rfl) ?_
                refine WL_nil ?_
                refine thn_nrm (_hK_85 _ _ ?_)
                clear _hK_85
                refine W_condT rfl ?_
                refine W_seq fun _K_86 _hK_86 => ?_
                refine W_region ?_
                refine WL_step rfl rfl (r_assign rfl) ?_
                refine WL_nil ?_
                refine thn_nrm (_hK_86 _ _ ?_)
                clear _hK_86
                refine W_ret (thn_ret ?_)
                clear _hK_84
                exact ret_intro [_] ⟨rfl, trivial⟩ ⟨congrArg Value.bool (by first | rfl | (exfalso; omega) | (exfalso; revert _h49; simp; done) | (exfalso; revert _h49; simp; omega)), E⟩
              · have _h58 := bf_d _h58
                have _f_87 := (((((((((_m_43.ch0 _cw_49).ch0 _cw_53).ch0 _cw_57).ch0 _cw_60).ch0 _cw_65).ch0 _cw_69).ch0 _cw_72).ch _cw_79 (fun hm => by have _h1 := _lo30 _ hm; have _h2 := _hiu30 _ hm; omega)).ch _cw_83 (fun hm => by have _h1 := _lo32 _ hm; have _h2 := _hiu32 _ hm; omega))
                refine WL_step rfl rfl (r_loadAtA0 _f_87.at_ agg28 sz28 rfl) ?_
                have _f_88 := (((((((((_f_46.ch0 _cw_49).ch0 _cw_53).ch0 _cw_57).ch0 _cw_60).ch0 _cw_65).ch0 _cw_69).ch0 _cw_72).ch _cw_79 (fun hm => by have _h1 := _lo30 _ hm; have _h2 := _hiu30 _ hm; omega)).ch _cw_83 (fun hm => by have _h1 := _lo32 _ hm; have _h2 := _hiu32 _ hm; omega))
                refine WL_step rfl rfl (r_loadAtA0 _f_88.at_ agg28 sz28 rfl) ?_
                refine WL_s rfl rfl ?_
                have _f_89 := (((((((((_f_47.ch0 _cw_49).ch0 _cw_53).ch0 _cw_57).ch0 _cw_60).ch0 _cw_65).ch0 _cw_69).ch0 _cw_72).ch _cw_79 (fun g hg hm => by have _h1 := _lo30 _ hm; have _h2 := _hiu30 _ hm; have _h3 := _lo35 _ hg; have _h4 := _hiu35 _ hg; omega)).ch _cw_83 (fun g hg hm => by have _h1 := _lo32 _ hm; have _h2 := _hiu32 _ hm; have _h3 := _lo35 _ hg; have _h4 := _hiu35 _ hg; omega))
                have _f_90 := (((((((((_f_48.ch0 _cw_49).ch0 _cw_53).ch0 _cw_57).ch0 _cw_60).ch0 _cw_65).ch0 _cw_69).ch0 _cw_72).ch _cw_79 (fun g hg hm => by have _h1 := _lo30 _ hm; have _h2 := _hiu30 _ hm; have _h3 := _loju6_0 _ hg; have _h4 := _hiju6_0 _ hg; omega)).ch _cw_83 (fun g hg hm => by have _h1 := _lo32 _ hm; have _h2 := _hiu32 _ hm; have _h3 := _loju6_0 _ hg; have _h4 := _hiju6_0 _ hg; omega))
                refine Step.call (r_call (xs := [.tmp 59, .tmp 60]) fk19 rfl) (c_laws_eqExpr _f_89.ls _f_90.ls ) fun _v61 _w_91 _q61 => ?_
                obtain ⟨rfl, _cw_91⟩ := _q61
                have _cw_91z := _cw_91.size
                have E := E.trans _cw_91
                refine WL_step rfl rfl (r_not rfl) ?_
                refine WL_step rfl rfl (r_pickF rfl rfl) ?_
                refine WL_nil ?_
                refine thn_nrm (_hK_85 _ _ ?_)
                clear _hK_85
                refine W_cond rfl (fun _h63 => ?_) (fun _h63 => ?_)
                · have _h63 := bf_d (bt_n _h63)
                  refine W_seq fun _K_92 _hK_92 => ?_
                  refine W_region ?_
                  refine WL_step rfl rfl (r_assign rfl) ?_
                  refine WL_nil ?_
                  refine thn_nrm (_hK_92 _ _ ?_)
                  clear _hK_92
                  refine W_ret (thn_ret ?_)
                  clear _hK_84
                  exact ret_intro [_] ⟨rfl, trivial⟩ ⟨congrArg Value.bool (by first | rfl | (exfalso; omega) | (exfalso; revert _h63; simp; done) | (exfalso; revert _h63; simp; omega)), E⟩
                · have _h63 := bt_d (bf_n _h63)
                  refine W_skip ?_
                  refine thn_nrm (_hK_84 _ _ ?_)
                  clear _hK_84
                  refine W_seq fun _K_93 _hK_93 => ?_
                  refine W_region ?_
                  refine WL_step rfl rfl (r_assign rfl) ?_
                  refine WL_nil ?_
                  refine thn_nrm (_hK_93 _ _ ?_)
                  clear _hK_93
                  refine W_seq fun _K_94 _hK_94 => ?_
                  refine W_region ?_
                  have _f_95 := (_f_87.ch0 _cw_91)
                  refine WL_step rfl rfl (r_loadAtA0 _f_95.at_ agg28 sz28 rfl) ?_
                  refine WL_step rfl rfl (r_move rfl) ?_
                  refine WL_s rfl rfl ?_
                  have _f_96 := (_f_89.ch0 _cw_91)
                  refine Step.call (r_call (xs := [.tmp 64, .tmp 65]) fk20 rfl) (c_laws_markExpr _f_96 _ (by omega) (by first | omega | (simp <;> omega))) fun _v66 _w_97 _q66 => ?_
                  obtain ⟨rfl, _q66, _cw_97⟩ := _q66
                  have _cw_97z := _cw_97.size
                  have E := E.step _cw_97 (fun i hi => .inl (by have _h1 := _lo35 _ hi; omega))
                  refine WL_step rfl rfl (r_assign rfl) ?_
                  refine WL_nil ?_
                  refine thn_nrm (_hK_94 _ _ ?_)
                  clear _hK_94
                  refine W_seq fun _K_98 _hK_98 => ?_
                  refine W_region ?_
                  refine WL_step rfl rfl (r_assign rfl) ?_
                  refine WL_nil ?_
                  refine thn_nrm (_hK_98 _ _ ?_)
                  clear _hK_98
                  refine W_seq fun _K_99 _hK_99 => ?_
                  refine W_region ?_
                  have _f_100 := (_f_95.ch _cw_97 (fun hm => by have _h1 := _lo35 _ hm; have _h2 := _hiu35 _ hm; omega))
                  refine WL_step rfl rfl (r_loadAtA0 _f_100.at_ agg28 sz28 rfl) ?_
                  refine WL_step rfl rfl (r_move rfl) ?_
                  refine WL_s rfl rfl ?_
                  refine Step.call (r_call (xs := [.tmp 67, .tmp 68]) fk21 rfl) (c_laws_heldExpr _q66.ls _ (by omega) (by first | omega | (simp <;> omega))) fun _v69 _w_101 _q69 => ?_
                  obtain ⟨rfl, _cw_101⟩ := _q69
                  have _cw_101z := _cw_101.size
                  have E := E.trans _cw_101
                  refine WL_step rfl rfl (r_assign rfl) ?_
                  refine WL_nil ?_
                  refine thn_nrm (_hK_99 _ _ ?_)
                  clear _hK_99
                  refine W_seq fun _K_102 _hK_102 => ?_
                  refine W_seq fun _K_103 _hK_103 => ?_
                  refine W_region ?_
                  refine WL_step rfl rfl (r_move rfl) ?_
                  refine WL_step rfl rfl (r_lss rfl rfl) ?_
                  refine WL_nil ?_
                  refine thn_nrm (_hK_103 _ _ ?_)
                  clear _hK_103
                  refine W_cond rfl (fun _h71 => ?_) (fun _h71 => ?_)
                  · have _h71 := bt_d _h71
                    refine W_seq fun _K_104 _hK_104 => ?_
                    refine W_region ?_
                    refine WL_step rfl rfl (r_assign rfl) ?_
                    refine WL_nil ?_
                    refine thn_nrm (_hK_104 _ _ ?_)
                    clear _hK_104
                    refine W_ret (thn_ret ?_)
                    clear _hK_102
                    exact ret_intro [_] ⟨rfl, trivial⟩ ⟨congrArg Value.bool (by first | rfl | (exfalso; omega) | (exfalso; revert _h71; simp; done) | (exfalso; revert _h71; simp; omega)), E⟩
                  · have _h71 := bf_d _h71
                    refine W_skip ?_
                    refine thn_nrm (_hK_102 _ _ ?_)
                    clear _hK_102
                    refine W_seq fun _K_105 _hK_105 => ?_
                    refine W_seq fun _K_106 _hK_106 => ?_
                    refine W_region ?_
                    refine WL_step rfl rfl (r_move rfl) ?_
                    refine WL_step rfl rfl (r_move rfl) ?_
                    refine WL_step rfl rfl (r_neq rfl rfl) ?_
                    refine WL_nil ?_
                    refine thn_nrm (_hK_106 _ _ ?_)
                    clear _hK_106
                    refine W_cond rfl (fun _h74 => ?_) (fun _h74 => ?_)
                    · have _h74 := bf_d (bt_n _h74)
                      refine W_seq fun _K_107 _hK_107 => ?_
                      refine W_region ?_
                      refine WL_step rfl rfl (r_assign rfl) ?_
                      refine WL_nil ?_
                      refine thn_nrm (_hK_107 _ _ ?_)
                      clear _hK_107
                      refine W_ret (thn_ret ?_)
                      clear _hK_105
                      exact ret_intro [_] ⟨rfl, trivial⟩ ⟨congrArg Value.bool (by first | rfl | (exfalso; omega) | (exfalso; revert _h74; simp; done) | (exfalso; revert _h74; simp; omega)), E⟩
                    · have _h74 := bt_d (bf_n _h74)
                      refine W_skip ?_
                      refine thn_nrm (_hK_105 _ _ ?_)
                      clear _hK_105
                      refine W_seq fun _K_108 _hK_108 => ?_
                      have _J_110 : ∀ (lj : KL) (_wj_109 : World) (jb13 : Nat) (ju13_0 : Value), Go.KLib.Sub [(4, (.bool false)), (6, (.pointer (some ⟨jb6, 0, none⟩))), (9, (.pointer (some ⟨_b9, 0, none⟩))), (11, (.int .i64 (1 + 4 * (uniE a b).length))), (12, (.int .i64 (if (mkToken 1 (uniE a b).length) = mkToken 1 (mkToken 1 (uniE a b).length).length then 1 + 4 * (mkToken 1 (uniE a b).length).length else -1))), (13, (.pointer (some ⟨jb13, 0, none⟩)))] lj → Ch [] _w_101 _wj_109 → Ol Token.cs 55 4 _wj_109 ju13_0 (uniE a b) → Lo _w_101.heap.size ju13_0 → Blk _wj_109 jb13 28 [ju13_0] → _w_101.heap.size ≤ jb13 → jb13 ∉ bl ju13_0 → _K_108 lj _wj_109 := by
                        intro lj _wj_109 jb13 ju13_0 _jsub _cjK_108 _qju13_0 _loju13_0 _mjb13 _ejb13 _nbjb13ju13_0
                        refine _hK_108 _ _ (W_sub _jsub ?_)
                        clear _hK_108
                        have _cjK_108z := _cjK_108.size
                        have E := E.trans _cjK_108
                        obtain ⟨_Aju13_0, _Cju13_0, _eju13_0⟩ := _qju13_0.val
                        subst _eju13_0
                        have _lju13_0 := _qju13_0.len
                        have _hiju13_0 := _qju13_0.lt
                        have _zjb13 := _mjb13.lt
                        refine W_seq fun _K_111 _hK_111 => ?_
                        refine W_seq fun _K_112 _hK_112 => ?_
                        refine W_region ?_
                        refine WL_step rfl rfl (r_loadAtA0 _mjb13.at_ agg28 sz28 rfl) ?_
                        have _f_113 := ((((_f_88.ch0 _cw_91).ch _cw_97 (fun hm => by have _h1 := _lo35 _ hm; have _h2 := _hiu35 _ hm; omega)).ch0 _cw_101).ch0 _cjK_108)
                        refine WL_step rfl rfl (r_loadAtA0 _f_113.at_ agg28 sz28 rfl) ?_
                        refine WL_s rfl rfl ?_
                        have _f_114 := ((((_f_90.ch0 _cw_91).ch _cw_97 (fun g hg hm => by have _h1 := _lo35 _ hm; have _h2 := _hiu35 _ hm; have _h3 := _loju6_0 _ hg; have _h4 := _hiju6_0 _ hg; omega)).ch0 _cw_101).ch0 _cjK_108)
                        refine Step.call (r_call (xs := [.tmp 80, .tmp 81]) fk19 rfl) (c_laws_eqExpr _qju13_0.ls _f_114.ls ) fun _v82 _w_115 _q82 => ?_
                        obtain ⟨rfl, _cw_115⟩ := _q82
                        have _cw_115z := _cw_115.size
                        have E := E.trans _cw_115
                        refine WL_step rfl rfl (r_not rfl) ?_
                        refine WL_nil ?_
                        refine thn_nrm (_hK_112 _ _ ?_)
                        clear _hK_112
                        refine W_cond rfl (fun _h83 => ?_) (fun _h83 => ?_)
                        · have _h83 := bf_d (bt_n _h83)
                          refine W_seq fun _K_116 _hK_116 => ?_
                          refine W_region ?_
                          refine WL_step rfl rfl (r_assign rfl) ?_
                          refine WL_nil ?_
                          refine thn_nrm (_hK_116 _ _ ?_)
                          clear _hK_116
                          refine W_ret (thn_ret ?_)
                          clear _hK_111
                          exact ret_intro [_] ⟨rfl, trivial⟩ ⟨congrArg Value.bool (by first | rfl | (exfalso; omega) | (exfalso; revert _h83; simp; done) | (exfalso; revert _h83; simp; omega)), E⟩
                        · have _h83 := bt_d (bf_n _h83)
                          refine W_skip ?_
                          refine thn_nrm (_hK_111 _ _ ?_)
                          clear _hK_111
                          refine W_seq fun _K_117 _hK_117 => ?_
                          refine W_region ?_
                          refine WL_step rfl rfl (r_assign rfl) ?_
                          refine WL_nil ?_
                          refine thn_nrm (_hK_117 _ _ ?_)
                          clear _hK_117
                          refine W_seq fun _K_118 _hK_118 => ?_
                          refine W_region ?_
                          have _f_119 := (((_f_100.ch0 _cw_101).ch0 _cjK_108).ch0 _cw_115)
                          refine WL_step rfl rfl (r_loadAtA0 _f_119.at_ agg28 sz28 rfl) ?_
                          refine WL_step rfl rfl (r_move rfl) ?_
                          refine WL_s rfl rfl ?_
                          have _f_120 := (((_q66.ch0 _cw_101).ch0 _cjK_108).ch0 _cw_115)
                          refine Step.call (r_call (xs := [.tmp 84, .tmp 85]) fk21 rfl) (c_laws_heldExpr _f_120.ls _ (by omega) (by first | omega | (simp <;> omega))) fun _v86 _w_121 _q86 => ?_
                          obtain ⟨rfl, _cw_121⟩ := _q86
                          have _cw_121z := _cw_121.size
                          have E := E.trans _cw_121
                          refine WL_step rfl rfl (r_assign rfl) ?_
                          refine WL_nil ?_
                          refine thn_nrm (_hK_118 _ _ ?_)
                          clear _hK_118
                          refine W_seq fun _K_122 _hK_122 => ?_
                          refine W_seq fun _K_123 _hK_123 => ?_
                          refine W_region ?_
                          refine WL_step rfl rfl (r_move rfl) ?_
                          refine WL_step rfl rfl (r_lss rfl rfl) ?_
                          refine WL_nil ?_
                          refine thn_nrm (_hK_123 _ _ ?_)
                          clear _hK_123
                          refine W_cond rfl (fun _h88 => ?_) (fun _h88 => ?_)
                          · have _h88 := bt_d _h88
                            refine W_seq fun _K_124 _hK_124 => ?_
                            refine W_region ?_
                            refine WL_step rfl rfl (r_assign rfl) ?_
                            refine WL_nil ?_
                            refine thn_nrm (_hK_124 _ _ ?_)
                            clear _hK_124
                            refine W_ret (thn_ret ?_)
                            clear _hK_122
                            exact ret_intro [_] ⟨rfl, trivial⟩ ⟨congrArg Value.bool (by first | rfl | (exfalso; omega) | (exfalso; revert _h88; simp; done) | (exfalso; revert _h88; simp; omega)), E⟩
                          · have _h88 := bf_d _h88
                            refine W_skip ?_
                            refine thn_nrm (_hK_122 _ _ ?_)
                            clear _hK_122
                            refine W_seq fun _K_125 _hK_125 => ?_
                            refine W_seq fun _K_126 _hK_126 => ?_
                            refine W_region ?_
                            refine WL_step rfl rfl (r_move rfl) ?_
                            refine WL_step rfl rfl (r_move rfl) ?_
                            refine WL_step rfl rfl (r_neq rfl rfl) ?_
                            refine WL_nil ?_
                            refine thn_nrm (_hK_126 _ _ ?_)
                            clear _hK_126
                            refine W_cond rfl (fun _h91 => ?_) (fun _h91 => ?_)
                            · have _h91 := bf_d (bt_n _h91)
                              refine W_seq fun _K_127 _hK_127 => ?_
                              refine W_region ?_
                              refine WL_step rfl rfl (r_assign rfl) ?_
                              refine WL_nil ?_
                              refine thn_nrm (_hK_127 _ _ ?_)
                              clear _hK_127
                              refine W_ret (thn_ret ?_)
                              clear _hK_125
                              exact ret_intro [_] ⟨rfl, trivial⟩ ⟨congrArg Value.bool (by first | rfl | (exfalso; omega) | (exfalso; revert _h91; simp; done) | (exfalso; revert _h91; simp; omega)), E⟩
                            · have _h91 := bt_d (bf_n _h91)
                              refine W_skip ?_
                              refine thn_nrm (_hK_125 _ _ ?_)
                              clear _hK_125
                              refine W_seq fun _K_128 _hK_128 => ?_
                              refine W_region ?_
                              refine WL_step rfl rfl (r_assign rfl) ?_
                              refine WL_nil ?_
                              refine thn_nrm (_hK_128 _ _ ?_)
                              clear _hK_128
                              refine W_ret ?_
                              exact ret_intro [_] ⟨rfl, trivial⟩ ⟨congrArg Value.bool (by first | rfl | (exfalso; omega) | (exfalso; revert _h91; simp; done) | (exfalso; revert _h91; simp; omega)), E⟩
                      clear _hK_108
                      refine W_drawC [] 7 mixed rfl fun _w_129 _cw_129 => ?_
                      have _cw_129z := _cw_129.size
                      have E := E.trans _cw_129
                      have _f_130 := (((((((((((_f_55.ch0 _cw_57).ch0 _cw_60).ch0 _cw_65).ch0 _cw_69).ch0 _cw_72).ch _cw_79 (fun hm => by have _h1 := _lo30 _ hm; have _h2 := _hiu30 _ hm; omega)).ch _cw_83 (fun hm => by have _h1 := _lo32 _ hm; have _h2 := _hiu32 _ hm; omega)).ch0 _cw_91).ch _cw_97 (fun hm => by have _h1 := _lo35 _ hm; have _h2 := _hiu35 _ hm; omega)).ch0 _cw_101).ch0 _cw_129)
                      refine DR_s 0 rfl (by kernel_rfl) rfl rfl (t_loadAtA0 _f_130.at_ (fun i hi => by first | exact absurd hi (List.not_mem_nil) | (have _h1 := List.mem_singleton.1 hi; omega)) agg24 sz24 rfl ?_)
                      have _f_131 := ((((((((_f_67.ch0 _cw_69).ch0 _cw_72).ch _cw_79 (fun hm => by have _h1 := _lo30 _ hm; have _h2 := _hiu30 _ hm; omega)).ch _cw_83 (fun hm => by have _h1 := _lo32 _ hm; have _h2 := _hiu32 _ hm; omega)).ch0 _cw_91).ch _cw_97 (fun hm => by have _h1 := _lo35 _ hm; have _h2 := _hiu35 _ hm; omega)).ch0 _cw_101).ch0 _cw_129)
                      refine DR_s 2 rfl (by kernel_rfl) rfl rfl (t_loadAtA0 _f_131.at_ (fun i hi => by first | exact absurd hi (List.not_mem_nil) | (have _h1 := List.mem_singleton.1 hi; omega)) agg24 sz24 rfl ?_)
                      refine DR_two 1 5 (by kernel_rfl) ?_ ?_
                      · refine DO_s rfl rfl rfl ?_
                        have _f_132 := (((((((((((_f_56.ch0 _cw_57).ch0 _cw_60).ch0 _cw_65).ch0 _cw_69).ch0 _cw_72).ch _cw_79 (fun i hi => by have _h1 := _lo30 _ hi; omega)).ch _cw_83 (fun i hi => by have _h1 := _lo32 _ hi; omega)).ch0 _cw_91).ch _cw_97 (fun i hi => by have _h1 := _lo35 _ hi; omega)).ch0 _cw_101).ch0 _cw_129)
                        refine Step.call (r_call (xs := [.tmp 75]) fk17 rfl) (c_laws_toExpr _f_132 (by omega)) fun _v76 _w_133 _q76 => ?_
                        obtain ⟨_u76, rfl, _q76, _lo76, _cw_133⟩ := _q76
                        have _cw_133z := _cw_133.size
                        have E := E.trans _cw_133
                        obtain ⟨_Au76, _Cu76, _eu76⟩ := _q76.val
                        subst _eu76
                        have _lu76 := _q76.len
                        have _hiu76 := _q76.lt
                        have _S_134 : Ch [] _w_129 _w_133 := ((Ch.refl _ _).trans _cw_133.of_nil)
                        refine ⟨_S_134, ?_⟩
                        refine DR_two 3 5 (by kernel_rfl) ?_ ?_
                        · refine DO_s rfl rfl rfl ?_
                          have _f_135 := (((((((((_f_68.ch0 _cw_69).ch0 _cw_72).ch _cw_79 (fun i hi => by have _h1 := _lo30 _ hi; omega)).ch _cw_83 (fun i hi => by have _h1 := _lo32 _ hi; omega)).ch0 _cw_91).ch _cw_97 (fun i hi => by have _h1 := _lo35 _ hi; omega)).ch0 _cw_101).ch0 _cw_129).ch0 _cw_133)
                          refine Step.call (r_call (xs := [.tmp 77]) fk17 rfl) (c_laws_toExpr _f_135 (by omega)) fun _v78 _w_136 _q78 => ?_
                          obtain ⟨_u78, rfl, _q78, _lo78, _cw_136⟩ := _q78
                          have _cw_136z := _cw_136.size
                          have E := E.trans _cw_136
                          obtain ⟨_Au78, _Cu78, _eu78⟩ := _q78.val
                          subst _eu78
                          have _lu78 := _q78.len
                          have _hiu78 := _q78.lt
                          have _S_137 : Ch [] _w_129 _w_136 := (_S_134.trans _cw_136.of_nil)
                          refine ⟨_S_137, ?_⟩
                          refine DR_two 4 5 (by kernel_rfl) ?_ ?_
                          · refine DO_s rfl rfl rfl ?_
                            have _f_138 := (_q76.ch0 _cw_136)
                            refine Step.call (r_call (xs := [.tmp 76, .tmp 78]) fk31 rfl) (c_impl_UnionExpr _f_138.ls _q78.ls (by omega)) fun _v79 _w_139 _q79 => ?_
                            obtain ⟨_u79, rfl, _q79, _lo79, _cw_139⟩ := _q79
                            have _cw_139z := _cw_139.size
                            have E := E.trans _cw_139
                            obtain ⟨_Au79, _Cu79, _eu79⟩ := _q79.val
                            subst _eu79
                            have _lu79 := _q79.len
                            have _hiu79 := _q79.lt
                            have _S_140 : Ch [] _w_129 _w_139 := (_S_137.trans _cw_139.of_nil)
                            refine ⟨_S_140, ?_⟩
                            refine DR_one 5 (by kernel_rfl) ?_
                            refine DO_s rfl rfl rfl ?_
                            refine s_alloc zr28 fun _b13 _w_141 _m13 _cw_141 _e13 => ?_
                            have _cw_141z := _cw_141.size
                            have E := E.trans _cw_141
                            have _z13 := _m13.lt
                            replace _m13 : Blk _w_141 _b13 28 [(.slice none 0 0)] := _m13
                            have _S_142 : Ch [] _w_129 _w_141 := (_S_140.trans _cw_141.of_nil)
                            refine ⟨_S_142, ?_⟩
                            refine DR_one 6 (by kernel_rfl) ?_
                            refine DO_s rfl rfl rfl ?_
                            refine s_storeA (off := 0) 1 _m13 sz28 rfl (us := [(.slice _Au79 (uniE a b).length _Cu79)]) rfl rfl rfl rfl fun _w_143 _m_144 _cw_143 => ?_
                            have _cw_143z := _cw_143.size
                            have E := E.step _cw_143 (fun i hi => .inl (by have _h1 := List.mem_singleton.1 hi; omega))
                            replace _m_144 : Blk _w_143 _b13 28 [(.slice _Au79 (uniE a b).length _Cu79)] := _m_144
                            have _S_145 : Ch [] _w_129 _w_143 := (_S_142.step _cw_143 (fun i hi => .inl (by have _h1 := List.mem_singleton.1 hi; omega)))
                            refine ⟨_S_145, ?_⟩
                            refine DR_done (by kernel_rfl) ?_
                            refine thn_nrm ?_
                            have _f_146 := ((_q79.ch0 _cw_141).ch _cw_143 (fun g hg hm => by have _h0 := List.mem_singleton.1 hm; have _h2 := _lo79 _ hg; have _h3 := _hiu79 _ hg; omega))
                            exact _J_110 _ _ _b13 (.slice _Au79 (uniE a b).length _Cu79) (Sub.cons rfl (Sub.cons rfl (Sub.cons rfl (Sub.cons rfl (Sub.cons rfl (Sub.cons rfl (Sub.nil _))))))) (((((((Ch.refl [] _w_101).trans _cw_129).trans _cw_133).trans _cw_136).trans _cw_139).trans _cw_141).step _cw_143 (fun i hi => .inl (by have _h1 := List.mem_singleton.1 hi; omega))) _f_146 (Lo.down _lo79 (by omega)) _m_144 (by omega) (fun hm => by have _h1 := _lo79 _ hm; have _h2 := _hiu79 _ hm; omega)
                          · refine DO_s rfl rfl rfl ?_
                            refine s_alloc zr28 fun _b13 _w_147 _m13 _cw_147 _e13 => ?_
                            have _cw_147z := _cw_147.size
                            have E := E.trans _cw_147
                            have _z13 := _m13.lt
                            replace _m13 : Blk _w_147 _b13 28 [(.slice none 0 0)] := _m13
                            have _S_148 : Ch [] _w_129 _w_147 := (_S_137.trans _cw_147.of_nil)
                            refine ⟨_S_148, ?_⟩
                            refine DR_one 4 (by kernel_rfl) ?_
                            refine DO_s rfl rfl rfl ?_
                            have _f_149 := ((_q76.ch0 _cw_136).ch0 _cw_147)
                            have _f_150 := (_q78.ch0 _cw_147)
                            refine Step.call (r_call (xs := [.tmp 76, .tmp 78]) fk31 rfl) (c_impl_UnionExpr _f_149.ls _f_150.ls (by omega)) fun _v79 _w_151 _q79 => ?_
                            obtain ⟨_u79, rfl, _q79, _lo79, _cw_151⟩ := _q79
                            have _cw_151z := _cw_151.size
                            have E := E.trans _cw_151
                            obtain ⟨_Au79, _Cu79, _eu79⟩ := _q79.val
                            subst _eu79
                            have _lu79 := _q79.len
                            have _hiu79 := _q79.lt
                            have _S_152 : Ch [] _w_129 _w_151 := (_S_148.trans _cw_151.of_nil)
                            refine ⟨_S_152, ?_⟩
                            refine DR_one 6 (by kernel_rfl) ?_
                            refine DO_s rfl rfl rfl ?_
                            have _f_153 := (_m13.ch0 _cw_151)
                            refine s_storeA (off := 0) 1 _f_153 sz28 rfl (us := [(.slice _Au79 (uniE a b).length _Cu79)]) rfl rfl rfl rfl fun _w_154 _m_155 _cw_154 => ?_
                            have _cw_154z := _cw_154.size
                            have E := E.step _cw_154 (fun i hi => .inl (by have _h1 := List.mem_singleton.1 hi; omega))
                            replace _m_155 : Blk _w_154 _b13 28 [(.slice _Au79 (uniE a b).length _Cu79)] := _m_155
                            have _S_156 : Ch [] _w_129 _w_154 := (_S_152.step _cw_154 (fun i hi => .inl (by have _h1 := List.mem_singleton.1 hi; omega)))
                            refine ⟨_S_156, ?_⟩
                            refine DR_done (by kernel_rfl) ?_
                            refine thn_nrm ?_
                            have _f_157 := (_q79.ch _cw_154 (fun g hg hm => by have _h0 := List.mem_singleton.1 hm; have _h2 := _lo79 _ hg; have _h3 := _hiu79 _ hg; omega))
                            exact _J_110 _ _ _b13 (.slice _Au79 (uniE a b).length _Cu79) (Sub.cons rfl (Sub.cons rfl (Sub.cons rfl (Sub.cons rfl (Sub.cons rfl (Sub.cons rfl (Sub.nil _))))))) (((((((Ch.refl [] _w_101).trans _cw_129).trans _cw_133).trans _cw_136).trans _cw_147).trans _cw_151).step _cw_154 (fun i hi => .inl (by have _h1 := List.mem_singleton.1 hi; omega))) _f_157 (Lo.down _lo79 (by omega)) _m_155 (by omega) (fun hm => by have _h1 := _lo79 _ hm; have _h2 := _hiu79 _ hm; omega)
                        · refine DO_s rfl rfl rfl ?_
                          refine s_alloc zr28 fun _b13 _w_158 _m13 _cw_158 _e13 => ?_
                          have _cw_158z := _cw_158.size
                          have E := E.trans _cw_158
                          have _z13 := _m13.lt
                          replace _m13 : Blk _w_158 _b13 28 [(.slice none 0 0)] := _m13
                          have _S_159 : Ch [] _w_129 _w_158 := (_S_134.trans _cw_158.of_nil)
                          refine ⟨_S_159, ?_⟩
                          refine DR_one 3 (by kernel_rfl) ?_
                          refine DO_s rfl rfl rfl ?_
                          have _f_160 := ((((((((((_f_68.ch0 _cw_69).ch0 _cw_72).ch _cw_79 (fun i hi => by have _h1 := _lo30 _ hi; omega)).ch _cw_83 (fun i hi => by have _h1 := _lo32 _ hi; omega)).ch0 _cw_91).ch _cw_97 (fun i hi => by have _h1 := _lo35 _ hi; omega)).ch0 _cw_101).ch0 _cw_129).ch0 _cw_133).ch0 _cw_158)
                          refine Step.call (r_call (xs := [.tmp 77]) fk17 rfl) (c_laws_toExpr _f_160 (by omega)) fun _v78 _w_161 _q78 => ?_
                          obtain ⟨_u78, rfl, _q78, _lo78, _cw_161⟩ := _q78
                          have _cw_161z := _cw_161.size
                          have E := E.trans _cw_161
                          obtain ⟨_Au78, _Cu78, _eu78⟩ := _q78.val
                          subst _eu78
                          have _lu78 := _q78.len
                          have _hiu78 := _q78.lt
                          have _S_162 : Ch [] _w_129 _w_161 := (_S_159.trans _cw_161.of_nil)
                          refine ⟨_S_162, ?_⟩
                          refine DR_one 4 (by kernel_rfl) ?_
                          refine DO_s rfl rfl rfl ?_
                          have _f_163 := ((_q76.ch0 _cw_158).ch0 _cw_161)
                          refine Step.call (r_call (xs := [.tmp 76, .tmp 78]) fk31 rfl) (c_impl_UnionExpr _f_163.ls _q78.ls (by omega)) fun _v79 _w_164 _q79 => ?_
                          obtain ⟨_u79, rfl, _q79, _lo79, _cw_164⟩ := _q79
                          have _cw_164z := _cw_164.size
                          have E := E.trans _cw_164
                          obtain ⟨_Au79, _Cu79, _eu79⟩ := _q79.val
                          subst _eu79
                          have _lu79 := _q79.len
                          have _hiu79 := _q79.lt
                          have _S_165 : Ch [] _w_129 _w_164 := (_S_162.trans _cw_164.of_nil)
                          refine ⟨_S_165, ?_⟩
                          refine DR_one 6 (by kernel_rfl) ?_
                          refine DO_s rfl rfl rfl ?_
                          have _f_166 := ((_m13.ch0 _cw_161).ch0 _cw_164)
                          refine s_storeA (off := 0) 1 _f_166 sz28 rfl (us := [(.slice _Au79 (uniE a b).length _Cu79)]) rfl rfl rfl rfl fun _w_167 _m_168 _cw_167 => ?_
                          have _cw_167z := _cw_167.size
                          have E := E.step _cw_167 (fun i hi => .inl (by have _h1 := List.mem_singleton.1 hi; omega))
                          replace _m_168 : Blk _w_167 _b13 28 [(.slice _Au79 (uniE a b).length _Cu79)] := _m_168
                          have _S_169 : Ch [] _w_129 _w_167 := (_S_165.step _cw_167 (fun i hi => .inl (by have _h1 := List.mem_singleton.1 hi; omega)))
                          refine ⟨_S_169, ?_⟩
                          refine DR_done (by kernel_rfl) ?_
                          refine thn_nrm ?_
                          have _f_170 := (_q79.ch _cw_167 (fun g hg hm => by have _h0 := List.mem_singleton.1 hm; have _h2 := _lo79 _ hg; have _h3 := _hiu79 _ hg; omega))
                          exact _J_110 _ _ _b13 (.slice _Au79 (uniE a b).length _Cu79) (Sub.cons rfl (Sub.cons rfl (Sub.cons rfl (Sub.cons rfl (Sub.cons rfl (Sub.cons rfl (Sub.nil _))))))) (((((((Ch.refl [] _w_101).trans _cw_129).trans _cw_133).trans _cw_158).trans _cw_161).trans _cw_164).step _cw_167 (fun i hi => .inl (by have _h1 := List.mem_singleton.1 hi; omega))) _f_170 (Lo.down _lo79 (by omega)) _m_168 (by omega) (fun hm => by have _h1 := _lo79 _ hm; have _h2 := _hiu79 _ hm; omega)
                      · refine DO_s rfl rfl rfl ?_
                        refine s_alloc zr28 fun _b13 _w_171 _m13 _cw_171 _e13 => ?_
                        have _cw_171z := _cw_171.size
                        have E := E.trans _cw_171
                        have _z13 := _m13.lt
                        replace _m13 : Blk _w_171 _b13 28 [(.slice none 0 0)] := _m13
                        have _S_172 : Ch [] _w_129 _w_171 := ((Ch.refl _ _).trans _cw_171.of_nil)
                        refine ⟨_S_172, ?_⟩
                        refine DR_one 1 (by kernel_rfl) ?_
                        refine DO_s rfl rfl rfl ?_
                        have _f_173 := ((((((((((((_f_56.ch0 _cw_57).ch0 _cw_60).ch0 _cw_65).ch0 _cw_69).ch0 _cw_72).ch _cw_79 (fun i hi => by have _h1 := _lo30 _ hi; omega)).ch _cw_83 (fun i hi => by have _h1 := _lo32 _ hi; omega)).ch0 _cw_91).ch _cw_97 (fun i hi => by have _h1 := _lo35 _ hi; omega)).ch0 _cw_101).ch0 _cw_129).ch0 _cw_171)
                        refine Step.call (r_call (xs := [.tmp 75]) fk17 rfl) (c_laws_toExpr _f_173 (by omega)) fun _v76 _w_174 _q76 => ?_
                        obtain ⟨_u76, rfl, _q76, _lo76, _cw_174⟩ := _q76
                        have _cw_174z := _cw_174.size
                        have E := E.trans _cw_174
                        obtain ⟨_Au76, _Cu76, _eu76⟩ := _q76.val
                        subst _eu76
                        have _lu76 := _q76.len
                        have _hiu76 := _q76.lt
                        have _S_175 : Ch [] _w_129 _w_174 := (_S_172.trans _cw_174.of_nil)
                        refine ⟨_S_175, ?_⟩
                        refine DR_one 3 (by kernel_rfl) ?_
                        refine DO_s rfl rfl rfl ?_
                        have _f_176 := ((((((((((_f_68.ch0 _cw_69).ch0 _cw_72).ch _cw_79 (fun i hi => by have _h1 := _lo30 _ hi; omega)).ch _cw_83 (fun i hi => by have _h1 := _lo32 _ hi; omega)).ch0 _cw_91).ch _cw_97 (fun i hi => by have _h1 := _lo35 _ hi; omega)).ch0 _cw_101).ch0 _cw_129).ch0 _cw_171).ch0 _cw_174)
                        refine Step.call (r_call (xs := [.tmp 77]) fk17 rfl) (c_laws_toExpr _f_176 (by omega)) fun _v78 _w_177 _q78 => ?_
                        obtain ⟨_u78, rfl, _q78, _lo78, _cw_177⟩ := _q78
                        have _cw_177z := _cw_177.size
                        have E := E.trans _cw_177
                        obtain ⟨_Au78, _Cu78, _eu78⟩ := _q78.val
                        subst _eu78
                        have _lu78 := _q78.len
                        have _hiu78 := _q78.lt
                        have _S_178 : Ch [] _w_129 _w_177 := (_S_175.trans _cw_177.of_nil)
                        refine ⟨_S_178, ?_⟩
                        refine DR_one 4 (by kernel_rfl) ?_
                        refine DO_s rfl rfl rfl ?_
                        have _f_179 := (_q76.ch0 _cw_177)
                        refine Step.call (r_call (xs := [.tmp 76, .tmp 78]) fk31 rfl) (c_impl_UnionExpr _f_179.ls _q78.ls (by omega)) fun _v79 _w_180 _q79 => ?_
                        obtain ⟨_u79, rfl, _q79, _lo79, _cw_180⟩ := _q79
                        have _cw_180z := _cw_180.size
                        have E := E.trans _cw_180
                        obtain ⟨_Au79, _Cu79, _eu79⟩ := _q79.val
                        subst _eu79
                        have _lu79 := _q79.len
                        have _hiu79 := _q79.lt
                        have _S_181 : Ch [] _w_129 _w_180 := (_S_178.trans _cw_180.of_nil)
                        refine ⟨_S_181, ?_⟩
                        refine DR_one 6 (by kernel_rfl) ?_
                        refine DO_s rfl rfl rfl ?_
                        have _f_182 := (((_m13.ch0 _cw_174).ch0 _cw_177).ch0 _cw_180)
                        refine s_storeA (off := 0) 1 _f_182 sz28 rfl (us := [(.slice _Au79 (uniE a b).length _Cu79)]) rfl rfl rfl rfl fun _w_183 _m_184 _cw_183 => ?_
                        have _cw_183z := _cw_183.size
                        have E := E.step _cw_183 (fun i hi => .inl (by have _h1 := List.mem_singleton.1 hi; omega))
                        replace _m_184 : Blk _w_183 _b13 28 [(.slice _Au79 (uniE a b).length _Cu79)] := _m_184
                        have _S_185 : Ch [] _w_129 _w_183 := (_S_181.step _cw_183 (fun i hi => .inl (by have _h1 := List.mem_singleton.1 hi; omega)))
                        refine ⟨_S_185, ?_⟩
                        refine DR_done (by kernel_rfl) ?_
                        refine thn_nrm ?_
                        have _f_186 := (_q79.ch _cw_183 (fun g hg hm => by have _h0 := List.mem_singleton.1 hm; have _h2 := _lo79 _ hg; have _h3 := _hiu79 _ hg; omega))
                        exact _J_110 _ _ _b13 (.slice _Au79 (uniE a b).length _Cu79) (Sub.cons rfl (Sub.cons rfl (Sub.cons rfl (Sub.cons rfl (Sub.cons rfl (Sub.cons rfl (Sub.nil _))))))) (((((((Ch.refl [] _w_101).trans _cw_129).trans _cw_171).trans _cw_174).trans _cw_177).trans _cw_180).step _cw_183 (fun i hi => .inl (by have _h1 := List.mem_singleton.1 hi; omega))) _f_186 (Lo.down _lo79 (by omega)) _m_184 (by omega) (fun hm => by have _h1 := _lo79 _ hm; have _h2 := _hiu79 _ hm; omega)
      clear _hK_19
      refine W_drawC [] 7 mixed rfl fun _w_187 _cw_187 => ?_
      have _cw_187z := _cw_187.size
      have E := E.trans _cw_187
      have _f_188 := (((_f_6.ch0 _cw_8).ch0 _cw_15).ch0 _cw_187)
      refine DR_s 0 rfl (by kernel_rfl) rfl rfl (t_loadAtA0 _f_188.at_ (fun i hi => by first | exact absurd hi (List.not_mem_nil) | (have _h1 := List.mem_singleton.1 hi; omega)) agg24 sz24 rfl ?_)
      have _f_189 := ((_f_13.ch0 _cw_15).ch0 _cw_187)
      refine DR_s 2 rfl (by kernel_rfl) rfl rfl (t_loadAtA0 _f_189.at_ (fun i hi => by first | exact absurd hi (List.not_mem_nil) | (have _h1 := List.mem_singleton.1 hi; omega)) agg24 sz24 rfl ?_)
      refine DR_two 1 5 (by kernel_rfl) ?_ ?_
      · refine DO_s rfl rfl rfl ?_
        have _f_190 := (((_f_7.ch0 _cw_8).ch0 _cw_15).ch0 _cw_187)
        refine Step.call (r_call (xs := [.tmp 24]) fk17 rfl) (c_laws_toExpr _f_190 (by omega)) fun _v25 _w_191 _q25 => ?_
        obtain ⟨_u25, rfl, _q25, _lo25, _cw_191⟩ := _q25
        have _cw_191z := _cw_191.size
        have E := E.trans _cw_191
        obtain ⟨_Au25, _Cu25, _eu25⟩ := _q25.val
        subst _eu25
        have _lu25 := _q25.len
        have _hiu25 := _q25.lt
        have _S_192 : Ch [] _w_187 _w_191 := ((Ch.refl _ _).trans _cw_191.of_nil)
        refine ⟨_S_192, ?_⟩
        refine DR_two 3 5 (by kernel_rfl) ?_ ?_
        · refine DO_s rfl rfl rfl ?_
          have _f_193 := (((_f_14.ch0 _cw_15).ch0 _cw_187).ch0 _cw_191)
          refine Step.call (r_call (xs := [.tmp 26]) fk17 rfl) (c_laws_toExpr _f_193 (by omega)) fun _v27 _w_194 _q27 => ?_
          obtain ⟨_u27, rfl, _q27, _lo27, _cw_194⟩ := _q27
          have _cw_194z := _cw_194.size
          have E := E.trans _cw_194
          obtain ⟨_Au27, _Cu27, _eu27⟩ := _q27.val
          subst _eu27
          have _lu27 := _q27.len
          have _hiu27 := _q27.lt
          have _S_195 : Ch [] _w_187 _w_194 := (_S_192.trans _cw_194.of_nil)
          refine ⟨_S_195, ?_⟩
          refine DR_two 4 5 (by kernel_rfl) ?_ ?_
          · refine DO_s rfl rfl rfl ?_
            have _f_196 := (_q25.ch0 _cw_194)
            refine Step.call (r_call (xs := [.tmp 25, .tmp 27]) fk30 rfl) (c_spec_UnionExpr _f_196.ls _q27.ls (by omega)) fun _v28 _w_197 _q28 => ?_
            obtain ⟨_u28, rfl, _q28, _lo28, _cw_197⟩ := _q28
            have _cw_197z := _cw_197.size
            have E := E.trans _cw_197
            obtain ⟨_Au28, _Cu28, _eu28⟩ := _q28.val
            subst _eu28
            have _lu28 := _q28.len
            have _hiu28 := _q28.lt
            have _S_198 : Ch [] _w_187 _w_197 := (_S_195.trans _cw_197.of_nil)
            refine ⟨_S_198, ?_⟩
            refine DR_one 5 (by kernel_rfl) ?_
            refine DO_s rfl rfl rfl ?_
            refine s_alloc zr28 fun _b6 _w_199 _m6 _cw_199 _e6 => ?_
            have _cw_199z := _cw_199.size
            have E := E.trans _cw_199
            have _z6 := _m6.lt
            replace _m6 : Blk _w_199 _b6 28 [(.slice none 0 0)] := _m6
            have _S_200 : Ch [] _w_187 _w_199 := (_S_198.trans _cw_199.of_nil)
            refine ⟨_S_200, ?_⟩
            refine DR_one 6 (by kernel_rfl) ?_
            refine DO_s rfl rfl rfl ?_
            refine s_storeA (off := 0) 1 _m6 sz28 rfl (us := [(.slice _Au28 (uniE a b).length _Cu28)]) rfl rfl rfl rfl fun _w_201 _m_202 _cw_201 => ?_
            have _cw_201z := _cw_201.size
            have E := E.step _cw_201 (fun i hi => .inl (by have _h1 := List.mem_singleton.1 hi; omega))
            replace _m_202 : Blk _w_201 _b6 28 [(.slice _Au28 (uniE a b).length _Cu28)] := _m_202
            have _S_203 : Ch [] _w_187 _w_201 := (_S_200.step _cw_201 (fun i hi => .inl (by have _h1 := List.mem_singleton.1 hi; omega)))
            refine ⟨_S_203, ?_⟩
            refine DR_done (by kernel_rfl) ?_
            refine thn_nrm ?_
            have _f_204 := ((_q28.ch0 _cw_199).ch _cw_201 (fun g hg hm => by have _h0 := List.mem_singleton.1 hm; have _h2 := _lo28 _ hg; have _h3 := _hiu28 _ hg; omega))
            exact _J_21 _ _ _b6 (.slice _Au28 (uniE a b).length _Cu28) (Sub.cons rfl (Sub.cons rfl (Sub.cons rfl (Sub.cons rfl (Sub.nil _))))) (((((((Ch.refl [] _w_15).trans _cw_187).trans _cw_191).trans _cw_194).trans _cw_197).trans _cw_199).step _cw_201 (fun i hi => .inl (by have _h1 := List.mem_singleton.1 hi; omega))) _f_204 (Lo.down _lo28 (by omega)) _m_202 (by omega) (fun hm => by have _h1 := _lo28 _ hm; have _h2 := _hiu28 _ hm; omega)
          · refine DO_s rfl rfl rfl ?_
            refine s_alloc zr28 fun _b6 _w_205 _m6 _cw_205 _e6 => ?_
            have _cw_205z := _cw_205.size
            have E := E.trans _cw_205
            have _z6 := _m6.lt
            replace _m6 : Blk _w_205 _b6 28 [(.slice none 0 0)] := _m6
            have _S_206 : Ch [] _w_187 _w_205 := (_S_195.trans _cw_205.of_nil)
            refine ⟨_S_206, ?_⟩
            refine DR_one 4 (by kernel_rfl) ?_
            refine DO_s rfl rfl rfl ?_
            have _f_207 := ((_q25.ch0 _cw_194).ch0 _cw_205)
            have _f_208 := (_q27.ch0 _cw_205)
            refine Step.call (r_call (xs := [.tmp 25, .tmp 27]) fk30 rfl) (c_spec_UnionExpr _f_207.ls _f_208.ls (by omega)) fun _v28 _w_209 _q28 => ?_
            obtain ⟨_u28, rfl, _q28, _lo28, _cw_209⟩ := _q28
            have _cw_209z := _cw_209.size
            have E := E.trans _cw_209
            obtain ⟨_Au28, _Cu28, _eu28⟩ := _q28.val
            subst _eu28
            have _lu28 := _q28.len
            have _hiu28 := _q28.lt
            have _S_210 : Ch [] _w_187 _w_209 := (_S_206.trans _cw_209.of_nil)
            refine ⟨_S_210, ?_⟩
            refine DR_one 6 (by kernel_rfl) ?_
            refine DO_s rfl rfl rfl ?_
            have _f_211 := (_m6.ch0 _cw_209)
            refine s_storeA (off := 0) 1 _f_211 sz28 rfl (us := [(.slice _Au28 (uniE a b).length _Cu28)]) rfl rfl rfl rfl fun _w_212 _m_213 _cw_212 => ?_
            have _cw_212z := _cw_212.size
            have E := E.step _cw_212 (fun i hi => .inl (by have _h1 := List.mem_singleton.1 hi; omega))
            replace _m_213 : Blk _w_212 _b6 28 [(.slice _Au28 (uniE a b).length _Cu28)] := _m_213
            have _S_214 : Ch [] _w_187 _w_212 := (_S_210.step _cw_212 (fun i hi => .inl (by have _h1 := List.mem_singleton.1 hi; omega)))
            refine ⟨_S_214, ?_⟩
            refine DR_done (by kernel_rfl) ?_
            refine thn_nrm ?_
            have _f_215 := (_q28.ch _cw_212 (fun g hg hm => by have _h0 := List.mem_singleton.1 hm; have _h2 := _lo28 _ hg; have _h3 := _hiu28 _ hg; omega))
            exact _J_21 _ _ _b6 (.slice _Au28 (uniE a b).length _Cu28) (Sub.cons rfl (Sub.cons rfl (Sub.cons rfl (Sub.cons rfl (Sub.nil _))))) (((((((Ch.refl [] _w_15).trans _cw_187).trans _cw_191).trans _cw_194).trans _cw_205).trans _cw_209).step _cw_212 (fun i hi => .inl (by have _h1 := List.mem_singleton.1 hi; omega))) _f_215 (Lo.down _lo28 (by omega)) _m_213 (by omega) (fun hm => by have _h1 := _lo28 _ hm; have _h2 := _hiu28 _ hm; omega)
        · refine DO_s rfl rfl rfl ?_
          refine s_alloc zr28 fun _b6 _w_216 _m6 _cw_216 _e6 => ?_
          have _cw_216z := _cw_216.size
          have E := E.trans _cw_216
          have _z6 := _m6.lt
          replace _m6 : Blk _w_216 _b6 28 [(.slice none 0 0)] := _m6
          have _S_217 : Ch [] _w_187 _w_216 := (_S_192.trans _cw_216.of_nil)
          refine ⟨_S_217, ?_⟩
          refine DR_one 3 (by kernel_rfl) ?_
          refine DO_s rfl rfl rfl ?_
          have _f_218 := ((((_f_14.ch0 _cw_15).ch0 _cw_187).ch0 _cw_191).ch0 _cw_216)
          refine Step.call (r_call (xs := [.tmp 26]) fk17 rfl) (c_laws_toExpr _f_218 (by omega)) fun _v27 _w_219 _q27 => ?_
          obtain ⟨_u27, rfl, _q27, _lo27, _cw_219⟩ := _q27
          have _cw_219z := _cw_219.size
          have E := E.trans _cw_219
          obtain ⟨_Au27, _Cu27, _eu27⟩ := _q27.val
          subst _eu27
          have _lu27 := _q27.len
          have _hiu27 := _q27.lt
          have _S_220 : Ch [] _w_187 _w_219 := (_S_217.trans _cw_219.of_nil)
          refine ⟨_S_220, ?_⟩
          refine DR_one 4 (by kernel_rfl) ?_
          refine DO_s rfl rfl rfl ?_
          have _f_221 := ((_q25.ch0 _cw_216).ch0 _cw_219)
          refine Step.call (r_call (xs := [.tmp 25, .tmp 27]) fk30 rfl) (c_spec_UnionExpr _f_221.ls _q27.ls (by omega)) fun _v28 _w_222 _q28 => ?_
          obtain ⟨_u28, rfl, _q28, _lo28, _cw_222⟩ := _q28
          have _cw_222z := _cw_222.size
          have E := E.trans _cw_222
          obtain ⟨_Au28, _Cu28, _eu28⟩ := _q28.val
          subst _eu28
          have _lu28 := _q28.len
          have _hiu28 := _q28.lt
          have _S_223 : Ch [] _w_187 _w_222 := (_S_220.trans _cw_222.of_nil)
          refine ⟨_S_223, ?_⟩
          refine DR_one 6 (by kernel_rfl) ?_
          refine DO_s rfl rfl rfl ?_
          have _f_224 := ((_m6.ch0 _cw_219).ch0 _cw_222)
          refine s_storeA (off := 0) 1 _f_224 sz28 rfl (us := [(.slice _Au28 (uniE a b).length _Cu28)]) rfl rfl rfl rfl fun _w_225 _m_226 _cw_225 => ?_
          have _cw_225z := _cw_225.size
          have E := E.step _cw_225 (fun i hi => .inl (by have _h1 := List.mem_singleton.1 hi; omega))
          replace _m_226 : Blk _w_225 _b6 28 [(.slice _Au28 (uniE a b).length _Cu28)] := _m_226
          have _S_227 : Ch [] _w_187 _w_225 := (_S_223.step _cw_225 (fun i hi => .inl (by have _h1 := List.mem_singleton.1 hi; omega)))
          refine ⟨_S_227, ?_⟩
          refine DR_done (by kernel_rfl) ?_
          refine thn_nrm ?_
          have _f_228 := (_q28.ch _cw_225 (fun g hg hm => by have _h0 := List.mem_singleton.1 hm; have _h2 := _lo28 _ hg; have _h3 := _hiu28 _ hg; omega))
          exact _J_21 _ _ _b6 (.slice _Au28 (uniE a b).length _Cu28) (Sub.cons rfl (Sub.cons rfl (Sub.cons rfl (Sub.cons rfl (Sub.nil _))))) (((((((Ch.refl [] _w_15).trans _cw_187).trans _cw_191).trans _cw_216).trans _cw_219).trans _cw_222).step _cw_225 (fun i hi => .inl (by have _h1 := List.mem_singleton.1 hi; omega))) _f_228 (Lo.down _lo28 (by omega)) _m_226 (by omega) (fun hm => by have _h1 := _lo28 _ hm; have _h2 := _hiu28 _ hm; omega)
      · refine DO_s rfl rfl rfl ?_
        refine s_alloc zr28 fun _b6 _w_229 _m6 _cw_229 _e6 => ?_
        have _cw_229z := _cw_229.size
        have E := E.trans _cw_229
        have _z6 := _m6.lt
        replace _m6 : Blk _w_229 _b6 28 [(.slice none 0 0)] := _m6
        have _S_230 : Ch [] _w_187 _w_229 := ((Ch.refl _ _).trans _cw_229.of_nil)
        refine ⟨_S_230, ?_⟩
        refine DR_one 1 (by kernel_rfl) ?_
        refine DO_s rfl rfl rfl ?_
        have _f_231 := ((((_f_7.ch0 _cw_8).ch0 _cw_15).ch0 _cw_187).ch0 _cw_229)
        refine Step.call (r_call (xs := [.tmp 24]) fk17 rfl) (c_laws_toExpr _f_231 (by omega)) fun _v25 _w_232 _q25 => ?_
        obtain ⟨_u25, rfl, _q25, _lo25, _cw_232⟩ := _q25
        have _cw_232z := _cw_232.size
        have E := E.trans _cw_232
        obtain ⟨_Au25, _Cu25, _eu25⟩ := _q25.val
        subst _eu25
        have _lu25 := _q25.len
        have _hiu25 := _q25.lt
        have _S_233 : Ch [] _w_187 _w_232 := (_S_230.trans _cw_232.of_nil)
        refine ⟨_S_233, ?_⟩
        refine DR_one 3 (by kernel_rfl) ?_
        refine DO_s rfl rfl rfl ?_
        have _f_234 := ((((_f_14.ch0 _cw_15).ch0 _cw_187).ch0 _cw_229).ch0 _cw_232)
        refine Step.call (r_call (xs := [.tmp 26]) fk17 rfl) (c_laws_toExpr _f_234 (by omega)) fun _v27 _w_235 _q27 => ?_
        obtain ⟨_u27, rfl, _q27, _lo27, _cw_235⟩ := _q27
        have _cw_235z := _cw_235.size
        have E := E.trans _cw_235
        obtain ⟨_Au27, _Cu27, _eu27⟩ := _q27.val
        subst _eu27
        have _lu27 := _q27.len
        have _hiu27 := _q27.lt
        have _S_236 : Ch [] _w_187 _w_235 := (_S_233.trans _cw_235.of_nil)
        refine ⟨_S_236, ?_⟩
        refine DR_one 4 (by kernel_rfl) ?_
        refine DO_s rfl rfl rfl ?_
        have _f_237 := (_q25.ch0 _cw_235)
        refine Step.call (r_call (xs := [.tmp 25, .tmp 27]) fk30 rfl) (c_spec_UnionExpr _f_237.ls _q27.ls (by omega)) fun _v28 _w_238 _q28 => ?_
        obtain ⟨_u28, rfl, _q28, _lo28, _cw_238⟩ := _q28
        have _cw_238z := _cw_238.size
        have E := E.trans _cw_238
        obtain ⟨_Au28, _Cu28, _eu28⟩ := _q28.val
        subst _eu28
        have _lu28 := _q28.len
        have _hiu28 := _q28.lt
        have _S_239 : Ch [] _w_187 _w_238 := (_S_236.trans _cw_238.of_nil)
        refine ⟨_S_239, ?_⟩
        refine DR_one 6 (by kernel_rfl) ?_
        refine DO_s rfl rfl rfl ?_
        have _f_240 := (((_m6.ch0 _cw_232).ch0 _cw_235).ch0 _cw_238)
        refine s_storeA (off := 0) 1 _f_240 sz28 rfl (us := [(.slice _Au28 (uniE a b).length _Cu28)]) rfl rfl rfl rfl fun _w_241 _m_242 _cw_241 => ?_
        have _cw_241z := _cw_241.size
        have E := E.step _cw_241 (fun i hi => .inl (by have _h1 := List.mem_singleton.1 hi; omega))
        replace _m_242 : Blk _w_241 _b6 28 [(.slice _Au28 (uniE a b).length _Cu28)] := _m_242
        have _S_243 : Ch [] _w_187 _w_241 := (_S_239.step _cw_241 (fun i hi => .inl (by have _h1 := List.mem_singleton.1 hi; omega)))
        refine ⟨_S_243, ?_⟩
        refine DR_done (by kernel_rfl) ?_
        refine thn_nrm ?_
        have _f_244 := (_q28.ch _cw_241 (fun g hg hm => by have _h0 := List.mem_singleton.1 hm; have _h2 := _lo28 _ hg; have _h3 := _hiu28 _ hg; omega))
        exact _J_21 _ _ _b6 (.slice _Au28 (uniE a b).length _Cu28) (Sub.cons rfl (Sub.cons rfl (Sub.cons rfl (Sub.cons rfl (Sub.nil _))))) (((((((Ch.refl [] _w_15).trans _cw_187).trans _cw_229).trans _cw_232).trans _cw_235).trans _cw_238).step _cw_241 (fun i hi => .inl (by have _h1 := List.mem_singleton.1 hi; omega))) _f_244 (Lo.down _lo28 (by omega)) _m_242 (by omega) (fun hm => by have _h1 := _lo28 _ hm; have _h2 := _hiu28 _ hm; omega)

end Go.Proofs.Ytbchbheojbgceaa
