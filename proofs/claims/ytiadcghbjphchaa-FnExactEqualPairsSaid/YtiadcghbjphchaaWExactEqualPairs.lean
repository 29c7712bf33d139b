/- The walks of all functions that FnExactEqualPairs reaches: what each returns, and that it leaves the memory that was there alone. -/
import Derived.Test.YtiadcghbjphchaaKF
import Derived.Test.YtiadcghbjphchaaProg
namespace Go.Proofs.Ytiadcghbjphchaa
open Go.KLib
set_option maxRecDepth 20000
theorem agg3 : aggB Try.prog 3 = some false := by kernel_rfl
theorem agg57 : aggB Try.prog 57 = some true := by kernel_rfl
theorem agg59 : aggB Try.prog 59 = some true := by kernel_rfl
theorem by57 : bytesB Try.prog 57 = some 16 := by kernel_rfl
theorem el22 : elB Try.prog 22 = some 59 := by kernel_rfl
theorem el25 : elB Try.prog 25 = some 57 := by kernel_rfl
theorem fa57_0 : faB Try.prog 57 0 = some 0 := by kernel_rfl
theorem fa57_1 : faB Try.prog 57 1 = some 1 := by kernel_rfl
theorem fa59_0 : faB Try.prog 59 0 = some 0 := by kernel_rfl
theorem fa59_1 : faB Try.prog 59 1 = some 1 := by kernel_rfl
theorem fk10 : fnB Try.prog 10 = true := by kernel_rfl
theorem fk11 : fnB Try.prog 11 = true := by kernel_rfl
theorem fk12 : fnB Try.prog 12 = true := by kernel_rfl
theorem fk13 : fnB Try.prog 13 = true := by kernel_rfl
theorem fk14 : fnB Try.prog 14 = true := by kernel_rfl
theorem fk35 : fnB Try.prog 35 = true := by kernel_rfl
theorem fk36 : fnB Try.prog 36 = true := by kernel_rfl
theorem fk37 : fnB Try.prog 37 = true := by kernel_rfl
theorem ist57 : intStructB Try.prog 57 2 = true := by kernel_rfl
theorem mixed : Try.prog.follows .mixedOrders = true := by kernel_rfl
theorem sz3 : sizeB Try.prog 3 = some 1 := by kernel_rfl
theorem sz57 : sizeB Try.prog 57 = some 2 := by kernel_rfl
theorem sz59 : sizeB Try.prog 59 = some 2 := by kernel_rfl
theorem un4 : Try.prog.underlying 4 = some (.bool) := by kernel_rfl
theorem zr57 : zeroB Try.prog 57 = some (.agg #[.int .i64 0, .int .i64 0]) := by kernel_rfl

/-- slices.Equal[[]impl.Pair,impl.Pair] -/
theorem c_slices_Equal_impl_Pair_impl_Pair {w : World} {_B_a : Nat} {_v_a : Value} {a : List Pair} (_h_a : Ls Pair.cs 2 w _B_a _v_a a) {_B_b : Nat} {_v_b : Value} {b : List Pair} (_h_b : Ls Pair.cs 2 w _B_b _v_b b) :
    Ctr Try.prog 36 #[_v_a, _v_b] w (fun v w' => v = .bool (decide (a = b)) ∧ Ch [] w w') := by
  obtain ⟨_A_a, _C_a, _e1_a⟩ := _h_a.val
  subst _e1_a
  have _l_a := _h_a.len
  have _h_a := _h_a.here (by decide)
  obtain ⟨_A_b, _C_b, _e1_b⟩ := _h_b.val
  subst _e1_b
  have _l_b := _h_b.len
  have _h_b := _h_b.here (by decide)
  have E := Ch.refl [] w
  refine Ctr_of_W (N := 26) (vs0 := [(.slice _A_a a.length _C_a), (.slice _A_b b.length _C_b)]) Try.func36 rfl rfl rfl ?_
  refine W_seq fun _K_1 _hK_1 => ?_
  refine W_region ?_
  refine WL_step rfl rfl (r_assign rfl) ?_
  refine WL_nil ?_
  refine thn_nrm (_hK_1 _ _ ?_)
  refine W_seq fun _K_2 _hK_2 => ?_
  refine W_seq fun _K_3 _hK_3 => ?_
  refine W_region ?_
  refine WL_step rfl rfl (r_move rfl) ?_
  refine WL_step rfl rfl (r_len (by rw [el25]; rfl) rfl) ?_
  refine WL_step rfl rfl (r_move rfl) ?_
  refine WL_step rfl rfl (r_len (by rw [el25]; rfl) rfl) ?_
  refine WL_step rfl rfl (r_neq rfl rfl) ?_
  refine WL_nil ?_
  refine thn_nrm (_hK_3 _ _ ?_)
  refine W_cond rfl (fun _h10 => ?_) (fun _h10 => ?_)
  · have _h10 := bf_d (bt_n _h10)
    refine W_seq fun _K_4 _hK_4 => ?_
    refine W_region ?_
    refine WL_step rfl rfl (r_assign rfl) ?_
    refine WL_nil ?_
    refine thn_nrm (_hK_4 _ _ ?_)
    refine W_ret (thn_ret ?_)
    exact ret_intro [_] ⟨rfl, trivial⟩ ⟨congrArg Value.bool (decide_eq_false (fun e => _h10 (by rw [e]))).symm, E⟩
  · have _h10 := bt_d (bf_n _h10)
    refine W_skip ?_
    refine thn_nrm (_hK_2 _ _ ?_)
    refine W_seq fun _K_5 _hK_5 => ?_
    refine W_seq fun _K_6 _hK_6 => ?_
    refine W_region ?_
    refine WL_step rfl rfl (r_move rfl) ?_
    refine WL_step rfl rfl (r_len (by rw [el25]; rfl) rfl) ?_
    refine WL_step rfl rfl (r_move rfl) ?_
    refine WL_nil ?_
    refine thn_nrm (_hK_6 _ _ ?_)
    refine W_block ?_
    refine W_loop (σ := Nat) (fun (k : Nat) => [(0, (.slice _A_a a.length _C_a)), (1, (.slice _A_b b.length _C_b)), (6, (.slice _A_a a.length _C_a)), (7, (.int .i64 ((a.length : Nat) : Int))), (8, (.slice _A_b b.length _C_b)), (9, (.int .i64 ((b.length : Nat) : Int))), (10, (.bool (!decide (((a.length : Nat) : Int) = ((b.length : Nat) : Int))))), (11, (.slice _A_a a.length _C_a)), (12, (.int .i64 ((a.length : Nat) : Int))), (13, (.int .i64 ((k : Nat) : Int)))]) (fun (k : Nat) wx => Ch [] w wx ∧ k ≤ a.length ∧ a.take k = b.take k) (fun (k : Nat) => a.length - k) 0 (Sub.cons rfl (Sub.cons rfl (Sub.cons rfl (Sub.cons rfl (Sub.cons rfl (Sub.cons rfl (Sub.cons rfl (Sub.cons rfl (Sub.cons rfl (Sub.cons rfl (Sub.nil _))))))))))) ⟨E, (by omega), rfl⟩ ?_
    rintro k _wr_7 ⟨E, _hk, _ht⟩
    have _E0h := E
    have _E0hz := _E0h.size
    refine W_seq fun _K_8 _hK_8 => ?_
    refine W_region ?_
    refine WL_step rfl rfl (r_lss rfl rfl) ?_
    refine WL_nil ?_
    refine thn_nrm (_hK_8 _ _ ?_)
    refine W_seq fun _K_9 _hK_9 => ?_
    refine W_cond rfl (fun _h14 => ?_) (fun _h14 => ?_)
    · have _h14 := bt_d _h14
      refine W_skip ?_
      refine thn_nrm (_hK_9 _ _ ?_)
      refine W_seq fun _K_10 _hK_10 => ?_
      refine W_block ?_
      refine W_seq fun _K_11 _hK_11 => ?_
      refine W_region ?_
      refine WL_step rfl rfl (r_move rfl) ?_
      refine WL_step rfl rfl (r_assign rfl) ?_
      refine WL_nil ?_
      refine thn_nrm (_hK_11 _ _ ?_)
      refine W_seq fun _K_12 _hK_12 => ?_
      refine W_drawC [] 9 mixed rfl fun _w_13 _cw_13 => ?_
      have _cw_13z := _cw_13.size
      have E := E.trans _cw_13
      refine DR_s 0 rfl (by kernel_rfl) rfl rfl (t_v (fun _ => (r_move rfl)) ?_)
      refine DR_s 1 rfl (by kernel_rfl) rfl rfl (t_v (fun _ => (r_move rfl)) ?_)
      have _f_14 := ((_h_a.ch0 _E0h).ch0 _cw_13)
      refine DR_s 2 rfl (by kernel_rfl) rfl rfl (t_index _f_14 Pair.len el25 sz57 rfl rfl rfl (by omega) fun _p18 _y18 _hy18 _a18 => ?_)
      refine DR_s 3 rfl (by kernel_rfl) rfl rfl (t_loadAtA0 _a18 (fun i hi => by first | exact absurd hi (List.not_mem_nil) | (have _h1 := List.mem_singleton.1 hi; omega)) agg57 sz57 rfl ?_)
      refine DR_s 4 rfl (by kernel_rfl) rfl rfl (t_v (fun _ => (r_move rfl)) ?_)
      refine DR_s 5 rfl (by kernel_rfl) rfl rfl (t_v (fun _ => (r_move rfl)) ?_)
      have _f_15 := ((_h_b.ch0 _E0h).ch0 _cw_13)
      refine DR_s 6 rfl (by kernel_rfl) rfl rfl (t_index _f_15 Pair.len el25 sz57 rfl rfl rfl (by omega) fun _p22 _y22 _hy22 _a22 => ?_)
      refine DR_s 7 rfl (by kernel_rfl) rfl rfl (t_loadAtA0 _a22 (fun i hi => by first | exact absurd hi (List.not_mem_nil) | (have _h1 := List.mem_singleton.1 hi; omega)) agg57 sz57 rfl ?_)
      refine DR_s 8 rfl (by kernel_rfl) rfl rfl (t_v (fun _ => (r_neqI [_y18.f, _y18.t] [_y22.f, _y22.t] ist57 rfl rfl rfl)) ?_)
      refine DR_done (by kernel_rfl) ?_
      refine thn_nrm (_hK_12 _ _ ?_)
      refine W_cond rfl (fun _h24 => ?_) (fun _h24 => ?_)
      · have _h24 := bf_d (bt_n _h24)
        refine W_seq fun _K_16 _hK_16 => ?_
        refine W_region ?_
        refine WL_step rfl rfl (r_assign rfl) ?_
        refine WL_nil ?_
        refine thn_nrm (_hK_16 _ _ ?_)
        refine W_ret (inB_ret (thn_ret (thn_ret (inB_ret (thn_ret ?_)))))
        exact ret_intro [_] ⟨rfl, trivial⟩ ⟨congrArg Value.bool (decide_eq_false (ne_of_get _hy18 _hy22 (fun e => _h24 (by rw [e])))).symm, E⟩
      · have _h24 := bt_d (bf_n _h24)
        refine W_skip ?_
        refine inB_nrm ?_
        refine thn_nrm (_hK_10 _ _ ?_)
        refine W_region ?_
        refine WL_step rfl rfl (r_add (by omega) rfl rfl) ?_
        refine WL_step rfl rfl (r_move rfl) ?_
        refine WL_nil ?_
        exact thn_nrm (Exists.intro (k + 1) ⟨⟨E, (by omega), (take_eq_succ _ht _hy18 _hy22 (Pair.inj _h24))⟩, Sub.cons rfl (Sub.cons rfl (Sub.cons rfl (Sub.cons rfl (Sub.cons rfl (Sub.cons rfl (Sub.cons rfl (Sub.cons rfl (Sub.cons rfl (Sub.cons rfl (Sub.nil _)))))))))), (by first | omega | (dsimp only; omega))⟩)
    · have _h14 := bf_d _h14
      refine W_exit (thn_exit (thn_exit (inB_hit ?_)))
      refine thn_nrm (_hK_5 _ _ ?_)
      refine W_seq fun _K_17 _hK_17 => ?_
      refine W_region ?_
      refine WL_step rfl rfl (r_assign rfl) ?_
      refine WL_nil ?_
      refine thn_nrm (_hK_17 _ _ ?_)
      refine W_ret ?_
      exact ret_intro [_] ⟨rfl, trivial⟩ ⟨congrArg Value.bool (decide_eq_true (eq_of_take _ht (by omega) (by omega))).symm, E⟩

/-- impl.EqualPairs -/
theorem c_impl_EqualPairs {w : World} {_B_a : Nat} {_v_a : Value} {a : List Pair} (_h_a : Ls Pair.cs 2 w _B_a _v_a a) {_B_b : Nat} {_v_b : Value} {b : List Pair} (_h_b : Ls Pair.cs 2 w _B_b _v_b b) :
    Ctr Try.prog 13 #[_v_a, _v_b] w (fun v w' => v = .bool (decide (a = b)) ∧ Ch [] w w') := by
  obtain ⟨_A_a, _C_a, _e1_a⟩ := _h_a.val
  subst _e1_a
  have _l_a := _h_a.len
  have _h_a := _h_a.here (by decide)
  obtain ⟨_A_b, _C_b, _e1_b⟩ := _h_b.val
  subst _e1_b
  have _l_b := _h_b.len
  have _h_b := _h_b.here (by decide)
  have E := Ch.refl [] w
  refine Ctr_of_W (N := 8) (vs0 := [(.slice _A_a a.length _C_a), (.slice _A_b b.length _C_b)]) Try.func13 rfl rfl rfl ?_
  refine W_seq fun _K_1 _hK_1 => ?_
  refine W_region ?_
  refine WL_step rfl rfl (r_assign rfl) ?_
  refine WL_nil ?_
  refine thn_nrm (_hK_1 _ _ ?_)
  refine W_seq fun _K_2 _hK_2 => ?_
  refine W_region ?_
  refine WL_step rfl rfl (r_move rfl) ?_
  refine WL_step rfl rfl (r_move rfl) ?_
  refine WL_s rfl rfl ?_
  refine Step.call (r_call (xs := [.tmp 5, .tmp 6]) fk36 rfl) (c_slices_Equal_impl_Pair_impl_Pair _h_a _h_b ) fun _v7 _w_3 _q7 => ?_
  obtain ⟨rfl, _cw_3⟩ := _q7
  have _cw_3z := _cw_3.size
  have E := E.trans _cw_3
  refine WL_step rfl rfl (r_assign rfl) ?_
  refine WL_nil ?_
  refine thn_nrm (_hK_2 _ _ ?_)
  refine W_ret ?_
  exact ret_intro [_] ⟨rfl, trivial⟩ ⟨congrArg Value.bool rfl, E⟩

/-- laws.eqPair -/
theorem c_laws_eqPair {w : World} (a : Pair) (b : Pair) :
    Ctr Try.prog 37 #[(.agg #[(.int .i64 a.f), (.int .i64 a.t)]), (.agg #[(.int .i64 b.f), (.int .i64 b.t)])] w (fun v w' => v = .bool (decide (a = b)) ∧ Ch [] w w') := by
  have E := Ch.refl [] w
  refine Ctr_of_W (N := 15) (vs0 := [(.agg #[(.int .i64 a.f), (.int .i64 a.t)]), (.agg #[(.int .i64 b.f), (.int .i64 b.t)])]) Try.func37 rfl rfl rfl ?_
  refine W_seq fun _K_1 _hK_1 => ?_
  refine W_region ?_
  refine WL_s rfl rfl ?_
  refine s_box rfl fun _b2 _w_2 _m2 _cw_2 _e2 => ?_
  have _cw_2z := _cw_2.size
  have E := E.trans _cw_2
  have _z2 := _m2.lt
  replace _m2 : Blk _w_2 _b2 57 [(.int .i64 a.f), (.int .i64 a.t)] := _m2
  refine WL_s rfl rfl ?_
  refine s_box rfl fun _b3 _w_3 _m3 _cw_3 _e3 => ?_
  have _cw_3z := _cw_3.size
  have E := E.trans _cw_3
  have _z3 := _m3.lt
  replace _m3 : Blk _w_3 _b3 57 [(.int .i64 b.f), (.int .i64 b.t)] := _m3
  refine WL_step rfl rfl (r_assign rfl) ?_
  refine WL_nil ?_
  refine thn_nrm (_hK_1 _ _ ?_)
  refine W_seq fun _K_4 _hK_4 => ?_
  refine W_seq fun _K_5 _hK_5 => ?_
  refine W_region ?_
  refine WL_step rfl rfl (r_fieldAddr fa57_0 rfl) ?_
  have _f_6 := (_m2.ch0 _cw_3)
  refine WL_step rfl rfl (r_loadAt _f_6.at_ agg3 rfl rfl) ?_
  refine WL_step rfl rfl (r_fieldAddr fa57_0 rfl) ?_
  refine WL_step rfl rfl (r_loadAt _m3.at_ agg3 rfl rfl) ?_
  refine WL_step rfl rfl (r_neq rfl rfl) ?_
  refine WL_nil ?_
  refine thn_nrm (_hK_5 _ _ ?_)
  refine W_cond rfl (fun _h9 => ?_) (fun _h9 => ?_)
  · have _h9 := bf_d (bt_n _h9)
    refine W_seq fun _K_7 _hK_7 => ?_
    refine W_region ?_
    refine WL_step rfl rfl (r_assign rfl) ?_
    refine WL_nil ?_
    refine thn_nrm (_hK_7 _ _ ?_)
    refine W_ret (thn_ret ?_)
    exact ret_intro [_] ⟨rfl, trivial⟩ ⟨congrArg Value.bool (decide_eq_false (fun e => _h9 (by rw [e]))).symm, E⟩
  · have _h9 := bt_d (bf_n _h9)
    refine W_skip ?_
    refine thn_nrm (_hK_4 _ _ ?_)
    refine W_seq fun _K_8 _hK_8 => ?_
    refine W_seq fun _K_9 _hK_9 => ?_
    refine W_region ?_
    refine WL_step rfl rfl (r_fieldAddr fa57_1 rfl) ?_
    refine WL_step rfl rfl (r_loadAt _f_6.at_ agg3 rfl rfl) ?_
    refine WL_step rfl rfl (r_fieldAddr fa57_1 rfl) ?_
    refine WL_step rfl rfl (r_loadAt _m3.at_ agg3 rfl rfl) ?_
    refine WL_step rfl rfl (r_neq rfl rfl) ?_
    refine WL_nil ?_
    refine thn_nrm (_hK_9 _ _ ?_)
    refine W_cond rfl (fun _h14 => ?_) (fun _h14 => ?_)
    · have _h14 := bf_d (bt_n _h14)
      refine W_seq fun _K_10 _hK_10 => ?_
      refine W_region ?_
      refine WL_step rfl rfl (r_assign rfl) ?_
      refine WL_nil ?_
      refine thn_nrm (_hK_10 _ _ ?_)
      refine W_ret (thn_ret ?_)
      exact ret_intro [_] ⟨rfl, trivial⟩ ⟨congrArg Value.bool (decide_eq_false (fun e => _h14 (by rw [e]))).symm, E⟩
    · have _h14 := bt_d (bf_n _h14)
      refine W_skip ?_
      refine thn_nrm (_hK_8 _ _ ?_)
      refine W_seq fun _K_11 _hK_11 => ?_
      refine W_region ?_
      refine WL_step rfl rfl (r_assign rfl) ?_
      refine WL_nil ?_
      refine thn_nrm (_hK_11 _ _ ?_)
      refine W_ret ?_
      exact ret_intro [_] ⟨rfl, trivial⟩ ⟨congrArg Value.bool (decide_eq_true (Pair.inj (by rw [_h9, _h14]))).symm, E⟩

/-- laws.eqPairS -/
theorem c_laws_eqPairS {w : World} {_B_a : Nat} {_v_a : Value} {a : List Pair} (_h_a : Ls Pair.cs 2 w _B_a _v_a a) {_B_b : Nat} {_v_b : Value} {b : List Pair} (_h_b : Ls Pair.cs 2 w _B_b _v_b b) :
    Ctr Try.prog 14 #[_v_a, _v_b] w (fun v w' => v = .bool (decide (a = b)) ∧ Ch [] w w') := by
  obtain ⟨_A_a, _C_a, _e1_a⟩ := _h_a.val
  subst _e1_a
  have _l_a := _h_a.len
  have _h_a := _h_a.here (by decide)
  obtain ⟨_A_b, _C_b, _e1_b⟩ := _h_b.val
  subst _e1_b
  have _l_b := _h_b.len
  have _h_b := _h_b.here (by decide)
  have E := Ch.refl [] w
  refine Ctr_of_W (N := 27) (vs0 := [(.slice _A_a a.length _C_a), (.slice _A_b b.length _C_b)]) Try.func14 rfl rfl rfl ?_
  refine W_seq fun _K_1 _hK_1 => ?_
  refine W_region ?_
  refine WL_step rfl rfl (r_assign rfl) ?_
  refine WL_nil ?_
  refine thn_nrm (_hK_1 _ _ ?_)
  refine W_seq fun _K_2 _hK_2 => ?_
  refine W_seq fun _K_3 _hK_3 => ?_
  refine W_region ?_
  refine WL_step rfl rfl (r_move rfl) ?_
  refine WL_step rfl rfl (r_len (by rw [el25]; rfl) rfl) ?_
  refine WL_step rfl rfl (r_move rfl) ?_
  refine WL_step rfl rfl (r_len (by rw [el25]; rfl) rfl) ?_
  refine WL_step rfl rfl (r_neq rfl rfl) ?_
  refine WL_nil ?_
  refine thn_nrm (_hK_3 _ _ ?_)
  refine W_cond rfl (fun _h10 => ?_) (fun _h10 => ?_)
  · have _h10 := bf_d (bt_n _h10)
    refine W_seq fun _K_4 _hK_4 => ?_
    refine W_region ?_
    refine WL_step rfl rfl (r_assign rfl) ?_
    refine WL_nil ?_
    refine thn_nrm (_hK_4 _ _ ?_)
    refine W_ret (thn_ret ?_)
    exact ret_intro [_] ⟨rfl, trivial⟩ ⟨congrArg Value.bool (decide_eq_false (fun e => _h10 (by rw [e]))).symm, E⟩
  · have _h10 := bt_d (bf_n _h10)
    refine W_skip ?_
    refine thn_nrm (_hK_2 _ _ ?_)
    refine W_seq fun _K_5 _hK_5 => ?_
    refine W_seq fun _K_6 _hK_6 => ?_
    refine W_region ?_
    refine WL_step rfl rfl (r_assign rfl) ?_
    refine WL_nil ?_
    refine thn_nrm (_hK_6 _ _ ?_)
    refine W_block ?_
    refine W_loop (σ := Nat) (fun (k : Nat) => [(0, (.slice _A_a a.length _C_a)), (1, (.slice _A_b b.length _C_b)), (5, (.int .i64 ((k : Nat) : Int))), (6, (.slice _A_a a.length _C_a)), (7, (.int .i64 ((a.length : Nat) : Int))), (8, (.slice _A_b b.length _C_b)), (9, (.int .i64 ((b.length : Nat) : Int))), (10, (.bool (!decide (((a.length : Nat) : Int) = ((b.length : Nat) : Int)))))]) (fun (k : Nat) wx => Ch [] w wx ∧ k ≤ a.length ∧ a.take k = b.take k) (fun (k : Nat) => a.length - k) 0 (Sub.cons rfl (Sub.cons rfl (Sub.cons rfl (Sub.cons rfl (Sub.cons rfl (Sub.cons rfl (Sub.cons rfl (Sub.cons rfl (Sub.nil _))))))))) ⟨E, (by omega), rfl⟩ ?_
    rintro k _wr_7 ⟨E, _hk, _ht⟩
    have _E0h := E
    have _E0hz := _E0h.size
    refine W_seq fun _K_8 _hK_8 => ?_
    refine W_seq fun _K_9 _hK_9 => ?_
    refine W_region ?_
    refine WL_step rfl rfl (r_move rfl) ?_
    refine WL_step rfl rfl (r_move rfl) ?_
    refine WL_step rfl rfl (r_len (by rw [el25]; rfl) rfl) ?_
    refine WL_step rfl rfl (r_lss rfl rfl) ?_
    refine WL_nil ?_
    refine thn_nrm (_hK_9 _ _ ?_)
    refine W_cond rfl (fun _h14 => ?_) (fun _h14 => ?_)
    · have _h14 := bt_d _h14
      refine W_skip ?_
      refine thn_nrm (_hK_8 _ _ ?_)
      refine W_seq fun _K_10 _hK_10 => ?_
      refine W_block ?_
      refine W_seq fun _K_11 _hK_11 => ?_
      refine W_drawC [] 10 mixed rfl fun _w_12 _cw_12 => ?_
      have _cw_12z := _cw_12.size
      have E := E.trans _cw_12
      refine DR_s 0 rfl (by kernel_rfl) rfl rfl (t_v (fun _ => (r_move rfl)) ?_)
      refine DR_s 1 rfl (by kernel_rfl) rfl rfl (t_v (fun _ => (r_move rfl)) ?_)
      have _f_13 := ((_h_a.ch0 _E0h).ch0 _cw_12)
      refine DR_s 2 rfl (by kernel_rfl) rfl rfl (t_index _f_13 Pair.len el25 sz57 rfl rfl rfl (by omega) fun _p19 _y19 _hy19 _a19 => ?_)
      refine DR_s 3 rfl (by kernel_rfl) rfl rfl (t_loadAtA0 _a19 (fun i hi => by first | exact absurd hi (List.not_mem_nil) | (have _h1 := List.mem_singleton.1 hi; omega)) agg57 sz57 rfl ?_)
      refine DR_s 4 rfl (by kernel_rfl) rfl rfl (t_v (fun _ => (r_move rfl)) ?_)
      refine DR_s 5 rfl (by kernel_rfl) rfl rfl (t_v (fun _ => (r_move rfl)) ?_)
      have _f_14 := ((_h_b.ch0 _E0h).ch0 _cw_12)
      refine DR_s 6 rfl (by kernel_rfl) rfl rfl (t_index _f_14 Pair.len el25 sz57 rfl rfl rfl (by omega) fun _p23 _y23 _hy23 _a23 => ?_)
      refine DR_s 7 rfl (by kernel_rfl) rfl rfl (t_loadAtA0 _a23 (fun i hi => by first | exact absurd hi (List.not_mem_nil) | (have _h1 := List.mem_singleton.1 hi; omega)) agg57 sz57 rfl ?_)
      refine DR_one 8 (by kernel_rfl) ?_
      refine DO_s rfl rfl rfl ?_
      refine Step.call (r_call (xs := [.tmp 20, .tmp 24]) fk37 rfl) (c_laws_eqPair ⟨_y19.f, _y19.t⟩ ⟨_y23.f, _y23.t⟩ ) fun _v25 _w_15 _q25 => ?_
      obtain ⟨rfl, _cw_15⟩ := _q25
      have _cw_15z := _cw_15.size
      have E := E.trans _cw_15
      have _S_16 : Ch [] _w_12 _w_15 := ((Ch.refl _ _).trans _cw_15.of_nil)
      refine ⟨_S_16, ?_⟩
      refine DR_s 9 rfl (by kernel_rfl) rfl rfl (t_v (fun _ => (r_not rfl)) ?_)
      refine DR_done (by kernel_rfl) ?_
      refine thn_nrm (_hK_11 _ _ ?_)
      refine W_cond rfl (fun _h26 => ?_) (fun _h26 => ?_)
      · have _h26 := bf_d (bt_n _h26)
        refine W_seq fun _K_17 _hK_17 => ?_
        refine W_region ?_
        refine WL_step rfl rfl (r_assign rfl) ?_
        refine WL_nil ?_
        refine thn_nrm (_hK_17 _ _ ?_)
        refine W_ret (inB_ret (thn_ret (thn_ret (inB_ret (thn_ret ?_)))))
        exact ret_intro [_] ⟨rfl, trivial⟩ ⟨congrArg Value.bool (decide_eq_false (ne_of_get _hy19 _hy23 _h26)).symm, E⟩
      · have _h26 := bt_d (bf_n _h26)
        refine W_skip ?_
        refine inB_nrm ?_
        refine thn_nrm (_hK_10 _ _ ?_)
        refine W_region ?_
        refine WL_step rfl rfl (r_move rfl) ?_
        refine WL_step rfl rfl (r_add (by omega) rfl rfl) ?_
        refine WL_step rfl rfl (r_assign rfl) ?_
        refine WL_nil ?_
        exact thn_nrm (Exists.intro (k + 1) ⟨⟨E, (by omega), (take_eq_succ _ht _hy19 _hy23 _h26)⟩, Sub.cons rfl (Sub.cons rfl (Sub.cons rfl (Sub.cons rfl (Sub.cons rfl (Sub.cons rfl (Sub.cons rfl (Sub.cons rfl (Sub.nil _)))))))), (by first | omega | (dsimp only; omega))⟩)
    · have _h14 := bf_d _h14
      refine W_exit (thn_exit (thn_exit (inB_hit ?_)))
      refine thn_nrm (_hK_5 _ _ ?_)
      refine W_seq fun _K_18 _hK_18 => ?_
      refine W_region ?_
      refine WL_step rfl rfl (r_assign rfl) ?_
      refine WL_nil ?_
      refine thn_nrm (_hK_18 _ _ ?_)
      refine W_ret ?_
      exact ret_intro [_] ⟨rfl, trivial⟩ ⟨congrArg Value.bool (decide_eq_true (eq_of_take _ht (by omega) (by omega))).symm, E⟩

/-- laws.szPairS -/
theorem c_laws_szPairS {w : World} {_B_a : Nat} {_v_a : Value} {a : List Pair} (_h_a : Ls Pair.cs 2 w _B_a _v_a a) (left : Int) (hl : left ≤ 1048576) (_h0 : 0 ≤ left) :
    Ctr Try.prog 10 #[_v_a, (.int .i64 left)] w (fun v w' => v = .int .i64 (if left < a.length then -1 else left - a.length) ∧ Ch [] w w') := by
  obtain ⟨_A_a, _C_a, _e1_a⟩ := _h_a.val
  subst _e1_a
  have _l_a := _h_a.len
  have _h_a := _h_a.here (by decide)
  have E := Ch.refl [] w
  refine Ctr_of_W (N := 12) (vs0 := [(.slice _A_a a.length _C_a), (.int .i64 left)]) Try.func10 rfl rfl rfl ?_
  refine W_seq fun _K_1 _hK_1 => ?_
  refine W_region ?_
  refine WL_step rfl rfl (r_assign rfl) ?_
  refine WL_nil ?_
  refine thn_nrm (_hK_1 _ _ ?_)
  refine W_seq fun _K_2 _hK_2 => ?_
  refine W_region ?_
  refine WL_step rfl rfl (r_move rfl) ?_
  refine WL_step rfl rfl (r_move rfl) ?_
  refine WL_step rfl rfl (r_len (by rw [el22]; rfl) rfl) ?_
  refine WL_step rfl rfl (r_sub (by omega) rfl rfl) ?_
  refine WL_step rfl rfl (r_assign rfl) ?_
  refine WL_nil ?_
  refine thn_nrm (_hK_2 _ _ ?_)
  refine W_seq fun _K_3 _hK_3 => ?_
  refine W_seq fun _K_4 _hK_4 => ?_
  refine W_region ?_
  refine WL_step rfl rfl (r_move rfl) ?_
  refine WL_step rfl rfl (r_lss rfl rfl) ?_
  refine WL_nil ?_
  refine thn_nrm (_hK_4 _ _ ?_)
  refine W_cond rfl (fun _h10 => ?_) (fun _h10 => ?_)
  · have _h10 := bt_d _h10
    refine W_seq fun _K_5 _hK_5 => ?_
    refine W_region ?_
    refine WL_step rfl rfl (r_assign rfl) ?_
    refine WL_nil ?_
    refine thn_nrm (_hK_5 _ _ ?_)
    refine W_ret (thn_ret ?_)
    exact ret_intro [_] ⟨rfl, trivial⟩ ⟨congrArg (Value.int .i64) (if_pos (by omega)).symm, E⟩
  · have _h10 := bf_d _h10
    refine W_skip ?_
    refine thn_nrm (_hK_3 _ _ ?_)
    refine W_seq fun _K_6 _hK_6 => ?_
    refine W_region ?_
    refine WL_step rfl rfl (r_move rfl) ?_
    refine WL_step rfl rfl (r_assign rfl) ?_
    refine WL_nil ?_
    refine thn_nrm (_hK_6 _ _ ?_)
    refine W_ret ?_
    exact ret_intro [_] ⟨rfl, trivial⟩ ⟨congrArg (Value.int .i64) (if_neg (by omega)).symm, E⟩

/-- laws.toPair -/
theorem c_laws_toPair {w : World} (a : Pair) :
    Ctr Try.prog 35 #[(.agg #[(.int .i64 a.f), (.int .i64 a.t)])] w (fun v w' => v = .agg (Pair.cs (a)).toArray ∧ Ch [] w w') := by
  have E := Ch.refl [] w
  refine Ctr_of_W (N := 11) (vs0 := [(.agg #[(.int .i64 a.f), (.int .i64 a.t)])]) Try.func35 rfl rfl rfl ?_
  refine W_seq fun _K_1 _hK_1 => ?_
  refine W_region ?_
  refine WL_s rfl rfl ?_
  refine s_box rfl fun _b1 _w_2 _m1 _cw_2 _e1 => ?_
  have _cw_2z := _cw_2.size
  have E := E.trans _cw_2
  have _z1 := _m1.lt
  replace _m1 : Blk _w_2 _b1 59 [(.int .i64 a.f), (.int .i64 a.t)] := _m1
  refine WL_s rfl rfl ?_
  refine s_alloc zr57 fun _b2 _w_3 _m2 _cw_3 _e2 => ?_
  have _cw_3z := _cw_3.size
  have E := E.trans _cw_3
  have _z2 := _m2.lt
  replace _m2 : Blk _w_3 _b2 57 [(.int .i64 0), (.int .i64 0)] := _m2
  refine WL_nil ?_
  refine thn_nrm (_hK_1 _ _ ?_)
  refine W_seq fun _K_4 _hK_4 => ?_
  refine W_region ?_
  refine WL_s rfl rfl ?_
  refine s_alloc zr57 fun _b3 _w_5 _m3 _cw_5 _e3 => ?_
  have _cw_5z := _cw_5.size
  have E := E.trans _cw_5
  have _z3 := _m3.lt
  replace _m3 : Blk _w_5 _b3 57 [(.int .i64 0), (.int .i64 0)] := _m3
  refine WL_nil ?_
  refine thn_nrm (_hK_4 _ _ ?_)
  refine W_seq fun _K_6 _hK_6 => ?_
  refine W_region ?_
  refine WL_step rfl rfl (r_fieldAddr fa59_0 rfl) ?_
  have _f_7 := ((_m1.ch0 _cw_3).ch0 _cw_5)
  refine WL_step rfl rfl (r_loadAt _f_7.at_ agg3 rfl rfl) ?_
  refine WL_step rfl rfl (r_fieldAddr fa57_0 rfl) ?_
  refine WL_s rfl rfl ?_
  refine s_store1 (off := 0) _m3 sz3 rfl rfl rfl rfl fun _w_8 _m_9 _cw_8 => ?_
  have _cw_8z := _cw_8.size
  have E := E.step _cw_8 (fun i hi => .inl (by have _h1 := List.mem_singleton.1 hi; omega))
  replace _m_9 : Blk _w_8 _b3 57 [(.int .i64 a.f), (.int .i64 0)] := _m_9
  refine WL_nil ?_
  refine thn_nrm (_hK_6 _ _ ?_)
  refine W_seq fun _K_10 _hK_10 => ?_
  refine W_region ?_
  refine WL_step rfl rfl (r_fieldAddr fa59_1 rfl) ?_
  have _f_11 := (_f_7.ch _cw_8 (fun hm => by have _h1 := List.mem_singleton.1 hm; omega))
  refine WL_step rfl rfl (r_loadAt _f_11.at_ agg3 rfl rfl) ?_
  refine WL_step rfl rfl (r_fieldAddr fa57_1 rfl) ?_
  refine WL_s rfl rfl ?_
  refine s_store1 (off := 1) _m_9 sz3 rfl rfl rfl rfl fun _w_12 _m_13 _cw_12 => ?_
  have _cw_12z := _cw_12.size
  have E := E.step _cw_12 (fun i hi => .inl (by have _h1 := List.mem_singleton.1 hi; omega))
  replace _m_13 : Blk _w_12 _b3 57 [(.int .i64 a.f), (.int .i64 a.t)] := _m_13
  refine WL_nil ?_
  refine thn_nrm (_hK_10 _ _ ?_)
  refine W_seq fun _K_14 _hK_14 => ?_
  refine W_region ?_
  refine WL_step rfl rfl (r_loadAtA0 _m_13.at_ agg57 sz57 rfl) ?_
  refine WL_s rfl rfl ?_
  have _f_15 := (((_m2.ch0 _cw_5).ch _cw_8 (fun hm => by have _h1 := List.mem_singleton.1 hm; omega)).ch _cw_12 (fun hm => by have _h1 := List.mem_singleton.1 hm; omega))
  refine s_storeA (off := 0) 2 _f_15 sz57 rfl (us := [(.int .i64 a.f), (.int .i64 a.t)]) rfl rfl rfl rfl fun _w_16 _m_17 _cw_16 => ?_
  have _cw_16z := _cw_16.size
  have E := E.step _cw_16 (fun i hi => .inl (by have _h1 := List.mem_singleton.1 hi; omega))
  replace _m_17 : Blk _w_16 _b2 57 [(.int .i64 a.f), (.int .i64 a.t)] := _m_17
  refine WL_nil ?_
  refine thn_nrm (_hK_14 _ _ ?_)
  refine W_ret ?_
  exact ret_intro [_] (resOf_loadA _m_17 rfl agg57 sz57 trivial) ⟨by simp [packed, Pair.cs], E⟩

/-- laws.toPairS -/
theorem c_laws_toPairS {w : World} {_B_a : Nat} {_v_a : Value} {a : List Pair} (_h_a : Ls Pair.cs 2 w _B_a _v_a a) (hb : a.length ≤ 1048576) :
    Ctr Try.prog 12 #[_v_a] w (fun v w' => Ol Pair.cs 57 2 w' v (a) ∧ Lo w.heap.size v ∧ Ch [] w w') := by
  obtain ⟨_A_a, _C_a, _e1_a⟩ := _h_a.val
  subst _e1_a
  have _l_a := _h_a.len
  have _h_a := _h_a.here (by decide)
  have E := Ch.refl [] w
  refine Ctr_of_W (N := 23) (vs0 := [(.slice _A_a a.length _C_a)]) Try.func12 rfl rfl rfl ?_
  refine W_seq fun _K_1 _hK_1 => ?_
  refine W_region ?_
  refine WL_step rfl rfl (r_assign rfl) ?_
  refine WL_nil ?_
  refine thn_nrm (_hK_1 _ _ ?_)
  refine W_seq fun _K_2 _hK_2 => ?_
  refine W_region ?_
  refine WL_step rfl rfl (r_move rfl) ?_
  refine WL_step rfl rfl (r_len (by rw [el22]; rfl) rfl) ?_
  refine WL_s rfl rfl ?_
  refine s_make (cs := Pair.cs) (⟨0, 0⟩ : Pair) el25 sz57 by57 zr57 Pair.len (by decide) rfl rfl (by omega) (by omega) fun _v7 _w_3 _q7 _lo7 _cw_3 => ?_
  have _cw_3z := _cw_3.size
  have E := E.trans _cw_3
  obtain ⟨_Av7, _Cv7, _ev7⟩ := _q7.val
  subst _ev7
  have _lv7 := _q7.len
  refine WL_step rfl rfl (r_assign rfl) ?_
  refine WL_nil ?_
  refine thn_nrm (_hK_2 _ _ ?_)
  refine W_seq fun _K_4 _hK_4 => ?_
  refine W_seq fun _K_5 _hK_5 => ?_
  refine W_region ?_
  refine WL_step rfl rfl (r_assign rfl) ?_
  refine WL_nil ?_
  refine thn_nrm (_hK_5 _ _ ?_)
  refine W_block ?_
  have _oi_6 : Ol Pair.cs 57 2 _w_3 (.slice _Av7 ((List.replicate a.length (⟨0, 0⟩ : Pair))).length _Cv7) (a.take 0 ++ List.replicate (a.length - 0) (⟨0, 0⟩ : Pair)) := by
    have hx := _q7
    simpa using hx
  refine W_loop (σ := Nat) (fun (k : Nat) => [(0, (.slice _A_a a.length _C_a)), (2, (.slice none 0 0)), (3, (.slice _Av7 ((List.replicate a.length (⟨0, 0⟩ : Pair))).length _Cv7)), (4, (.int .i64 ((k : Nat) : Int))), (5, (.slice _A_a a.length _C_a)), (6, (.int .i64 ((a.length : Nat) : Int))), (7, (.slice _Av7 ((List.replicate a.length (⟨0, 0⟩ : Pair))).length _Cv7))]) (fun (k : Nat) wx => Ch [] w wx ∧ k ≤ a.length ∧ Ol Pair.cs 57 2 wx (.slice _Av7 ((List.replicate a.length (⟨0, 0⟩ : Pair))).length _Cv7) (a.take k ++ List.replicate (a.length - k) (⟨0, 0⟩ : Pair))) (fun (k : Nat) => a.length - k) 0 (Sub.cons rfl (Sub.cons rfl (Sub.cons rfl (Sub.cons rfl (Sub.cons rfl (Sub.cons rfl (Sub.cons rfl (Sub.nil _)))))))) ⟨E, (by omega), _oi_6⟩ ?_
  rintro k _wr_7 ⟨E, _hk, _o0_3⟩
  have _E0h := E
  have _E0hz := _E0h.size
  refine W_seq fun _K_8 _hK_8 => ?_
  refine W_seq fun _K_9 _hK_9 => ?_
  refine W_region ?_
  refine WL_step rfl rfl (r_move rfl) ?_
  refine WL_step rfl rfl (r_move rfl) ?_
  refine WL_step rfl rfl (r_len (by rw [el22]; rfl) rfl) ?_
  refine WL_step rfl rfl (r_lss rfl rfl) ?_
  refine WL_nil ?_
  refine thn_nrm (_hK_9 _ _ ?_)
  refine W_cond rfl (fun _h11 => ?_) (fun _h11 => ?_)
  · have _h11 := bt_d _h11
    refine W_skip ?_
    refine thn_nrm (_hK_8 _ _ ?_)
    refine W_seq fun _K_10 _hK_10 => ?_
    refine W_block ?_
    refine W_region ?_
    refine WL_step rfl rfl (r_move rfl) ?_
    refine WL_step rfl rfl (r_move rfl) ?_
    refine WL_step rfl rfl (r_move rfl) ?_
    refine WL_step rfl rfl (r_move rfl) ?_
    refine WL_s rfl rfl ?_
    have _f_11 := (_h_a.ch0 _E0h)
    refine (s_index _f_11 Pair.len el22 sz59 rfl rfl rfl (by omega) fun _p18 _y18 _hy18 _a18 => ?_)
    refine WL_step rfl rfl (r_loadAtA0 _a18 agg59 sz59 rfl) ?_
    refine WL_s rfl rfl ?_
    refine Step.call (r_call (xs := [.tmp 19]) fk35 rfl) (c_laws_toPair ⟨_y18.f, _y18.t⟩ ) fun _v20 _w_12 _q20 => ?_
    obtain ⟨rfl, _cw_12⟩ := _q20
    have _cw_12z := _cw_12.size
    have E := E.trans _cw_12
    refine WL_s rfl rfl ?_
    have _f_13 := (_o0_3.ch0 _cw_12)
    refine s_indexO (j := k) _f_13 el25 sz57 rfl rfl rfl (by simp; omega) fun _g21 _o21 _cp21 _q21 => ?_
    refine WL_s rfl rfl ?_
    refine s_storeO (j := k) (⟨_y18.f, _y18.t⟩ : Pair) _f_13 _q21 Pair.len sz57 rfl rfl rfl rfl (by simp; omega) fun _w_14 _o_15 _cw_14 => ?_
    have _cw_14z := _cw_14.size
    have E := E.step _cw_14 (fun i hi => .inl (by have _h1 := _lo7 _ hi; omega))
    refine WL_nil ?_
    refine inB_nrm ?_
    refine thn_nrm (_hK_10 _ _ ?_)
    refine W_region ?_
    refine WL_step rfl rfl (r_move rfl) ?_
    refine WL_step rfl rfl (r_add (by omega) rfl rfl) ?_
    refine WL_step rfl rfl (r_assign rfl) ?_
    refine WL_nil ?_
    have _on_16 : Ol Pair.cs 57 2 _w_14 (.slice _Av7 ((List.replicate a.length (⟨0, 0⟩ : Pair))).length _Cv7) (a.take (k + 1) ++ List.replicate (a.length - (k + 1)) (⟨0, 0⟩ : Pair)) := by
      have hx := _o_15
      rwa [fill_step a (⟨0, 0⟩ : Pair) _hy18] at hx
    exact thn_nrm (Exists.intro (k + 1) ⟨⟨E, (by omega), _on_16⟩, Sub.cons rfl (Sub.cons rfl (Sub.cons rfl (Sub.cons rfl (Sub.cons rfl (Sub.cons rfl (Sub.cons rfl (Sub.nil _))))))), (by first | omega | (dsimp only; omega))⟩)
  · have _h11 := bf_d _h11
    refine W_exit (thn_exit (thn_exit (inB_hit ?_)))
    refine thn_nrm (_hK_4 _ _ ?_)
    refine W_seq fun _K_17 _hK_17 => ?_
    refine W_region ?_
    refine WL_step rfl rfl (r_move rfl) ?_
    refine WL_step rfl rfl (r_assign rfl) ?_
    refine WL_nil ?_
    refine thn_nrm (_hK_17 _ _ ?_)
    refine W_ret ?_
    have _o_18 : Ol Pair.cs 57 2 _wr_7 (.slice _Av7 ((List.replicate a.length (⟨0, 0⟩ : Pair))).length _Cv7) (a) := by
      have hx := _o0_3
      simpa [List.take_of_length_le (show a.length ≤ k by omega), show a.length - k = 0 by omega] using hx
    exact ret_intro [_] ⟨rfl, trivial⟩ ⟨_o_18, Lo.down _lo7 (by omega), E⟩

/-- spec.EqualPairs -/
theorem c_spec_EqualPairs {w : World} {_B_a : Nat} {_v_a : Value} {a : List Pair} (_h_a : Ls Pair.cs 2 w _B_a _v_a a) {_B_b : Nat} {_v_b : Value} {b : List Pair} (_h_b : Ls Pair.cs 2 w _B_b _v_b b) :
    Ctr Try.prog 11 #[_v_a, _v_b] w (fun v w' => v = .bool (decide (a = b)) ∧ Ch [] w w') := by
  obtain ⟨_A_a, _C_a, _e1_a⟩ := _h_a.val
  subst _e1_a
  have _l_a := _h_a.len
  have _h_a := _h_a.here (by decide)
  obtain ⟨_A_b, _C_b, _e1_b⟩ := _h_b.val
  subst _e1_b
  have _l_b := _h_b.len
  have _h_b := _h_b.here (by decide)
  have E := Ch.refl [] w
  refine Ctr_of_W (N := 26) (vs0 := [(.slice _A_a a.length _C_a), (.slice _A_b b.length _C_b)]) Try.func11 rfl rfl rfl ?_
  refine W_seq fun _K_1 _hK_1 => ?_
  refine W_region ?_
  refine WL_step rfl rfl (r_assign rfl) ?_
  refine WL_nil ?_
  refine thn_nrm (_hK_1 _ _ ?_)
  refine W_seq fun _K_2 _hK_2 => ?_
  refine W_seq fun _K_3 _hK_3 => ?_
  refine W_region ?_
  refine WL_step rfl rfl (r_move rfl) ?_
  refine WL_step rfl rfl (r_len (by rw [el25]; rfl) rfl) ?_
  refine WL_step rfl rfl (r_move rfl) ?_
  refine WL_step rfl rfl (r_len (by rw [el25]; rfl) rfl) ?_
  refine WL_step rfl rfl (r_neq rfl rfl) ?_
  refine WL_nil ?_
  refine thn_nrm (_hK_3 _ _ ?_)
  refine W_cond rfl (fun _h10 => ?_) (fun _h10 => ?_)
  · have _h10 := bf_d (bt_n _h10)
    refine W_seq fun _K_4 _hK_4 => ?_
    refine W_region ?_
    refine WL_step rfl rfl (r_assign rfl) ?_
    refine WL_nil ?_
    refine thn_nrm (_hK_4 _ _ ?_)
    refine W_ret (thn_ret ?_)
    exact ret_intro [_] ⟨rfl, trivial⟩ ⟨congrArg Value.bool (decide_eq_false (fun e => _h10 (by rw [e]))).symm, E⟩
  · have _h10 := bt_d (bf_n _h10)
    refine W_skip ?_
    refine thn_nrm (_hK_2 _ _ ?_)
    refine W_seq fun _K_5 _hK_5 => ?_
    refine W_seq fun _K_6 _hK_6 => ?_
    refine W_region ?_
    refine WL_step rfl rfl (r_assign rfl) ?_
    refine WL_nil ?_
    refine thn_nrm (_hK_6 _ _ ?_)
    refine W_block ?_
    refine W_loop (σ := Nat) (fun (k : Nat) => [(0, (.slice _A_a a.length _C_a)), (1, (.slice _A_b b.length _C_b)), (5, (.int .i64 ((k : Nat) : Int))), (6, (.slice _A_a a.length _C_a)), (7, (.int .i64 ((a.length : Nat) : Int))), (8, (.slice _A_b b.length _C_b)), (9, (.int .i64 ((b.length : Nat) : Int))), (10, (.bool (!decide (((a.length : Nat) : Int) = ((b.length : Nat) : Int)))))]) (fun (k : Nat) wx => Ch [] w wx ∧ k ≤ a.length ∧ a.take k = b.take k) (fun (k : Nat) => a.length - k) 0 (Sub.cons rfl (Sub.cons rfl (Sub.cons rfl (Sub.cons rfl (Sub.cons rfl (Sub.cons rfl (Sub.cons rfl (Sub.cons rfl (Sub.nil _))))))))) ⟨E, (by omega), rfl⟩ ?_
    rintro k _wr_7 ⟨E, _hk, _ht⟩
    have _E0h := E
    have _E0hz := _E0h.size
    refine W_seq fun _K_8 _hK_8 => ?_
    refine W_seq fun _K_9 _hK_9 => ?_
    refine W_region ?_
    refine WL_step rfl rfl (r_move rfl) ?_
    refine WL_step rfl rfl (r_move rfl) ?_
    refine WL_step rfl rfl (r_len (by rw [el25]; rfl) rfl) ?_
    refine WL_step rfl rfl (r_lss rfl rfl) ?_
    refine WL_nil ?_
    refine thn_nrm (_hK_9 _ _ ?_)
    refine W_cond rfl (fun _h14 => ?_) (fun _h14 => ?_)
    · have _h14 := bt_d _h14
      refine W_skip ?_
      refine thn_nrm (_hK_8 _ _ ?_)
      refine W_seq fun _K_10 _hK_10 => ?_
      refine W_block ?_
      refine W_seq fun _K_11 _hK_11 => ?_
      refine W_drawC [] 9 mixed rfl fun _w_12 _cw_12 => ?_
      have _cw_12z := _cw_12.size
      have E := E.trans _cw_12
      refine DR_s 0 rfl (by kernel_rfl) rfl rfl (t_v (fun _ => (r_move rfl)) ?_)
      refine DR_s 1 rfl (by kernel_rfl) rfl rfl (t_v (fun _ => (r_move rfl)) ?_)
      have _f_13 := ((_h_a.ch0 _E0h).ch0 _cw_12)
      refine DR_s 2 rfl (by kernel_rfl) rfl rfl (t_index _f_13 Pair.len el25 sz57 rfl rfl rfl (by omega) fun _p19 _y19 _hy19 _a19 => ?_)
      refine DR_s 3 rfl (by kernel_rfl) rfl rfl (t_loadAtA0 _a19 (fun i hi => by first | exact absurd hi (List.not_mem_nil) | (have _h1 := List.mem_singleton.1 hi; omega)) agg57 sz57 rfl ?_)
      refine DR_s 4 rfl (by kernel_rfl) rfl rfl (t_v (fun _ => (r_move rfl)) ?_)
      refine DR_s 5 rfl (by kernel_rfl) rfl rfl (t_v (fun _ => (r_move rfl)) ?_)
      have _f_14 := ((_h_b.ch0 _E0h).ch0 _cw_12)
      refine DR_s 6 rfl (by kernel_rfl) rfl rfl (t_index _f_14 Pair.len el25 sz57 rfl rfl rfl (by omega) fun _p23 _y23 _hy23 _a23 => ?_)
      refine DR_s 7 rfl (by kernel_rfl) rfl rfl (t_loadAtA0 _a23 (fun i hi => by first | exact absurd hi (List.not_mem_nil) | (have _h1 := List.mem_singleton.1 hi; omega)) agg57 sz57 rfl ?_)
      refine DR_s 8 rfl (by kernel_rfl) rfl rfl (t_v (fun _ => (r_neqI [_y19.f, _y19.t] [_y23.f, _y23.t] ist57 rfl rfl rfl)) ?_)
      refine DR_done (by kernel_rfl) ?_
      refine thn_nrm (_hK_11 _ _ ?_)
      refine W_cond rfl (fun _h25 => ?_) (fun _h25 => ?_)
      · have _h25 := bf_d (bt_n _h25)
        refine W_seq fun _K_15 _hK_15 => ?_
        refine W_region ?_
        refine WL_step rfl rfl (r_assign rfl) ?_
        refine WL_nil ?_
        refine thn_nrm (_hK_15 _ _ ?_)
        refine W_ret (inB_ret (thn_ret (thn_ret (inB_ret (thn_ret ?_)))))
        exact ret_intro [_] ⟨rfl, trivial⟩ ⟨congrArg Value.bool (decide_eq_false (ne_of_get _hy19 _hy23 (fun e => _h25 (by rw [e])))).symm, E⟩
      · have _h25 := bt_d (bf_n _h25)
        refine W_skip ?_
        refine inB_nrm ?_
        refine thn_nrm (_hK_10 _ _ ?_)
        refine W_region ?_
        refine WL_step rfl rfl (r_move rfl) ?_
        refine WL_step rfl rfl (r_add (by omega) rfl rfl) ?_
        refine WL_step rfl rfl (r_assign rfl) ?_
        refine WL_nil ?_
        exact thn_nrm (Exists.intro (k + 1) ⟨⟨E, (by omega), (take_eq_succ _ht _hy19 _hy23 (Pair.inj _h25))⟩, Sub.cons rfl (Sub.cons rfl (Sub.cons rfl (Sub.cons rfl (Sub.cons rfl (Sub.cons rfl (Sub.cons rfl (Sub.cons rfl (Sub.nil _)))))))), (by first | omega | (dsimp only; omega))⟩)
    · have _h14 := bf_d _h14
      refine W_exit (thn_exit (thn_exit (inB_hit ?_)))
      refine thn_nrm (_hK_5 _ _ ?_)
      refine W_seq fun _K_16 _hK_16 => ?_
      refine W_region ?_
      refine WL_step rfl rfl (r_assign rfl) ?_
      refine WL_nil ?_
      refine thn_nrm (_hK_16 _ _ ?_)
      refine W_ret ?_
      exact ret_intro [_] ⟨rfl, trivial⟩ ⟨congrArg Value.bool (decide_eq_true (eq_of_take _ht (by omega) (by omega))).symm, E⟩

/-- laws.FnExactEqualPairs -/
theorem c_laws_FnExactEqualPairs {w : World} {_B_a : Nat} {_v_a : Value} {a : List Pair} (_h_a : Ls Pair.cs 2 w _B_a _v_a a) {_B_b : Nat} {_v_b : Value} {b : List Pair} (_h_b : Ls Pair.cs 2 w _B_b _v_b b) :
    Ctr Try.prog 3 #[_v_a, _v_b] w (fun v w' => v = .bool (true) ∧ Ch [] w w') := by
  obtain ⟨_A_a, _C_a, _e1_a⟩ := _h_a.val
  subst _e1_a
  have _l_a := _h_a.len
  have _h_a := _h_a.here (by decide)
  obtain ⟨_A_b, _C_b, _e1_b⟩ := _h_b.val
  subst _e1_b
  have _l_b := _h_b.len
  have _h_b := _h_b.here (by decide)
  have E := Ch.refl [] w
  refine Ctr_of_W (N := 45) (vs0 := [(.slice _A_a a.length _C_a), (.slice _A_b b.length _C_b)]) Try.func3 rfl rfl rfl ?_
  refine W_seq fun _K_1 _hK_1 => ?_
  refine W_region ?_
  refine WL_step rfl rfl (r_assign rfl) ?_
  refine WL_nil ?_
  refine thn_nrm (_hK_1 _ _ ?_)
  refine W_seq fun _K_2 _hK_2 => ?_
  refine W_region ?_
  refine WL_step rfl rfl (r_assign rfl) ?_
  refine WL_nil ?_
  refine thn_nrm (_hK_2 _ _ ?_)
  refine W_seq fun _K_3 _hK_3 => ?_
  refine W_region ?_
  refine WL_step rfl rfl (r_move rfl) ?_
  refine WL_step rfl rfl (r_move rfl) ?_
  refine WL_s rfl rfl ?_
  refine Step.call (r_call (xs := [.tmp 10, .tmp 11]) fk10 rfl) (c_laws_szPairS _h_a _ (by omega) (by omega)) fun _v12 _w_4 _q12 => ?_
  obtain ⟨rfl, _cw_4⟩ := _q12
  have _cw_4z := _cw_4.size
  have E := E.trans _cw_4
  refine WL_step rfl rfl (r_assign rfl) ?_
  refine WL_nil ?_
  refine thn_nrm (_hK_3 _ _ ?_)
  refine W_seq fun _K_5 _hK_5 => ?_
  refine W_seq fun _K_6 _hK_6 => ?_
  refine W_region ?_
  refine WL_step rfl rfl (r_move rfl) ?_
  refine WL_step rfl rfl (r_lss rfl rfl) ?_
  refine WL_nil ?_
  refine thn_nrm (_hK_6 _ _ ?_)
  refine W_cond rfl (fun _h14 => ?_) (fun _h14 => ?_)
  · have _h14 := bt_d _h14
    refine W_seq fun _K_7 _hK_7 => ?_
    refine W_region ?_
    refine WL_step rfl rfl (r_assign rfl) ?_
    refine WL_nil ?_
    refine thn_nrm (_hK_7 _ _ ?_)
    refine W_ret (thn_ret ?_)
    exact ret_intro [_] ⟨rfl, trivial⟩ ⟨congrArg Value.bool (by first | rfl | (exfalso; simp_all; done) | (exfalso; omega)), E⟩
  · have _h14 := bf_d _h14
    refine W_skip ?_
    refine thn_nrm (_hK_5 _ _ ?_)
    refine W_seq fun _K_8 _hK_8 => ?_
    refine W_region ?_
    refine WL_step rfl rfl (r_move rfl) ?_
    refine WL_step rfl rfl (r_move rfl) ?_
    refine WL_s rfl rfl ?_
    have _f_9 := (_h_b.ch0 _cw_4)
    refine Step.call (r_call (xs := [.tmp 15, .tmp 16]) fk10 rfl) (c_laws_szPairS _f_9 _ (by omega) (by omega)) fun _v17 _w_10 _q17 => ?_
    obtain ⟨rfl, _cw_10⟩ := _q17
    have _cw_10z := _cw_10.size
    have E := E.trans _cw_10
    refine WL_step rfl rfl (r_assign rfl) ?_
    refine WL_nil ?_
    refine thn_nrm (_hK_8 _ _ ?_)
    refine W_seq fun _K_11 _hK_11 => ?_
    refine W_seq fun _K_12 _hK_12 => ?_
    refine W_region ?_
    refine WL_step rfl rfl (r_move rfl) ?_
    refine WL_step rfl rfl (r_lss rfl rfl) ?_
    refine WL_nil ?_
    refine thn_nrm (_hK_12 _ _ ?_)
    refine W_cond rfl (fun _h19 => ?_) (fun _h19 => ?_)
    · have _h19 := bt_d _h19
      refine W_seq fun _K_13 _hK_13 => ?_
      refine W_region ?_
      refine WL_step rfl rfl (r_assign rfl) ?_
      refine WL_nil ?_
      refine thn_nrm (_hK_13 _ _ ?_)
      refine W_ret (thn_ret ?_)
      exact ret_intro [_] ⟨rfl, trivial⟩ ⟨congrArg Value.bool (by first | rfl | (exfalso; simp_all; done) | (exfalso; omega)), E⟩
    · have _h19 := bf_d _h19
      refine W_skip ?_
      refine thn_nrm (_hK_11 _ _ ?_)
      refine W_seq fun _K_14 _hK_14 => ?_
      refine W_region ?_
      refine WL_step rfl rfl (r_move rfl) ?_
      refine WL_s rfl rfl ?_
      have _f_15 := ((_h_a.ch0 _cw_4).ch0 _cw_10)
      refine Step.call (r_call (xs := [.tmp 20]) fk12 rfl) (c_laws_toPairS _f_15 (by omega)) fun _v21 _w_16 _q21 => ?_
      obtain ⟨_q21, _lo21, _cw_16⟩ := _q21
      have _cw_16z := _cw_16.size
      have E := E.trans _cw_16
      obtain ⟨_Av21, _Cv21, _ev21⟩ := _q21.val
      subst _ev21
      have _lv21 := _q21.len
      refine WL_step rfl rfl (r_move rfl) ?_
      refine WL_s rfl rfl ?_
      have _f_17 := ((_f_9.ch0 _cw_10).ch0 _cw_16)
      refine Step.call (r_call (xs := [.tmp 22]) fk12 rfl) (c_laws_toPairS _f_17 (by omega)) fun _v23 _w_18 _q23 => ?_
      obtain ⟨_q23, _lo23, _cw_18⟩ := _q23
      have _cw_18z := _cw_18.size
      have E := E.trans _cw_18
      obtain ⟨_Av23, _Cv23, _ev23⟩ := _q23.val
      subst _ev23
      have _lv23 := _q23.len
      refine WL_s rfl rfl ?_
      have _f_19 := (_q21.ch0 _cw_18)
      refine Step.call (r_call (xs := [.tmp 21, .tmp 23]) fk11 rfl) (c_spec_EqualPairs _f_19.ls _q23.ls ) fun _v24 _w_20 _q24 => ?_
      obtain ⟨rfl, _cw_20⟩ := _q24
      have _cw_20z := _cw_20.size
      have E := E.trans _cw_20
      refine WL_step rfl rfl (r_assign rfl) ?_
      refine WL_nil ?_
      refine thn_nrm (_hK_14 _ _ ?_)
      refine W_seq fun _K_21 _hK_21 => ?_
      refine W_region ?_
      refine WL_step rfl rfl (r_move rfl) ?_
      refine WL_s rfl rfl ?_
      have _f_22 := (((_f_15.ch0 _cw_16).ch0 _cw_18).ch0 _cw_20)
      refine Step.call (r_call (xs := [.tmp 25]) fk12 rfl) (c_laws_toPairS _f_22 (by omega)) fun _v26 _w_23 _q26 => ?_
      obtain ⟨_q26, _lo26, _cw_23⟩ := _q26
      have _cw_23z := _cw_23.size
      have E := E.trans _cw_23
      obtain ⟨_Av26, _Cv26, _ev26⟩ := _q26.val
      subst _ev26
      have _lv26 := _q26.len
      refine WL_step rfl rfl (r_assign rfl) ?_
      refine WL_nil ?_
      refine thn_nrm (_hK_21 _ _ ?_)
      refine W_seq fun _K_24 _hK_24 => ?_
      refine W_region ?_
      refine WL_step rfl rfl (r_move rfl) ?_
      refine WL_s rfl rfl ?_
      have _f_25 := (((_f_17.ch0 _cw_18).ch0 _cw_20).ch0 _cw_23)
      refine Step.call (r_call (xs := [.tmp 27]) fk12 rfl) (c_laws_toPairS _f_25 (by omega)) fun _v28 _w_26 _q28 => ?_
      obtain ⟨_q28, _lo28, _cw_26⟩ := _q28
      have _cw_26z := _cw_26.size
      have E := E.trans _cw_26
      obtain ⟨_Av28, _Cv28, _ev28⟩ := _q28.val
      subst _ev28
      have _lv28 := _q28.len
      refine WL_step rfl rfl (r_assign rfl) ?_
      refine WL_nil ?_
      refine thn_nrm (_hK_24 _ _ ?_)
      refine W_seq fun _K_27 _hK_27 => ?_
      refine W_region ?_
      refine WL_step rfl rfl (r_move rfl) ?_
      refine WL_step rfl rfl (r_move rfl) ?_
      refine WL_s rfl rfl ?_
      have _f_28 := (_q26.ch0 _cw_26)
      refine Step.call (r_call (xs := [.tmp 29, .tmp 30]) fk13 rfl) (c_impl_EqualPairs _f_28.ls _q28.ls ) fun _v31 _w_29 _q31 => ?_
      obtain ⟨rfl, _cw_29⟩ := _q31
      have _cw_29z := _cw_29.size
      have E := E.trans _cw_29
      refine WL_step rfl rfl (r_assign rfl) ?_
      refine WL_nil ?_
      refine thn_nrm (_hK_27 _ _ ?_)
      refine W_seq fun _K_30 _hK_30 => ?_
      refine W_seq fun _K_31 _hK_31 => ?_
      refine W_region ?_
      refine WL_step rfl rfl (r_move rfl) ?_
      refine WL_step rfl rfl (r_move rfl) ?_
      refine WL_step rfl rfl (r_neqB un4 rfl rfl) ?_
      refine WL_nil ?_
      refine thn_nrm (_hK_31 _ _ ?_)
      refine W_cond rfl (fun _h34 => ?_) (fun _h34 => ?_)
      · have _h34 := bf_e (bt_n _h34)
        refine W_seq fun _K_32 _hK_32 => ?_
        refine W_region ?_
        refine WL_step rfl rfl (r_assign rfl) ?_
        refine WL_nil ?_
        refine thn_nrm (_hK_32 _ _ ?_)
        refine W_ret (thn_ret ?_)
        exact ret_intro [_] ⟨rfl, trivial⟩ ⟨congrArg Value.bool (by first | rfl | (exfalso; simp_all; done) | (exfalso; omega)), E⟩
      · have _h34 := bt_e (bf_n _h34)
        refine W_skip ?_
        refine thn_nrm (_hK_30 _ _ ?_)
        refine W_seq fun _K_33 _hK_33 => ?_
        refine W_seq fun _K_34 _hK_34 => ?_
        refine W_region ?_
        refine WL_step rfl rfl (r_move rfl) ?_
        refine WL_step rfl rfl (r_move rfl) ?_
        refine WL_s rfl rfl ?_
        have _f_35 := (((_f_22.ch0 _cw_23).ch0 _cw_26).ch0 _cw_29)
        refine Step.call (r_call (xs := [.tmp 36]) fk12 rfl) (c_laws_toPairS _f_35 (by omega)) fun _v37 _w_36 _q37 => ?_
        obtain ⟨_q37, _lo37, _cw_36⟩ := _q37
        have _cw_36z := _cw_36.size
        have E := E.trans _cw_36
        obtain ⟨_Av37, _Cv37, _ev37⟩ := _q37.val
        subst _ev37
        have _lv37 := _q37.len
        refine WL_s rfl rfl ?_
        have _f_37 := ((_f_28.ch0 _cw_29).ch0 _cw_36)
        refine Step.call (r_call (xs := [.tmp 35, .tmp 37]) fk14 rfl) (c_laws_eqPairS _f_37.ls _q37.ls ) fun _v38 _w_38 _q38 => ?_
        obtain ⟨rfl, _cw_38⟩ := _q38
        have _cw_38z := _cw_38.size
        have E := E.trans _cw_38
        refine WL_step rfl rfl (r_not rfl) ?_
        refine WL_nil ?_
        refine thn_nrm (_hK_34 _ _ ?_)
        refine W_cond rfl (fun _h39 => ?_) (fun _h39 => ?_)
        · have _h39 := bf_d (bt_n _h39)
          refine W_seq fun _K_39 _hK_39 => ?_
          refine W_region ?_
          refine WL_step rfl rfl (r_assign rfl) ?_
          refine WL_nil ?_
          refine thn_nrm (_hK_39 _ _ ?_)
          refine W_ret (thn_ret ?_)
          exact ret_intro [_] ⟨rfl, trivial⟩ ⟨congrArg Value.bool (by first | rfl | (exfalso; simp_all; done) | (exfalso; omega)), E⟩
        · have _h39 := bt_d (bf_n _h39)
          refine W_skip ?_
          refine thn_nrm (_hK_33 _ _ ?_)
          refine W_seq fun _K_40 _hK_40 => ?_
          refine W_seq fun _K_41 _hK_41 => ?_
          refine W_region ?_
          refine WL_step rfl rfl (r_move rfl) ?_
          refine WL_step rfl rfl (r_move rfl) ?_
          refine WL_s rfl rfl ?_
          have _f_42 := ((((_f_25.ch0 _cw_26).ch0 _cw_29).ch0 _cw_36).ch0 _cw_38)
          refine Step.call (r_call (xs := [.tmp 41]) fk12 rfl) (c_laws_toPairS _f_42 (by omega)) fun _v42 _w_43 _q42 => ?_
          obtain ⟨_q42, _lo42, _cw_43⟩ := _q42
          have _cw_43z := _cw_43.size
          have E := E.trans _cw_43
          obtain ⟨_Av42, _Cv42, _ev42⟩ := _q42.val
          subst _ev42
          have _lv42 := _q42.len
          refine WL_s rfl rfl ?_
          have _f_44 := ((((_q28.ch0 _cw_29).ch0 _cw_36).ch0 _cw_38).ch0 _cw_43)
          refine Step.call (r_call (xs := [.tmp 40, .tmp 42]) fk14 rfl) (c_laws_eqPairS _f_44.ls _q42.ls ) fun _v43 _w_45 _q43 => ?_
          obtain ⟨rfl, _cw_45⟩ := _q43
          have _cw_45z := _cw_45.size
          have E := E.trans _cw_45
          refine WL_step rfl rfl (r_not rfl) ?_
          refine WL_nil ?_
          refine thn_nrm (_hK_41 _ _ ?_)
          refine W_cond rfl (fun _h44 => ?_) (fun _h44 => ?_)
          · have _h44 := bf_d (bt_n _h44)
            refine W_seq fun _K_46 _hK_46 => ?_
            refine W_region ?_
            refine WL_step rfl rfl (r_assign rfl) ?_
            refine WL_nil ?_
            refine thn_nrm (_hK_46 _ _ ?_)
            refine W_ret (thn_ret ?_)
            exact ret_intro [_] ⟨rfl, trivial⟩ ⟨congrArg Value.bool (by first | rfl | (exfalso; simp_all; done) | (exfalso; omega)), E⟩
          · have _h44 := bt_d (bf_n _h44)
            refine W_skip ?_
            refine thn_nrm (_hK_40 _ _ ?_)
            refine W_seq fun _K_47 _hK_47 => ?_
            refine W_region ?_
            refine WL_step rfl rfl (r_assign rfl) ?_
            refine WL_nil ?_
            refine thn_nrm (_hK_47 _ _ ?_)
            refine W_ret ?_
            exact ret_intro [_] ⟨rfl, trivial⟩ ⟨congrArg Value.bool (by first | rfl | (exfalso; simp_all; done) | (exfalso; omega)), E⟩

end Go.Proofs.Ytiadcghbjphchaa
