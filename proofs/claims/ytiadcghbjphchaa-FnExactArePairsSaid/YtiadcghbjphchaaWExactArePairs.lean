/- The walks of all functions that FnExactArePairs reaches: what each returns, and that it leaves the memory that was there alone. -/
import Derived.Test.YtiadcghbjphchaaKF
import Derived.Test.YtiadcghbjphchaaKG
import Derived.Test.YtiadcghbjphchaaKH
import Derived.Test.YtiadcghbjphchaaProg
namespace Go.Proofs.Ytiadcghbjphchaa
open Go.KLib
set_option maxRecDepth 20000
theorem agg3 : aggB Try.prog 3 = some false := by kernel_rfl
theorem agg57 : aggB Try.prog 57 = some true := by kernel_rfl
theorem agg59 : aggB Try.prog 59 = some true := by kernel_rfl
theorem by57 : bytesB Try.prog 57 = some 16 := by kernel_rfl
theorem el22 : elB Try.prog 22 = some 59 := by kernel_rfl
theorem el25 : elB Try.prog 25 = some 57 := by kernel_rfl
theorem fa57_0 : faB Try.prog 57 0 = some 0 := by kernel_rfl
theorem fa57_1 : faB Try.prog 57 1 = some 1 := by kernel_rfl
theorem fa59_0 : faB Try.prog 59 0 = some 0 := by kernel_rfl
theorem fa59_1 : faB Try.prog 59 1 = some 1 := by kernel_rfl
theorem fk10 : fnB Try.prog 10 = true := by kernel_rfl
theorem fk12 : fnB Try.prog 12 = true := by kernel_rfl
theorem fk14 : fnB Try.prog 14 = true := by kernel_rfl
theorem fk15 : fnB Try.prog 15 = true := by kernel_rfl
theorem fk16 : fnB Try.prog 16 = true := by kernel_rfl
theorem fk35 : fnB Try.prog 35 = true := by kernel_rfl
theorem fk37 : fnB Try.prog 37 = true := by kernel_rfl
theorem fk38 : fnB Try.prog 38 = true := by kernel_rfl
theorem fk39 : fnB Try.prog 39 = true := by kernel_rfl
theorem fk40 : fnB Try.prog 40 = true := by kernel_rfl
theorem fk41 : fnB Try.prog 41 = true := by kernel_rfl
theorem fk59 : fnB Try.prog 59 = true := by kernel_rfl
theorem mixed : Try.prog.follows .mixedOrders = true := by kernel_rfl
theorem sz3 : sizeB Try.prog 3 = some 1 := by kernel_rfl
theorem sz57 : sizeB Try.prog 57 = some 2 := by kernel_rfl
theorem sz59 : sizeB Try.prog 59 = some 2 := by kernel_rfl
theorem un4 : Try.prog.underlying 4 = some (.bool) := by kernel_rfl
theorem zr57 : zeroB Try.prog 57 = some (.agg #[.int .i64 0, .int .i64 0]) := by kernel_rfl

/-- impl.compareInts -/
theorem c_impl_compareInts {w : World} (a : Int) (b : Int) :
    Ctr Try.prog 59 #[(.int .i64 a), (.int .i64 b)] w (fun v w' => v = .int .i64 (cmpI a b) ∧ Ch [] w w') := by
  have E := Ch.refl [] w
  refine Ctr_of_W (N := 13) (vs0 := [(.int .i64 a), (.int .i64 b)]) Try.func59 rfl rfl rfl ?_
  refine W_seq fun _K_1 _hK_1 => ?_
  refine W_region ?_
  refine WL_step rfl rfl (r_assign rfl) ?_
  refine WL_nil ?_
  refine thn_nrm (_hK_1 _ _ ?_)
  clear _hK_1
  refine W_seq fun _K_2 _hK_2 => ?_
  refine W_block ?_
  refine W_seq fun _K_3 _hK_3 => ?_
  refine W_region ?_
  refine WL_step rfl rfl (r_move rfl) ?_
  refine WL_step rfl rfl (r_move rfl) ?_
  refine WL_step rfl rfl (r_lss rfl rfl) ?_
  refine WL_step rfl rfl (r_assign rfl) ?_
  refine WL_nil ?_
  refine thn_nrm (_hK_3 _ _ ?_)
  clear _hK_3
  refine W_cond rfl (fun _h5 => ?_) (fun _h5 => ?_)
  · have _h5 := bt_d _h5
    refine W_seq fun _K_4 _hK_4 => ?_
    refine W_region ?_
    refine WL_step rfl rfl (r_assign rfl) ?_
    refine WL_nil ?_
    refine thn_nrm (_hK_4 _ _ ?_)
    clear _hK_4
    refine W_ret (inB_ret (thn_ret ?_))
    clear _hK_2
    exact ret_intro [_] ⟨rfl, trivial⟩ ⟨congrArg (Value.int .i64) (by unfold cmpI; repeat (first | rw [if_pos (by omega)] | rw [if_neg (by omega)])), E⟩
  · have _h5 := bf_d _h5
    refine W_seq fun _K_5 _hK_5 => ?_
    refine W_region ?_
    refine WL_step rfl rfl (r_move rfl) ?_
    refine WL_step rfl rfl (r_move rfl) ?_
    refine WL_step rfl rfl (r_gtr rfl rfl) ?_
    refine WL_step rfl rfl (r_assign rfl) ?_
    refine WL_nil ?_
    refine thn_nrm (_hK_5 _ _ ?_)
    clear _hK_5
    refine W_cond rfl (fun _h9 => ?_) (fun _h9 => ?_)
    · have _h9 := bt_d _h9
      refine W_seq fun _K_6 _hK_6 => ?_
      refine W_region ?_
      refine WL_step rfl rfl (r_assign rfl) ?_
      refine WL_nil ?_
      refine thn_nrm (_hK_6 _ _ ?_)
      clear _hK_6
      refine W_ret (inB_ret (thn_ret ?_))
      clear _hK_2
      exact ret_intro [_] ⟨rfl, trivial⟩ ⟨congrArg (Value.int .i64) (by unfold cmpI; repeat (first | rw [if_pos (by omega)] | rw [if_neg (by omega)])), E⟩
    · have _h9 := bf_d _h9
      refine W_skip ?_
      refine inB_nrm ?_
      refine thn_nrm (_hK_2 _ _ ?_)
      clear _hK_2
      refine W_seq fun _K_7 _hK_7 => ?_
      refine W_region ?_
      refine WL_step rfl rfl (r_assign rfl) ?_
      refine WL_nil ?_
      refine thn_nrm (_hK_7 _ _ ?_)
      clear _hK_7
      refine W_ret ?_
      exact ret_intro [_] ⟨rfl, trivial⟩ ⟨congrArg (Value.int .i64) (by unfold cmpI; repeat (first | rw [if_pos (by omega)] | rw [if_neg (by omega)])), E⟩

/-- impl.comparePairs -/
theorem c_impl_comparePairs {w : World} (a : Pair) (b : Pair) :
    Ctr Try.prog 41 #[(.agg #[(.int .i64 a.f), (.int .i64 a.t)]), (.agg #[(.int .i64 b.f), (.int .i64 b.t)])] w (fun v w' => v = .int .i64 (cmpP a b) ∧ Ch [] w w') := by
  have E := Ch.refl [] w
  refine Ctr_of_W (N := 20) (vs0 := [(.agg #[(.int .i64 a.f), (.int .i64 a.t)]), (.agg #[(.int .i64 b.f), (.int .i64 b.t)])]) Try.func41 rfl rfl rfl ?_
  refine W_seq fun _K_1 _hK_1 => ?_
  refine W_region ?_
  refine WL_s rfl rfl ?_
  refine s_box rfl fun _b2 _w_2 _m2 _cw_2 _e2 => ?_
  have _cw_2z := _cw_2.size
  have E := E.trans _cw_2
  have _z2 := _m2.lt
  replace _m2 : Blk _w_2 _b2 57 [(.int .i64 a.f), (.int .i64 a.t)] := _m2
  refine WL_s rfl rfl ?_
  refine s_box rfl fun _b3 _w_3 _m3 _cw_3 _e3 => ?_
  have _cw_3z := _cw_3.size
  have E := E.trans _cw_3
  have _z3 := _m3.lt
  replace _m3 : Blk _w_3 _b3 57 [(.int .i64 b.f), (.int .i64 b.t)] := _m3
  refine WL_step rfl rfl (r_assign rfl) ?_
  refine WL_nil ?_
  refine thn_nrm (_hK_1 _ _ ?_)
  clear _hK_1
  refine W_seq fun _K_4 _hK_4 => ?_
  refine W_seq fun _K_5 _hK_5 => ?_
  refine W_region ?_
  refine WL_step rfl rfl (r_fieldAddr fa57_0 rfl) ?_
  have _f_6 := (_m2.ch0 _cw_3)
  refine WL_step rfl rfl (r_loadAt _f_6.at_ agg3 rfl rfl) ?_
  refine WL_step rfl rfl (r_fieldAddr fa57_0 rfl) ?_
  refine WL_step rfl rfl (r_loadAt _m3.at_ agg3 rfl rfl) ?_
  refine WL_step rfl rfl (r_neq rfl rfl) ?_
  refine WL_nil ?_
  refine thn_nrm (_hK_5 _ _ ?_)
  clear _hK_5
  refine W_cond rfl (fun _h9 => ?_) (fun _h9 => ?_)
  · have _h9 := bf_d (bt_n _h9)
    refine W_seq fun _K_7 _hK_7 => ?_
    refine W_region ?_
    refine WL_step rfl rfl (r_fieldAddr fa57_0 rfl) ?_
    refine WL_step rfl rfl (r_loadAt _f_6.at_ agg3 rfl rfl) ?_
    refine WL_step rfl rfl (r_fieldAddr fa57_0 rfl) ?_
    refine WL_step rfl rfl (r_loadAt _m3.at_ agg3 rfl rfl) ?_
    refine WL_s rfl rfl ?_
    refine Step.call (r_call (xs := [.tmp 11, .tmp 13]) fk59 rfl) (c_impl_compareInts _ _ ) fun _v14 _w_8 _q14 => ?_
    obtain ⟨rfl, _cw_8⟩ := _q14
    have _cw_8z := _cw_8.size
    have E := E.trans _cw_8
    refine WL_step rfl rfl (r_assign rfl) ?_
    refine WL_nil ?_
    refine thn_nrm (_hK_7 _ _ ?_)
    clear _hK_7
    refine W_ret (thn_ret ?_)
    clear _hK_4
    exact ret_intro [_] ⟨rfl, trivial⟩ ⟨congrArg (Value.int .i64) (by unfold cmpP; rw [if_neg _h9]), E⟩
  · have _h9 := bt_d (bf_n _h9)
    refine W_skip ?_
    refine thn_nrm (_hK_4 _ _ ?_)
    clear _hK_4
    refine W_seq fun _K_9 _hK_9 => ?_
    refine W_region ?_
    refine WL_step rfl rfl (r_fieldAddr fa57_1 rfl) ?_
    refine WL_step rfl rfl (r_loadAt _f_6.at_ agg3 rfl rfl) ?_
    refine WL_step rfl rfl (r_fieldAddr fa57_1 rfl) ?_
    refine WL_step rfl rfl (r_loadAt _m3.at_ agg3 rfl rfl) ?_
    refine WL_s rfl rfl ?_
    refine Step.call (r_call (xs := [.tmp 16, .tmp 18]) fk59 rfl) (c_impl_compareInts _ _ ) fun _v19 _w_10 _q19 => ?_
    obtain ⟨rfl, _cw_10⟩ := _q19
    have _cw_10z := _cw_10.size
    have E := E.trans _cw_10
    refine WL_step rfl rfl (r_assign rfl) ?_
    refine WL_nil ?_
    refine thn_nrm (_hK_9 _ _ ?_)
    clear _hK_9
    refine W_ret ?_
    exact ret_intro [_] ⟨rfl, trivial⟩ ⟨congrArg (Value.int .i64) (by unfold cmpP; rw [if_pos _h9]), E⟩

/-- impl.within -/
theorem c_impl_within {w : World} (n : Int) (a : Int) (b : Int) :
    Ctr Try.prog 40 #[(.int .i64 n), (.int .i64 a), (.int .i64 b)] w (fun v w' => v = .bool (decide (a ≤ n ∧ n ≤ b)) ∧ Ch [] w w') := by
  have E := Ch.refl [] w
  refine Ctr_of_W (N := 15) (vs0 := [(.int .i64 n), (.int .i64 a), (.int .i64 b)]) Try.func40 rfl rfl rfl ?_
  refine W_seq fun _K_1 _hK_1 => ?_
  refine W_region ?_
  refine WL_step rfl rfl (r_assign rfl) ?_
  refine WL_nil ?_
  refine thn_nrm (_hK_1 _ _ ?_)
  clear _hK_1
  refine W_seq fun _K_2 _hK_2 => ?_
  refine W_region ?_
  refine WL_step rfl rfl (r_move rfl) ?_
  refine WL_step rfl rfl (r_move rfl) ?_
  refine WL_step rfl rfl (r_geq rfl rfl) ?_
  refine WL_step rfl rfl (r_move rfl) ?_
  refine WL_split (d := 10) rfl (fun _h10 => ?_) (fun _h10 => ?_)
  · have _h10 := bt_d _h10
    refine WL_step rfl rfl (r_move rfl) ?_
    refine WL_step rfl rfl (r_move rfl) ?_
    refine WL_step rfl rfl (r_leq rfl rfl) ?_
    refine WL_step rfl rfl (r_pickT rfl rfl) ?_
    refine WL_step rfl rfl (r_assign rfl) ?_
    refine WL_nil ?_
    refine thn_nrm (_hK_2 _ _ ?_)
    clear _hK_2
    refine W_ret ?_
    exact ret_intro [_] ⟨rfl, trivial⟩ ⟨congrArg Value.bool (by first | rfl | (rw [Bool.eq_iff_iff]; simp <;> omega) | (rw [Bool.eq_iff_iff]; simp_all; done) | simp_all), E⟩
  · have _h10 := bf_d _h10
    refine WL_skip rfl rfl ?_
    refine WL_skip rfl rfl ?_
    refine WL_skip rfl rfl ?_
    refine WL_step rfl rfl (r_pickF rfl rfl) ?_
    refine WL_step rfl rfl (r_assign rfl) ?_
    refine WL_nil ?_
    refine thn_nrm (_hK_2 _ _ ?_)
    clear _hK_2
    refine W_ret ?_
    exact ret_intro [_] ⟨rfl, trivial⟩ ⟨congrArg Value.bool (by first | rfl | (rw [Bool.eq_iff_iff]; simp <;> omega) | (rw [Bool.eq_iff_iff]; simp_all; done) | simp_all), E⟩

/-- impl.ArePairs -/
theorem c_impl_ArePairs {w : World} {_B_l : Nat} {_v_l : Value} {l : List Pair} (_h_l : Ls Pair.cs 2 w _B_l _v_l l) :
    Ctr Try.prog 16 #[_v_l] w (fun v w' => v = .bool (tt (ArePairs l)) ∧ Ch [] w w') := by
  obtain ⟨_A_l, _C_l, _e1_l⟩ := _h_l.val
  subst _e1_l
  have _l_l := _h_l.len
  have _h_l := _h_l.here (by decide)
  have E := Ch.refl [] w
  refine Ctr_of_W (N := 37) (vs0 := [(.slice _A_l l.length _C_l)]) Try.func16 rfl rfl rfl ?_
  refine W_seq fun _K_1 _hK_1 => ?_
  refine W_region ?_
  refine WL_step rfl rfl (r_assign rfl) ?_
  refine WL_nil ?_
  refine thn_nrm (_hK_1 _ _ ?_)
  clear _hK_1
  refine W_seq fun _K_2 _hK_2 => ?_
  refine W_seq fun _K_3 _hK_3 => ?_
  refine W_region ?_
  refine WL_step rfl rfl (r_move rfl) ?_
  refine WL_step rfl rfl (r_len (by rw [el25]; rfl) rfl) ?_
  refine WL_step rfl rfl (r_move rfl) ?_
  refine WL_nil ?_
  refine thn_nrm (_hK_3 _ _ ?_)
  clear _hK_3
  refine W_block ?_
  refine W_loop (σ := Nat) (fun (k : Nat) => [(0, (.slice _A_l l.length _C_l)), (5, (.slice _A_l l.length _C_l)), (6, (.int .i64 ((l.length : Nat) : Int))), (7, (.int .i64 ((k : Nat) : Int)))]) (fun (k : Nat) wx => Ch [] w wx ∧ k ≤ l.length ∧ ArePP l k) (fun (k : Nat) => l.length - k) 0 (Sub.cons rfl (Sub.cons rfl (Sub.cons rfl (Sub.cons rfl (Sub.nil _))))) ⟨E, (by omega), (are_zero l)⟩ ?_
  rintro k _wr_4 ⟨E, _hk, _ht⟩
  have _E0h := E
  have _E0hz := _E0h.size
  refine W_seq fun _K_5 _hK_5 => ?_
  refine W_region ?_
  refine WL_step rfl rfl (r_lss rfl rfl) ?_
  refine WL_nil ?_
  refine thn_nrm (_hK_5 _ _ ?_)
  clear _hK_5
  refine W_seq fun _K_6 _hK_6 => ?_
  refine W_cond rfl (fun _h8 => ?_) (fun _h8 => ?_)
  · have _h8 := bt_d _h8
    refine W_skip ?_
    refine thn_nrm (_hK_6 _ _ ?_)
    clear _hK_6
    refine W_seq fun _K_7 _hK_7 => ?_
    refine W_block ?_
    refine W_seq fun _K_8 _hK_8 => ?_
    refine W_region ?_
    refine WL_step rfl rfl (r_move rfl) ?_
    refine WL_s rfl rfl ?_
    have _f_9 := (_h_l.ch0 _E0h)
    refine (s_index _f_9 Pair.len el25 sz57 rfl rfl rfl (by omega) fun _p10 _y10 _hy10 _a10 => ?_)
    refine WL_step rfl rfl (r_loadAtA0 _a10 agg57 sz57 rfl) ?_
    refine WL_s rfl rfl ?_
    refine s_alloc zr57 fun _b4 _w_10 _m4 _cw_10 _e4 => ?_
    have _cw_10z := _cw_10.size
    have E := E.trans _cw_10
    have _z4 := _m4.lt
    replace _m4 : Blk _w_10 _b4 57 [(.int .i64 0), (.int .i64 0)] := _m4
    refine WL_step rfl rfl (r_assign rfl) ?_
    refine WL_s rfl rfl ?_
    refine s_storeA (off := 0) 2 _m4 sz57 rfl (us := [(.int .i64 _y10.f), (.int .i64 _y10.t)]) rfl rfl rfl rfl fun _w_11 _m_12 _cw_11 => ?_
    have _cw_11z := _cw_11.size
    have E := E.step _cw_11 (fun i hi => .inl (by have _h1 := List.mem_singleton.1 hi; omega))
    replace _m_12 : Blk _w_11 _b4 57 [(.int .i64 _y10.f), (.int .i64 _y10.t)] := _m_12
    refine WL_nil ?_
    refine thn_nrm (_hK_8 _ _ ?_)
    clear _hK_8
    refine W_seq fun _K_13 _hK_13 => ?_
    refine W_drawC [] 24 mixed rfl fun _w_14 _cw_14 => ?_
    have _cw_14z := _cw_14.size
    have E := E.trans _cw_14
    refine DR_s 0 rfl (by kernel_rfl) rfl rfl (t_v (fun _ => (r_fieldAddr fa57_0 rfl)) ?_)
    have _f_15 := (_m_12.ch0 _cw_14)
    refine DR_s 1 rfl (by kernel_rfl) rfl rfl (t_loadAt _f_15.at_ (fun i hi => by first | exact absurd hi (List.not_mem_nil) | (have _h1 := List.mem_singleton.1 hi; omega)) agg3 rfl rfl ?_)
    refine DR_one 2 (by kernel_rfl) ?_
    refine DO_s rfl rfl rfl ?_
    refine Step.call (r_call (xs := [.tmp 13, .const (Go.Value.int Go.IntKind.i64 0), .const (Go.Value.int Go.IntKind.i64 4)]) fk40 rfl) (c_impl_within _ _ _ ) fun _v14 _w_16 _q14 => ?_
    obtain ⟨rfl, _cw_16⟩ := _q14
    have _cw_16z := _cw_16.size
    have E := E.trans _cw_16
    have _S_17 : Ch [] _w_14 _w_16 := ((Ch.refl _ _).trans _cw_16.of_nil)
    refine ⟨_S_17, ?_⟩
    refine DR_s 3 rfl (by kernel_rfl) rfl rfl (t_v (fun _ => (r_not rfl)) ?_)
    refine DR_s 4 rfl (by kernel_rfl) rfl rfl (t_v (fun _ => (r_move rfl)) ?_)
    refine DR_split (d := 16) rfl (fun _h16 => ?_) (fun _h16 => ?_)
    · have _h16 := bf_d (bt_n _h16)
      refine DR_skip 5 rfl (by kernel_rfl) rfl rfl ?_
      refine DR_skip 6 rfl (by kernel_rfl) rfl rfl ?_
      refine DR_skip 7 rfl (by kernel_rfl) rfl rfl ?_
      refine DR_skip 8 rfl (by kernel_rfl) rfl rfl ?_
      refine DR_s 9 rfl (by kernel_rfl) rfl rfl (t_v (fun _ => (r_pickT rfl rfl)) ?_)
      refine DR_s 10 rfl (by kernel_rfl) rfl rfl (t_v (fun _ => (r_move rfl)) ?_)
      refine DR_skip 11 rfl (by kernel_rfl) rfl rfl ?_
      refine DR_skip 12 rfl (by kernel_rfl) rfl rfl ?_
      refine DR_skip 13 rfl (by kernel_rfl) rfl rfl ?_
      refine DR_skip 14 rfl (by kernel_rfl) rfl rfl ?_
      refine DR_skip 15 rfl (by kernel_rfl) rfl rfl ?_
      refine DR_skip 16 rfl (by kernel_rfl) rfl rfl ?_
      refine DR_skip 17 rfl (by kernel_rfl) rfl rfl ?_
      refine DR_skip 18 rfl (by kernel_rfl) rfl rfl ?_
      refine DR_skip 19 rfl (by kernel_rfl) rfl rfl ?_
      refine DR_skip 20 rfl (by kernel_rfl) rfl rfl ?_
      refine DR_skip 21 rfl (by kernel_rfl) rfl rfl ?_
      refine DR_skip 22 rfl (by kernel_rfl) rfl rfl ?_
      refine DR_s 23 rfl (by kernel_rfl) rfl rfl (t_v (fun _ => (r_pickT rfl rfl)) ?_)
      refine DR_done (by kernel_rfl) ?_
      refine thn_nrm (_hK_13 _ _ ?_)
      clear _hK_13
      refine W_condT rfl ?_
      refine W_seq fun _K_18 _hK_18 => ?_
      refine W_region ?_
      refine WL_step rfl rfl (r_assign rfl) ?_
      refine WL_nil ?_
      refine thn_nrm (_hK_18 _ _ ?_)
      clear _hK_18
      refine W_ret (inB_ret (thn_ret (thn_ret (inB_ret (thn_ret ?_)))))
      clear _hK_2 _hK_7
      exact ret_intro [_] ⟨rfl, trivial⟩ ⟨congrArg Value.bool (tt_false (fun e => by first | (have _e2 := are_ok e _hy10; unfold okP at _e2; omega) | (have _e2 := are_ok e _hy10; unfold okP at _e2; omega) | (have _e2 := are_lt e (by omega) _hy29 _hy10; have _e3 := (cmpP_lt _ _).2 _e2; omega))), E⟩
    · have _h16 := bt_d (bf_n _h16)
      refine DR_s 5 rfl (by kernel_rfl) rfl rfl (t_v (fun _ => (r_fieldAddr fa57_1 rfl)) ?_)
      refine DR_s 6 rfl (by kernel_rfl) rfl rfl (t_loadAt _f_15.at_ (fun i hi => by first | exact absurd hi (List.not_mem_nil) | (have _h1 := List.mem_singleton.1 hi; omega)) agg3 rfl rfl ?_)
      refine DR_one 7 (by kernel_rfl) ?_
      refine DO_s rfl rfl rfl ?_
      refine Step.call (r_call (xs := [.tmp 18, .const (Go.Value.int Go.IntKind.i64 0), .const (Go.Value.int Go.IntKind.i64 4)]) fk40 rfl) (c_impl_within _ _ _ ) fun _v19 _w_19 _q19 => ?_
      obtain ⟨rfl, _cw_19⟩ := _q19
      have _cw_19z := _cw_19.size
      have E := E.trans _cw_19
      have _S_20 : Ch [] _w_14 _w_19 := (_S_17.trans _cw_19.of_nil)
      refine ⟨_S_20, ?_⟩
      refine DR_s 8 rfl (by kernel_rfl) rfl rfl (t_v (fun _ => (r_not rfl)) ?_)
      refine DR_s 9 rfl (by kernel_rfl) rfl rfl (t_v (fun _ => (r_pickF rfl rfl)) ?_)
      refine DR_s 10 rfl (by kernel_rfl) rfl rfl (t_v (fun _ => (r_move rfl)) ?_)
      refine DR_split (d := 22) rfl (fun _h22 => ?_) (fun _h22 => ?_)
      · have _h22 := bf_d (bt_n _h22)
        refine DR_skip 11 rfl (by kernel_rfl) rfl rfl ?_
        refine DR_skip 12 rfl (by kernel_rfl) rfl rfl ?_
        refine DR_skip 13 rfl (by kernel_rfl) rfl rfl ?_
        refine DR_skip 14 rfl (by kernel_rfl) rfl rfl ?_
        refine DR_skip 15 rfl (by kernel_rfl) rfl rfl ?_
        refine DR_skip 16 rfl (by kernel_rfl) rfl rfl ?_
        refine DR_skip 17 rfl (by kernel_rfl) rfl rfl ?_
        refine DR_skip 18 rfl (by kernel_rfl) rfl rfl ?_
        refine DR_skip 19 rfl (by kernel_rfl) rfl rfl ?_
        refine DR_skip 20 rfl (by kernel_rfl) rfl rfl ?_
        refine DR_skip 21 rfl (by kernel_rfl) rfl rfl ?_
        refine DR_skip 22 rfl (by kernel_rfl) rfl rfl ?_
        refine DR_s 23 rfl (by kernel_rfl) rfl rfl (t_v (fun _ => (r_pickT rfl rfl)) ?_)
        refine DR_done (by kernel_rfl) ?_
        refine thn_nrm (_hK_13 _ _ ?_)
        clear _hK_13
        refine W_condT rfl ?_
        refine W_seq fun _K_21 _hK_21 => ?_
        refine W_region ?_
        refine WL_step rfl rfl (r_assign rfl) ?_
        refine WL_nil ?_
        refine thn_nrm (_hK_21 _ _ ?_)
        clear _hK_21
        refine W_ret (inB_ret (thn_ret (thn_ret (inB_ret (thn_ret ?_)))))
        clear _hK_2 _hK_7
        exact ret_intro [_] ⟨rfl, trivial⟩ ⟨congrArg Value.bool (tt_false (fun e => by first | (have _e2 := are_ok e _hy10; unfold okP at _e2; omega) | (have _e2 := are_ok e _hy10; unfold okP at _e2; omega) | (have _e2 := are_lt e (by omega) _hy29 _hy10; have _e3 := (cmpP_lt _ _).2 _e2; omega))), E⟩
      · have _h22 := bt_d (bf_n _h22)
        refine DR_s 11 rfl (by kernel_rfl) rfl rfl (t_v (fun _ => (r_move rfl)) ?_)
        refine DR_s 12 rfl (by kernel_rfl) rfl rfl (t_v (fun _ => (r_gtr rfl rfl)) ?_)
        refine DR_s 13 rfl (by kernel_rfl) rfl rfl (t_v (fun _ => (r_move rfl)) ?_)
        refine DR_split (d := 25) rfl (fun _h25 => ?_) (fun _h25 => ?_)
        · have _h25 := bt_d _h25
          refine DR_s 14 rfl (by kernel_rfl) rfl rfl (t_v (fun _ => (r_move rfl)) ?_)
          refine DR_s 15 rfl (by kernel_rfl) rfl rfl (t_v (fun _ => (r_move rfl)) ?_)
          refine DR_s 16 rfl (by kernel_rfl) rfl rfl (t_v (fun _ => (r_sub (by omega) rfl rfl)) ?_)
          have _f_22 := (((_f_9.ch0 _cw_10).ch _cw_11 (fun i hi => by have _h1 := List.mem_singleton.1 hi; omega)).ch0 _cw_14)
          refine DR_s 17 rfl (by kernel_rfl) rfl rfl (t_index (j := (((k : Nat) : Int) - 1).toNat) _f_22 Pair.len el25 sz57 rfl rfl (by omega) (by omega) fun _p29 _y29 _hy29 _a29 => ?_)
          refine DR_s 18 rfl (by kernel_rfl) rfl rfl (t_loadAtA0 _a29 (fun i hi => by first | exact absurd hi (List.not_mem_nil) | (have _h1 := List.mem_singleton.1 hi; omega)) agg57 sz57 rfl ?_)
          refine DR_s 19 rfl (by kernel_rfl) rfl rfl (t_loadAtA0 _f_15.at_ (fun i hi => by first | exact absurd hi (List.not_mem_nil) | (have _h1 := List.mem_singleton.1 hi; omega)) agg57 sz57 rfl ?_)
          refine DR_one 20 (by kernel_rfl) ?_
          refine DO_s rfl rfl rfl ?_
          refine Step.call (r_call (xs := [.tmp 30, .tmp 31]) fk41 rfl) (c_impl_comparePairs _y29 _y10 ) fun _v32 _w_23 _q32 => ?_
          obtain ⟨rfl, _cw_23⟩ := _q32
          have _cw_23z := _cw_23.size
          have E := E.trans _cw_23
          have _S_24 : Ch [] _w_14 _w_23 := (_S_20.trans _cw_23.of_nil)
          refine ⟨_S_24, ?_⟩
          refine DR_s 21 rfl (by kernel_rfl) rfl rfl (t_v (fun _ => (r_geq rfl rfl)) ?_)
          refine DR_s 22 rfl (by kernel_rfl) rfl rfl (t_v (fun _ => (r_pickT rfl rfl)) ?_)
          refine DR_s 23 rfl (by kernel_rfl) rfl rfl (t_v (fun _ => (r_pickF rfl rfl)) ?_)
          refine DR_done (by kernel_rfl) ?_
          refine thn_nrm (_hK_13 _ _ ?_)
          clear _hK_13
          refine W_cond rfl (fun _h35 => ?_) (fun _h35 => ?_)
          · have _h35 := bt_d _h35
            refine W_seq fun _K_25 _hK_25 => ?_
            refine W_region ?_
            refine WL_step rfl rfl (r_assign rfl) ?_
            refine WL_nil ?_
            refine thn_nrm (_hK_25 _ _ ?_)
            clear _hK_25
            refine W_ret (inB_ret (thn_ret (thn_ret (inB_ret (thn_ret ?_)))))
            clear _hK_2 _hK_7
            exact ret_intro [_] ⟨rfl, trivial⟩ ⟨congrArg Value.bool (tt_false (fun e => by first | (have _e2 := are_ok e _hy10; unfold okP at _e2; omega) | (have _e2 := are_ok e _hy10; unfold okP at _e2; omega) | (have _e2 := are_lt e (by omega) _hy29 _hy10; have _e3 := (cmpP_lt _ _).2 _e2; omega))), E⟩
          · have _h35 := bf_d _h35
            refine W_skip ?_
            refine inB_nrm ?_
            refine thn_nrm (_hK_7 _ _ ?_)
            clear _hK_7
            refine W_region ?_
            refine WL_step rfl rfl (r_add (by omega) rfl rfl) ?_
            refine WL_step rfl rfl (r_move rfl) ?_
            refine WL_nil ?_
            exact thn_nrm (Exists.intro (k + 1) ⟨⟨E, (by omega), (by first | exact are_step _ht _hy10 ⟨_h16.1, _h16.2, _h22.1, _h22.2⟩ (fun j p hj => absurd hj (by omega)) | (refine are_step _ht _hy10 ⟨_h16.1, _h16.2, _h22.1, _h22.2⟩ (fun j p hj hp => ?_); obtain rfl : j = ((k : Int) - 1).toNat := (by omega); rw [_hy29] at hp; cases hp; exact (cmpP_lt _ _).1 (by omega)))⟩, Sub.cons rfl (Sub.cons rfl (Sub.cons rfl (Sub.cons rfl (Sub.nil _)))), (by first | omega | (dsimp only; omega))⟩)
        · have _h25 := bf_d _h25
          refine DR_skip 14 rfl (by kernel_rfl) rfl rfl ?_
          refine DR_skip 15 rfl (by kernel_rfl) rfl rfl ?_
          refine DR_skip 16 rfl (by kernel_rfl) rfl rfl ?_
          refine DR_skip 17 rfl (by kernel_rfl) rfl rfl ?_
          refine DR_skip 18 rfl (by kernel_rfl) rfl rfl ?_
          refine DR_skip 19 rfl (by kernel_rfl) rfl rfl ?_
          refine DR_skip 20 rfl (by kernel_rfl) rfl rfl ?_
          refine DR_skip 21 rfl (by kernel_rfl) rfl rfl ?_
          refine DR_s 22 rfl (by kernel_rfl) rfl rfl (t_v (fun _ => (r_pickF rfl rfl)) ?_)
          refine DR_s 23 rfl (by kernel_rfl) rfl rfl (t_v (fun _ => (r_pickF rfl rfl)) ?_)
          refine DR_done (by kernel_rfl) ?_
          refine thn_nrm (_hK_13 _ _ ?_)
          clear _hK_13
          refine W_condF rfl ?_
          refine W_skip ?_
          refine inB_nrm ?_
          refine thn_nrm (_hK_7 _ _ ?_)
          clear _hK_7
          refine W_region ?_
          refine WL_step rfl rfl (r_add (by omega) rfl rfl) ?_
          refine WL_step rfl rfl (r_move rfl) ?_
          refine WL_nil ?_
          exact thn_nrm (Exists.intro (k + 1) ⟨⟨E, (by omega), (by first | exact are_step _ht _hy10 ⟨_h16.1, _h16.2, _h22.1, _h22.2⟩ (fun j p hj => absurd hj (by omega)) | (refine are_step _ht _hy10 ⟨_h16.1, _h16.2, _h22.1, _h22.2⟩ (fun j p hj hp => ?_); obtain rfl : j = ((k : Int) - 1).toNat := (by omega); rw [_hy29] at hp; cases hp; exact (cmpP_lt _ _).1 (by omega)))⟩, Sub.cons rfl (Sub.cons rfl (Sub.cons rfl (Sub.cons rfl (Sub.nil _)))), (by first | omega | (dsimp only; omega))⟩)
  · have _h8 := bf_d _h8
    refine W_exit (thn_exit (thn_exit (inB_hit ?_)))
    refine thn_nrm (_hK_2 _ _ ?_)
    clear _hK_2
    refine W_seq fun _K_26 _hK_26 => ?_
    refine W_region ?_
    refine WL_step rfl rfl (r_assign rfl) ?_
    refine WL_nil ?_
    refine thn_nrm (_hK_26 _ _ ?_)
    clear _hK_26
    refine W_ret ?_
    clear _hK_6
    exact ret_intro [_] ⟨rfl, trivial⟩ ⟨congrArg Value.bool (tt_true (are_all _ht (by omega))), E⟩

/-- laws.eqPair -/
theorem c_laws_eqPair {w : World} (a : Pair) (b : Pair) :
    Ctr Try.prog 37 #[(.agg #[(.int .i64 a.f), (.int .i64 a.t)]), (.agg #[(.int .i64 b.f), (.int .i64 b.t)])] w (fun v w' => v = .bool (decide (a = b)) ∧ Ch [] w w') := by
  have E := Ch.refl [] w
  refine Ctr_of_W (N := 15) (vs0 := [(.agg #[(.int .i64 a.f), (.int .i64 a.t)]), (.agg #[(.int .i64 b.f), (.int .i64 b.t)])]) Try.func37 rfl rfl rfl ?_
  refine W_seq fun _K_1 _hK_1 => ?_
  refine W_region ?_
  refine WL_s rfl rfl ?_
  refine s_box rfl fun _b2 _w_2 _m2 _cw_2 _e2 => ?_
  have _cw_2z := _cw_2.size
  have E := E.trans _cw_2
  have _z2 := _m2.lt
  replace _m2 : Blk _w_2 _b2 57 [(.int .i64 a.f), (.int .i64 a.t)] := _m2
  refine WL_s rfl rfl ?_
  refine s_box rfl fun _b3 _w_3 _m3 _cw_3 _e3 => ?_
  have _cw_3z := _cw_3.size
  have E := E.trans _cw_3
  have _z3 := _m3.lt
  replace _m3 : Blk _w_3 _b3 57 [(.int .i64 b.f), (.int .i64 b.t)] := _m3
  refine WL_step rfl rfl (r_assign rfl) ?_
  refine WL_nil ?_
  refine thn_nrm (_hK_1 _ _ ?_)
  clear _hK_1
  refine W_seq fun _K_4 _hK_4 => ?_
  refine W_seq fun _K_5 _hK_5 => ?_
  refine W_region ?_
  refine WL_step rfl rfl (r_fieldAddr fa57_0 rfl) ?_
  have _f_6 := (_m2.ch0 _cw_3)
  refine WL_step rfl rfl (r_loadAt _f_6.at_ agg3 rfl rfl) ?_
  refine WL_step rfl rfl (r_fieldAddr fa57_0 rfl) ?_
  refine WL_step rfl rfl (r_loadAt _m3.at_ agg3 rfl rfl) ?_
  refine WL_step rfl rfl (r_neq rfl rfl) ?_
  refine WL_nil ?_
  refine thn_nrm (_hK_5 _ _ ?_)
  clear _hK_5
  refine W_cond rfl (fun _h9 => ?_) (fun _h9 => ?_)
  · have _h9 := bf_d (bt_n _h9)
    refine W_seq fun _K_7 _hK_7 => ?_
    refine W_region ?_
    refine WL_step rfl rfl (r_assign rfl) ?_
    refine WL_nil ?_
    refine thn_nrm (_hK_7 _ _ ?_)
    clear _hK_7
    refine W_ret (thn_ret ?_)
    clear _hK_4
    exact ret_intro [_] ⟨rfl, trivial⟩ ⟨congrArg Value.bool (decide_eq_false (fun e => _h9 (by rw [e]))).symm, E⟩
  · have _h9 := bt_d (bf_n _h9)
    refine W_skip ?_
    refine thn_nrm (_hK_4 _ _ ?_)
    clear _hK_4
    refine W_seq fun _K_8 _hK_8 => ?_
    refine W_seq fun _K_9 _hK_9 => ?_
    refine W_region ?_
    refine WL_step rfl rfl (r_fieldAddr fa57_1 rfl) ?_
    refine WL_step rfl rfl (r_loadAt _f_6.at_ agg3 rfl rfl) ?_
    refine WL_step rfl rfl (r_fieldAddr fa57_1 rfl) ?_
    refine WL_step rfl rfl (r_loadAt _m3.at_ agg3 rfl rfl) ?_
    refine WL_step rfl rfl (r_neq rfl rfl) ?_
    refine WL_nil ?_
    refine thn_nrm (_hK_9 _ _ ?_)
    clear _hK_9
    refine W_cond rfl (fun _h14 => ?_) (fun _h14 => ?_)
    · have _h14 := bf_d (bt_n _h14)
      refine W_seq fun _K_10 _hK_10 => ?_
      refine W_region ?_
      refine WL_step rfl rfl (r_assign rfl) ?_
      refine WL_nil ?_
      refine thn_nrm (_hK_10 _ _ ?_)
      clear _hK_10
      refine W_ret (thn_ret ?_)
      clear _hK_8
      exact ret_intro [_] ⟨rfl, trivial⟩ ⟨congrArg Value.bool (decide_eq_false (fun e => _h14 (by rw [e]))).symm, E⟩
    · have _h14 := bt_d (bf_n _h14)
      refine W_skip ?_
      refine thn_nrm (_hK_8 _ _ ?_)
      clear _hK_8
      refine W_seq fun _K_11 _hK_11 => ?_
      refine W_region ?_
      refine WL_step rfl rfl (r_assign rfl) ?_
      refine WL_nil ?_
      refine thn_nrm (_hK_11 _ _ ?_)
      clear _hK_11
      refine W_ret ?_
      exact ret_intro [_] ⟨rfl, trivial⟩ ⟨congrArg Value.bool (decide_eq_true (Pair.inj (by rw [_h9, _h14]))).symm, E⟩

/-- laws.eqPairS -/
theorem c_laws_eqPairS {w : World} {_B_a : Nat} {_v_a : Value} {a : List Pair} (_h_a : Ls Pair.cs 2 w _B_a _v_a a) {_B_b : Nat} {_v_b : Value} {b : List Pair} (_h_b : Ls Pair.cs 2 w _B_b _v_b b) :
    Ctr Try.prog 14 #[_v_a, _v_b] w (fun v w' => v = .bool (decide (a = b)) ∧ Ch [] w w') := by
  obtain ⟨_A_a, _C_a, _e1_a⟩ := _h_a.val
  subst _e1_a
  have _l_a := _h_a.len
  have _h_a := _h_a.here (by decide)
  obtain ⟨_A_b, _C_b, _e1_b⟩ := _h_b.val
  subst _e1_b
  have _l_b := _h_b.len
  have _h_b := _h_b.here (by decide)
  have E := Ch.refl [] w
  refine Ctr_of_W (N := 27) (vs0 := [(.slice _A_a a.length _C_a), (.slice _A_b b.length _C_b)]) Try.func14 rfl rfl rfl ?_
  refine W_seq fun _K_1 _hK_1 => ?_
  refine W_region ?_
  refine WL_step rfl rfl (r_assign rfl) ?_
  refine WL_nil ?_
  refine thn_nrm (_hK_1 _ _ ?_)
  clear _hK_1
  refine W_seq fun _K_2 _hK_2 => ?_
  refine W_seq fun _K_3 _hK_3 => ?_
  refine W_region ?_
  refine WL_step rfl rfl (r_move rfl) ?_
  refine WL_step rfl rfl (r_len (by rw [el25]; rfl) rfl) ?_
  refine WL_step rfl rfl (r_move rfl) ?_
  refine WL_step rfl rfl (r_len (by rw [el25]; rfl) rfl) ?_
  refine WL_step rfl rfl (r_neq rfl rfl) ?_
  refine WL_nil ?_
  refine thn_nrm (_hK_3 _ _ ?_)
  clear _hK_3
  refine W_cond rfl (fun _h10 => ?_) (fun _h10 => ?_)
  · have _h10 := bf_d (bt_n _h10)
    refine W_seq fun _K_4 _hK_4 => ?_
    refine W_region ?_
    refine WL_step rfl rfl (r_assign rfl) ?_
    refine WL_nil ?_
    refine thn_nrm (_hK_4 _ _ ?_)
    clear _hK_4
    refine W_ret (thn_ret ?_)
    clear _hK_2
    exact ret_intro [_] ⟨rfl, trivial⟩ ⟨congrArg Value.bool (decide_eq_false (fun e => _h10 (by rw [e]))).symm, E⟩
  · have _h10 := bt_d (bf_n _h10)
    refine W_skip ?_
    refine thn_nrm (_hK_2 _ _ ?_)
    clear _hK_2
    refine W_seq fun _K_5 _hK_5 => ?_
    refine W_seq fun _K_6 _hK_6 => ?_
    refine W_region ?_
    refine WL_step rfl rfl (r_assign rfl) ?_
    refine WL_nil ?_
    refine thn_nrm (_hK_6 _ _ ?_)
    clear _hK_6
    refine W_block ?_
    refine W_loop (σ := Nat) (fun (k : Nat) => [(0, (.slice _A_a a.length _C_a)), (1, (.slice _A_b b.length _C_b)), (5, (.int .i64 ((k : Nat) : Int))), (6, (.slice _A_a a.length _C_a)), (7, (.int .i64 ((a.length : Nat) : Int))), (8, (.slice _A_b b.length _C_b)), (9, (.int .i64 ((b.length : Nat) : Int))), (10, (.bool (!decide (((a.length : Nat) : Int) = ((b.length : Nat) : Int)))))]) (fun (k : Nat) wx => Ch [] w wx ∧ k ≤ a.length ∧ a.take k = b.take k) (fun (k : Nat) => a.length - k) 0 (Sub.cons rfl (Sub.cons rfl (Sub.cons rfl (Sub.cons rfl (Sub.cons rfl (Sub.cons rfl (Sub.cons rfl (Sub.cons rfl (Sub.nil _))))))))) ⟨E, (by omega), rfl⟩ ?_
    rintro k _wr_7 ⟨E, _hk, _ht⟩
    have _E0h := E
    have _E0hz := _E0h.size
    refine W_seq fun _K_8 _hK_8 => ?_
    refine W_seq fun _K_9 _hK_9 => ?_
    refine W_region ?_
    refine WL_step rfl rfl (r_move rfl) ?_
    refine WL_step rfl rfl (r_move rfl) ?_
    refine WL_step rfl rfl (r_len (by rw [el25]; rfl) rfl) ?_
    refine WL_step rfl rfl (r_lss rfl rfl) ?_
    refine WL_nil ?_
    refine thn_nrm (_hK_9 _ _ ?_)
    clear _hK_9
    refine W_cond rfl (fun _h14 => ?_) (fun _h14 => ?_)
    · have _h14 := bt_d _h14
      refine W_skip ?_
      refine thn_nrm (_hK_8 _ _ ?_)
      clear _hK_8
      refine W_seq fun _K_10 _hK_10 => ?_
      refine W_block ?_
      refine W_seq fun _K_11 _hK_11 => ?_
      refine W_drawC [] 10 mixed rfl fun _w_12 _cw_12 => ?_
      have _cw_12z := _cw_12.size
      have E := E.trans _cw_12
      refine DR_s 0 rfl (by kernel_rfl) rfl rfl (t_v (fun _ => (r_move rfl)) ?_)
      refine DR_s 1 rfl (by kernel_rfl) rfl rfl (t_v (fun _ => (r_move rfl)) ?_)
      have _f_13 := ((_h_a.ch0 _E0h).ch0 _cw_12)
      refine DR_s 2 rfl (by kernel_rfl) rfl rfl (t_index _f_13 Pair.len el25 sz57 rfl rfl rfl (by omega) fun _p19 _y19 _hy19 _a19 => ?_)
      refine DR_s 3 rfl (by kernel_rfl) rfl rfl (t_loadAtA0 _a19 (fun i hi => by first | exact absurd hi (List.not_mem_nil) | (have _h1 := List.mem_singleton.1 hi; omega)) agg57 sz57 rfl ?_)
      refine DR_s 4 rfl (by kernel_rfl) rfl rfl (t_v (fun _ => (r_move rfl)) ?_)
      refine DR_s 5 rfl (by kernel_rfl) rfl rfl (t_v (fun _ => (r_move rfl)) ?_)
      have _f_14 := ((_h_b.ch0 _E0h).ch0 _cw_12)
      refine DR_s 6 rfl (by kernel_rfl) rfl rfl (t_index _f_14 Pair.len el25 sz57 rfl rfl rfl (by omega) fun _p23 _y23 _hy23 _a23 => ?_)
      refine DR_s 7 rfl (by kernel_rfl) rfl rfl (t_loadAtA0 _a23 (fun i hi => by first | exact absurd hi (List.not_mem_nil) | (have _h1 := List.mem_singleton.1 hi; omega)) agg57 sz57 rfl ?_)
      refine DR_one 8 (by kernel_rfl) ?_
      refine DO_s rfl rfl rfl ?_
      refine Step.call (r_call (xs := [.tmp 20, .tmp 24]) fk37 rfl) (c_laws_eqPair _y19 _y23 ) fun _v25 _w_15 _q25 => ?_
      obtain ⟨rfl, _cw_15⟩ := _q25
      have _cw_15z := _cw_15.size
      have E := E.trans _cw_15
      have _S_16 : Ch [] _w_12 _w_15 := ((Ch.refl _ _).trans _cw_15.of_nil)
      refine ⟨_S_16, ?_⟩
      refine DR_s 9 rfl (by kernel_rfl) rfl rfl (t_v (fun _ => (r_not rfl)) ?_)
      refine DR_done (by kernel_rfl) ?_
      refine thn_nrm (_hK_11 _ _ ?_)
      clear _hK_11
      refine W_cond rfl (fun _h26 => ?_) (fun _h26 => ?_)
      · have _h26 := bf_d (bt_n _h26)
        refine W_seq fun _K_17 _hK_17 => ?_
        refine W_region ?_
        refine WL_step rfl rfl (r_assign rfl) ?_
        refine WL_nil ?_
        refine thn_nrm (_hK_17 _ _ ?_)
        clear _hK_17
        refine W_ret (inB_ret (thn_ret (thn_ret (inB_ret (thn_ret ?_)))))
        clear _hK_5 _hK_10
        exact ret_intro [_] ⟨rfl, trivial⟩ ⟨congrArg Value.bool (decide_eq_false (ne_of_get _hy19 _hy23 _h26)).symm, E⟩
      · have _h26 := bt_d (bf_n _h26)
        refine W_skip ?_
        refine inB_nrm ?_
        refine thn_nrm (_hK_10 _ _ ?_)
        clear _hK_10
        refine W_region ?_
        refine WL_step rfl rfl (r_move rfl) ?_
        refine WL_step rfl rfl (r_add (by omega) rfl rfl) ?_
        refine WL_step rfl rfl (r_assign rfl) ?_
        refine WL_nil ?_
        exact thn_nrm (Exists.intro (k + 1) ⟨⟨E, (by omega), (take_eq_succ _ht _hy19 _hy23 _h26)⟩, Sub.cons rfl (Sub.cons rfl (Sub.cons rfl (Sub.cons rfl (Sub.cons rfl (Sub.cons rfl (Sub.cons rfl (Sub.cons rfl (Sub.nil _)))))))), (by first | omega | (dsimp only; omega))⟩)
    · have _h14 := bf_d _h14
      refine W_exit (thn_exit (thn_exit (inB_hit ?_)))
      refine thn_nrm (_hK_5 _ _ ?_)
      clear _hK_5
      refine W_seq fun _K_18 _hK_18 => ?_
      refine W_region ?_
      refine WL_step rfl rfl (r_assign rfl) ?_
      refine WL_nil ?_
      refine thn_nrm (_hK_18 _ _ ?_)
      clear _hK_18
      refine W_ret ?_
      clear _hK_8
      exact ret_intro [_] ⟨rfl, trivial⟩ ⟨congrArg Value.bool (decide_eq_true (eq_of_take _ht (by omega) (by omega))).symm, E⟩

/-- laws.szPairS -/
theorem c_laws_szPairS {w : World} {_B_a : Nat} {_v_a : Value} {a : List Pair} (_h_a : Ls Pair.cs 2 w _B_a _v_a a) (left : Int) (hl : left ≤ 1048576) (_h0 : 0 ≤ left) :
    Ctr Try.prog 10 #[_v_a, (.int .i64 left)] w (fun v w' => v = .int .i64 (if left < a.length then -1 else left - a.length) ∧ Ch [] w w') := by
  obtain ⟨_A_a, _C_a, _e1_a⟩ := _h_a.val
  subst _e1_a
  have _l_a := _h_a.len
  have _h_a := _h_a.here (by decide)
  have E := Ch.refl [] w
  refine Ctr_of_W (N := 12) (vs0 := [(.slice _A_a a.length _C_a), (.int .i64 left)]) Try.func10 rfl rfl rfl ?_
  refine W_seq fun _K_1 _hK_1 => ?_
  refine W_region ?_
  refine WL_step rfl rfl (r_assign rfl) ?_
  refine WL_nil ?_
  refine thn_nrm (_hK_1 _ _ ?_)
  clear _hK_1
  refine W_seq fun _K_2 _hK_2 => ?_
  refine W_region ?_
  refine WL_step rfl rfl (r_move rfl) ?_
  refine WL_step rfl rfl (r_move rfl) ?_
  refine WL_step rfl rfl (r_len (by rw [el22]; rfl) rfl) ?_
  refine WL_step rfl rfl (r_sub (by omega) rfl rfl) ?_
  refine WL_step rfl rfl (r_assign rfl) ?_
  refine WL_nil ?_
  refine thn_nrm (_hK_2 _ _ ?_)
  clear _hK_2
  refine W_seq fun _K_3 _hK_3 => ?_
  refine W_seq fun _K_4 _hK_4 => ?_
  refine W_region ?_
  refine WL_step rfl rfl (r_move rfl) ?_
  refine WL_step rfl rfl (r_lss rfl rfl) ?_
  refine WL_nil ?_
  refine thn_nrm (_hK_4 _ _ ?_)
  clear _hK_4
  refine W_cond rfl (fun _h10 => ?_) (fun _h10 => ?_)
  · have _h10 := bt_d _h10
    refine W_seq fun _K_5 _hK_5 => ?_
    refine W_region ?_
    refine WL_step rfl rfl (r_assign rfl) ?_
    refine WL_nil ?_
    refine thn_nrm (_hK_5 _ _ ?_)
    clear _hK_5
    refine W_ret (thn_ret ?_)
    clear _hK_3
    exact ret_intro [_] ⟨rfl, trivial⟩ ⟨congrArg (Value.int .i64) (if_pos (by omega)).symm, E⟩
  · have _h10 := bf_d _h10
    refine W_skip ?_
    refine thn_nrm (_hK_3 _ _ ?_)
    clear _hK_3
    refine W_seq fun _K_6 _hK_6 => ?_
    refine W_region ?_
    refine WL_step rfl rfl (r_move rfl) ?_
    refine WL_step rfl rfl (r_assign rfl) ?_
    refine WL_nil ?_
    refine thn_nrm (_hK_6 _ _ ?_)
    clear _hK_6
    refine W_ret ?_
    exact ret_intro [_] ⟨rfl, trivial⟩ ⟨congrArg (Value.int .i64) (if_neg (by omega)).symm, E⟩

/-- laws.toPair -/
theorem c_laws_toPair {w : World} (a : Pair) :
    Ctr Try.prog 35 #[(.agg #[(.int .i64 a.f), (.int .i64 a.t)])] w (fun v w' => v = .agg (Pair.cs (a)).toArray ∧ Ch [] w w') := by
  have E := Ch.refl [] w
  refine Ctr_of_W (N := 11) (vs0 := [(.agg #[(.int .i64 a.f), (.int .i64 a.t)])]) Try.func35 rfl rfl rfl ?_
  refine W_seq fun _K_1 _hK_1 => ?_
  refine W_region ?_
  refine WL_s rfl rfl ?_
  refine s_box rfl fun _b1 _w_2 _m1 _cw_2 _e1 => ?_
  have _cw_2z := _cw_2.size
  have E := E.trans _cw_2
  have _z1 := _m1.lt
  replace _m1 : Blk _w_2 _b1 59 [(.int .i64 a.f), (.int .i64 a.t)] := _m1
  refine WL_s rfl rfl ?_
  refine s_alloc zr57 fun _b2 _w_3 _m2 _cw_3 _e2 => ?_
  have _cw_3z := _cw_3.size
  have E := E.trans _cw_3
  have _z2 := _m2.lt
  replace _m2 : Blk _w_3 _b2 57 [(.int .i64 0), (.int .i64 0)] := _m2
  refine WL_nil ?_
  refine thn_nrm (_hK_1 _ _ ?_)
  clear _hK_1
  refine W_seq fun _K_4 _hK_4 => ?_
  refine W_region ?_
  refine WL_s rfl rfl ?_
  refine s_alloc zr57 fun _b3 _w_5 _m3 _cw_5 _e3 => ?_
  have _cw_5z := _cw_5.size
  have E := E.trans _cw_5
  have _z3 := _m3.lt
  replace _m3 : Blk _w_5 _b3 57 [(.int .i64 0), (.int .i64 0)] := _m3
  refine WL_nil ?_
  refine thn_nrm (_hK_4 _ _ ?_)
  clear _hK_4
  refine W_seq fun _K_6 _hK_6 => ?_
  refine W_region ?_
  refine WL_step rfl rfl (r_fieldAddr fa59_0 rfl) ?_
  have _f_7 := ((_m1.ch0 _cw_3).ch0 _cw_5)
  refine WL_step rfl rfl (r_loadAt _f_7.at_ agg3 rfl rfl) ?_
  refine WL_step rfl rfl (r_fieldAddr fa57_0 rfl) ?_
  refine WL_s rfl rfl ?_
  refine s_store1 (off := 0) _m3 sz3 rfl rfl rfl rfl fun _w_8 _m_9 _cw_8 => ?_
  have _cw_8z := _cw_8.size
  have E := E.step _cw_8 (fun i hi => .inl (by have _h1 := List.mem_singleton.1 hi; omega))
  replace _m_9 : Blk _w_8 _b3 57 [(.int .i64 a.f), (.int .i64 0)] := _m_9
  refine WL_nil ?_
  refine thn_nrm (_hK_6 _ _ ?_)
  clear _hK_6
  refine W_seq fun _K_10 _hK_10 => ?_
  refine W_region ?_
  refine WL_step rfl rfl (r_fieldAddr fa59_1 rfl) ?_
  have _f_11 := (_f_7.ch _cw_8 (fun hm => by have _h1 := List.mem_singleton.1 hm; omega))
  refine WL_step rfl rfl (r_loadAt _f_11.at_ agg3 rfl rfl) ?_
  refine WL_step rfl rfl (r_fieldAddr fa57_1 rfl) ?_
  refine WL_s rfl rfl ?_
  refine s_store1 (off := 1) _m_9 sz3 rfl rfl rfl rfl fun _w_12 _m_13 _cw_12 => ?_
  have _cw_12z := _cw_12.size
  have E := E.step _cw_12 (fun i hi => .inl (by have _h1 := List.mem_singleton.1 hi; omega))
  replace _m_13 : Blk _w_12 _b3 57 [(.int .i64 a.f), (.int .i64 a.t)] := _m_13
  refine WL_nil ?_
  refine thn_nrm (_hK_10 _ _ ?_)
  clear _hK_10
  refine W_seq fun _K_14 _hK_14 => ?_
  refine W_region ?_
  refine WL_step rfl rfl (r_loadAtA0 _m_13.at_ agg57 sz57 rfl) ?_
  refine WL_s rfl rfl ?_
  have _f_15 := (((_m2.ch0 _cw_5).ch _cw_8 (fun hm => by have _h1 := List.mem_singleton.1 hm; omega)).ch _cw_12 (fun hm => by have _h1 := List.mem_singleton.1 hm; omega))
  refine s_storeA (off := 0) 2 _f_15 sz57 rfl (us := [(.int .i64 a.f), (.int .i64 a.t)]) rfl rfl rfl rfl fun _w_16 _m_17 _cw_16 => ?_
  have _cw_16z := _cw_16.size
  have E := E.step _cw_16 (fun i hi => .inl (by have _h1 := List.mem_singleton.1 hi; omega))
  replace _m_17 : Blk _w_16 _b2 57 [(.int .i64 a.f), (.int .i64 a.t)] := _m_17
  refine WL_nil ?_
  refine thn_nrm (_hK_14 _ _ ?_)
  clear _hK_14
  refine W_ret ?_
  exact ret_intro [_] (resOf_loadA _m_17 rfl agg57 sz57 trivial) ⟨by simp [packed, Pair.cs], E⟩

/-- laws.toPairS -/
theorem c_laws_toPairS {w : World} {_B_a : Nat} {_v_a : Value} {a : List Pair} (_h_a : Ls Pair.cs 2 w _B_a _v_a a) (hb : a.length ≤ 1048576) :
    Ctr Try.prog 12 #[_v_a] w (fun v w' => Ol Pair.cs 57 2 w' v (a) ∧ Lo w.heap.size v ∧ Ch [] w w') := by
  obtain ⟨_A_a, _C_a, _e1_a⟩ := _h_a.val
  subst _e1_a
  have _l_a := _h_a.len
  have _h_a := _h_a.here (by decide)
  have E := Ch.refl [] w
  refine Ctr_of_W (N := 23) (vs0 := [(.slice _A_a a.length _C_a)]) Try.func12 rfl rfl rfl ?_
  refine W_seq fun _K_1 _hK_1 => ?_
  refine W_region ?_
  refine WL_step rfl rfl (r_assign rfl) ?_
  refine WL_nil ?_
  refine thn_nrm (_hK_1 _ _ ?_)
  clear _hK_1
  refine W_seq fun _K_2 _hK_2 => ?_
  refine W_region ?_
  refine WL_step rfl rfl (r_move rfl) ?_
  refine WL_step rfl rfl (r_len (by rw [el22]; rfl) rfl) ?_
  refine WL_s rfl rfl ?_
  refine s_make (cs := Pair.cs) (⟨0, 0⟩ : Pair) el25 sz57 by57 zr57 Pair.len (by decide) rfl rfl (by omega) (by omega) fun _v7 _w_3 _q7 _lo7 _cw_3 => ?_
  have _cw_3z := _cw_3.size
  have E := E.trans _cw_3
  obtain ⟨_Av7, _Cv7, _ev7⟩ := _q7.val
  subst _ev7
  have _lv7 := _q7.len
  have _hiv7 := _q7.lt
  refine WL_step rfl rfl (r_assign rfl) ?_
  refine WL_nil ?_
  refine thn_nrm (_hK_2 _ _ ?_)
  clear _hK_2
  refine W_seq fun _K_4 _hK_4 => ?_
  refine W_seq fun _K_5 _hK_5 => ?_
  refine W_region ?_
  refine WL_step rfl rfl (r_assign rfl) ?_
  refine WL_nil ?_
  refine thn_nrm (_hK_5 _ _ ?_)
  clear _hK_5
  refine W_block ?_
  have _oi_6 : Ol Pair.cs 57 2 _w_3 (.slice _Av7 ((List.replicate a.length (⟨0, 0⟩ : Pair))).length _Cv7) (a.take 0 ++ List.replicate (a.length - 0) (⟨0, 0⟩ : Pair)) := by
    have hx := _q7
    simpa using hx
  refine W_loop (σ := Nat) (fun (k : Nat) => [(0, (.slice _A_a a.length _C_a)), (2, (.slice none 0 0)), (3, (.slice _Av7 ((List.replicate a.length (⟨0, 0⟩ : Pair))).length _Cv7)), (4, (.int .i64 ((k : Nat) : Int))), (5, (.slice _A_a a.length _C_a)), (6, (.int .i64 ((a.length : Nat) : Int))), (7, (.slice _Av7 ((List.replicate a.length (⟨0, 0⟩ : Pair))).length _Cv7))]) (fun (k : Nat) wx => Ch [] w wx ∧ k ≤ a.length ∧ Ol Pair.cs 57 2 wx (.slice _Av7 ((List.replicate a.length (⟨0, 0⟩ : Pair))).length _Cv7) (a.take k ++ List.replicate (a.length - k) (⟨0, 0⟩ : Pair))) (fun (k : Nat) => a.length - k) 0 (Sub.cons rfl (Sub.cons rfl (Sub.cons rfl (Sub.cons rfl (Sub.cons rfl (Sub.cons rfl (Sub.cons rfl (Sub.nil _)))))))) ⟨E, (by omega), _oi_6⟩ ?_
  rintro k _wr_7 ⟨E, _hk, _o0_3⟩
  have _E0h := E
  have _E0hz := _E0h.size
  refine W_seq fun _K_8 _hK_8 => ?_
  refine W_seq fun _K_9 _hK_9 => ?_
  refine W_region ?_
  refine WL_step rfl rfl (r_move rfl) ?_
  refine WL_step rfl rfl (r_move rfl) ?_
  refine WL_step rfl rfl (r_len (by rw [el22]; rfl) rfl) ?_
  refine WL_step rfl rfl (r_lss rfl rfl) ?_
  refine WL_nil ?_
  refine thn_nrm (_hK_9 _ _ ?_)
  clear _hK_9
  refine W_cond rfl (fun _h11 => ?_) (fun _h11 => ?_)
  · have _h11 := bt_d _h11
    refine W_skip ?_
    refine thn_nrm (_hK_8 _ _ ?_)
    clear _hK_8
    refine W_seq fun _K_10 _hK_10 => ?_
    refine W_block ?_
    refine W_region ?_
    refine WL_step rfl rfl (r_move rfl) ?_
    refine WL_step rfl rfl (r_move rfl) ?_
    refine WL_step rfl rfl (r_move rfl) ?_
    refine WL_step rfl rfl (r_move rfl) ?_
    refine WL_s rfl rfl ?_
    have _f_11 := (_h_a.ch0 _E0h)
    refine (s_index _f_11 Pair.len el22 sz59 rfl rfl rfl (by omega) fun _p18 _y18 _hy18 _a18 => ?_)
    refine WL_step rfl rfl (r_loadAtA0 _a18 agg59 sz59 rfl) ?_
    refine WL_s rfl rfl ?_
    refine Step.call (r_call (xs := [.tmp 19]) fk35 rfl) (c_laws_toPair _y18 ) fun _v20 _w_12 _q20 => ?_
    obtain ⟨rfl, _cw_12⟩ := _q20
    have _cw_12z := _cw_12.size
    have E := E.trans _cw_12
    refine WL_s rfl rfl ?_
    have _f_13 := (_o0_3.ch0 _cw_12)
    refine s_indexO (j := k) _f_13 el25 sz57 rfl rfl rfl (by simp; omega) fun _g21 _o21 _cp21 _q21 => ?_
    refine WL_s rfl rfl ?_
    refine s_storeO (j := k) _y18 _f_13 _q21 Pair.len sz57 rfl rfl rfl rfl (by simp; omega) fun _w_14 _o_15 _cw_14 => ?_
    have _cw_14z := _cw_14.size
    have E := E.step _cw_14 (fun i hi => .inl (by have _h1 := _lo7 _ hi; omega))
    refine WL_nil ?_
    refine inB_nrm ?_
    refine thn_nrm (_hK_10 _ _ ?_)
    clear _hK_10
    refine W_region ?_
    refine WL_step rfl rfl (r_move rfl) ?_
    refine WL_step rfl rfl (r_add (by omega) rfl rfl) ?_
    refine WL_step rfl rfl (r_assign rfl) ?_
    refine WL_nil ?_
    have _on_16 : Ol Pair.cs 57 2 _w_14 (.slice _Av7 ((List.replicate a.length (⟨0, 0⟩ : Pair))).length _Cv7) (a.take (k + 1) ++ List.replicate (a.length - (k + 1)) (⟨0, 0⟩ : Pair)) := by
      have hx := _o_15
      rwa [fill_step a (⟨0, 0⟩ : Pair) _hy18] at hx
    exact thn_nrm (Exists.intro (k + 1) ⟨⟨E, (by omega), _on_16⟩, Sub.cons rfl (Sub.cons rfl (Sub.cons rfl (Sub.cons rfl (Sub.cons rfl (Sub.cons rfl (Sub.cons rfl (Sub.nil _))))))), (by first | omega | (dsimp only; omega))⟩)
  · have _h11 := bf_d _h11
    refine W_exit (thn_exit (thn_exit (inB_hit ?_)))
    refine thn_nrm (_hK_4 _ _ ?_)
    clear _hK_4
    refine W_seq fun _K_17 _hK_17 => ?_
    refine W_region ?_
    refine WL_step rfl rfl (r_move rfl) ?_
    refine WL_step rfl rfl (r_assign rfl) ?_
    refine WL_nil ?_
    refine thn_nrm (_hK_17 _ _ ?_)
    clear _hK_17
    refine W_ret ?_
    clear _hK_8
    have _o_18 : Ol Pair.cs 57 2 _wr_7 (.slice _Av7 ((List.replicate a.length (⟨0, 0⟩ : Pair))).length _Cv7) (a) := by
      have hx := _o0_3
      simpa [List.take_of_length_le (show a.length ≤ k by omega), show a.length - k = 0 by omega] using hx
    exact ret_intro [_] ⟨rfl, trivial⟩ ⟨_o_18, Lo.down _lo7 (by omega), E⟩

/-- spec.l15Less -/
theorem c_spec_l15Less {w : World} (a : Pair) (b : Pair) :
    Ctr Try.prog 39 #[(.agg #[(.int .i64 a.f), (.int .i64 a.t)]), (.agg #[(.int .i64 b.f), (.int .i64 b.t)])] w (fun v w' => v = .bool (tt (lessP a b)) ∧ Ch [] w w') := by
  have E := Ch.refl [] w
  refine Ctr_of_W (N := 24) (vs0 := [(.agg #[(.int .i64 a.f), (.int .i64 a.t)]), (.agg #[(.int .i64 b.f), (.int .i64 b.t)])]) Try.func39 rfl rfl rfl ?_
  refine W_seq fun _K_1 _hK_1 => ?_
  refine W_region ?_
  refine WL_s rfl rfl ?_
  refine s_box rfl fun _b2 _w_2 _m2 _cw_2 _e2 => ?_
  have _cw_2z := _cw_2.size
  have E := E.trans _cw_2
  have _z2 := _m2.lt
  replace _m2 : Blk _w_2 _b2 57 [(.int .i64 a.f), (.int .i64 a.t)] := _m2
  refine WL_s rfl rfl ?_
  refine s_box rfl fun _b3 _w_3 _m3 _cw_3 _e3 => ?_
  have _cw_3z := _cw_3.size
  have E := E.trans _cw_3
  have _z3 := _m3.lt
  replace _m3 : Blk _w_3 _b3 57 [(.int .i64 b.f), (.int .i64 b.t)] := _m3
  refine WL_step rfl rfl (r_assign rfl) ?_
  refine WL_nil ?_
  refine thn_nrm (_hK_1 _ _ ?_)
  clear _hK_1
  refine W_seq fun _K_4 _hK_4 => ?_
  refine W_region ?_
  refine WL_step rfl rfl (r_fieldAddr fa57_0 rfl) ?_
  have _f_5 := (_m2.ch0 _cw_3)
  refine WL_step rfl rfl (r_loadAt _f_5.at_ agg3 rfl rfl) ?_
  refine WL_step rfl rfl (r_fieldAddr fa57_0 rfl) ?_
  refine WL_step rfl rfl (r_loadAt _m3.at_ agg3 rfl rfl) ?_
  refine WL_step rfl rfl (r_lss rfl rfl) ?_
  refine WL_step rfl rfl (r_move rfl) ?_
  refine WL_split (d := 10) rfl (fun _h10 => ?_) (fun _h10 => ?_)
  · have _h10 := bt_d _h10
    refine WL_skip rfl rfl ?_
    refine WL_skip rfl rfl ?_
    refine WL_skip rfl rfl ?_
    refine WL_skip rfl rfl ?_
    refine WL_skip rfl rfl ?_
    refine WL_skip rfl rfl ?_
    refine WL_skip rfl rfl ?_
    refine WL_skip rfl rfl ?_
    refine WL_skip rfl rfl ?_
    refine WL_skip rfl rfl ?_
    refine WL_skip rfl rfl ?_
    refine WL_skip rfl rfl ?_
    refine WL_step rfl rfl (r_pickT rfl rfl) ?_
    refine WL_step rfl rfl (r_assign rfl) ?_
    refine WL_nil ?_
    refine thn_nrm (_hK_4 _ _ ?_)
    clear _hK_4
    refine W_ret ?_
    exact ret_intro [_] ⟨rfl, trivial⟩ ⟨congrArg Value.bool (by first | exact tt_true (.inl _h10) | exact tt_false (by unfold lessP; omega) | (rw [tt_dec]; exact tt_eq (by unfold lessP; omega))), E⟩
  · have _h10 := bf_d _h10
    refine WL_step rfl rfl (r_fieldAddr fa57_0 rfl) ?_
    refine WL_step rfl rfl (r_loadAt _f_5.at_ agg3 rfl rfl) ?_
    refine WL_step rfl rfl (r_fieldAddr fa57_0 rfl) ?_
    refine WL_step rfl rfl (r_loadAt _m3.at_ agg3 rfl rfl) ?_
    refine WL_step rfl rfl (r_eql rfl rfl) ?_
    refine WL_step rfl rfl (r_move rfl) ?_
    refine WL_split (d := 16) rfl (fun _h16 => ?_) (fun _h16 => ?_)
    · have _h16 := bt_d _h16
      refine WL_step rfl rfl (r_fieldAddr fa57_1 rfl) ?_
      refine WL_step rfl rfl (r_loadAt _f_5.at_ agg3 rfl rfl) ?_
      refine WL_step rfl rfl (r_fieldAddr fa57_1 rfl) ?_
      refine WL_step rfl rfl (r_loadAt _m3.at_ agg3 rfl rfl) ?_
      refine WL_step rfl rfl (r_lss rfl rfl) ?_
      refine WL_step rfl rfl (r_pickT rfl rfl) ?_
      refine WL_step rfl rfl (r_pickF rfl rfl) ?_
      refine WL_step rfl rfl (r_assign rfl) ?_
      refine WL_nil ?_
      refine thn_nrm (_hK_4 _ _ ?_)
      clear _hK_4
      refine W_ret ?_
      exact ret_intro [_] ⟨rfl, trivial⟩ ⟨congrArg Value.bool (by first | exact tt_true (.inl _h10) | exact tt_false (by unfold lessP; omega) | (rw [tt_dec]; exact tt_eq (by unfold lessP; omega))), E⟩
    · have _h16 := bf_d _h16
      refine WL_skip rfl rfl ?_
      refine WL_skip rfl rfl ?_
      refine WL_skip rfl rfl ?_
      refine WL_skip rfl rfl ?_
      refine WL_skip rfl rfl ?_
      refine WL_step rfl rfl (r_pickF rfl rfl) ?_
      refine WL_step rfl rfl (r_pickF rfl rfl) ?_
      refine WL_step rfl rfl (r_assign rfl) ?_
      refine WL_nil ?_
      refine thn_nrm (_hK_4 _ _ ?_)
      clear _hK_4
      refine W_ret ?_
      exact ret_intro [_] ⟨rfl, trivial⟩ ⟨congrArg Value.bool (by first | exact tt_true (.inl _h10) | exact tt_false (by unfold lessP; omega) | (rw [tt_dec]; exact tt_eq (by unfold lessP; omega))), E⟩

/-- spec.l1In -/
theorem c_spec_l1In {w : World} (n : Int) (a : Int) (b : Int) :
    Ctr Try.prog 38 #[(.int .i64 n), (.int .i64 a), (.int .i64 b)] w (fun v w' => v = .bool (decide (a ≤ n ∧ n ≤ b)) ∧ Ch [] w w') := by
  have E := Ch.refl [] w
  refine Ctr_of_W (N := 15) (vs0 := [(.int .i64 n), (.int .i64 a), (.int .i64 b)]) Try.func38 rfl rfl rfl ?_
  refine W_seq fun _K_1 _hK_1 => ?_
  refine W_region ?_
  refine WL_step rfl rfl (r_assign rfl) ?_
  refine WL_nil ?_
  refine thn_nrm (_hK_1 _ _ ?_)
  clear _hK_1
  refine W_seq fun _K_2 _hK_2 => ?_
  refine W_region ?_
  refine WL_step rfl rfl (r_move rfl) ?_
  refine WL_step rfl rfl (r_move rfl) ?_
  refine WL_step rfl rfl (r_geq rfl rfl) ?_
  refine WL_step rfl rfl (r_move rfl) ?_
  refine WL_split (d := 10) rfl (fun _h10 => ?_) (fun _h10 => ?_)
  · have _h10 := bt_d _h10
    refine WL_step rfl rfl (r_move rfl) ?_
    refine WL_step rfl rfl (r_move rfl) ?_
    refine WL_step rfl rfl (r_leq rfl rfl) ?_
    refine WL_step rfl rfl (r_pickT rfl rfl) ?_
    refine WL_step rfl rfl (r_assign rfl) ?_
    refine WL_nil ?_
    refine thn_nrm (_hK_2 _ _ ?_)
    clear _hK_2
    refine W_ret ?_
    exact ret_intro [_] ⟨rfl, trivial⟩ ⟨congrArg Value.bool (by first | rfl | (rw [Bool.eq_iff_iff]; simp <;> omega) | (rw [Bool.eq_iff_iff]; simp_all; done) | simp_all), E⟩
  · have _h10 := bf_d _h10
    refine WL_skip rfl rfl ?_
    refine WL_skip rfl rfl ?_
    refine WL_skip rfl rfl ?_
    refine WL_step rfl rfl (r_pickF rfl rfl) ?_
    refine WL_step rfl rfl (r_assign rfl) ?_
    refine WL_nil ?_
    refine thn_nrm (_hK_2 _ _ ?_)
    clear _hK_2
    refine W_ret ?_
    exact ret_intro [_] ⟨rfl, trivial⟩ ⟨congrArg Value.bool (by first | rfl | (rw [Bool.eq_iff_iff]; simp <;> omega) | (rw [Bool.eq_iff_iff]; simp_all; done) | simp_all), E⟩

/-- spec.ArePairs -/
theorem c_spec_ArePairs {w : World} {_B_l : Nat} {_v_l : Value} {l : List Pair} (_h_l : Ls Pair.cs 2 w _B_l _v_l l) :
    Ctr Try.prog 15 #[_v_l] w (fun v w' => v = .bool (tt (ArePairs l)) ∧ Ch [] w w') := by
  obtain ⟨_A_l, _C_l, _e1_l⟩ := _h_l.val
  subst _e1_l
  have _l_l := _h_l.len
  have _h_l := _h_l.here (by decide)
  have E := Ch.refl [] w
  refine Ctr_of_W (N := 43) (vs0 := [(.slice _A_l l.length _C_l)]) Try.func15 rfl rfl rfl ?_
  refine W_seq fun _K_1 _hK_1 => ?_
  refine W_region ?_
  refine WL_step rfl rfl (r_assign rfl) ?_
  refine WL_nil ?_
  refine thn_nrm (_hK_1 _ _ ?_)
  clear _hK_1
  refine W_seq fun _K_2 _hK_2 => ?_
  refine W_seq fun _K_3 _hK_3 => ?_
  refine W_region ?_
  refine WL_step rfl rfl (r_assign rfl) ?_
  refine WL_nil ?_
  refine thn_nrm (_hK_3 _ _ ?_)
  clear _hK_3
  refine W_block ?_
  refine W_loop (σ := Nat) (fun (k : Nat) => [(0, (.slice _A_l l.length _C_l)), (3, (.int .i64 ((k : Nat) : Int)))]) (fun (k : Nat) wx => Ch [] w wx ∧ k ≤ l.length ∧ ArePP l k) (fun (k : Nat) => l.length - k) 0 (Sub.cons rfl (Sub.cons rfl (Sub.nil _))) ⟨E, (by omega), (are_zero l)⟩ ?_
  rintro k _wr_4 ⟨E, _hk, _ht⟩
  have _E0h := E
  have _E0hz := _E0h.size
  refine W_seq fun _K_5 _hK_5 => ?_
  refine W_seq fun _K_6 _hK_6 => ?_
  refine W_region ?_
  refine WL_step rfl rfl (r_move rfl) ?_
  refine WL_step rfl rfl (r_move rfl) ?_
  refine WL_step rfl rfl (r_len (by rw [el25]; rfl) rfl) ?_
  refine WL_step rfl rfl (r_lss rfl rfl) ?_
  refine WL_nil ?_
  refine thn_nrm (_hK_6 _ _ ?_)
  clear _hK_6
  refine W_cond rfl (fun _h7 => ?_) (fun _h7 => ?_)
  · have _h7 := bt_d _h7
    refine W_skip ?_
    refine thn_nrm (_hK_5 _ _ ?_)
    clear _hK_5
    refine W_seq fun _K_7 _hK_7 => ?_
    refine W_block ?_
    refine W_seq fun _K_8 _hK_8 => ?_
    refine W_drawC [] 33 mixed rfl fun _w_9 _cw_9 => ?_
    have _cw_9z := _cw_9.size
    have E := E.trans _cw_9
    refine DR_s 0 rfl (by kernel_rfl) rfl rfl (t_v (fun _ => (r_move rfl)) ?_)
    refine DR_s 1 rfl (by kernel_rfl) rfl rfl (t_v (fun _ => (r_move rfl)) ?_)
    have _f_10 := ((_h_l.ch0 _E0h).ch0 _cw_9)
    refine DR_s 2 rfl (by kernel_rfl) rfl rfl (t_index _f_10 Pair.len el25 sz57 rfl rfl rfl (by omega) fun _p12 _y12 _hy12 _a12 => ?_)
    refine DR_s 3 rfl (by kernel_rfl) rfl rfl (t_v (fun _ => (r_fieldAddr fa57_0 rfl)) ?_)
    refine DR_s 4 rfl (by kernel_rfl) rfl rfl (t_loadAt _a12 (fun i hi => by first | exact absurd hi (List.not_mem_nil) | (have _h1 := List.mem_singleton.1 hi; omega)) agg3 rfl rfl ?_)
    refine DR_one 5 (by kernel_rfl) ?_
    refine DO_s rfl rfl rfl ?_
    refine Step.call (r_call (xs := [.tmp 14, .const (Go.Value.int Go.IntKind.i64 0), .const (Go.Value.int Go.IntKind.i64 4)]) fk38 rfl) (c_spec_l1In _ _ _ ) fun _v15 _w_11 _q15 => ?_
    obtain ⟨rfl, _cw_11⟩ := _q15
    have _cw_11z := _cw_11.size
    have E := E.trans _cw_11
    have _S_12 : Ch [] _w_9 _w_11 := ((Ch.refl _ _).trans _cw_11.of_nil)
    refine ⟨_S_12, ?_⟩
    refine DR_s 6 rfl (by kernel_rfl) rfl rfl (t_v (fun _ => (r_not rfl)) ?_)
    refine DR_s 7 rfl (by kernel_rfl) rfl rfl (t_v (fun _ => (r_move rfl)) ?_)
    refine DR_split (d := 17) rfl (fun _h17 => ?_) (fun _h17 => ?_)
    · have _h17 := bf_d (bt_n _h17)
      refine DR_skip 8 rfl (by kernel_rfl) rfl rfl ?_
      refine DR_skip 9 rfl (by kernel_rfl) rfl rfl ?_
      refine DR_skip 10 rfl (by kernel_rfl) rfl rfl ?_
      refine DR_skip 11 rfl (by kernel_rfl) rfl rfl ?_
      refine DR_skip 12 rfl (by kernel_rfl) rfl rfl ?_
      refine DR_skip 13 rfl (by kernel_rfl) rfl rfl ?_
      refine DR_skip 14 rfl (by kernel_rfl) rfl rfl ?_
      refine DR_s 15 rfl (by kernel_rfl) rfl rfl (t_v (fun _ => (r_pickT rfl rfl)) ?_)
      refine DR_s 16 rfl (by kernel_rfl) rfl rfl (t_v (fun _ => (r_move rfl)) ?_)
      refine DR_skip 17 rfl (by kernel_rfl) rfl rfl ?_
      refine DR_skip 18 rfl (by kernel_rfl) rfl rfl ?_
      refine DR_skip 19 rfl (by kernel_rfl) rfl rfl ?_
      refine DR_skip 20 rfl (by kernel_rfl) rfl rfl ?_
      refine DR_skip 21 rfl (by kernel_rfl) rfl rfl ?_
      refine DR_skip 22 rfl (by kernel_rfl) rfl rfl ?_
      refine DR_skip 23 rfl (by kernel_rfl) rfl rfl ?_
      refine DR_skip 24 rfl (by kernel_rfl) rfl rfl ?_
      refine DR_skip 25 rfl (by kernel_rfl) rfl rfl ?_
      refine DR_skip 26 rfl (by kernel_rfl) rfl rfl ?_
      refine DR_skip 27 rfl (by kernel_rfl) rfl rfl ?_
      refine DR_skip 28 rfl (by kernel_rfl) rfl rfl ?_
      refine DR_skip 29 rfl (by kernel_rfl) rfl rfl ?_
      refine DR_skip 30 rfl (by kernel_rfl) rfl rfl ?_
      refine DR_skip 31 rfl (by kernel_rfl) rfl rfl ?_
      refine DR_s 32 rfl (by kernel_rfl) rfl rfl (t_v (fun _ => (r_pickT rfl rfl)) ?_)
      refine DR_done (by kernel_rfl) ?_
      refine thn_nrm (_hK_8 _ _ ?_)
      clear _hK_8
      refine W_condT rfl ?_
      refine W_seq fun _K_13 _hK_13 => ?_
      refine W_region ?_
      refine WL_step rfl rfl (r_assign rfl) ?_
      refine WL_nil ?_
      refine thn_nrm (_hK_13 _ _ ?_)
      clear _hK_13
      refine W_ret (inB_ret (thn_ret (thn_ret (inB_ret (thn_ret ?_)))))
      clear _hK_2 _hK_7
      exact ret_intro [_] ⟨rfl, trivial⟩ ⟨congrArg Value.bool (tt_false (fun e => by first | (have _e2 := are_ok e _hy12; unfold okP at _e2; omega) | (have _e2 := are_ok e _hy20; unfold okP at _e2; omega) | (have _e2 := are_lt e (by omega) _hy33 _hy37; exact _h42 _e2))), E⟩
    · have _h17 := bt_d (bf_n _h17)
      refine DR_s 8 rfl (by kernel_rfl) rfl rfl (t_v (fun _ => (r_move rfl)) ?_)
      refine DR_s 9 rfl (by kernel_rfl) rfl rfl (t_v (fun _ => (r_move rfl)) ?_)
      refine DR_s 10 rfl (by kernel_rfl) rfl rfl (t_index _f_10 Pair.len el25 sz57 rfl rfl rfl (by omega) fun _p20 _y20 _hy20 _a20 => ?_)
      refine DR_s 11 rfl (by kernel_rfl) rfl rfl (t_v (fun _ => (r_fieldAddr fa57_1 rfl)) ?_)
      refine DR_s 12 rfl (by kernel_rfl) rfl rfl (t_loadAt _a20 (fun i hi => by first | exact absurd hi (List.not_mem_nil) | (have _h1 := List.mem_singleton.1 hi; omega)) agg3 rfl rfl ?_)
      refine DR_one 13 (by kernel_rfl) ?_
      refine DO_s rfl rfl rfl ?_
      refine Step.call (r_call (xs := [.tmp 22, .const (Go.Value.int Go.IntKind.i64 0), .const (Go.Value.int Go.IntKind.i64 4)]) fk38 rfl) (c_spec_l1In _ _ _ ) fun _v23 _w_14 _q23 => ?_
      obtain ⟨rfl, _cw_14⟩ := _q23
      have _cw_14z := _cw_14.size
      have E := E.trans _cw_14
      have _S_15 : Ch [] _w_9 _w_14 := (_S_12.trans _cw_14.of_nil)
      refine ⟨_S_15, ?_⟩
      refine DR_s 14 rfl (by kernel_rfl) rfl rfl (t_v (fun _ => (r_not rfl)) ?_)
      refine DR_s 15 rfl (by kernel_rfl) rfl rfl (t_v (fun _ => (r_pickF rfl rfl)) ?_)
      refine DR_s 16 rfl (by kernel_rfl) rfl rfl (t_v (fun _ => (r_move rfl)) ?_)
      refine DR_split (d := 26) rfl (fun _h26 => ?_) (fun _h26 => ?_)
      · have _h26 := bf_d (bt_n _h26)
        refine DR_skip 17 rfl (by kernel_rfl) rfl rfl ?_
        refine DR_skip 18 rfl (by kernel_rfl) rfl rfl ?_
        refine DR_skip 19 rfl (by kernel_rfl) rfl rfl ?_
        refine DR_skip 20 rfl (by kernel_rfl) rfl rfl ?_
        refine DR_skip 21 rfl (by kernel_rfl) rfl rfl ?_
        refine DR_skip 22 rfl (by kernel_rfl) rfl rfl ?_
        refine DR_skip 23 rfl (by kernel_rfl) rfl rfl ?_
        refine DR_skip 24 rfl (by kernel_rfl) rfl rfl ?_
        refine DR_skip 25 rfl (by kernel_rfl) rfl rfl ?_
        refine DR_skip 26 rfl (by kernel_rfl) rfl rfl ?_
        refine DR_skip 27 rfl (by kernel_rfl) rfl rfl ?_
        refine DR_skip 28 rfl (by kernel_rfl) rfl rfl ?_
        refine DR_skip 29 rfl (by kernel_rfl) rfl rfl ?_
        refine DR_skip 30 rfl (by kernel_rfl) rfl rfl ?_
        refine DR_skip 31 rfl (by kernel_rfl) rfl rfl ?_
        refine DR_s 32 rfl (by kernel_rfl) rfl rfl (t_v (fun _ => (r_pickT rfl rfl)) ?_)
        refine DR_done (by kernel_rfl) ?_
        refine thn_nrm (_hK_8 _ _ ?_)
        clear _hK_8
        refine W_condT rfl ?_
        refine W_seq fun _K_16 _hK_16 => ?_
        refine W_region ?_
        refine WL_step rfl rfl (r_assign rfl) ?_
        refine WL_nil ?_
        refine thn_nrm (_hK_16 _ _ ?_)
        clear _hK_16
        refine W_ret (inB_ret (thn_ret (thn_ret (inB_ret (thn_ret ?_)))))
        clear _hK_2 _hK_7
        exact ret_intro [_] ⟨rfl, trivial⟩ ⟨congrArg Value.bool (tt_false (fun e => by first | (have _e2 := are_ok e _hy12; unfold okP at _e2; omega) | (have _e2 := are_ok e _hy20; unfold okP at _e2; omega) | (have _e2 := are_lt e (by omega) _hy33 _hy37; exact _h42 _e2))), E⟩
      · have _h26 := bt_d (bf_n _h26)
        refine DR_s 17 rfl (by kernel_rfl) rfl rfl (t_v (fun _ => (r_move rfl)) ?_)
        refine DR_s 18 rfl (by kernel_rfl) rfl rfl (t_v (fun _ => (r_gtr rfl rfl)) ?_)
        refine DR_s 19 rfl (by kernel_rfl) rfl rfl (t_v (fun _ => (r_move rfl)) ?_)
        refine DR_split (d := 29) rfl (fun _h29 => ?_) (fun _h29 => ?_)
        · have _h29 := bt_d _h29
          refine DR_s 20 rfl (by kernel_rfl) rfl rfl (t_v (fun _ => (r_move rfl)) ?_)
          refine DR_s 21 rfl (by kernel_rfl) rfl rfl (t_v (fun _ => (r_move rfl)) ?_)
          refine DR_s 22 rfl (by kernel_rfl) rfl rfl (t_v (fun _ => (r_sub (by omega) rfl rfl)) ?_)
          refine DR_s 23 rfl (by kernel_rfl) rfl rfl (t_index (j := (((k : Nat) : Int) - 1).toNat) _f_10 Pair.len el25 sz57 rfl rfl (by omega) (by omega) fun _p33 _y33 _hy33 _a33 => ?_)
          refine DR_s 24 rfl (by kernel_rfl) rfl rfl (t_loadAtA0 _a33 (fun i hi => by first | exact absurd hi (List.not_mem_nil) | (have _h1 := List.mem_singleton.1 hi; omega)) agg57 sz57 rfl ?_)
          refine DR_s 25 rfl (by kernel_rfl) rfl rfl (t_v (fun _ => (r_move rfl)) ?_)
          refine DR_s 26 rfl (by kernel_rfl) rfl rfl (t_v (fun _ => (r_move rfl)) ?_)
          refine DR_s 27 rfl (by kernel_rfl) rfl rfl (t_index _f_10 Pair.len el25 sz57 rfl rfl rfl (by omega) fun _p37 _y37 _hy37 _a37 => ?_)
          refine DR_s 28 rfl (by kernel_rfl) rfl rfl (t_loadAtA0 _a37 (fun i hi => by first | exact absurd hi (List.not_mem_nil) | (have _h1 := List.mem_singleton.1 hi; omega)) agg57 sz57 rfl ?_)
          refine DR_one 29 (by kernel_rfl) ?_
          refine DO_s rfl rfl rfl ?_
          refine Step.call (r_call (xs := [.tmp 34, .tmp 38]) fk39 rfl) (c_spec_l15Less _y33 _y37 ) fun _v39 _w_17 _q39 => ?_
          obtain ⟨rfl, _cw_17⟩ := _q39
          have _cw_17z := _cw_17.size
          have E := E.trans _cw_17
          have _S_18 : Ch [] _w_9 _w_17 := (_S_15.trans _cw_17.of_nil)
          refine ⟨_S_18, ?_⟩
          refine DR_s 30 rfl (by kernel_rfl) rfl rfl (t_v (fun _ => (r_not rfl)) ?_)
          refine DR_s 31 rfl (by kernel_rfl) rfl rfl (t_v (fun _ => (r_pickT rfl rfl)) ?_)
          refine DR_s 32 rfl (by kernel_rfl) rfl rfl (t_v (fun _ => (r_pickF rfl rfl)) ?_)
          refine DR_done (by kernel_rfl) ?_
          refine thn_nrm (_hK_8 _ _ ?_)
          clear _hK_8
          refine W_cond rfl (fun _h42 => ?_) (fun _h42 => ?_)
          · have _h42 := bf_t (bt_n _h42)
            refine W_seq fun _K_19 _hK_19 => ?_
            refine W_region ?_
            refine WL_step rfl rfl (r_assign rfl) ?_
            refine WL_nil ?_
            refine thn_nrm (_hK_19 _ _ ?_)
            clear _hK_19
            refine W_ret (inB_ret (thn_ret (thn_ret (inB_ret (thn_ret ?_)))))
            clear _hK_2 _hK_7
            exact ret_intro [_] ⟨rfl, trivial⟩ ⟨congrArg Value.bool (tt_false (fun e => by first | (have _e2 := are_ok e _hy12; unfold okP at _e2; omega) | (have _e2 := are_ok e _hy20; unfold okP at _e2; omega) | (have _e2 := are_lt e (by omega) _hy33 _hy37; exact _h42 _e2))), E⟩
          · have _h42 := bt_t (bf_n _h42)
            refine W_skip ?_
            refine inB_nrm ?_
            refine thn_nrm (_hK_7 _ _ ?_)
            clear _hK_7
            refine W_region ?_
            refine WL_step rfl rfl (r_move rfl) ?_
            refine WL_step rfl rfl (r_add (by omega) rfl rfl) ?_
            refine WL_step rfl rfl (r_assign rfl) ?_
            refine WL_nil ?_
            exact thn_nrm (Exists.intro (k + 1) ⟨⟨E, (by omega), (by rw [_hy12] at _hy20; cases _hy20; first | exact are_step _ht _hy12 ⟨_h17.1, _h17.2, _h26.1, _h26.2⟩ (fun j p hj => absurd hj (by omega)) | (refine are_step _ht _hy12 ⟨_h17.1, _h17.2, _h26.1, _h26.2⟩ (fun j p hj hp => ?_); obtain rfl : j = ((k : Int) - 1).toNat := (by omega); rw [_hy33] at hp; cases hp; rw [_hy12] at _hy37; cases _hy37; exact _h42))⟩, Sub.cons rfl (Sub.cons rfl (Sub.nil _)), (by first | omega | (dsimp only; omega))⟩)
        · have _h29 := bf_d _h29
          refine DR_skip 20 rfl (by kernel_rfl) rfl rfl ?_
          refine DR_skip 21 rfl (by kernel_rfl) rfl rfl ?_
          refine DR_skip 22 rfl (by kernel_rfl) rfl rfl ?_
          refine DR_skip 23 rfl (by kernel_rfl) rfl rfl ?_
          refine DR_skip 24 rfl (by kernel_rfl) rfl rfl ?_
          refine DR_skip 25 rfl (by kernel_rfl) rfl rfl ?_
          refine DR_skip 26 rfl (by kernel_rfl) rfl rfl ?_
          refine DR_skip 27 rfl (by kernel_rfl) rfl rfl ?_
          refine DR_skip 28 rfl (by kernel_rfl) rfl rfl ?_
          refine DR_skip 29 rfl (by kernel_rfl) rfl rfl ?_
          refine DR_skip 30 rfl (by kernel_rfl) rfl rfl ?_
          refine DR_s 31 rfl (by kernel_rfl) rfl rfl (t_v (fun _ => (r_pickF rfl rfl)) ?_)
          refine DR_s 32 rfl (by kernel_rfl) rfl rfl (t_v (fun _ => (r_pickF rfl rfl)) ?_)
          refine DR_done (by kernel_rfl) ?_
          refine thn_nrm (_hK_8 _ _ ?_)
          clear _hK_8
          refine W_condF rfl ?_
          refine W_skip ?_
          refine inB_nrm ?_
          refine thn_nrm (_hK_7 _ _ ?_)
          clear _hK_7
          refine W_region ?_
          refine WL_step rfl rfl (r_move rfl) ?_
          refine WL_step rfl rfl (r_add (by omega) rfl rfl) ?_
          refine WL_step rfl rfl (r_assign rfl) ?_
          refine WL_nil ?_
          exact thn_nrm (Exists.intro (k + 1) ⟨⟨E, (by omega), (by rw [_hy12] at _hy20; cases _hy20; first | exact are_step _ht _hy12 ⟨_h17.1, _h17.2, _h26.1, _h26.2⟩ (fun j p hj => absurd hj (by omega)) | (refine are_step _ht _hy12 ⟨_h17.1, _h17.2, _h26.1, _h26.2⟩ (fun j p hj hp => ?_); obtain rfl : j = ((k : Int) - 1).toNat := (by omega); rw [_hy33] at hp; cases hp; rw [_hy12] at _hy37; cases _hy37; exact _h42))⟩, Sub.cons rfl (Sub.cons rfl (Sub.nil _)), (by first | omega | (dsimp only; omega))⟩)
  · have _h7 := bf_d _h7
    refine W_exit (thn_exit (thn_exit (inB_hit ?_)))
    refine thn_nrm (_hK_2 _ _ ?_)
    clear _hK_2
    refine W_seq fun _K_20 _hK_20 => ?_
    refine W_region ?_
    refine WL_step rfl rfl (r_assign rfl) ?_
    refine WL_nil ?_
    refine thn_nrm (_hK_20 _ _ ?_)
    clear _hK_20
    refine W_ret ?_
    clear _hK_5
    exact ret_intro [_] ⟨rfl, trivial⟩ ⟨congrArg Value.bool (tt_true (are_all _ht (by omega))), E⟩

/-- laws.FnExactArePairs -/
theorem c_laws_FnExactArePairs {w : World} {_B_l : Nat} {_v_l : Value} {l : List Pair} (_h_l : Ls Pair.cs 2 w _B_l _v_l l) :
    Ctr Try.prog 4 #[_v_l] w (fun v w' => v = .bool (true) ∧ Ch [] w w') := by
  obtain ⟨_A_l, _C_l, _e1_l⟩ := _h_l.val
  subst _e1_l
  have _l_l := _h_l.len
  have _h_l := _h_l.here (by decide)
  have E := Ch.refl [] w
  refine Ctr_of_W (N := 27) (vs0 := [(.slice _A_l l.length _C_l)]) Try.func4 rfl rfl rfl ?_
  refine W_seq fun _K_1 _hK_1 => ?_
  refine W_region ?_
  refine WL_step rfl rfl (r_assign rfl) ?_
  refine WL_nil ?_
  refine thn_nrm (_hK_1 _ _ ?_)
  clear _hK_1
  refine W_seq fun _K_2 _hK_2 => ?_
  refine W_region ?_
  refine WL_step rfl rfl (r_assign rfl) ?_
  refine WL_nil ?_
  refine thn_nrm (_hK_2 _ _ ?_)
  clear _hK_2
  refine W_seq fun _K_3 _hK_3 => ?_
  refine W_region ?_
  refine WL_step rfl rfl (r_move rfl) ?_
  refine WL_step rfl rfl (r_move rfl) ?_
  refine WL_s rfl rfl ?_
  refine Step.call (r_call (xs := [.tmp 7, .tmp 8]) fk10 rfl) (c_laws_szPairS _h_l _ (by omega) (by omega)) fun _v9 _w_4 _q9 => ?_
  obtain ⟨rfl, _cw_4⟩ := _q9
  have _cw_4z := _cw_4.size
  have E := E.trans _cw_4
  refine WL_step rfl rfl (r_assign rfl) ?_
  refine WL_nil ?_
  refine thn_nrm (_hK_3 _ _ ?_)
  clear _hK_3
  refine W_seq fun _K_5 _hK_5 => ?_
  refine W_seq fun _K_6 _hK_6 => ?_
  refine W_region ?_
  refine WL_step rfl rfl (r_move rfl) ?_
  refine WL_step rfl rfl (r_lss rfl rfl) ?_
  refine WL_nil ?_
  refine thn_nrm (_hK_6 _ _ ?_)
  clear _hK_6
  refine W_cond rfl (fun _h11 => ?_) (fun _h11 => ?_)
  · have _h11 := bt_d _h11
    refine W_seq fun _K_7 _hK_7 => ?_
    refine W_region ?_
    refine WL_step rfl rfl (r_assign rfl) ?_
    refine WL_nil ?_
    refine thn_nrm (_hK_7 _ _ ?_)
    clear _hK_7
    refine W_ret (thn_ret ?_)
    clear _hK_5
    exact ret_intro [_] ⟨rfl, trivial⟩ ⟨congrArg Value.bool (by first | rfl | (exfalso; exact absurd _h11 (by simp)) | (exfalso; omega) | (exfalso; revert _h11; simp <;> omega)), E⟩
  · have _h11 := bf_d _h11
    refine W_skip ?_
    refine thn_nrm (_hK_5 _ _ ?_)
    clear _hK_5
    refine W_seq fun _K_8 _hK_8 => ?_
    refine W_region ?_
    refine WL_step rfl rfl (r_move rfl) ?_
    refine WL_s rfl rfl ?_
    have _f_9 := (_h_l.ch0 _cw_4)
    refine Step.call (r_call (xs := [.tmp 12]) fk12 rfl) (c_laws_toPairS _f_9 (by omega)) fun _v13 _w_10 _q13 => ?_
    obtain ⟨_q13, _lo13, _cw_10⟩ := _q13
    have _cw_10z := _cw_10.size
    have E := E.trans _cw_10
    obtain ⟨_Av13, _Cv13, _ev13⟩ := _q13.val
    subst _ev13
    have _lv13 := _q13.len
    have _hiv13 := _q13.lt
    refine WL_s rfl rfl ?_
    refine Step.call (r_call (xs := [.tmp 13]) fk15 rfl) (c_spec_ArePairs _q13.ls ) fun _v14 _w_11 _q14 => ?_
    obtain ⟨rfl, _cw_11⟩ := _q14
    have _cw_11z := _cw_11.size
    have E := E.trans _cw_11
    refine WL_step rfl rfl (r_assign rfl) ?_
    refine WL_nil ?_
    refine thn_nrm (_hK_8 _ _ ?_)
    clear _hK_8
    refine W_seq fun _K_12 _hK_12 => ?_
    refine W_region ?_
    refine WL_step rfl rfl (r_move rfl) ?_
    refine WL_s rfl rfl ?_
    have _f_13 := ((_f_9.ch0 _cw_10).ch0 _cw_11)
    refine Step.call (r_call (xs := [.tmp 15]) fk12 rfl) (c_laws_toPairS _f_13 (by omega)) fun _v16 _w_14 _q16 => ?_
    obtain ⟨_q16, _lo16, _cw_14⟩ := _q16
    have _cw_14z := _cw_14.size
    have E := E.trans _cw_14
    obtain ⟨_Av16, _Cv16, _ev16⟩ := _q16.val
    subst _ev16
    have _lv16 := _q16.len
    have _hiv16 := _q16.lt
    refine WL_step rfl rfl (r_assign rfl) ?_
    refine WL_nil ?_
    refine thn_nrm (_hK_12 _ _ ?_)
    clear _hK_12
    refine W_seq fun _K_15 _hK_15 => ?_
    refine W_region ?_
    refine WL_step rfl rfl (r_move rfl) ?_
    refine WL_s rfl rfl ?_
    refine Step.call (r_call (xs := [.tmp 17]) fk16 rfl) (c_impl_ArePairs _q16.ls ) fun _v18 _w_16 _q18 => ?_
    obtain ⟨rfl, _cw_16⟩ := _q18
    have _cw_16z := _cw_16.size
    have E := E.trans _cw_16
    refine WL_step rfl rfl (r_assign rfl) ?_
    refine WL_nil ?_
    refine thn_nrm (_hK_15 _ _ ?_)
    clear _hK_15
    refine W_seq fun _K_17 _hK_17 => ?_
    refine W_seq fun _K_18 _hK_18 => ?_
    refine W_region ?_
    refine WL_step rfl rfl (r_move rfl) ?_
    refine WL_step rfl rfl (r_move rfl) ?_
    refine WL_step rfl rfl (r_neqB un4 rfl rfl) ?_
    refine WL_nil ?_
    refine thn_nrm (_hK_18 _ _ ?_)
    clear _hK_18
    refine W_cond rfl (fun _h21 => ?_) (fun _h21 => ?_)
    · have _h21 := bf_e (bt_n _h21)
      refine W_seq fun _K_19 _hK_19 => ?_
      refine W_region ?_
      refine WL_step rfl rfl (r_assign rfl) ?_
      refine WL_nil ?_
      refine thn_nrm (_hK_19 _ _ ?_)
      clear _hK_19
      refine W_ret (thn_ret ?_)
      clear _hK_17
      exact ret_intro [_] ⟨rfl, trivial⟩ ⟨congrArg Value.bool (by first | rfl | (exfalso; exact absurd _h21 (by simp)) | (exfalso; omega) | (exfalso; revert _h21; simp <;> omega)), E⟩
    · have _h21 := bt_e (bf_n _h21)
      refine W_skip ?_
      refine thn_nrm (_hK_17 _ _ ?_)
      clear _hK_17
      refine W_seq fun _K_20 _hK_20 => ?_
      refine W_seq fun _K_21 _hK_21 => ?_
      refine W_region ?_
      refine WL_step rfl rfl (r_move rfl) ?_
      refine WL_step rfl rfl (r_move rfl) ?_
      refine WL_s rfl rfl ?_
      have _f_22 := ((_f_13.ch0 _cw_14).ch0 _cw_16)
      refine Step.call (r_call (xs := [.tmp 23]) fk12 rfl) (c_laws_toPairS _f_22 (by omega)) fun _v24 _w_23 _q24 => ?_
      obtain ⟨_q24, _lo24, _cw_23⟩ := _q24
      have _cw_23z := _cw_23.size
      have E := E.trans _cw_23
      obtain ⟨_Av24, _Cv24, _ev24⟩ := _q24.val
      subst _ev24
      have _lv24 := _q24.len
      have _hiv24 := _q24.lt
      refine WL_s rfl rfl ?_
      have _f_24 := ((_q16.ch0 _cw_16).ch0 _cw_23)
      refine Step.call (r_call (xs := [.tmp 22, .tmp 24]) fk14 rfl) (c_laws_eqPairS _f_24.ls _q24.ls ) fun _v25 _w_25 _q25 => ?_
      obtain ⟨rfl, _cw_25⟩ := _q25
      have _cw_25z := _cw_25.size
      have E := E.trans _cw_25
      refine WL_step rfl rfl (r_not rfl) ?_
      refine WL_nil ?_
      refine thn_nrm (_hK_21 _ _ ?_)
      clear _hK_21
      refine W_cond rfl (fun _h26 => ?_) (fun _h26 => ?_)
      · have _h26 := bf_d (bt_n _h26)
        refine W_seq fun _K_26 _hK_26 => ?_
        refine W_region ?_
        refine WL_step rfl rfl (r_assign rfl) ?_
        refine WL_nil ?_
        refine thn_nrm (_hK_26 _ _ ?_)
        clear _hK_26
        refine W_ret (thn_ret ?_)
        clear _hK_20
        exact ret_intro [_] ⟨rfl, trivial⟩ ⟨congrArg Value.bool (by first | rfl | (exfalso; exact absurd _h26 (by simp)) | (exfalso; omega) | (exfalso; revert _h26; simp <;> omega)), E⟩
      · have _h26 := bt_d (bf_n _h26)
        refine W_skip ?_
        refine thn_nrm (_hK_20 _ _ ?_)
        clear _hK_20
        refine W_seq fun _K_27 _hK_27 => ?_
        refine W_region ?_
        refine WL_step rfl rfl (r_assign rfl) ?_
        refine WL_nil ?_
        refine thn_nrm (_hK_27 _ _ ?_)
        clear _hK_27
        refine W_ret ?_
        exact ret_intro [_] ⟨rfl, trivial⟩ ⟨congrArg Value.bool (by first | rfl | (exfalso; exact absurd _h26 (by simp)) | (exfalso; omega) | (exfalso; revert _h26; simp <;> omega)), E⟩

end Go.Proofs.Ytiadcghbjphchaa
