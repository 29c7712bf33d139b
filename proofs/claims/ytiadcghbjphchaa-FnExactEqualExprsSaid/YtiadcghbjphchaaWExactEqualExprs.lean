/- The walks of all functions that FnExactEqualExprs reaches: what each returns, and that it leaves the memory that was there alone. -/
import Derived.Test.YtiadcghbjphchaaKF
import Derived.Test.YtiadcghbjphchaaKG
import Derived.Test.YtiadcghbjphchaaProg
namespace Go.Proofs.Ytiadcghbjphchaa
open Go.KLib
set_option maxRecDepth 20000
theorem agg3 : aggB Try.prog 3 = some false := by kernel_rfl
theorem agg30 : aggB Try.prog 30 = some false := by kernel_rfl
theorem agg32 : aggB Try.prog 32 = some true := by kernel_rfl
theorem agg37 : aggB Try.prog 37 = some false := by kernel_rfl
theorem agg39 : aggB Try.prog 39 = some true := by kernel_rfl
theorem agg64 : aggB Try.prog 64 = some true := by kernel_rfl
theorem agg75 : aggB Try.prog 75 = some true := by kernel_rfl
theorem by64 : bytesB Try.prog 64 = some 32 := by kernel_rfl
theorem el30 : elB Try.prog 30 = some 64 := by kernel_rfl
theorem el37 : elB Try.prog 37 = some 75 := by kernel_rfl
theorem fa32_0 : faB Try.prog 32 0 = some 0 := by kernel_rfl
theorem fa39_0 : faB Try.prog 39 0 = some 0 := by kernel_rfl
theorem fa64_0 : faB Try.prog 64 0 = some 0 := by kernel_rfl
theorem fa64_1 : faB Try.prog 64 1 = some 1 := by kernel_rfl
theorem fa64_2 : faB Try.prog 64 2 = some 2 := by kernel_rfl
theorem fa64_3 : faB Try.prog 64 3 = some 3 := by kernel_rfl
theorem fa75_0 : faB Try.prog 75 0 = some 0 := by kernel_rfl
theorem fa75_1 : faB Try.prog 75 1 = some 1 := by kernel_rfl
theorem fa75_2 : faB Try.prog 75 2 = some 2 := by kernel_rfl
theorem fa75_3 : faB Try.prog 75 3 = some 3 := by kernel_rfl
theorem fk19 : fnB Try.prog 19 = true := by kernel_rfl
theorem fk22 : fnB Try.prog 22 = true := by kernel_rfl
theorem fk23 : fnB Try.prog 23 = true := by kernel_rfl
theorem fk24 : fnB Try.prog 24 = true := by kernel_rfl
theorem fk25 : fnB Try.prog 25 = true := by kernel_rfl
theorem fk42 : fnB Try.prog 42 = true := by kernel_rfl
theorem fk45 : fnB Try.prog 45 = true := by kernel_rfl
theorem fk46 : fnB Try.prog 46 = true := by kernel_rfl
theorem fk47 : fnB Try.prog 47 = true := by kernel_rfl
theorem fk60 : fnB Try.prog 60 = true := by kernel_rfl
theorem fk61 : fnB Try.prog 61 = true := by kernel_rfl
theorem ist64 : intStructB Try.prog 64 4 = true := by kernel_rfl
theorem mixed : Try.prog.follows .mixedOrders = true := by kernel_rfl
theorem sz3 : sizeB Try.prog 3 = some 1 := by kernel_rfl
theorem sz30 : sizeB Try.prog 30 = some 1 := by kernel_rfl
theorem sz32 : sizeB Try.prog 32 = some 1 := by kernel_rfl
theorem sz39 : sizeB Try.prog 39 = some 1 := by kernel_rfl
theorem sz64 : sizeB Try.prog 64 = some 4 := by kernel_rfl
theorem sz75 : sizeB Try.prog 75 = some 4 := by kernel_rfl
theorem un4 : Try.prog.underlying 4 = some (.bool) := by kernel_rfl
theorem zr32 : zeroB Try.prog 32 = some (.agg #[.slice none 0 0]) := by kernel_rfl
theorem zr64 : zeroB Try.prog 64 = some (.agg #[.int .i64 0, .int .i64 0, .int .i64 0, .int .i64 0]) := by kernel_rfl

/-- slices.Equal[[]impl.Token,impl.Token] -/
theorem c_slices_Equal_impl_Token_impl_Token {w : World} {_B_a : Nat} {_v_a : Value} {a : List Token} (_h_a : Ls Token.cs 4 w _B_a _v_a a) {_B_b : Nat} {_v_b : Value} {b : List Token} (_h_b : Ls Token.cs 4 w _B_b _v_b b) :
    Ctr Try.prog 47 #[_v_a, _v_b] w (fun v w' => v = .bool (decide (a = b)) ∧ Ch [] w w') := by
  obtain ⟨_A_a, _C_a, _e1_a⟩ := _h_a.val
  subst _e1_a
  have _l_a := _h_a.len
  have _h_a := _h_a.here (by decide)
  obtain ⟨_A_b, _C_b, _e1_b⟩ := _h_b.val
  subst _e1_b
  have _l_b := _h_b.len
  have _h_b := _h_b.here (by decide)
  have E := Ch.refl [] w
  refine Ctr_of_W (N := 26) (vs0 := [(.slice _A_a a.length _C_a), (.slice _A_b b.length _C_b)]) Try.func47 rfl rfl rfl ?_
  refine W_seq fun _K_1 _hK_1 => ?_
  refine W_region ?_
  refine WL_step rfl rfl (r_assign rfl) ?_
  refine WL_nil ?_
  refine thn_nrm (_hK_1 _ _ ?_)
  clear _hK_1
  refine W_seq fun _K_2 _hK_2 => ?_
  refine W_seq fun _K_3 _hK_3 => ?_
  refine W_region ?_
  refine WL_step rfl rfl (r_move rfl) ?_
  refine WL_step rfl rfl (r_len (by rw [el30]; rfl) rfl) ?_
  refine WL_step rfl rfl (r_move rfl) ?_
  refine WL_step rfl rfl (r_len (by rw [el30]; rfl) rfl) ?_
  refine WL_step rfl rfl (r_neq rfl rfl) ?_
  refine WL_nil ?_
  refine thn_nrm (_hK_3 _ _ ?_)
  clear _hK_3
  refine W_cond rfl (fun _h10 => ?_) (fun _h10 => ?_)
  · have _h10 := bf_d (bt_n _h10)
    refine W_seq fun _K_4 _hK_4 => ?_
    refine W_region ?_
    refine WL_step rfl rfl (r_assign rfl) ?_
    refine WL_nil ?_
    refine thn_nrm (_hK_4 _ _ ?_)
    clear _hK_4
    refine W_ret (thn_ret ?_)
    clear _hK_2
    exact ret_intro [_] ⟨rfl, trivial⟩ ⟨congrArg Value.bool (decide_eq_false (fun e => _h10 (by rw [e]))).symm, E⟩
  · have _h10 := bt_d (bf_n _h10)
    refine W_skip ?_
    refine thn_nrm (_hK_2 _ _ ?_)
    clear _hK_2
    refine W_seq fun _K_5 _hK_5 => ?_
    refine W_seq fun _K_6 _hK_6 => ?_
    refine W_region ?_
    refine WL_step rfl rfl (r_move rfl) ?_
    refine WL_step rfl rfl (r_len (by rw [el30]; rfl) rfl) ?_
    refine WL_step rfl rfl (r_move rfl) ?_
    refine WL_nil ?_
    refine thn_nrm (_hK_6 _ _ ?_)
    clear _hK_6
    refine W_block ?_
    refine W_loop (σ := Nat) (fun (k : Nat) => [(0, (.slice _A_a a.length _C_a)), (1, (.slice _A_b b.length _C_b)), (6, (.slice _A_a a.length _C_a)), (7, (.int .i64 ((a.length : Nat) : Int))), (8, (.slice _A_b b.length _C_b)), (9, (.int .i64 ((b.length : Nat) : Int))), (10, (.bool (!decide (((a.length : Nat) : Int) = ((b.length : Nat) : Int))))), (11, (.slice _A_a a.length _C_a)), (12, (.int .i64 ((a.length : Nat) : Int))), (13, (.int .i64 ((k : Nat) : Int)))]) (fun (k : Nat) wx => Ch [] w wx ∧ k ≤ a.length ∧ a.take k = b.take k) (fun (k : Nat) => a.length - k) 0 (Sub.cons rfl (Sub.cons rfl (Sub.cons rfl (Sub.cons rfl (Sub.cons rfl (Sub.cons rfl (Sub.cons rfl (Sub.cons rfl (Sub.cons rfl (Sub.cons rfl (Sub.nil _))))))))))) ⟨E, (by omega), rfl⟩ ?_
    rintro k _wr_7 ⟨E, _hk, _ht⟩
    have _E0h := E
    have _E0hz := _E0h.size
    refine W_seq fun _K_8 _hK_8 => ?_
    refine W_region ?_
    refine WL_step rfl rfl (r_lss rfl rfl) ?_
    refine WL_nil ?_
    refine thn_nrm (_hK_8 _ _ ?_)
    clear _hK_8
    refine W_seq fun _K_9 _hK_9 => ?_
    refine W_cond rfl (fun _h14 => ?_) (fun _h14 => ?_)
    · have _h14 := bt_d _h14
      refine W_skip ?_
      refine thn_nrm (_hK_9 _ _ ?_)
      clear _hK_9
      refine W_seq fun _K_10 _hK_10 => ?_
      refine W_block ?_
      refine W_seq fun _K_11 _hK_11 => ?_
      refine W_region ?_
      refine WL_step rfl rfl (r_move rfl) ?_
      refine WL_step rfl rfl (r_assign rfl) ?_
      refine WL_nil ?_
      refine thn_nrm (_hK_11 _ _ ?_)
      clear _hK_11
      refine W_seq fun _K_12 _hK_12 => ?_
      refine W_drawC [] 9 mixed rfl fun _w_13 _cw_13 => ?_
      have _cw_13z := _cw_13.size
      have E := E.trans _cw_13
      refine DR_s 0 rfl (by kernel_rfl) rfl rfl (t_v (fun _ => (r_move rfl)) ?_)
      refine DR_s 1 rfl (by kernel_rfl) rfl rfl (t_v (fun _ => (r_move rfl)) ?_)
      have _f_14 := ((_h_a.ch0 _E0h).ch0 _cw_13)
      refine DR_s 2 rfl (by kernel_rfl) rfl rfl (t_index _f_14 Token.len el30 sz64 rfl rfl rfl (by omega) fun _p18 _y18 _hy18 _a18 => ?_)
      refine DR_s 3 rfl (by kernel_rfl) rfl rfl (t_loadAtA0 _a18 (fun i hi => by first | exact absurd hi (List.not_mem_nil) | (have _h1 := List.mem_singleton.1 hi; omega)) agg64 sz64 rfl ?_)
      refine DR_s 4 rfl (by kernel_rfl) rfl rfl (t_v (fun _ => (r_move rfl)) ?_)
      refine DR_s 5 rfl (by kernel_rfl) rfl rfl (t_v (fun _ => (r_move rfl)) ?_)
      have _f_15 := ((_h_b.ch0 _E0h).ch0 _cw_13)
      refine DR_s 6 rfl (by kernel_rfl) rfl rfl (t_index _f_15 Token.len el30 sz64 rfl rfl rfl (by omega) fun _p22 _y22 _hy22 _a22 => ?_)
      refine DR_s 7 rfl (by kernel_rfl) rfl rfl (t_loadAtA0 _a22 (fun i hi => by first | exact absurd hi (List.not_mem_nil) | (have _h1 := List.mem_singleton.1 hi; omega)) agg64 sz64 rfl ?_)
      refine DR_s 8 rfl (by kernel_rfl) rfl rfl (t_v (fun _ => (r_neqI [_y18.kind, _y18.letter, _y18.low, _y18.high] [_y22.kind, _y22.letter, _y22.low, _y22.high] ist64 rfl rfl rfl)) ?_)
      refine DR_done (by kernel_rfl) ?_
      refine thn_nrm (_hK_12 _ _ ?_)
      clear _hK_12
      refine W_cond rfl (fun _h24 => ?_) (fun _h24 => ?_)
      · have _h24 := bf_d (bt_n _h24)
        refine W_seq fun _K_16 _hK_16 => ?_
        refine W_region ?_
        refine WL_step rfl rfl (r_assign rfl) ?_
        refine WL_nil ?_
        refine thn_nrm (_hK_16 _ _ ?_)
        clear _hK_16
        refine W_ret (inB_ret (thn_ret (thn_ret (inB_ret (thn_ret ?_)))))
        clear _hK_5 _hK_10
        exact ret_intro [_] ⟨rfl, trivial⟩ ⟨congrArg Value.bool (decide_eq_false (ne_of_get _hy18 _hy22 (fun e => _h24 (by rw [e])))).symm, E⟩
      · have _h24 := bt_d (bf_n _h24)
        refine W_skip ?_
        refine inB_nrm ?_
        refine thn_nrm (_hK_10 _ _ ?_)
        clear _hK_10
        refine W_region ?_
        refine WL_step rfl rfl (r_add (by omega) rfl rfl) ?_
        refine WL_step rfl rfl (r_move rfl) ?_
        refine WL_nil ?_
        exact thn_nrm (Exists.intro (k + 1) ⟨⟨E, (by omega), (take_eq_succ _ht _hy18 _hy22 (Token.inj _h24))⟩, Sub.cons rfl (Sub.cons rfl (Sub.cons rfl (Sub.cons rfl (Sub.cons rfl (Sub.cons rfl (Sub.cons rfl (Sub.cons rfl (Sub.cons rfl (Sub.cons rfl (Sub.nil _)))))))))), (by first | omega | (dsimp only; omega))⟩)
    · have _h14 := bf_d _h14
      refine W_exit (thn_exit (thn_exit (inB_hit ?_)))
      refine thn_nrm (_hK_5 _ _ ?_)
      clear _hK_5
      refine W_seq fun _K_17 _hK_17 => ?_
      refine W_region ?_
      refine WL_step rfl rfl (r_assign rfl) ?_
      refine WL_nil ?_
      refine thn_nrm (_hK_17 _ _ ?_)
      clear _hK_17
      refine W_ret ?_
      clear _hK_9
      exact ret_intro [_] ⟨rfl, trivial⟩ ⟨congrArg Value.bool (decide_eq_true (eq_of_take _ht (by omega) (by omega))).symm, E⟩

/-- impl.EqualExprs -/
theorem c_impl_EqualExprs {w : World} {_B_a : Nat} {_v_a : Value} {a : List Token} (_h_a : Ls Token.cs 4 w _B_a _v_a a) {_B_b : Nat} {_v_b : Value} {b : List Token} (_h_b : Ls Token.cs 4 w _B_b _v_b b) :
    Ctr Try.prog 25 #[(.agg #[_v_a]), (.agg #[_v_b])] w (fun v w' => v = .bool (decide (a = b)) ∧ Ch [] w w') := by
  obtain ⟨_A_a, _C_a, _e1_a⟩ := _h_a.val
  subst _e1_a
  have _l_a := _h_a.len
  have _h_a := _h_a.here (by decide)
  obtain ⟨_A_b, _C_b, _e1_b⟩ := _h_b.val
  subst _e1_b
  have _l_b := _h_b.len
  have _h_b := _h_b.here (by decide)
  have E := Ch.refl [] w
  refine Ctr_of_W (N := 10) (vs0 := [(.agg #[(.slice _A_a a.length _C_a)]), (.agg #[(.slice _A_b b.length _C_b)])]) Try.func25 rfl rfl rfl ?_
  refine W_seq fun _K_1 _hK_1 => ?_
  refine W_region ?_
  refine WL_s rfl rfl ?_
  refine s_box rfl fun _b2 _w_2 _m2 _cw_2 _e2 => ?_
  have _cw_2z := _cw_2.size
  have E := E.trans _cw_2
  have _z2 := _m2.lt
  replace _m2 : Blk _w_2 _b2 32 [(.slice _A_a a.length _C_a)] := _m2
  refine WL_s rfl rfl ?_
  refine s_box rfl fun _b3 _w_3 _m3 _cw_3 _e3 => ?_
  have _cw_3z := _cw_3.size
  have E := E.trans _cw_3
  have _z3 := _m3.lt
  replace _m3 : Blk _w_3 _b3 32 [(.slice _A_b b.length _C_b)] := _m3
  refine WL_step rfl rfl (r_assign rfl) ?_
  refine WL_nil ?_
  refine thn_nrm (_hK_1 _ _ ?_)
  clear _hK_1
  refine W_seq fun _K_4 _hK_4 => ?_
  refine W_region ?_
  refine WL_step rfl rfl (r_fieldAddr fa32_0 rfl) ?_
  have _f_5 := (_m2.ch0 _cw_3)
  refine WL_step rfl rfl (r_loadAt _f_5.at_ agg30 rfl rfl) ?_
  refine WL_step rfl rfl (r_fieldAddr fa32_0 rfl) ?_
  refine WL_step rfl rfl (r_loadAt _m3.at_ agg30 rfl rfl) ?_
  refine WL_s rfl rfl ?_
  have _f_6 := ((_h_a.ch0 _cw_2).ch0 _cw_3)
  have _f_7 := ((_h_b.ch0 _cw_2).ch0 _cw_3)
  refine Step.call (r_call (xs := [.tmp 6, .tmp 8]) fk47 rfl) (c_slices_Equal_impl_Token_impl_Token _f_6 _f_7 ) fun _v9 _w_8 _q9 => ?_
  obtain ⟨rfl, _cw_8⟩ := _q9
  have _cw_8z := _cw_8.size
  have E := E.trans _cw_8
  refine WL_step rfl rfl (r_assign rfl) ?_
  refine WL_nil ?_
  refine thn_nrm (_hK_4 _ _ ?_)
  clear _hK_4
  refine W_ret ?_
  exact ret_intro [_] ⟨rfl, trivial⟩ ⟨congrArg Value.bool rfl, E⟩

/-- laws.eqToken -/
theorem c_laws_eqToken {w : World} (a : Token) (b : Token) :
    Ctr Try.prog 60 #[(.agg #[(.int .i64 a.kind), (.int .i64 a.letter), (.int .i64 a.low), (.int .i64 a.high)]), (.agg #[(.int .i64 b.kind), (.int .i64 b.letter), (.int .i64 b.low), (.int .i64 b.high)])] w (fun v w' => v = .bool (decide (a = b)) ∧ Ch [] w w') := by
  have E := Ch.refl [] w
  refine Ctr_of_W (N := 25) (vs0 := [(.agg #[(.int .i64 a.kind), (.int .i64 a.letter), (.int .i64 a.low), (.int .i64 a.high)]), (.agg #[(.int .i64 b.kind), (.int .i64 b.letter), (.int .i64 b.low), (.int .i64 b.high)])]) Try.func60 rfl rfl rfl ?_
  refine W_seq fun _K_1 _hK_1 => ?_
  refine W_region ?_
  refine WL_s rfl rfl ?_
  refine s_box rfl fun _b2 _w_2 _m2 _cw_2 _e2 => ?_
  have _cw_2z := _cw_2.size
  have E := E.trans _cw_2
  have _z2 := _m2.lt
  replace _m2 : Blk _w_2 _b2 64 [(.int .i64 a.kind), (.int .i64 a.letter), (.int .i64 a.low), (.int .i64 a.high)] := _m2
  refine WL_s rfl rfl ?_
  refine s_box rfl fun _b3 _w_3 _m3 _cw_3 _e3 => ?_
  have _cw_3z := _cw_3.size
  have E := E.trans _cw_3
  have _z3 := _m3.lt
  replace _m3 : Blk _w_3 _b3 64 [(.int .i64 b.kind), (.int .i64 b.letter), (.int .i64 b.low), (.int .i64 b.high)] := _m3
  refine WL_step rfl rfl (r_assign rfl) ?_
  refine WL_nil ?_
  refine thn_nrm (_hK_1 _ _ ?_)
  clear _hK_1
  refine W_seq fun _K_4 _hK_4 => ?_
  refine W_seq fun _K_5 _hK_5 => ?_
  refine W_region ?_
  refine WL_step rfl rfl (r_fieldAddr fa64_0 rfl) ?_
  have _f_6 := (_m2.ch0 _cw_3)
  refine WL_step rfl rfl (r_loadAt _f_6.at_ agg3 rfl rfl) ?_
  refine WL_step rfl rfl (r_fieldAddr fa64_0 rfl) ?_
  refine WL_step rfl rfl (r_loadAt _m3.at_ agg3 rfl rfl) ?_
  refine WL_step rfl rfl (r_neq rfl rfl) ?_
  refine WL_nil ?_
  refine thn_nrm (_hK_5 _ _ ?_)
  clear _hK_5
  refine W_cond rfl (fun _h9 => ?_) (fun _h9 => ?_)
  · have _h9 := bf_d (bt_n _h9)
    refine W_seq fun _K_7 _hK_7 => ?_
    refine W_region ?_
    refine WL_step rfl rfl (r_assign rfl) ?_
    refine WL_nil ?_
    refine thn_nrm (_hK_7 _ _ ?_)
    clear _hK_7
    refine W_ret (thn_ret ?_)
    clear _hK_4
    exact ret_intro [_] ⟨rfl, trivial⟩ ⟨congrArg Value.bool (decide_eq_false (fun e => _h9 (by rw [e]))).symm, E⟩
  · have _h9 := bt_d (bf_n _h9)
    refine W_skip ?_
    refine thn_nrm (_hK_4 _ _ ?_)
    clear _hK_4
    refine W_seq fun _K_8 _hK_8 => ?_
    refine W_seq fun _K_9 _hK_9 => ?_
    refine W_region ?_
    refine WL_step rfl rfl (r_fieldAddr fa64_1 rfl) ?_
    refine WL_step rfl rfl (r_loadAt _f_6.at_ agg3 rfl rfl) ?_
    refine WL_step rfl rfl (r_fieldAddr fa64_1 rfl) ?_
    refine WL_step rfl rfl (r_loadAt _m3.at_ agg3 rfl rfl) ?_
    refine WL_step rfl rfl (r_neq rfl rfl) ?_
    refine WL_nil ?_
    refine thn_nrm (_hK_9 _ _ ?_)
    clear _hK_9
    refine W_cond rfl (fun _h14 => ?_) (fun _h14 => ?_)
    · have _h14 := bf_d (bt_n _h14)
      refine W_seq fun _K_10 _hK_10 => ?_
      refine W_region ?_
      refine WL_step rfl rfl (r_assign rfl) ?_
      refine WL_nil ?_
      refine thn_nrm (_hK_10 _ _ ?_)
      clear _hK_10
      refine W_ret (thn_ret ?_)
      clear _hK_8
      exact ret_intro [_] ⟨rfl, trivial⟩ ⟨congrArg Value.bool (decide_eq_false (fun e => _h14 (by rw [e]))).symm, E⟩
    · have _h14 := bt_d (bf_n _h14)
      refine W_skip ?_
      refine thn_nrm (_hK_8 _ _ ?_)
      clear _hK_8
      refine W_seq fun _K_11 _hK_11 => ?_
      refine W_seq fun _K_12 _hK_12 => ?_
      refine W_region ?_
      refine WL_step rfl rfl (r_fieldAddr fa64_2 rfl) ?_
      refine WL_step rfl rfl (r_loadAt _f_6.at_ agg3 rfl rfl) ?_
      refine WL_step rfl rfl (r_fieldAddr fa64_2 rfl) ?_
      refine WL_step rfl rfl (r_loadAt _m3.at_ agg3 rfl rfl) ?_
      refine WL_step rfl rfl (r_neq rfl rfl) ?_
      refine WL_nil ?_
      refine thn_nrm (_hK_12 _ _ ?_)
      clear _hK_12
      refine W_cond rfl (fun _h19 => ?_) (fun _h19 => ?_)
      · have _h19 := bf_d (bt_n _h19)
        refine W_seq fun _K_13 _hK_13 => ?_
        refine W_region ?_
        refine WL_step rfl rfl (r_assign rfl) ?_
        refine WL_nil ?_
        refine thn_nrm (_hK_13 _ _ ?_)
        clear _hK_13
        refine W_ret (thn_ret ?_)
        clear _hK_11
        exact ret_intro [_] ⟨rfl, trivial⟩ ⟨congrArg Value.bool (decide_eq_false (fun e => _h19 (by rw [e]))).symm, E⟩
      · have _h19 := bt_d (bf_n _h19)
        refine W_skip ?_
        refine thn_nrm (_hK_11 _ _ ?_)
        clear _hK_11
        refine W_seq fun _K_14 _hK_14 => ?_
        refine W_seq fun _K_15 _hK_15 => ?_
        refine W_region ?_
        refine WL_step rfl rfl (r_fieldAddr fa64_3 rfl) ?_
        refine WL_step rfl rfl (r_loadAt _f_6.at_ agg3 rfl rfl) ?_
        refine WL_step rfl rfl (r_fieldAddr fa64_3 rfl) ?_
        refine WL_step rfl rfl (r_loadAt _m3.at_ agg3 rfl rfl) ?_
        refine WL_step rfl rfl (r_neq rfl rfl) ?_
        refine WL_nil ?_
        refine thn_nrm (_hK_15 _ _ ?_)
        clear _hK_15
        refine W_cond rfl (fun _h24 => ?_) (fun _h24 => ?_)
        · have _h24 := bf_d (bt_n _h24)
          refine W_seq fun _K_16 _hK_16 => ?_
          refine W_region ?_
          refine WL_step rfl rfl (r_assign rfl) ?_
          refine WL_nil ?_
          refine thn_nrm (_hK_16 _ _ ?_)
          clear _hK_16
          refine W_ret (thn_ret ?_)
          clear _hK_14
          exact ret_intro [_] ⟨rfl, trivial⟩ ⟨congrArg Value.bool (decide_eq_false (fun e => _h24 (by rw [e]))).symm, E⟩
        · have _h24 := bt_d (bf_n _h24)
          refine W_skip ?_
          refine thn_nrm (_hK_14 _ _ ?_)
          clear _hK_14
          refine W_seq fun _K_17 _hK_17 => ?_
          refine W_region ?_
          refine WL_step rfl rfl (r_assign rfl) ?_
          refine WL_nil ?_
          refine thn_nrm (_hK_17 _ _ ?_)
          clear _hK_17
          refine W_ret ?_
          exact ret_intro [_] ⟨rfl, trivial⟩ ⟨congrArg Value.bool (decide_eq_true (Token.inj (by rw [_h9, _h14, _h19, _h24]))).symm, E⟩

/-- laws.eqTokenS -/
theorem c_laws_eqTokenS {w : World} {_B_a : Nat} {_v_a : Value} {a : List Token} (_h_a : Ls Token.cs 4 w _B_a _v_a a) {_B_b : Nat} {_v_b : Value} {b : List Token} (_h_b : Ls Token.cs 4 w _B_b _v_b b) :
    Ctr Try.prog 42 #[_v_a, _v_b] w (fun v w' => v = .bool (decide (a = b)) ∧ Ch [] w w') := by
  obtain ⟨_A_a, _C_a, _e1_a⟩ := _h_a.val
  subst _e1_a
  have _l_a := _h_a.len
  have _h_a := _h_a.here (by decide)
  obtain ⟨_A_b, _C_b, _e1_b⟩ := _h_b.val
  subst _e1_b
  have _l_b := _h_b.len
  have _h_b := _h_b.here (by decide)
  have E := Ch.refl [] w
  refine Ctr_of_W (N := 27) (vs0 := [(.slice _A_a a.length _C_a), (.slice _A_b b.length _C_b)]) Try.func42 rfl rfl rfl ?_
  refine W_seq fun _K_1 _hK_1 => ?_
  refine W_region ?_
  refine WL_step rfl rfl (r_assign rfl) ?_
  refine WL_nil ?_
  refine thn_nrm (_hK_1 _ _ ?_)
  clear _hK_1
  refine W_seq fun _K_2 _hK_2 => ?_
  refine W_seq fun _K_3 _hK_3 => ?_
  refine W_region ?_
  refine WL_step rfl rfl (r_move rfl) ?_
  refine WL_step rfl rfl (r_len (by rw [el30]; rfl) rfl) ?_
  refine WL_step rfl rfl (r_move rfl) ?_
  refine WL_step rfl rfl (r_len (by rw [el30]; rfl) rfl) ?_
  refine WL_step rfl rfl (r_neq rfl rfl) ?_
  refine WL_nil ?_
  refine thn_nrm (_hK_3 _ _ ?_)
  clear _hK_3
  refine W_cond rfl (fun _h10 => ?_) (fun _h10 => ?_)
  · have _h10 := bf_d (bt_n _h10)
    refine W_seq fun _K_4 _hK_4 => ?_
    refine W_region ?_
    refine WL_step rfl rfl (r_assign rfl) ?_
    refine WL_nil ?_
    refine thn_nrm (_hK_4 _ _ ?_)
    clear _hK_4
    refine W_ret (thn_ret ?_)
    clear _hK_2
    exact ret_intro [_] ⟨rfl, trivial⟩ ⟨congrArg Value.bool (decide_eq_false (fun e => _h10 (by rw [e]))).symm, E⟩
  · have _h10 := bt_d (bf_n _h10)
    refine W_skip ?_
    refine thn_nrm (_hK_2 _ _ ?_)
    clear _hK_2
    refine W_seq fun _K_5 _hK_5 => ?_
    refine W_seq fun _K_6 _hK_6 => ?_
    refine W_region ?_
    refine WL_step rfl rfl (r_assign rfl) ?_
    refine WL_nil ?_
    refine thn_nrm (_hK_6 _ _ ?_)
    clear _hK_6
    refine W_block ?_
    refine W_loop (σ := Nat) (fun (k : Nat) => [(0, (.slice _A_a a.length _C_a)), (1, (.slice _A_b b.length _C_b)), (5, (.int .i64 ((k : Nat) : Int))), (6, (.slice _A_a a.length _C_a)), (7, (.int .i64 ((a.length : Nat) : Int))), (8, (.slice _A_b b.length _C_b)), (9, (.int .i64 ((b.length : Nat) : Int))), (10, (.bool (!decide (((a.length : Nat) : Int) = ((b.length : Nat) : Int)))))]) (fun (k : Nat) wx => Ch [] w wx ∧ k ≤ a.length ∧ a.take k = b.take k) (fun (k : Nat) => a.length - k) 0 (Sub.cons rfl (Sub.cons rfl (Sub.cons rfl (Sub.cons rfl (Sub.cons rfl (Sub.cons rfl (Sub.cons rfl (Sub.cons rfl (Sub.nil _))))))))) ⟨E, (by omega), rfl⟩ ?_
    rintro k _wr_7 ⟨E, _hk, _ht⟩
    have _E0h := E
    have _E0hz := _E0h.size
    refine W_seq fun _K_8 _hK_8 => ?_
    refine W_seq fun _K_9 _hK_9 => ?_
    refine W_region ?_
    refine WL_step rfl rfl (r_move rfl) ?_
    refine WL_step rfl rfl (r_move rfl) ?_
    refine WL_step rfl rfl (r_len (by rw [el30]; rfl) rfl) ?_
    refine WL_step rfl rfl (r_lss rfl rfl) ?_
    refine WL_nil ?_
    refine thn_nrm (_hK_9 _ _ ?_)
    clear _hK_9
    refine W_cond rfl (fun _h14 => ?_) (fun _h14 => ?_)
    · have _h14 := bt_d _h14
      refine W_skip ?_
      refine thn_nrm (_hK_8 _ _ ?_)
      clear _hK_8
      refine W_seq fun _K_10 _hK_10 => ?_
      refine W_block ?_
      refine W_seq fun _K_11 _hK_11 => ?_
      refine W_drawC [] 10 mixed rfl fun _w_12 _cw_12 => ?_
      have _cw_12z := _cw_12.size
      have E := E.trans _cw_12
      refine DR_s 0 rfl (by kernel_rfl) rfl rfl (t_v (fun _ => (r_move rfl)) ?_)
      refine DR_s 1 rfl (by kernel_rfl) rfl rfl (t_v (fun _ => (r_move rfl)) ?_)
      have _f_13 := ((_h_a.ch0 _E0h).ch0 _cw_12)
      refine DR_s 2 rfl (by kernel_rfl) rfl rfl (t_index _f_13 Token.len el30 sz64 rfl rfl rfl (by omega) fun _p19 _y19 _hy19 _a19 => ?_)
      refine DR_s 3 rfl (by kernel_rfl) rfl rfl (t_loadAtA0 _a19 (fun i hi => by first | exact absurd hi (List.not_mem_nil) | (have _h1 := List.mem_singleton.1 hi; omega)) agg64 sz64 rfl ?_)
      refine DR_s 4 rfl (by kernel_rfl) rfl rfl (t_v (fun _ => (r_move rfl)) ?_)
      refine DR_s 5 rfl (by kernel_rfl) rfl rfl (t_v (fun _ => (r_move rfl)) ?_)
      have _f_14 := ((_h_b.ch0 _E0h).ch0 _cw_12)
      refine DR_s 6 rfl (by kernel_rfl) rfl rfl (t_index _f_14 Token.len el30 sz64 rfl rfl rfl (by omega) fun _p23 _y23 _hy23 _a23 => ?_)
      refine DR_s 7 rfl (by kernel_rfl) rfl rfl (t_loadAtA0 _a23 (fun i hi => by first | exact absurd hi (List.not_mem_nil) | (have _h1 := List.mem_singleton.1 hi; omega)) agg64 sz64 rfl ?_)
      refine DR_one 8 (by kernel_rfl) ?_
      refine DO_s rfl rfl rfl ?_
      refine Step.call (r_call (xs := [.tmp 20, .tmp 24]) fk60 rfl) (c_laws_eqToken ⟨_y19.kind, _y19.letter, _y19.low, _y19.high⟩ ⟨_y23.kind, _y23.letter, _y23.low, _y23.high⟩ ) fun _v25 _w_15 _q25 => ?_
      obtain ⟨rfl, _cw_15⟩ := _q25
      have _cw_15z := _cw_15.size
      have E := E.trans _cw_15
      have _S_16 : Ch [] _w_12 _w_15 := ((Ch.refl _ _).trans _cw_15.of_nil)
      refine ⟨_S_16, ?_⟩
      refine DR_s 9 rfl (by kernel_rfl) rfl rfl (t_v (fun _ => (r_not rfl)) ?_)
      refine DR_done (by kernel_rfl) ?_
      refine thn_nrm (_hK_11 _ _ ?_)
      clear _hK_11
      refine W_cond rfl (fun _h26 => ?_) (fun _h26 => ?_)
      · have _h26 := bf_d (bt_n _h26)
        refine W_seq fun _K_17 _hK_17 => ?_
        refine W_region ?_
        refine WL_step rfl rfl (r_assign rfl) ?_
        refine WL_nil ?_
        refine thn_nrm (_hK_17 _ _ ?_)
        clear _hK_17
        refine W_ret (inB_ret (thn_ret (thn_ret (inB_ret (thn_ret ?_)))))
        clear _hK_5 _hK_10
        exact ret_intro [_] ⟨rfl, trivial⟩ ⟨congrArg Value.bool (decide_eq_false (ne_of_get _hy19 _hy23 _h26)).symm, E⟩
      · have _h26 := bt_d (bf_n _h26)
        refine W_skip ?_
        refine inB_nrm ?_
        refine thn_nrm (_hK_10 _ _ ?_)
        clear _hK_10
        refine W_region ?_
        refine WL_step rfl rfl (r_move rfl) ?_
        refine WL_step rfl rfl (r_add (by omega) rfl rfl) ?_
        refine WL_step rfl rfl (r_assign rfl) ?_
        refine WL_nil ?_
        exact thn_nrm (Exists.intro (k + 1) ⟨⟨E, (by omega), (take_eq_succ _ht _hy19 _hy23 _h26)⟩, Sub.cons rfl (Sub.cons rfl (Sub.cons rfl (Sub.cons rfl (Sub.cons rfl (Sub.cons rfl (Sub.cons rfl (Sub.cons rfl (Sub.nil _)))))))), (by first | omega | (dsimp only; omega))⟩)
    · have _h14 := bf_d _h14
      refine W_exit (thn_exit (thn_exit (inB_hit ?_)))
      refine thn_nrm (_hK_5 _ _ ?_)
      clear _hK_5
      refine W_seq fun _K_18 _hK_18 => ?_
      refine W_region ?_
      refine WL_step rfl rfl (r_assign rfl) ?_
      refine WL_nil ?_
      refine thn_nrm (_hK_18 _ _ ?_)
      clear _hK_18
      refine W_ret ?_
      clear _hK_8
      exact ret_intro [_] ⟨rfl, trivial⟩ ⟨congrArg Value.bool (decide_eq_true (eq_of_take _ht (by omega) (by omega))).symm, E⟩

/-- laws.eqExpr -/
theorem c_laws_eqExpr {w : World} {_B_a : Nat} {_v_a : Value} {a : List Token} (_h_a : Ls Token.cs 4 w _B_a _v_a a) {_B_b : Nat} {_v_b : Value} {b : List Token} (_h_b : Ls Token.cs 4 w _B_b _v_b b) :
    Ctr Try.prog 19 #[(.agg #[_v_a]), (.agg #[_v_b])] w (fun v w' => v = .bool (decide (a = b)) ∧ Ch [] w w') := by
  obtain ⟨_A_a, _C_a, _e1_a⟩ := _h_a.val
  subst _e1_a
  have _l_a := _h_a.len
  have _h_a := _h_a.here (by decide)
  obtain ⟨_A_b, _C_b, _e1_b⟩ := _h_b.val
  subst _e1_b
  have _l_b := _h_b.len
  have _h_b := _h_b.here (by decide)
  have E := Ch.refl [] w
  refine Ctr_of_W (N := 11) (vs0 := [(.agg #[(.slice _A_a a.length _C_a)]), (.agg #[(.slice _A_b b.length _C_b)])]) Try.func19 rfl rfl rfl ?_
  refine W_seq fun _K_1 _hK_1 => ?_
  refine W_region ?_
  refine WL_s rfl rfl ?_
  refine s_box rfl fun _b2 _w_2 _m2 _cw_2 _e2 => ?_
  have _cw_2z := _cw_2.size
  have E := E.trans _cw_2
  have _z2 := _m2.lt
  replace _m2 : Blk _w_2 _b2 32 [(.slice _A_a a.length _C_a)] := _m2
  refine WL_s rfl rfl ?_
  refine s_box rfl fun _b3 _w_3 _m3 _cw_3 _e3 => ?_
  have _cw_3z := _cw_3.size
  have E := E.trans _cw_3
  have _z3 := _m3.lt
  replace _m3 : Blk _w_3 _b3 32 [(.slice _A_b b.length _C_b)] := _m3
  refine WL_step rfl rfl (r_assign rfl) ?_
  refine WL_nil ?_
  refine thn_nrm (_hK_1 _ _ ?_)
  clear _hK_1
  refine W_seq fun _K_4 _hK_4 => ?_
  refine W_seq fun _K_5 _hK_5 => ?_
  refine W_region ?_
  refine WL_step rfl rfl (r_fieldAddr fa32_0 rfl) ?_
  have _f_6 := (_m2.ch0 _cw_3)
  refine WL_step rfl rfl (r_loadAt _f_6.at_ agg30 rfl rfl) ?_
  refine WL_step rfl rfl (r_fieldAddr fa32_0 rfl) ?_
  refine WL_step rfl rfl (r_loadAt _m3.at_ agg30 rfl rfl) ?_
  refine WL_s rfl rfl ?_
  have _f_7 := ((_h_a.ch0 _cw_2).ch0 _cw_3)
  have _f_8 := ((_h_b.ch0 _cw_2).ch0 _cw_3)
  refine Step.call (r_call (xs := [.tmp 6, .tmp 8]) fk42 rfl) (c_laws_eqTokenS _f_7 _f_8 ) fun _v9 _w_9 _q9 => ?_
  obtain ⟨rfl, _cw_9⟩ := _q9
  have _cw_9z := _cw_9.size
  have E := E.trans _cw_9
  refine WL_step rfl rfl (r_not rfl) ?_
  refine WL_nil ?_
  refine thn_nrm (_hK_5 _ _ ?_)
  clear _hK_5
  refine W_cond rfl (fun _h10 => ?_) (fun _h10 => ?_)
  · have _h10 := bf_d (bt_n _h10)
    refine W_seq fun _K_10 _hK_10 => ?_
    refine W_region ?_
    refine WL_step rfl rfl (r_assign rfl) ?_
    refine WL_nil ?_
    refine thn_nrm (_hK_10 _ _ ?_)
    clear _hK_10
    refine W_ret (thn_ret ?_)
    clear _hK_4
    exact ret_intro [_] ⟨rfl, trivial⟩ ⟨congrArg Value.bool (by simp_all), E⟩
  · have _h10 := bt_d (bf_n _h10)
    refine W_skip ?_
    refine thn_nrm (_hK_4 _ _ ?_)
    clear _hK_4
    refine W_seq fun _K_11 _hK_11 => ?_
    refine W_region ?_
    refine WL_step rfl rfl (r_assign rfl) ?_
    refine WL_nil ?_
    refine thn_nrm (_hK_11 _ _ ?_)
    clear _hK_11
    refine W_ret ?_
    exact ret_intro [_] ⟨rfl, trivial⟩ ⟨congrArg Value.bool (by simp_all), E⟩

/-- laws.szTokenS -/
theorem c_laws_szTokenS {w : World} {_B_a : Nat} {_v_a : Value} {a : List Token} (_h_a : Ls Token.cs 4 w _B_a _v_a a) (left : Int) (hl : left ≤ 1048576) (_h0 : 0 ≤ left) :
    Ctr Try.prog 45 #[_v_a, (.int .i64 left)] w (fun v w' => v = .int .i64 (if left < a.length then -1 else left - a.length) ∧ Ch [] w w') := by
  obtain ⟨_A_a, _C_a, _e1_a⟩ := _h_a.val
  subst _e1_a
  have _l_a := _h_a.len
  have _h_a := _h_a.here (by decide)
  have E := Ch.refl [] w
  refine Ctr_of_W (N := 12) (vs0 := [(.slice _A_a a.length _C_a), (.int .i64 left)]) Try.func45 rfl rfl rfl ?_
  refine W_seq fun _K_1 _hK_1 => ?_
  refine W_region ?_
  refine WL_step rfl rfl (r_assign rfl) ?_
  refine WL_nil ?_
  refine thn_nrm (_hK_1 _ _ ?_)
  clear _hK_1
  refine W_seq fun _K_2 _hK_2 => ?_
  refine W_region ?_
  refine WL_step rfl rfl (r_move rfl) ?_
  refine WL_step rfl rfl (r_move rfl) ?_
  refine WL_step rfl rfl (r_len (by rw [el37]; rfl) rfl) ?_
  refine WL_step rfl rfl (r_sub (by omega) rfl rfl) ?_
  refine WL_step rfl rfl (r_assign rfl) ?_
  refine WL_nil ?_
  refine thn_nrm (_hK_2 _ _ ?_)
  clear _hK_2
  refine W_seq fun _K_3 _hK_3 => ?_
  refine W_seq fun _K_4 _hK_4 => ?_
  refine W_region ?_
  refine WL_step rfl rfl (r_move rfl) ?_
  refine WL_step rfl rfl (r_lss rfl rfl) ?_
  refine WL_nil ?_
  refine thn_nrm (_hK_4 _ _ ?_)
  clear _hK_4
  refine W_cond rfl (fun _h10 => ?_) (fun _h10 => ?_)
  · have _h10 := bt_d _h10
    refine W_seq fun _K_5 _hK_5 => ?_
    refine W_region ?_
    refine WL_step rfl rfl (r_assign rfl) ?_
    refine WL_nil ?_
    refine thn_nrm (_hK_5 _ _ ?_)
    clear _hK_5
    refine W_ret (thn_ret ?_)
    clear _hK_3
    exact ret_intro [_] ⟨rfl, trivial⟩ ⟨congrArg (Value.int .i64) (if_pos (by omega)).symm, E⟩
  · have _h10 := bf_d _h10
    refine W_skip ?_
    refine thn_nrm (_hK_3 _ _ ?_)
    clear _hK_3
    refine W_seq fun _K_6 _hK_6 => ?_
    refine W_region ?_
    refine WL_step rfl rfl (r_move rfl) ?_
    refine WL_step rfl rfl (r_assign rfl) ?_
    refine WL_nil ?_
    refine thn_nrm (_hK_6 _ _ ?_)
    clear _hK_6
    refine W_ret ?_
    exact ret_intro [_] ⟨rfl, trivial⟩ ⟨congrArg (Value.int .i64) (if_neg (by omega)).symm, E⟩

/-- laws.szExpr -/
theorem c_laws_szExpr {w : World} {_B_a : Nat} {_v_a : Value} {a : List Token} (_h_a : Ls Token.cs 4 w _B_a _v_a a) (left : Int) (hl : left ≤ 1048576) (_h0 : 0 ≤ left) :
    Ctr Try.prog 22 #[(.agg #[_v_a]), (.int .i64 left)] w (fun v w' => v = .int .i64 (if left < a.length then -1 else left - a.length) ∧ Ch [] w w') := by
  obtain ⟨_A_a, _C_a, _e1_a⟩ := _h_a.val
  subst _e1_a
  have _l_a := _h_a.len
  have _h_a := _h_a.here (by decide)
  have E := Ch.refl [] w
  refine Ctr_of_W (N := 12) (vs0 := [(.agg #[(.slice _A_a a.length _C_a)]), (.int .i64 left)]) Try.func22 rfl rfl rfl ?_
  refine W_seq fun _K_1 _hK_1 => ?_
  refine W_region ?_
  refine WL_s rfl rfl ?_
  refine s_box rfl fun _b2 _w_2 _m2 _cw_2 _e2 => ?_
  have _cw_2z := _cw_2.size
  have E := E.trans _cw_2
  have _z2 := _m2.lt
  replace _m2 : Blk _w_2 _b2 39 [(.slice _A_a a.length _C_a)] := _m2
  refine WL_step rfl rfl (r_assign rfl) ?_
  refine WL_nil ?_
  refine thn_nrm (_hK_1 _ _ ?_)
  clear _hK_1
  refine W_seq fun _K_3 _hK_3 => ?_
  refine W_region ?_
  refine WL_step rfl rfl (r_fieldAddr fa39_0 rfl) ?_
  refine WL_step rfl rfl (r_loadAt _m2.at_ agg37 rfl rfl) ?_
  refine WL_step rfl rfl (r_move rfl) ?_
  refine WL_s rfl rfl ?_
  have _f_4 := (_h_a.ch0 _cw_2)
  refine Step.call (r_call (xs := [.tmp 6, .tmp 7]) fk45 rfl) (c_laws_szTokenS _f_4 _ (by omega) (by omega)) fun _v8 _w_5 _q8 => ?_
  obtain ⟨rfl, _cw_5⟩ := _q8
  have _cw_5z := _cw_5.size
  have E := E.trans _cw_5
  refine WL_step rfl rfl (r_assign rfl) ?_
  refine WL_nil ?_
  refine thn_nrm (_hK_3 _ _ ?_)
  clear _hK_3
  refine W_seq fun _K_6 _hK_6 => ?_
  refine W_seq fun _K_7 _hK_7 => ?_
  refine W_region ?_
  refine WL_step rfl rfl (r_move rfl) ?_
  refine WL_step rfl rfl (r_lss rfl rfl) ?_
  refine WL_nil ?_
  refine thn_nrm (_hK_7 _ _ ?_)
  clear _hK_7
  refine W_cond rfl (fun _h10 => ?_) (fun _h10 => ?_)
  · have _h10 := bt_d _h10
    refine W_seq fun _K_8 _hK_8 => ?_
    refine W_region ?_
    refine WL_step rfl rfl (r_assign rfl) ?_
    refine WL_nil ?_
    refine thn_nrm (_hK_8 _ _ ?_)
    clear _hK_8
    refine W_ret (thn_ret ?_)
    clear _hK_6
    exact ret_intro [_] ⟨rfl, trivial⟩ ⟨congrArg (Value.int .i64) (by split <;> omega), E⟩
  · have _h10 := bf_d _h10
    refine W_skip ?_
    refine thn_nrm (_hK_6 _ _ ?_)
    clear _hK_6
    refine W_seq fun _K_9 _hK_9 => ?_
    refine W_region ?_
    refine WL_step rfl rfl (r_move rfl) ?_
    refine WL_step rfl rfl (r_assign rfl) ?_
    refine WL_nil ?_
    refine thn_nrm (_hK_9 _ _ ?_)
    clear _hK_9
    refine W_ret ?_
    exact ret_intro [_] ⟨rfl, trivial⟩ ⟨congrArg (Value.int .i64) (by split <;> omega), E⟩

/-- laws.toToken -/
theorem c_laws_toToken {w : World} (a : Token) :
    Ctr Try.prog 61 #[(.agg #[(.int .i64 a.kind), (.int .i64 a.letter), (.int .i64 a.low), (.int .i64 a.high)])] w (fun v w' => v = .agg (Token.cs (a)).toArray ∧ Ch [] w w') := by
  have E := Ch.refl [] w
  refine Ctr_of_W (N := 17) (vs0 := [(.agg #[(.int .i64 a.kind), (.int .i64 a.letter), (.int .i64 a.low), (.int .i64 a.high)])]) Try.func61 rfl rfl rfl ?_
  refine W_seq fun _K_1 _hK_1 => ?_
  refine W_region ?_
  refine WL_s rfl rfl ?_
  refine s_box rfl fun _b1 _w_2 _m1 _cw_2 _e1 => ?_
  have _cw_2z := _cw_2.size
  have E := E.trans _cw_2
  have _z1 := _m1.lt
  replace _m1 : Blk _w_2 _b1 75 [(.int .i64 a.kind), (.int .i64 a.letter), (.int .i64 a.low), (.int .i64 a.high)] := _m1
  refine WL_s rfl rfl ?_
  refine s_alloc zr64 fun _b2 _w_3 _m2 _cw_3 _e2 => ?_
  have _cw_3z := _cw_3.size
  have E := E.trans _cw_3
  have _z2 := _m2.lt
  replace _m2 : Blk _w_3 _b2 64 [(.int .i64 0), (.int .i64 0), (.int .i64 0), (.int .i64 0)] := _m2
  refine WL_nil ?_
  refine thn_nrm (_hK_1 _ _ ?_)
  clear _hK_1
  refine W_seq fun _K_4 _hK_4 => ?_
  refine W_region ?_
  refine WL_s rfl rfl ?_
  refine s_alloc zr64 fun _b3 _w_5 _m3 _cw_5 _e3 => ?_
  have _cw_5z := _cw_5.size
  have E := E.trans _cw_5
  have _z3 := _m3.lt
  replace _m3 : Blk _w_5 _b3 64 [(.int .i64 0), (.int .i64 0), (.int .i64 0), (.int .i64 0)] := _m3
  refine WL_nil ?_
  refine thn_nrm (_hK_4 _ _ ?_)
  clear _hK_4
  refine W_seq fun _K_6 _hK_6 => ?_
  refine W_region ?_
  refine WL_step rfl rfl (r_fieldAddr fa75_0 rfl) ?_
  have _f_7 := ((_m1.ch0 _cw_3).ch0 _cw_5)
  refine WL_step rfl rfl (r_loadAt _f_7.at_ agg3 rfl rfl) ?_
  refine WL_step rfl rfl (r_fieldAddr fa64_0 rfl) ?_
  refine WL_s rfl rfl ?_
  refine s_store1 (off := 0) _m3 sz3 rfl rfl rfl rfl fun _w_8 _m_9 _cw_8 => ?_
  have _cw_8z := _cw_8.size
  have E := E.step _cw_8 (fun i hi => .inl (by have _h1 := List.mem_singleton.1 hi; omega))
  replace _m_9 : Blk _w_8 _b3 64 [(.int .i64 a.kind), (.int .i64 0), (.int .i64 0), (.int .i64 0)] := _m_9
  refine WL_nil ?_
  refine thn_nrm (_hK_6 _ _ ?_)
  clear _hK_6
  refine W_seq fun _K_10 _hK_10 => ?_
  refine W_region ?_
  refine WL_step rfl rfl (r_fieldAddr fa75_1 rfl) ?_
  have _f_11 := (_f_7.ch _cw_8 (fun hm => by have _h1 := List.mem_singleton.1 hm; omega))
  refine WL_step rfl rfl (r_loadAt _f_11.at_ agg3 rfl rfl) ?_
  refine WL_step rfl rfl (r_fieldAddr fa64_1 rfl) ?_
  refine WL_s rfl rfl ?_
  refine s_store1 (off := 1) _m_9 sz3 rfl rfl rfl rfl fun _w_12 _m_13 _cw_12 => ?_
  have _cw_12z := _cw_12.size
  have E := E.step _cw_12 (fun i hi => .inl (by have _h1 := List.mem_singleton.1 hi; omega))
  replace _m_13 : Blk _w_12 _b3 64 [(.int .i64 a.kind), (.int .i64 a.letter), (.int .i64 0), (.int .i64 0)] := _m_13
  refine WL_nil ?_
  refine thn_nrm (_hK_10 _ _ ?_)
  clear _hK_10
  refine W_seq fun _K_14 _hK_14 => ?_
  refine W_region ?_
  refine WL_step rfl rfl (r_fieldAddr fa75_2 rfl) ?_
  have _f_15 := (_f_11.ch _cw_12 (fun hm => by have _h1 := List.mem_singleton.1 hm; omega))
  refine WL_step rfl rfl (r_loadAt _f_15.at_ agg3 rfl rfl) ?_
  refine WL_step rfl rfl (r_fieldAddr fa64_2 rfl) ?_
  refine WL_s rfl rfl ?_
  refine s_store1 (off := 2) _m_13 sz3 rfl rfl rfl rfl fun _w_16 _m_17 _cw_16 => ?_
  have _cw_16z := _cw_16.size
  have E := E.step _cw_16 (fun i hi => .inl (by have _h1 := List.mem_singleton.1 hi; omega))
  replace _m_17 : Blk _w_16 _b3 64 [(.int .i64 a.kind), (.int .i64 a.letter), (.int .i64 a.low), (.int .i64 0)] := _m_17
  refine WL_nil ?_
  refine thn_nrm (_hK_14 _ _ ?_)
  clear _hK_14
  refine W_seq fun _K_18 _hK_18 => ?_
  refine W_region ?_
  refine WL_step rfl rfl (r_fieldAddr fa75_3 rfl) ?_
  have _f_19 := (_f_15.ch _cw_16 (fun hm => by have _h1 := List.mem_singleton.1 hm; omega))
  refine WL_step rfl rfl (r_loadAt _f_19.at_ agg3 rfl rfl) ?_
  refine WL_step rfl rfl (r_fieldAddr fa64_3 rfl) ?_
  refine WL_s rfl rfl ?_
  refine s_store1 (off := 3) _m_17 sz3 rfl rfl rfl rfl fun _w_20 _m_21 _cw_20 => ?_
  have _cw_20z := _cw_20.size
  have E := E.step _cw_20 (fun i hi => .inl (by have _h1 := List.mem_singleton.1 hi; omega))
  replace _m_21 : Blk _w_20 _b3 64 [(.int .i64 a.kind), (.int .i64 a.letter), (.int .i64 a.low), (.int .i64 a.high)] := _m_21
  refine WL_nil ?_
  refine thn_nrm (_hK_18 _ _ ?_)
  clear _hK_18
  refine W_seq fun _K_22 _hK_22 => ?_
  refine W_region ?_
  refine WL_step rfl rfl (r_loadAtA0 _m_21.at_ agg64 sz64 rfl) ?_
  refine WL_s rfl rfl ?_
  have _f_23 := (((((_m2.ch0 _cw_5).ch _cw_8 (fun hm => by have _h1 := List.mem_singleton.1 hm; omega)).ch _cw_12 (fun hm => by have _h1 := List.mem_singleton.1 hm; omega)).ch _cw_16 (fun hm => by have _h1 := List.mem_singleton.1 hm; omega)).ch _cw_20 (fun hm => by have _h1 := List.mem_singleton.1 hm; omega))
  refine s_storeA (off := 0) 4 _f_23 sz64 rfl (us := [(.int .i64 a.kind), (.int .i64 a.letter), (.int .i64 a.low), (.int .i64 a.high)]) rfl rfl rfl rfl fun _w_24 _m_25 _cw_24 => ?_
  have _cw_24z := _cw_24.size
  have E := E.step _cw_24 (fun i hi => .inl (by have _h1 := List.mem_singleton.1 hi; omega))
  replace _m_25 : Blk _w_24 _b2 64 [(.int .i64 a.kind), (.int .i64 a.letter), (.int .i64 a.low), (.int .i64 a.high)] := _m_25
  refine WL_nil ?_
  refine thn_nrm (_hK_22 _ _ ?_)
  clear _hK_22
  refine W_ret ?_
  exact ret_intro [_] (resOf_loadA _m_25 rfl agg64 sz64 trivial) ⟨by simp [packed, Token.cs], E⟩

/-- laws.toTokenS -/
theorem c_laws_toTokenS {w : World} {_B_a : Nat} {_v_a : Value} {a : List Token} (_h_a : Ls Token.cs 4 w _B_a _v_a a) (hb : a.length ≤ 1048576) :
    Ctr Try.prog 46 #[_v_a] w (fun v w' => Ol Token.cs 64 4 w' v (a) ∧ Lo w.heap.size v ∧ Ch [] w w') := by
  obtain ⟨_A_a, _C_a, _e1_a⟩ := _h_a.val
  subst _e1_a
  have _l_a := _h_a.len
  have _h_a := _h_a.here (by decide)
  have E := Ch.refl [] w
  refine Ctr_of_W (N := 23) (vs0 := [(.slice _A_a a.length _C_a)]) Try.func46 rfl rfl rfl ?_
  refine W_seq fun _K_1 _hK_1 => ?_
  refine W_region ?_
  refine WL_step rfl rfl (r_assign rfl) ?_
  refine WL_nil ?_
  refine thn_nrm (_hK_1 _ _ ?_)
  clear _hK_1
  refine W_seq fun _K_2 _hK_2 => ?_
  refine W_region ?_
  refine WL_step rfl rfl (r_move rfl) ?_
  refine WL_step rfl rfl (r_len (by rw [el37]; rfl) rfl) ?_
  refine WL_s rfl rfl ?_
  refine s_make (cs := Token.cs) (⟨0, 0, 0, 0⟩ : Token) el30 sz64 by64 zr64 Token.len (by decide) rfl rfl (by omega) (by omega) fun _v7 _w_3 _q7 _lo7 _cw_3 => ?_
  have _cw_3z := _cw_3.size
  have E := E.trans _cw_3
  obtain ⟨_Av7, _Cv7, _ev7⟩ := _q7.val
  subst _ev7
  have _lv7 := _q7.len
  have _hiv7 := _q7.lt
  refine WL_step rfl rfl (r_assign rfl) ?_
  refine WL_nil ?_
  refine thn_nrm (_hK_2 _ _ ?_)
  clear _hK_2
  refine W_seq fun _K_4 _hK_4 => ?_
  refine W_seq fun _K_5 _hK_5 => ?_
  refine W_region ?_
  refine WL_step rfl rfl (r_assign rfl) ?_
  refine WL_nil ?_
  refine thn_nrm (_hK_5 _ _ ?_)
  clear _hK_5
  refine W_block ?_
  have _oi_6 : Ol Token.cs 64 4 _w_3 (.slice _Av7 ((List.replicate a.length (⟨0, 0, 0, 0⟩ : Token))).length _Cv7) (a.take 0 ++ List.replicate (a.length - 0) (⟨0, 0, 0, 0⟩ : Token)) := by
    have hx := _q7
    simpa using hx
  refine W_loop (σ := Nat) (fun (k : Nat) => [(0, (.slice _A_a a.length _C_a)), (2, (.slice none 0 0)), (3, (.slice _Av7 ((List.replicate a.length (⟨0, 0, 0, 0⟩ : Token))).length _Cv7)), (4, (.int .i64 ((k : Nat) : Int))), (5, (.slice _A_a a.length _C_a)), (6, (.int .i64 ((a.length : Nat) : Int))), (7, (.slice _Av7 ((List.replicate a.length (⟨0, 0, 0, 0⟩ : Token))).length _Cv7))]) (fun (k : Nat) wx => Ch [] w wx ∧ k ≤ a.length ∧ Ol Token.cs 64 4 wx (.slice _Av7 ((List.replicate a.length (⟨0, 0, 0, 0⟩ : Token))).length _Cv7) (a.take k ++ List.replicate (a.length - k) (⟨0, 0, 0, 0⟩ : Token))) (fun (k : Nat) => a.length - k) 0 (Sub.cons rfl (Sub.cons rfl (Sub.cons rfl (Sub.cons rfl (Sub.cons rfl (Sub.cons rfl (Sub.cons rfl (Sub.nil _)))))))) ⟨E, (by omega), _oi_6⟩ ?_
  rintro k _wr_7 ⟨E, _hk, _o0_3⟩
  have _E0h := E
  have _E0hz := _E0h.size
  refine W_seq fun _K_8 _hK_8 => ?_
  refine W_seq fun _K_9 _hK_9 => ?_
  refine W_region ?_
  refine WL_step rfl rfl (r_move rfl) ?_
  refine WL_step rfl rfl (r_move rfl) ?_
  refine WL_step rfl rfl (r_len (by rw [el37]; rfl) rfl) ?_
  refine WL_step rfl rfl (r_lss rfl rfl) ?_
  refine WL_nil ?_
  refine thn_nrm (_hK_9 _ _ ?_)
  clear _hK_9
  refine W_cond rfl (fun _h11 => ?_) (fun _h11 => ?_)
  · have _h11 := bt_d _h11
    refine W_skip ?_
    refine thn_nrm (_hK_8 _ _ ?_)
    clear _hK_8
    refine W_seq fun _K_10 _hK_10 => ?_
    refine W_block ?_
    refine W_region ?_
    refine WL_step rfl rfl (r_move rfl) ?_
    refine WL_step rfl rfl (r_move rfl) ?_
    refine WL_step rfl rfl (r_move rfl) ?_
    refine WL_step rfl rfl (r_move rfl) ?_
    refine WL_s rfl rfl ?_
    have _f_11 := (_h_a.ch0 _E0h)
    refine (s_index _f_11 Token.len el37 sz75 rfl rfl rfl (by omega) fun _p18 _y18 _hy18 _a18 => ?_)
    refine WL_step rfl rfl (r_loadAtA0 _a18 agg75 sz75 rfl) ?_
    refine WL_s rfl rfl ?_
    refine Step.call (r_call (xs := [.tmp 19]) fk61 rfl) (c_laws_toToken ⟨_y18.kind, _y18.letter, _y18.low, _y18.high⟩ ) fun _v20 _w_12 _q20 => ?_
    obtain ⟨rfl, _cw_12⟩ := _q20
    have _cw_12z := _cw_12.size
    have E := E.trans _cw_12
    refine WL_s rfl rfl ?_
    have _f_13 := (_o0_3.ch0 _cw_12)
    refine s_indexO (j := k) _f_13 el30 sz64 rfl rfl rfl (by simp; omega) fun _g21 _o21 _cp21 _q21 => ?_
    refine WL_s rfl rfl ?_
    refine s_storeO (j := k) (⟨_y18.kind, _y18.letter, _y18.low, _y18.high⟩ : Token) _f_13 _q21 Token.len sz64 rfl rfl rfl rfl (by simp; omega) fun _w_14 _o_15 _cw_14 => ?_
    have _cw_14z := _cw_14.size
    have E := E.step _cw_14 (fun i hi => .inl (by have _h1 := _lo7 _ hi; omega))
    refine WL_nil ?_
    refine inB_nrm ?_
    refine thn_nrm (_hK_10 _ _ ?_)
    clear _hK_10
    refine W_region ?_
    refine WL_step rfl rfl (r_move rfl) ?_
    refine WL_step rfl rfl (r_add (by omega) rfl rfl) ?_
    refine WL_step rfl rfl (r_assign rfl) ?_
    refine WL_nil ?_
    have _on_16 : Ol Token.cs 64 4 _w_14 (.slice _Av7 ((List.replicate a.length (⟨0, 0, 0, 0⟩ : Token))).length _Cv7) (a.take (k + 1) ++ List.replicate (a.length - (k + 1)) (⟨0, 0, 0, 0⟩ : Token)) := by
      have hx := _o_15
      rwa [fill_step a (⟨0, 0, 0, 0⟩ : Token) _hy18] at hx
    exact thn_nrm (Exists.intro (k + 1) ⟨⟨E, (by omega), _on_16⟩, Sub.cons rfl (Sub.cons rfl (Sub.cons rfl (Sub.cons rfl (Sub.cons rfl (Sub.cons rfl (Sub.cons rfl (Sub.nil _))))))), (by first | omega | (dsimp only; omega))⟩)
  · have _h11 := bf_d _h11
    refine W_exit (thn_exit (thn_exit (inB_hit ?_)))
    refine thn_nrm (_hK_4 _ _ ?_)
    clear _hK_4
    refine W_seq fun _K_17 _hK_17 => ?_
    refine W_region ?_
    refine WL_step rfl rfl (r_move rfl) ?_
    refine WL_step rfl rfl (r_assign rfl) ?_
    refine WL_nil ?_
    refine thn_nrm (_hK_17 _ _ ?_)
    clear _hK_17
    refine W_ret ?_
    clear _hK_8
    have _o_18 : Ol Token.cs 64 4 _wr_7 (.slice _Av7 ((List.replicate a.length (⟨0, 0, 0, 0⟩ : Token))).length _Cv7) (a) := by
      have hx := _o0_3
      simpa [List.take_of_length_le (show a.length ≤ k by omega), show a.length - k = 0 by omega] using hx
    exact ret_intro [_] ⟨rfl, trivial⟩ ⟨_o_18, Lo.down _lo7 (by omega), E⟩

/-- laws.toExpr -/
theorem c_laws_toExpr {w : World} {_B_a : Nat} {_v_a : Value} {a : List Token} (_h_a : Ls Token.cs 4 w _B_a _v_a a) (hb : a.length ≤ 1048576) :
    Ctr Try.prog 24 #[(.agg #[_v_a])] w (fun v w' => ∃ u, v = .agg #[u] ∧ Ol Token.cs 64 4 w' u (a) ∧ Lo w.heap.size u ∧ Ch [] w w') := by
  obtain ⟨_A_a, _C_a, _e1_a⟩ := _h_a.val
  subst _e1_a
  have _l_a := _h_a.len
  have _h_a := _h_a.here (by decide)
  have E := Ch.refl [] w
  refine Ctr_of_W (N := 9) (vs0 := [(.agg #[(.slice _A_a a.length _C_a)])]) Try.func24 rfl rfl rfl ?_
  refine W_seq fun _K_1 _hK_1 => ?_
  refine W_region ?_
  refine WL_s rfl rfl ?_
  refine s_box rfl fun _b1 _w_2 _m1 _cw_2 _e1 => ?_
  have _cw_2z := _cw_2.size
  have E := E.trans _cw_2
  have _z1 := _m1.lt
  replace _m1 : Blk _w_2 _b1 39 [(.slice _A_a a.length _C_a)] := _m1
  refine WL_s rfl rfl ?_
  refine s_alloc zr32 fun _b2 _w_3 _m2 _cw_3 _e2 => ?_
  have _cw_3z := _cw_3.size
  have E := E.trans _cw_3
  have _z2 := _m2.lt
  replace _m2 : Blk _w_3 _b2 32 [(.slice none 0 0)] := _m2
  refine WL_nil ?_
  refine thn_nrm (_hK_1 _ _ ?_)
  clear _hK_1
  refine W_seq fun _K_4 _hK_4 => ?_
  refine W_region ?_
  refine WL_s rfl rfl ?_
  refine s_alloc zr32 fun _b3 _w_5 _m3 _cw_5 _e3 => ?_
  have _cw_5z := _cw_5.size
  have E := E.trans _cw_5
  have _z3 := _m3.lt
  replace _m3 : Blk _w_5 _b3 32 [(.slice none 0 0)] := _m3
  refine WL_nil ?_
  refine thn_nrm (_hK_4 _ _ ?_)
  clear _hK_4
  refine W_seq fun _K_6 _hK_6 => ?_
  refine W_region ?_
  refine WL_step rfl rfl (r_fieldAddr fa39_0 rfl) ?_
  have _f_7 := ((_m1.ch0 _cw_3).ch0 _cw_5)
  refine WL_step rfl rfl (r_loadAt _f_7.at_ agg37 rfl rfl) ?_
  refine WL_s rfl rfl ?_
  have _f_8 := (((_h_a.ch0 _cw_2).ch0 _cw_3).ch0 _cw_5)
  refine Step.call (r_call (xs := [.tmp 5]) fk46 rfl) (c_laws_toTokenS _f_8 (by omega)) fun _v6 _w_9 _q6 => ?_
  obtain ⟨_q6, _lo6, _cw_9⟩ := _q6
  have _cw_9z := _cw_9.size
  have E := E.trans _cw_9
  obtain ⟨_Av6, _Cv6, _ev6⟩ := _q6.val
  subst _ev6
  have _lv6 := _q6.len
  have _hiv6 := _q6.lt
  refine WL_step rfl rfl (r_fieldAddr fa32_0 rfl) ?_
  refine WL_s rfl rfl ?_
  have _f_10 := (_m3.ch0 _cw_9)
  refine s_store1 (off := 0) _f_10 sz30 rfl rfl rfl rfl fun _w_11 _m_12 _cw_11 => ?_
  have _cw_11z := _cw_11.size
  have E := E.step _cw_11 (fun i hi => .inl (by have _h1 := List.mem_singleton.1 hi; omega))
  replace _m_12 : Blk _w_11 _b3 32 [(.slice _Av6 (a).length _Cv6)] := _m_12
  refine WL_nil ?_
  refine thn_nrm (_hK_6 _ _ ?_)
  clear _hK_6
  refine W_seq fun _K_13 _hK_13 => ?_
  refine W_region ?_
  refine WL_step rfl rfl (r_loadAtA0 _m_12.at_ agg32 sz32 rfl) ?_
  refine WL_s rfl rfl ?_
  have _f_14 := (((_m2.ch0 _cw_5).ch0 _cw_9).ch _cw_11 (fun hm => by have _h1 := List.mem_singleton.1 hm; omega))
  refine s_storeA (off := 0) 1 _f_14 sz32 rfl (us := [(.slice _Av6 (a).length _Cv6)]) rfl rfl rfl rfl fun _w_15 _m_16 _cw_15 => ?_
  have _cw_15z := _cw_15.size
  have E := E.step _cw_15 (fun i hi => .inl (by have _h1 := List.mem_singleton.1 hi; omega))
  replace _m_16 : Blk _w_15 _b2 32 [(.slice _Av6 (a).length _Cv6)] := _m_16
  refine WL_nil ?_
  refine thn_nrm (_hK_13 _ _ ?_)
  clear _hK_13
  refine W_ret ?_
  have _f_18 := ((_q6.ch _cw_11 (fun g hg hm => by have _h1 := List.mem_singleton.1 hm; have _h2 := _lo6 g hg; have _h3 := _hiv6 g hg; omega)).ch _cw_15 (fun g hg hm => by have _h1 := List.mem_singleton.1 hm; have _h2 := _lo6 g hg; have _h3 := _hiv6 g hg; omega))
  have _o_17 : Ol Token.cs 64 4 _w_15 (.slice _Av6 (a).length _Cv6) (a) := by
    have hx := _f_18
    first | exact hx | simpa using hx
  exact ret_intro [_] (resOf_loadA _m_16 rfl agg32 sz32 trivial) ⟨_, rfl, _o_17, Lo.down _lo6 (by omega), E⟩

/-- spec.EqualExprs -/
theorem c_spec_EqualExprs {w : World} {_B_a : Nat} {_v_a : Value} {a : List Token} (_h_a : Ls Token.cs 4 w _B_a _v_a a) {_B_b : Nat} {_v_b : Value} {b : List Token} (_h_b : Ls Token.cs 4 w _B_b _v_b b) :
    Ctr Try.prog 23 #[(.agg #[_v_a]), (.agg #[_v_b])] w (fun v w' => v = .bool (decide (a = b)) ∧ Ch [] w w') := by
  obtain ⟨_A_a, _C_a, _e1_a⟩ := _h_a.val
  subst _e1_a
  have _l_a := _h_a.len
  have _h_a := _h_a.here (by decide)
  obtain ⟨_A_b, _C_b, _e1_b⟩ := _h_b.val
  subst _e1_b
  have _l_b := _h_b.len
  have _h_b := _h_b.here (by decide)
  have E := Ch.refl [] w
  refine Ctr_of_W (N := 31) (vs0 := [(.agg #[(.slice _A_a a.length _C_a)]), (.agg #[(.slice _A_b b.length _C_b)])]) Try.func23 rfl rfl rfl ?_
  refine W_seq fun _K_1 _hK_1 => ?_
  refine W_region ?_
  refine WL_s rfl rfl ?_
  refine s_box rfl fun _b2 _w_2 _m2 _cw_2 _e2 => ?_
  have _cw_2z := _cw_2.size
  have E := E.trans _cw_2
  have _z2 := _m2.lt
  replace _m2 : Blk _w_2 _b2 32 [(.slice _A_a a.length _C_a)] := _m2
  refine WL_s rfl rfl ?_
  refine s_box rfl fun _b3 _w_3 _m3 _cw_3 _e3 => ?_
  have _cw_3z := _cw_3.size
  have E := E.trans _cw_3
  have _z3 := _m3.lt
  replace _m3 : Blk _w_3 _b3 32 [(.slice _A_b b.length _C_b)] := _m3
  refine WL_step rfl rfl (r_assign rfl) ?_
  refine WL_nil ?_
  refine thn_nrm (_hK_1 _ _ ?_)
  clear _hK_1
  refine W_seq fun _K_4 _hK_4 => ?_
  refine W_seq fun _K_5 _hK_5 => ?_
  refine W_region ?_
  refine WL_step rfl rfl (r_fieldAddr fa32_0 rfl) ?_
  have _f_6 := (_m2.ch0 _cw_3)
  refine WL_step rfl rfl (r_loadAt _f_6.at_ agg30 rfl rfl) ?_
  refine WL_step rfl rfl (r_len (by rw [el30]; rfl) rfl) ?_
  refine WL_step rfl rfl (r_fieldAddr fa32_0 rfl) ?_
  refine WL_step rfl rfl (r_loadAt _m3.at_ agg30 rfl rfl) ?_
  refine WL_step rfl rfl (r_len (by rw [el30]; rfl) rfl) ?_
  refine WL_step rfl rfl (r_neq rfl rfl) ?_
  refine WL_nil ?_
  refine thn_nrm (_hK_5 _ _ ?_)
  clear _hK_5
  refine W_cond rfl (fun _h12 => ?_) (fun _h12 => ?_)
  · have _h12 := bf_d (bt_n _h12)
    refine W_seq fun _K_7 _hK_7 => ?_
    refine W_region ?_
    refine WL_step rfl rfl (r_assign rfl) ?_
    refine WL_nil ?_
    refine thn_nrm (_hK_7 _ _ ?_)
    clear _hK_7
    refine W_ret (thn_ret ?_)
    clear _hK_4
    exact ret_intro [_] ⟨rfl, trivial⟩ ⟨congrArg Value.bool (decide_eq_false (fun e => _h12 (by rw [e]))).symm, E⟩
  · have _h12 := bt_d (bf_n _h12)
    refine W_skip ?_
    refine thn_nrm (_hK_4 _ _ ?_)
    clear _hK_4
    refine W_seq fun _K_8 _hK_8 => ?_
    refine W_seq fun _K_9 _hK_9 => ?_
    refine W_region ?_
    refine WL_step rfl rfl (r_assign rfl) ?_
    refine WL_nil ?_
    refine thn_nrm (_hK_9 _ _ ?_)
    clear _hK_9
    refine W_block ?_
    refine W_loop (σ := Nat) (fun (k : Nat) => [(0, (.agg #[(.slice _A_a a.length _C_a)])), (1, (.agg #[(.slice _A_b b.length _C_b)])), (2, (.pointer (some ⟨_b2, 0, none⟩))), (3, (.pointer (some ⟨_b3, 0, none⟩))), (5, (.int .i64 ((k : Nat) : Int))), (6, (.pointer (some (Addr.add ⟨_b2, 0, none⟩ 0)))), (7, (.slice _A_a a.length _C_a)), (8, (.int .i64 ((a.length : Nat) : Int))), (9, (.pointer (some (Addr.add ⟨_b3, 0, none⟩ 0)))), (10, (.slice _A_b b.length _C_b)), (11, (.int .i64 ((b.length : Nat) : Int))), (12, (.bool (!decide (((a.length : Nat) : Int) = ((b.length : Nat) : Int)))))]) (fun (k : Nat) wx => Ch [] w wx ∧ k ≤ a.length ∧ a.take k = b.take k ∧ Blk wx _b2 32 [(.slice _A_a a.length _C_a)] ∧ Blk wx _b3 32 [(.slice _A_b b.length _C_b)]) (fun (k : Nat) => a.length - k) 0 (Sub.cons rfl (Sub.cons rfl (Sub.cons rfl (Sub.cons rfl (Sub.cons rfl (Sub.cons rfl (Sub.cons rfl (Sub.cons rfl (Sub.cons rfl (Sub.cons rfl (Sub.cons rfl (Sub.cons rfl (Sub.nil _))))))))))))) ⟨E, (by omega), rfl, _f_6, _m3⟩ ?_
    rintro k _wr_10 ⟨E, _hk, _ht, _F0_2, _F0_3⟩
    have _E0h := E
    have _E0hz := _E0h.size
    have _F0_2z := _F0_2.lt
    have _F0_3z := _F0_3.lt
    refine W_seq fun _K_11 _hK_11 => ?_
    refine W_seq fun _K_12 _hK_12 => ?_
    refine W_region ?_
    refine WL_step rfl rfl (r_move rfl) ?_
    refine WL_step rfl rfl (r_fieldAddr fa32_0 rfl) ?_
    refine WL_step rfl rfl (r_loadAt _F0_2.at_ agg30 rfl rfl) ?_
    refine WL_step rfl rfl (r_len (by rw [el30]; rfl) rfl) ?_
    refine WL_step rfl rfl (r_lss rfl rfl) ?_
    refine WL_nil ?_
    refine thn_nrm (_hK_12 _ _ ?_)
    clear _hK_12
    refine W_cond rfl (fun _h17 => ?_) (fun _h17 => ?_)
    · have _h17 := bt_d _h17
      refine W_skip ?_
      refine thn_nrm (_hK_11 _ _ ?_)
      clear _hK_11
      refine W_seq fun _K_13 _hK_13 => ?_
      refine W_block ?_
      refine W_seq fun _K_14 _hK_14 => ?_
      refine W_drawC [] 11 mixed rfl fun _w_15 _cw_15 => ?_
      have _cw_15z := _cw_15.size
      have E := E.trans _cw_15
      refine DR_s 0 rfl (by kernel_rfl) rfl rfl (t_v (fun _ => (r_fieldAddr fa32_0 rfl)) ?_)
      have _f_16 := (_F0_2.ch0 _cw_15)
      refine DR_s 1 rfl (by kernel_rfl) rfl rfl (t_loadAt _f_16.at_ (fun i hi => by first | exact absurd hi (List.not_mem_nil) | (have _h1 := List.mem_singleton.1 hi; omega)) agg30 rfl rfl ?_)
      refine DR_s 2 rfl (by kernel_rfl) rfl rfl (t_v (fun _ => (r_move rfl)) ?_)
      have _f_17 := ((_h_a.ch0 _E0h).ch0 _cw_15)
      refine DR_s 3 rfl (by kernel_rfl) rfl rfl (t_index _f_17 Token.len el30 sz64 rfl rfl rfl (by omega) fun _p23 _y23 _hy23 _a23 => ?_)
      refine DR_s 4 rfl (by kernel_rfl) rfl rfl (t_loadAtA0 _a23 (fun i hi => by first | exact absurd hi (List.not_mem_nil) | (have _h1 := List.mem_singleton.1 hi; omega)) agg64 sz64 rfl ?_)
      refine DR_s 5 rfl (by kernel_rfl) rfl rfl (t_v (fun _ => (r_fieldAddr fa32_0 rfl)) ?_)
      have _f_18 := (_F0_3.ch0 _cw_15)
      refine DR_s 6 rfl (by kernel_rfl) rfl rfl (t_loadAt _f_18.at_ (fun i hi => by first | exact absurd hi (List.not_mem_nil) | (have _h1 := List.mem_singleton.1 hi; omega)) agg30 rfl rfl ?_)
      refine DR_s 7 rfl (by kernel_rfl) rfl rfl (t_v (fun _ => (r_move rfl)) ?_)
      have _f_19 := ((_h_b.ch0 _E0h).ch0 _cw_15)
      refine DR_s 8 rfl (by kernel_rfl) rfl rfl (t_index _f_19 Token.len el30 sz64 rfl rfl rfl (by omega) fun _p28 _y28 _hy28 _a28 => ?_)
      refine DR_s 9 rfl (by kernel_rfl) rfl rfl (t_loadAtA0 _a28 (fun i hi => by first | exact absurd hi (List.not_mem_nil) | (have _h1 := List.mem_singleton.1 hi; omega)) agg64 sz64 rfl ?_)
      refine DR_s 10 rfl (by kernel_rfl) rfl rfl (t_v (fun _ => (r_neqI [_y23.kind, _y23.letter, _y23.low, _y23.high] [_y28.kind, _y28.letter, _y28.low, _y28.high] ist64 rfl rfl rfl)) ?_)
      refine DR_done (by kernel_rfl) ?_
      refine thn_nrm (_hK_14 _ _ ?_)
      clear _hK_14
      refine W_cond rfl (fun _h30 => ?_) (fun _h30 => ?_)
      · have _h30 := bf_d (bt_n _h30)
        refine W_seq fun _K_20 _hK_20 => ?_
        refine W_region ?_
        refine WL_step rfl rfl (r_assign rfl) ?_
        refine WL_nil ?_
        refine thn_nrm (_hK_20 _ _ ?_)
        clear _hK_20
        refine W_ret (inB_ret (thn_ret (thn_ret (inB_ret (thn_ret ?_)))))
        clear _hK_8 _hK_13
        exact ret_intro [_] ⟨rfl, trivial⟩ ⟨congrArg Value.bool (decide_eq_false (ne_of_get _hy23 _hy28 (fun e => _h30 (by rw [e])))).symm, E⟩
      · have _h30 := bt_d (bf_n _h30)
        refine W_skip ?_
        refine inB_nrm ?_
        refine thn_nrm (_hK_13 _ _ ?_)
        clear _hK_13
        refine W_region ?_
        refine WL_step rfl rfl (r_move rfl) ?_
        refine WL_step rfl rfl (r_add (by omega) rfl rfl) ?_
        refine WL_step rfl rfl (r_assign rfl) ?_
        refine WL_nil ?_
        exact thn_nrm (Exists.intro (k + 1) ⟨⟨E, (by omega), (take_eq_succ _ht _hy23 _hy28 (Token.inj _h30)), _f_16, _f_18⟩, Sub.cons rfl (Sub.cons rfl (Sub.cons rfl (Sub.cons rfl (Sub.cons rfl (Sub.cons rfl (Sub.cons rfl (Sub.cons rfl (Sub.cons rfl (Sub.cons rfl (Sub.cons rfl (Sub.cons rfl (Sub.nil _)))))))))))), (by first | omega | (dsimp only; omega))⟩)
    · have _h17 := bf_d _h17
      refine W_exit (thn_exit (thn_exit (inB_hit ?_)))
      refine thn_nrm (_hK_8 _ _ ?_)
      clear _hK_8
      refine W_seq fun _K_21 _hK_21 => ?_
      refine W_region ?_
      refine WL_step rfl rfl (r_assign rfl) ?_
      refine WL_nil ?_
      refine thn_nrm (_hK_21 _ _ ?_)
      clear _hK_21
      refine W_ret ?_
      clear _hK_11
      exact ret_intro [_] ⟨rfl, trivial⟩ ⟨congrArg Value.bool (decide_eq_true (eq_of_take _ht (by omega) (by omega))).symm, E⟩

/-- laws.FnExactEqualExprs -/
theorem c_laws_FnExactEqualExprs {w : World} {_B_a : Nat} {_v_a : Value} {a : List Token} (_h_a : Ls Token.cs 4 w _B_a _v_a a) {_B_b : Nat} {_v_b : Value} {b : List Token} (_h_b : Ls Token.cs 4 w _B_b _v_b b) :
    Ctr Try.prog 6 #[(.agg #[_v_a]), (.agg #[_v_b])] w (fun v w' => v = .bool (true) ∧ Ch [] w w') := by
  obtain ⟨_A_a, _C_a, _e1_a⟩ := _h_a.val
  subst _e1_a
  have _l_a := _h_a.len
  have _h_a := _h_a.here (by decide)
  obtain ⟨_A_b, _C_b, _e1_b⟩ := _h_b.val
  subst _e1_b
  have _l_b := _h_b.len
  have _h_b := _h_b.here (by decide)
  have E := Ch.refl [] w
  refine Ctr_of_W (N := 45) (vs0 := [(.agg #[(.slice _A_a a.length _C_a)]), (.agg #[(.slice _A_b b.length _C_b)])]) Try.func6 rfl rfl rfl ?_
  refine W_seq fun _K_1 _hK_1 => ?_
  refine W_region ?_
  refine WL_s rfl rfl ?_
  refine s_box rfl fun _b2 _w_2 _m2 _cw_2 _e2 => ?_
  have _cw_2z := _cw_2.size
  have E := E.trans _cw_2
  have _z2 := _m2.lt
  replace _m2 : Blk _w_2 _b2 39 [(.slice _A_a a.length _C_a)] := _m2
  refine WL_s rfl rfl ?_
  refine s_box rfl fun _b3 _w_3 _m3 _cw_3 _e3 => ?_
  have _cw_3z := _cw_3.size
  have E := E.trans _cw_3
  have _z3 := _m3.lt
  replace _m3 : Blk _w_3 _b3 39 [(.slice _A_b b.length _C_b)] := _m3
  refine WL_step rfl rfl (r_assign rfl) ?_
  refine WL_nil ?_
  refine thn_nrm (_hK_1 _ _ ?_)
  clear _hK_1
  refine W_seq fun _K_4 _hK_4 => ?_
  refine W_region ?_
  refine WL_step rfl rfl (r_assign rfl) ?_
  refine WL_nil ?_
  refine thn_nrm (_hK_4 _ _ ?_)
  clear _hK_4
  refine W_seq fun _K_5 _hK_5 => ?_
  refine W_region ?_
  have _f_6 := (_m2.ch0 _cw_3)
  refine WL_step rfl rfl (r_loadAtA0 _f_6.at_ agg39 sz39 rfl) ?_
  refine WL_step rfl rfl (r_move rfl) ?_
  refine WL_s rfl rfl ?_
  have _f_7 := ((_h_a.ch0 _cw_2).ch0 _cw_3)
  refine Step.call (r_call (xs := [.tmp 10, .tmp 11]) fk22 rfl) (c_laws_szExpr _f_7 _ (by omega) (by omega)) fun _v12 _w_8 _q12 => ?_
  obtain ⟨rfl, _cw_8⟩ := _q12
  have _cw_8z := _cw_8.size
  have E := E.trans _cw_8
  refine WL_step rfl rfl (r_assign rfl) ?_
  refine WL_nil ?_
  refine thn_nrm (_hK_5 _ _ ?_)
  clear _hK_5
  refine W_seq fun _K_9 _hK_9 => ?_
  refine W_seq fun _K_10 _hK_10 => ?_
  refine W_region ?_
  refine WL_step rfl rfl (r_move rfl) ?_
  refine WL_step rfl rfl (r_lss rfl rfl) ?_
  refine WL_nil ?_
  refine thn_nrm (_hK_10 _ _ ?_)
  clear _hK_10
  refine W_cond rfl (fun _h14 => ?_) (fun _h14 => ?_)
  · have _h14 := bt_d _h14
    refine W_seq fun _K_11 _hK_11 => ?_
    refine W_region ?_
    refine WL_step rfl rfl (r_assign rfl) ?_
    refine WL_nil ?_
    refine thn_nrm (_hK_11 _ _ ?_)
    clear _hK_11
    refine W_ret (thn_ret ?_)
    clear _hK_9
    exact ret_intro [_] ⟨rfl, trivial⟩ ⟨congrArg Value.bool (by first | rfl | (exfalso; exact absurd _h14 (by simp)) | (exfalso; omega) | (exfalso; revert _h14; simp <;> omega)), E⟩
  · have _h14 := bf_d _h14
    refine W_skip ?_
    refine thn_nrm (_hK_9 _ _ ?_)
    clear _hK_9
    refine W_seq fun _K_12 _hK_12 => ?_
    refine W_region ?_
    have _f_13 := (_m3.ch0 _cw_8)
    refine WL_step rfl rfl (r_loadAtA0 _f_13.at_ agg39 sz39 rfl) ?_
    refine WL_step rfl rfl (r_move rfl) ?_
    refine WL_s rfl rfl ?_
    have _f_14 := (((_h_b.ch0 _cw_2).ch0 _cw_3).ch0 _cw_8)
    refine Step.call (r_call (xs := [.tmp 15, .tmp 16]) fk22 rfl) (c_laws_szExpr _f_14 _ (by omega) (by omega)) fun _v17 _w_15 _q17 => ?_
    obtain ⟨rfl, _cw_15⟩ := _q17
    have _cw_15z := _cw_15.size
    have E := E.trans _cw_15
    refine WL_step rfl rfl (r_assign rfl) ?_
    refine WL_nil ?_
    refine thn_nrm (_hK_12 _ _ ?_)
    clear _hK_12
    refine W_seq fun _K_16 _hK_16 => ?_
    refine W_seq fun _K_17 _hK_17 => ?_
    refine W_region ?_
    refine WL_step rfl rfl (r_move rfl) ?_
    refine WL_step rfl rfl (r_lss rfl rfl) ?_
    refine WL_nil ?_
    refine thn_nrm (_hK_17 _ _ ?_)
    clear _hK_17
    refine W_cond rfl (fun _h19 => ?_) (fun _h19 => ?_)
    · have _h19 := bt_d _h19
      refine W_seq fun _K_18 _hK_18 => ?_
      refine W_region ?_
      refine WL_step rfl rfl (r_assign rfl) ?_
      refine WL_nil ?_
      refine thn_nrm (_hK_18 _ _ ?_)
      clear _hK_18
      refine W_ret (thn_ret ?_)
      clear _hK_16
      exact ret_intro [_] ⟨rfl, trivial⟩ ⟨congrArg Value.bool (by first | rfl | (exfalso; exact absurd _h19 (by simp)) | (exfalso; omega) | (exfalso; revert _h19; simp <;> omega)), E⟩
    · have _h19 := bf_d _h19
      refine W_skip ?_
      refine thn_nrm (_hK_16 _ _ ?_)
      clear _hK_16
      refine W_seq fun _K_19 _hK_19 => ?_
      refine W_drawC [] 6 mixed rfl fun _w_20 _cw_20 => ?_
      have _cw_20z := _cw_20.size
      have E := E.trans _cw_20
      have _f_21 := (((_f_6.ch0 _cw_8).ch0 _cw_15).ch0 _cw_20)
      refine DR_s 0 rfl (by kernel_rfl) rfl rfl (t_loadAtA0 _f_21.at_ (fun i hi => by first | exact absurd hi (List.not_mem_nil) | (have _h1 := List.mem_singleton.1 hi; omega)) agg39 sz39 rfl ?_)
      have _f_22 := ((_f_13.ch0 _cw_15).ch0 _cw_20)
      refine DR_s 2 rfl (by kernel_rfl) rfl rfl (t_loadAtA0 _f_22.at_ (fun i hi => by first | exact absurd hi (List.not_mem_nil) | (have _h1 := List.mem_singleton.1 hi; omega)) agg39 sz39 rfl ?_)
      refine DR_one 1 (by kernel_rfl) ?_
      refine DO_s rfl rfl rfl ?_
      have _f_23 := (((_f_7.ch0 _cw_8).ch0 _cw_15).ch0 _cw_20)
      refine Step.call (r_call (xs := [.tmp 20]) fk24 rfl) (c_laws_toExpr _f_23 (by omega)) fun _v21 _w_24 _q21 => ?_
      obtain ⟨_u21, rfl, _q21, _lo21, _cw_24⟩ := _q21
      have _cw_24z := _cw_24.size
      have E := E.trans _cw_24
      obtain ⟨_Au21, _Cu21, _eu21⟩ := _q21.val
      subst _eu21
      have _lu21 := _q21.len
      have _hiu21 := _q21.lt
      have _S_25 : Ch [] _w_20 _w_24 := ((Ch.refl _ _).trans _cw_24.of_nil)
      refine ⟨_S_25, ?_⟩
      refine DR_one 3 (by kernel_rfl) ?_
      refine DO_s rfl rfl rfl ?_
      have _f_26 := (((_f_14.ch0 _cw_15).ch0 _cw_20).ch0 _cw_24)
      refine Step.call (r_call (xs := [.tmp 22]) fk24 rfl) (c_laws_toExpr _f_26 (by omega)) fun _v23 _w_27 _q23 => ?_
      obtain ⟨_u23, rfl, _q23, _lo23, _cw_27⟩ := _q23
      have _cw_27z := _cw_27.size
      have E := E.trans _cw_27
      obtain ⟨_Au23, _Cu23, _eu23⟩ := _q23.val
      subst _eu23
      have _lu23 := _q23.len
      have _hiu23 := _q23.lt
      have _S_28 : Ch [] _w_20 _w_27 := (_S_25.trans _cw_27.of_nil)
      refine ⟨_S_28, ?_⟩
      refine DR_one 4 (by kernel_rfl) ?_
      refine DO_s rfl rfl rfl ?_
      have _f_29 := (_q21.ch0 _cw_27)
      refine Step.call (r_call (xs := [.tmp 21, .tmp 23]) fk23 rfl) (c_spec_EqualExprs _f_29.ls _q23.ls ) fun _v24 _w_30 _q24 => ?_
      obtain ⟨rfl, _cw_30⟩ := _q24
      have _cw_30z := _cw_30.size
      have E := E.trans _cw_30
      have _S_31 : Ch [] _w_20 _w_30 := (_S_28.trans _cw_30.of_nil)
      refine ⟨_S_31, ?_⟩
      refine DR_s 5 rfl (by kernel_rfl) rfl rfl (t_v (fun _ => (r_assign rfl)) ?_)
      refine DR_done (by kernel_rfl) ?_
      refine thn_nrm (_hK_19 _ _ ?_)
      clear _hK_19
      refine W_seq fun _K_32 _hK_32 => ?_
      refine W_region ?_
      have _f_33 := (((_f_21.ch0 _cw_24).ch0 _cw_27).ch0 _cw_30)
      refine WL_step rfl rfl (r_loadAtA0 _f_33.at_ agg39 sz39 rfl) ?_
      refine WL_s rfl rfl ?_
      have _f_34 := (((_f_23.ch0 _cw_24).ch0 _cw_27).ch0 _cw_30)
      refine Step.call (r_call (xs := [.tmp 25]) fk24 rfl) (c_laws_toExpr _f_34 (by omega)) fun _v26 _w_35 _q26 => ?_
      obtain ⟨_u26, rfl, _q26, _lo26, _cw_35⟩ := _q26
      have _cw_35z := _cw_35.size
      have E := E.trans _cw_35
      obtain ⟨_Au26, _Cu26, _eu26⟩ := _q26.val
      subst _eu26
      have _lu26 := _q26.len
      have _hiu26 := _q26.lt
      refine WL_s rfl rfl ?_
      refine s_alloc zr32 fun _b7 _w_36 _m7 _cw_36 _e7 => ?_
      have _cw_36z := _cw_36.size
      have E := E.trans _cw_36
      have _z7 := _m7.lt
      replace _m7 : Blk _w_36 _b7 32 [(.slice none 0 0)] := _m7
      refine WL_s rfl rfl ?_
      refine s_storeA (off := 0) 1 _m7 sz32 rfl (us := [(.slice _Au26 (a).length _Cu26)]) rfl rfl rfl rfl fun _w_37 _m_38 _cw_37 => ?_
      have _cw_37z := _cw_37.size
      have E := E.step _cw_37 (fun i hi => .inl (by have _h1 := List.mem_singleton.1 hi; omega))
      replace _m_38 : Blk _w_37 _b7 32 [(.slice _Au26 (a).length _Cu26)] := _m_38
      refine WL_nil ?_
      refine thn_nrm (_hK_32 _ _ ?_)
      clear _hK_32
      refine W_seq fun _K_39 _hK_39 => ?_
      refine W_region ?_
      have _f_40 := ((((((_f_22.ch0 _cw_24).ch0 _cw_27).ch0 _cw_30).ch0 _cw_35).ch0 _cw_36).ch _cw_37 (fun hm => by have _h1 := List.mem_singleton.1 hm; omega))
      refine WL_step rfl rfl (r_loadAtA0 _f_40.at_ agg39 sz39 rfl) ?_
      refine WL_s rfl rfl ?_
      have _f_41 := (((((_f_26.ch0 _cw_27).ch0 _cw_30).ch0 _cw_35).ch0 _cw_36).ch _cw_37 (fun i hi => by have _h1 := List.mem_singleton.1 hi; omega))
      refine Step.call (r_call (xs := [.tmp 27]) fk24 rfl) (c_laws_toExpr _f_41 (by omega)) fun _v28 _w_42 _q28 => ?_
      obtain ⟨_u28, rfl, _q28, _lo28, _cw_42⟩ := _q28
      have _cw_42z := _cw_42.size
      have E := E.trans _cw_42
      obtain ⟨_Au28, _Cu28, _eu28⟩ := _q28.val
      subst _eu28
      have _lu28 := _q28.len
      have _hiu28 := _q28.lt
      refine WL_s rfl rfl ?_
      refine s_alloc zr32 fun _b8 _w_43 _m8 _cw_43 _e8 => ?_
      have _cw_43z := _cw_43.size
      have E := E.trans _cw_43
      have _z8 := _m8.lt
      replace _m8 : Blk _w_43 _b8 32 [(.slice none 0 0)] := _m8
      refine WL_s rfl rfl ?_
      refine s_storeA (off := 0) 1 _m8 sz32 rfl (us := [(.slice _Au28 (b).length _Cu28)]) rfl rfl rfl rfl fun _w_44 _m_45 _cw_44 => ?_
      have _cw_44z := _cw_44.size
      have E := E.step _cw_44 (fun i hi => .inl (by have _h1 := List.mem_singleton.1 hi; omega))
      replace _m_45 : Blk _w_44 _b8 32 [(.slice _Au28 (b).length _Cu28)] := _m_45
      refine WL_nil ?_
      refine thn_nrm (_hK_39 _ _ ?_)
      clear _hK_39
      refine W_seq fun _K_46 _hK_46 => ?_
      refine W_region ?_
      have _f_47 := (((_m_38.ch0 _cw_42).ch0 _cw_43).ch _cw_44 (fun hm => by have _h1 := List.mem_singleton.1 hm; omega))
      refine WL_step rfl rfl (r_loadAtA0 _f_47.at_ agg32 sz32 rfl) ?_
      refine WL_step rfl rfl (r_loadAtA0 _m_45.at_ agg32 sz32 rfl) ?_
      refine WL_s rfl rfl ?_
      have _f_48 := (((((_q26.ch0 _cw_36).ch _cw_37 (fun g hg hm => by have _h1 := List.mem_singleton.1 hm; have _h2 := _lo26 g hg; have _h3 := _hiu26 g hg; omega)).ch0 _cw_42).ch0 _cw_43).ch _cw_44 (fun g hg hm => by have _h1 := List.mem_singleton.1 hm; have _h2 := _lo26 g hg; have _h3 := _hiu26 g hg; omega))
      have _f_49 := ((_q28.ch0 _cw_43).ch _cw_44 (fun g hg hm => by have _h1 := List.mem_singleton.1 hm; have _h2 := _lo28 g hg; have _h3 := _hiu28 g hg; omega))
      refine Step.call (r_call (xs := [.tmp 29, .tmp 30]) fk25 rfl) (c_impl_EqualExprs _f_48.ls _f_49.ls ) fun _v31 _w_50 _q31 => ?_
      obtain ⟨rfl, _cw_50⟩ := _q31
      have _cw_50z := _cw_50.size
      have E := E.trans _cw_50
      refine WL_step rfl rfl (r_assign rfl) ?_
      refine WL_nil ?_
      refine thn_nrm (_hK_46 _ _ ?_)
      clear _hK_46
      refine W_seq fun _K_51 _hK_51 => ?_
      refine W_seq fun _K_52 _hK_52 => ?_
      refine W_region ?_
      refine WL_step rfl rfl (r_move rfl) ?_
      refine WL_step rfl rfl (r_move rfl) ?_
      refine WL_step rfl rfl (r_neqB un4 rfl rfl) ?_
      refine WL_nil ?_
      refine thn_nrm (_hK_52 _ _ ?_)
      clear _hK_52
      refine W_cond rfl (fun _h34 => ?_) (fun _h34 => ?_)
      · have _h34 := bf_e (bt_n _h34)
        refine W_seq fun _K_53 _hK_53 => ?_
        refine W_region ?_
        refine WL_step rfl rfl (r_assign rfl) ?_
        refine WL_nil ?_
        refine thn_nrm (_hK_53 _ _ ?_)
        clear _hK_53
        refine W_ret (thn_ret ?_)
        clear _hK_51
        exact ret_intro [_] ⟨rfl, trivial⟩ ⟨congrArg Value.bool (by first | rfl | (exfalso; exact absurd _h34 (by simp)) | (exfalso; omega) | (exfalso; revert _h34; simp <;> omega)), E⟩
      · have _h34 := bt_e (bf_n _h34)
        refine W_skip ?_
        refine thn_nrm (_hK_51 _ _ ?_)
        clear _hK_51
        refine W_seq fun _K_54 _hK_54 => ?_
        refine W_seq fun _K_55 _hK_55 => ?_
        refine W_drawC [] 5 mixed rfl fun _w_56 _cw_56 => ?_
        have _cw_56z := _cw_56.size
        have E := E.trans _cw_56
        have _f_57 := ((_f_47.ch0 _cw_50).ch0 _cw_56)
        refine DR_s 0 rfl (by kernel_rfl) rfl rfl (t_loadAtA0 _f_57.at_ (fun i hi => by first | exact absurd hi (List.not_mem_nil) | (have _h1 := List.mem_singleton.1 hi; omega)) agg32 sz32 rfl ?_)
        have _f_58 := ((((((((_f_33.ch0 _cw_35).ch0 _cw_36).ch _cw_37 (fun hm => by have _h1 := List.mem_singleton.1 hm; omega)).ch0 _cw_42).ch0 _cw_43).ch _cw_44 (fun hm => by have _h1 := List.mem_singleton.1 hm; omega)).ch0 _cw_50).ch0 _cw_56)
        refine DR_s 1 rfl (by kernel_rfl) rfl rfl (t_loadAtA0 _f_58.at_ (fun i hi => by first | exact absurd hi (List.not_mem_nil) | (have _h1 := List.mem_singleton.1 hi; omega)) agg39 sz39 rfl ?_)
        refine DR_one 2 (by kernel_rfl) ?_
        refine DO_s rfl rfl rfl ?_
        have _f_59 := ((((((((_f_34.ch0 _cw_35).ch0 _cw_36).ch _cw_37 (fun i hi => by have _h1 := List.mem_singleton.1 hi; omega)).ch0 _cw_42).ch0 _cw_43).ch _cw_44 (fun i hi => by have _h1 := List.mem_singleton.1 hi; omega)).ch0 _cw_50).ch0 _cw_56)
        refine Step.call (r_call (xs := [.tmp 36]) fk24 rfl) (c_laws_toExpr _f_59 (by omega)) fun _v37 _w_60 _q37 => ?_
        obtain ⟨_u37, rfl, _q37, _lo37, _cw_60⟩ := _q37
        have _cw_60z := _cw_60.size
        have E := E.trans _cw_60
        obtain ⟨_Au37, _Cu37, _eu37⟩ := _q37.val
        subst _eu37
        have _lu37 := _q37.len
        have _hiu37 := _q37.lt
        have _S_61 : Ch [] _w_56 _w_60 := ((Ch.refl _ _).trans _cw_60.of_nil)
        refine ⟨_S_61, ?_⟩
        refine DR_one 3 (by kernel_rfl) ?_
        refine DO_s rfl rfl rfl ?_
        have _f_62 := (((_f_48.ch0 _cw_50).ch0 _cw_56).ch0 _cw_60)
        refine Step.call (r_call (xs := [.tmp 35, .tmp 37]) fk19 rfl) (c_laws_eqExpr _f_62.ls _q37.ls ) fun _v38 _w_63 _q38 => ?_
        obtain ⟨rfl, _cw_63⟩ := _q38
        have _cw_63z := _cw_63.size
        have E := E.trans _cw_63
        have _S_64 : Ch [] _w_56 _w_63 := (_S_61.trans _cw_63.of_nil)
        refine ⟨_S_64, ?_⟩
        refine DR_s 4 rfl (by kernel_rfl) rfl rfl (t_v (fun _ => (r_not rfl)) ?_)
        refine DR_done (by kernel_rfl) ?_
        refine thn_nrm (_hK_55 _ _ ?_)
        clear _hK_55
        refine W_cond rfl (fun _h39 => ?_) (fun _h39 => ?_)
        · have _h39 := bf_d (bt_n _h39)
          refine W_seq fun _K_65 _hK_65 => ?_
          refine W_region ?_
          refine WL_step rfl rfl (r_assign rfl) ?_
          refine WL_nil ?_
          refine thn_nrm (_hK_65 _ _ ?_)
          clear _hK_65
          refine W_ret (thn_ret ?_)
          clear _hK_54
          exact ret_intro [_] ⟨rfl, trivial⟩ ⟨congrArg Value.bool (by first | rfl | (exfalso; exact absurd _h39 (by simp)) | (exfalso; omega) | (exfalso; revert _h39; simp <;> omega)), E⟩
        · have _h39 := bt_d (bf_n _h39)
          refine W_skip ?_
          refine thn_nrm (_hK_54 _ _ ?_)
          clear _hK_54
          refine W_seq fun _K_66 _hK_66 => ?_
          refine W_seq fun _K_67 _hK_67 => ?_
          refine W_drawC [] 5 mixed rfl fun _w_68 _cw_68 => ?_
          have _cw_68z := _cw_68.size
          have E := E.trans _cw_68
          have _f_69 := (((((_m_45.ch0 _cw_50).ch0 _cw_56).ch0 _cw_60).ch0 _cw_63).ch0 _cw_68)
          refine DR_s 0 rfl (by kernel_rfl) rfl rfl (t_loadAtA0 _f_69.at_ (fun i hi => by first | exact absurd hi (List.not_mem_nil) | (have _h1 := List.mem_singleton.1 hi; omega)) agg32 sz32 rfl ?_)
          have _f_70 := ((((((((_f_40.ch0 _cw_42).ch0 _cw_43).ch _cw_44 (fun hm => by have _h1 := List.mem_singleton.1 hm; omega)).ch0 _cw_50).ch0 _cw_56).ch0 _cw_60).ch0 _cw_63).ch0 _cw_68)
          refine DR_s 1 rfl (by kernel_rfl) rfl rfl (t_loadAtA0 _f_70.at_ (fun i hi => by first | exact absurd hi (List.not_mem_nil) | (have _h1 := List.mem_singleton.1 hi; omega)) agg39 sz39 rfl ?_)
          refine DR_one 2 (by kernel_rfl) ?_
          refine DO_s rfl rfl rfl ?_
          have _f_71 := ((((((((_f_41.ch0 _cw_42).ch0 _cw_43).ch _cw_44 (fun i hi => by have _h1 := List.mem_singleton.1 hi; omega)).ch0 _cw_50).ch0 _cw_56).ch0 _cw_60).ch0 _cw_63).ch0 _cw_68)
          refine Step.call (r_call (xs := [.tmp 41]) fk24 rfl) (c_laws_toExpr _f_71 (by omega)) fun _v42 _w_72 _q42 => ?_
          obtain ⟨_u42, rfl, _q42, _lo42, _cw_72⟩ := _q42
          have _cw_72z := _cw_72.size
          have E := E.trans _cw_72
          obtain ⟨_Au42, _Cu42, _eu42⟩ := _q42.val
          subst _eu42
          have _lu42 := _q42.len
          have _hiu42 := _q42.lt
          have _S_73 : Ch [] _w_68 _w_72 := ((Ch.refl _ _).trans _cw_72.of_nil)
          refine ⟨_S_73, ?_⟩
          refine DR_one 3 (by kernel_rfl) ?_
          refine DO_s rfl rfl rfl ?_
          have _f_74 := ((((((_f_49.ch0 _cw_50).ch0 _cw_56).ch0 _cw_60).ch0 _cw_63).ch0 _cw_68).ch0 _cw_72)
          refine Step.call (r_call (xs := [.tmp 40, .tmp 42]) fk19 rfl) (c_laws_eqExpr _f_74.ls _q42.ls ) fun _v43 _w_75 _q43 => ?_
          obtain ⟨rfl, _cw_75⟩ := _q43
          have _cw_75z := _cw_75.size
          have E := E.trans _cw_75
          have _S_76 : Ch [] _w_68 _w_75 := (_S_73.trans _cw_75.of_nil)
          refine ⟨_S_76, ?_⟩
          refine DR_s 4 rfl (by kernel_rfl) rfl rfl (t_v (fun _ => (r_not rfl)) ?_)
          refine DR_done (by kernel_rfl) ?_
          refine thn_nrm (_hK_67 _ _ ?_)
          clear _hK_67
          refine W_cond rfl (fun _h44 => ?_) (fun _h44 => ?_)
          · have _h44 := bf_d (bt_n _h44)
            refine W_seq fun _K_77 _hK_77 => ?_
            refine W_region ?_
            refine WL_step rfl rfl (r_assign rfl) ?_
            refine WL_nil ?_
            refine thn_nrm (_hK_77 _ _ ?_)
            clear _hK_77
            refine W_ret (thn_ret ?_)
            clear _hK_66
            exact ret_intro [_] ⟨rfl, trivial⟩ ⟨congrArg Value.bool (by first | rfl | (exfalso; exact absurd _h44 (by simp)) | (exfalso; omega) | (exfalso; revert _h44; simp <;> omega)), E⟩
          · have _h44 := bt_d (bf_n _h44)
            refine W_skip ?_
            refine thn_nrm (_hK_66 _ _ ?_)
            clear _hK_66
            refine W_seq fun _K_78 _hK_78 => ?_
            refine W_region ?_
            refine WL_step rfl rfl (r_assign rfl) ?_
            refine WL_nil ?_
            refine thn_nrm (_hK_78 _ _ ?_)
            clear _hK_78
            refine W_ret ?_
            exact ret_intro [_] ⟨rfl, trivial⟩ ⟨congrArg Value.bool (by first | rfl | (exfalso; exact absurd _h44 (by simp)) | (exfalso; omega) | (exfalso; revert _h44; simp <;> omega)), E⟩

end Go.Proofs.Ytiadcghbjphchaa
