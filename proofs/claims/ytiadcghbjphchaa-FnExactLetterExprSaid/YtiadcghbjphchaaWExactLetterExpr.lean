/- The walks of all functions that FnExactLetterExpr reaches: what each returns, and that it leaves the memory that was there alone. -/
import Derived.Test.YtiadcghbjphchaaKF
import Derived.Test.YtiadcghbjphchaaKG
import Derived.Test.YtiadcghbjphchaaProg
namespace Go.Proofs.Ytiadcghbjphchaa
open Go.KLib
set_option maxRecDepth 20000
theorem agg3 : aggB Try.prog 3 = some false := by kernel_rfl
theorem agg30 : aggB Try.prog 30 = some false := by kernel_rfl
theorem agg32 : aggB Try.prog 32 = some true := by kernel_rfl
theorem agg64 : aggB Try.prog 64 = some true := by kernel_rfl
theorem el30 : elB Try.prog 30 = some 64 := by kernel_rfl
theorem fa32_0 : faB Try.prog 32 0 = some 0 := by kernel_rfl
theorem fa64_0 : faB Try.prog 64 0 = some 0 := by kernel_rfl
theorem fa64_1 : faB Try.prog 64 1 = some 1 := by kernel_rfl
theorem fa64_2 : faB Try.prog 64 2 = some 2 := by kernel_rfl
theorem fa64_3 : faB Try.prog 64 3 = some 3 := by kernel_rfl
theorem fk17 : fnB Try.prog 17 = true := by kernel_rfl
theorem fk18 : fnB Try.prog 18 = true := by kernel_rfl
theorem fk19 : fnB Try.prog 19 = true := by kernel_rfl
theorem fk20 : fnB Try.prog 20 = true := by kernel_rfl
theorem fk21 : fnB Try.prog 21 = true := by kernel_rfl
theorem fk42 : fnB Try.prog 42 = true := by kernel_rfl
theorem fk43 : fnB Try.prog 43 = true := by kernel_rfl
theorem fk44 : fnB Try.prog 44 = true := by kernel_rfl
theorem fk60 : fnB Try.prog 60 = true := by kernel_rfl
theorem mixed : Try.prog.follows .mixedOrders = true := by kernel_rfl
theorem pl32 : placesB Try.prog 32 = some [(0, 1)] := by kernel_rfl
theorem pl64 : placesB Try.prog 64 = some [(0, 1), (1, 1), (2, 1), (3, 1)] := by kernel_rfl
theorem sz3 : sizeB Try.prog 3 = some 1 := by kernel_rfl
theorem sz32 : sizeB Try.prog 32 = some 1 := by kernel_rfl
theorem sz64 : sizeB Try.prog 64 = some 4 := by kernel_rfl
theorem zr32 : zeroB Try.prog 32 = some (.agg #[.slice none 0 0]) := by kernel_rfl
theorem zr64 : zeroB Try.prog 64 = some (.agg #[.int .i64 0, .int .i64 0, .int .i64 0, .int .i64 0]) := by kernel_rfl

/-- impl.LetterExpr -/
theorem c_impl_LetterExpr {w : World} (l : Int) :
    Ctr Try.prog 18 #[(.int .i64 l)] w (fun v w' => ∃ u, v = .agg #[u] ∧ Ol Token.cs 64 4 w' u ([(⟨3, l, 0, 0⟩ : Token)]) ∧ Lo w.heap.size u ∧ Ch [] w w') := by
  have E := Ch.refl [] w
  refine Ctr_of_W (N := 7) (vs0 := [(.int .i64 l)]) Try.func18 rfl rfl rfl ?_
  refine W_seq fun _K_1 _hK_1 => ?_
  refine W_region ?_
  refine WL_s rfl rfl ?_
  refine s_alloc zr32 fun _b2 _w_2 _m2 _cw_2 _e2 => ?_
  have _cw_2z := _cw_2.size
  have E := E.trans _cw_2
  have _z2 := _m2.lt
  replace _m2 : Blk _w_2 _b2 32 [(.slice none 0 0)] := _m2
  refine WL_nil ?_
  refine thn_nrm (_hK_1 _ _ ?_)
  clear _hK_1
  refine W_seq fun _K_3 _hK_3 => ?_
  refine W_region ?_
  refine WL_step rfl rfl (r_move rfl) ?_
  refine WL_step rfl rfl (r_build (parts := [(0, .const (Go.Value.int Go.IntKind.i64 3)), (1, .tmp 3)]) (cells := [(.int .i64 3), (.int .i64 l), (.int .i64 0), (.int .i64 0)]) zr64 pl64 rfl rfl) ?_
  refine WL_s rfl rfl ?_
  refine s_buildSlice (cs := Token.cs) (parts := [(0, .tmp 4)]) (⟨0, 0, 0, 0⟩ : Token) [(⟨3, l, 0, 0⟩ : Token)] el30 sz64 zr64 Token.len (by decide) rfl rfl rfl (by decide) (by decide) rfl fun _v5 _w_4 _q5 _lo5 _cw_4 => ?_
  have _cw_4z := _cw_4.size
  have E := E.trans _cw_4
  obtain ⟨_Av5, _Cv5, _ev5⟩ := _q5.val
  subst _ev5
  have _lv5 := _q5.len
  have _hiv5 := _q5.lt
  refine WL_step rfl rfl (r_build (parts := [(0, .tmp 5)]) (cells := [(.slice _Av5 ([(⟨3, l, 0, 0⟩ : Token)]).length _Cv5)]) zr32 pl32 rfl rfl) ?_
  refine WL_s rfl rfl ?_
  have _f_5 := (_m2.ch0 _cw_4)
  refine s_storeA (off := 0) 1 _f_5 sz32 rfl (us := [(.slice _Av5 ([(⟨3, l, 0, 0⟩ : Token)]).length _Cv5)]) rfl rfl rfl rfl fun _w_6 _m_7 _cw_6 => ?_
  have _cw_6z := _cw_6.size
  have E := E.step _cw_6 (fun i hi => .inl (by have _h1 := List.mem_singleton.1 hi; omega))
  replace _m_7 : Blk _w_6 _b2 32 [(.slice _Av5 ([(⟨3, l, 0, 0⟩ : Token)]).length _Cv5)] := _m_7
  refine WL_nil ?_
  refine thn_nrm (_hK_3 _ _ ?_)
  clear _hK_3
  refine W_ret ?_
  have _f_9 := (_q5.ch _cw_6 (fun g hg hm => by have _h1 := List.mem_singleton.1 hm; have _h2 := _lo5 g hg; have _h3 := _hiv5 g hg; omega))
  have _o_8 : Ol Token.cs 64 4 _w_6 (.slice _Av5 ([(⟨3, l, 0, 0⟩ : Token)]).length _Cv5) ([(⟨3, l, 0, 0⟩ : Token)]) := by
    have hx := _f_9
    first | exact hx | simpa using hx
  exact ret_intro [_] (resOf_loadA _m_7 rfl agg32 sz32 trivial) ⟨_, rfl, _o_8, Lo.down _lo5 (by omega), E⟩

/-- laws.eqToken -/
theorem c_laws_eqToken {w : World} (a : Token) (b : Token) :
    Ctr Try.prog 60 #[(.agg #[(.int .i64 a.kind), (.int .i64 a.letter), (.int .i64 a.low), (.int .i64 a.high)]), (.agg #[(.int .i64 b.kind), (.int .i64 b.letter), (.int .i64 b.low), (.int .i64 b.high)])] w (fun v w' => v = .bool (decide (a = b)) ∧ Ch [] w w') := by
  have E := Ch.refl [] w
  refine Ctr_of_W (N := 25) (vs0 := [(.agg #[(.int .i64 a.kind), (.int .i64 a.letter), (.int .i64 a.low), (.int .i64 a.high)]), (.agg #[(.int .i64 b.kind), (.int .i64 b.letter), (.int .i64 b.low), (.int .i64 b.high)])]) Try.func60 rfl rfl rfl ?_
  refine W_seq fun _K_1 _hK_1 => ?_
  refine W_region ?_
  refine WL_s rfl rfl ?_
  refine s_box rfl fun _b2 _w_2 _m2 _cw_2 _e2 => ?_
  have _cw_2z := _cw_2.size
  have E := E.trans _cw_2
  have _z2 := _m2.lt
  replace _m2 : Blk _w_2 _b2 64 [(.int .i64 a.kind), (.int .i64 a.letter), (.int .i64 a.low), (.int .i64 a.high)] := _m2
  refine WL_s rfl rfl ?_
  refine s_box rfl fun _b3 _w_3 _m3 _cw_3 _e3 => ?_
  have _cw_3z := _cw_3.size
  have E := E.trans _cw_3
  have _z3 := _m3.lt
  replace _m3 : Blk _w_3 _b3 64 [(.int .i64 b.kind), (.int .i64 b.letter), (.int .i64 b.low), (.int .i64 b.high)] := _m3
  refine WL_step rfl rfl (r_assign rfl) ?_
  refine WL_nil ?_
  refine thn_nrm (_hK_1 _ _ ?_)
  clear _hK_1
  refine W_seq fun _K_4 _hK_4 => ?_
  refine W_seq fun _K_5 _hK_5 => ?_
  refine W_region ?_
  refine WL_step rfl rfl (r_fieldAddr fa64_0 rfl) ?_
  have _f_6 := (_m2.ch0 _cw_3)
  refine WL_step rfl rfl (r_loadAt _f_6.at_ agg3 rfl rfl) ?_
  refine WL_step rfl rfl (r_fieldAddr fa64_0 rfl) ?_
  refine WL_step rfl rfl (r_loadAt _m3.at_ agg3 rfl rfl) ?_
  refine WL_step rfl rfl (r_neq rfl rfl) ?_
  refine WL_nil ?_
  refine thn_nrm (_hK_5 _ _ ?_)
  clear _hK_5
  refine W_cond rfl (fun _h9 => ?_) (fun _h9 => ?_)
  · have _h9 := bf_d (bt_n _h9)
    refine W_seq fun _K_7 _hK_7 => ?_
    refine W_region ?_
    refine WL_step rfl rfl (r_assign rfl) ?_
    refine WL_nil ?_
    refine thn_nrm (_hK_7 _ _ ?_)
    clear _hK_7
    refine W_ret (thn_ret ?_)
    clear _hK_4
    exact ret_intro [_] ⟨rfl, trivial⟩ ⟨congrArg Value.bool (decide_eq_false (fun e => _h9 (by rw [e]))).symm, E⟩
  · have _h9 := bt_d (bf_n _h9)
    refine W_skip ?_
    refine thn_nrm (_hK_4 _ _ ?_)
    clear _hK_4
    refine W_seq fun _K_8 _hK_8 => ?_
    refine W_seq fun _K_9 _hK_9 => ?_
    refine W_region ?_
    refine WL_step rfl rfl (r_fieldAddr fa64_1 rfl) ?_
    refine WL_step rfl rfl (r_loadAt _f_6.at_ agg3 rfl rfl) ?_
    refine WL_step rfl rfl (r_fieldAddr fa64_1 rfl) ?_
    refine WL_step rfl rfl (r_loadAt _m3.at_ agg3 rfl rfl) ?_
    refine WL_step rfl rfl (r_neq rfl rfl) ?_
    refine WL_nil ?_
    refine thn_nrm (_hK_9 _ _ ?_)
    clear _hK_9
    refine W_cond rfl (fun _h14 => ?_) (fun _h14 => ?_)
    · have _h14 := bf_d (bt_n _h14)
      refine W_seq fun _K_10 _hK_10 => ?_
      refine W_region ?_
      refine WL_step rfl rfl (r_assign rfl) ?_
      refine WL_nil ?_
      refine thn_nrm (_hK_10 _ _ ?_)
      clear _hK_10
      refine W_ret (thn_ret ?_)
      clear _hK_8
      exact ret_intro [_] ⟨rfl, trivial⟩ ⟨congrArg Value.bool (decide_eq_false (fun e => _h14 (by rw [e]))).symm, E⟩
    · have _h14 := bt_d (bf_n _h14)
      refine W_skip ?_
      refine thn_nrm (_hK_8 _ _ ?_)
      clear _hK_8
      refine W_seq fun _K_11 _hK_11 => ?_
      refine W_seq fun _K_12 _hK_12 => ?_
      refine W_region ?_
      refine WL_step rfl rfl (r_fieldAddr fa64_2 rfl) ?_
      refine WL_step rfl rfl (r_loadAt _f_6.at_ agg3 rfl rfl) ?_
      refine WL_step rfl rfl (r_fieldAddr fa64_2 rfl) ?_
      refine WL_step rfl rfl (r_loadAt _m3.at_ agg3 rfl rfl) ?_
      refine WL_step rfl rfl (r_neq rfl rfl) ?_
      refine WL_nil ?_
      refine thn_nrm (_hK_12 _ _ ?_)
      clear _hK_12
      refine W_cond rfl (fun _h19 => ?_) (fun _h19 => ?_)
      · have _h19 := bf_d (bt_n _h19)
        refine W_seq fun _K_13 _hK_13 => ?_
        refine W_region ?_
        refine WL_step rfl rfl (r_assign rfl) ?_
        refine WL_nil ?_
        refine thn_nrm (_hK_13 _ _ ?_)
        clear _hK_13
        refine W_ret (thn_ret ?_)
        clear _hK_11
        exact ret_intro [_] ⟨rfl, trivial⟩ ⟨congrArg Value.bool (decide_eq_false (fun e => _h19 (by rw [e]))).symm, E⟩
      · have _h19 := bt_d (bf_n _h19)
        refine W_skip ?_
        refine thn_nrm (_hK_11 _ _ ?_)
        clear _hK_11
        refine W_seq fun _K_14 _hK_14 => ?_
        refine W_seq fun _K_15 _hK_15 => ?_
        refine W_region ?_
        refine WL_step rfl rfl (r_fieldAddr fa64_3 rfl) ?_
        refine WL_step rfl rfl (r_loadAt _f_6.at_ agg3 rfl rfl) ?_
        refine WL_step rfl rfl (r_fieldAddr fa64_3 rfl) ?_
        refine WL_step rfl rfl (r_loadAt _m3.at_ agg3 rfl rfl) ?_
        refine WL_step rfl rfl (r_neq rfl rfl) ?_
        refine WL_nil ?_
        refine thn_nrm (_hK_15 _ _ ?_)
        clear _hK_15
        refine W_cond rfl (fun _h24 => ?_) (fun _h24 => ?_)
        · have _h24 := bf_d (bt_n _h24)
          refine W_seq fun _K_16 _hK_16 => ?_
          refine W_region ?_
          refine WL_step rfl rfl (r_assign rfl) ?_
          refine WL_nil ?_
          refine thn_nrm (_hK_16 _ _ ?_)
          clear _hK_16
          refine W_ret (thn_ret ?_)
          clear _hK_14
          exact ret_intro [_] ⟨rfl, trivial⟩ ⟨congrArg Value.bool (decide_eq_false (fun e => _h24 (by rw [e]))).symm, E⟩
        · have _h24 := bt_d (bf_n _h24)
          refine W_skip ?_
          refine thn_nrm (_hK_14 _ _ ?_)
          clear _hK_14
          refine W_seq fun _K_17 _hK_17 => ?_
          refine W_region ?_
          refine WL_step rfl rfl (r_assign rfl) ?_
          refine WL_nil ?_
          refine thn_nrm (_hK_17 _ _ ?_)
          clear _hK_17
          refine W_ret ?_
          exact ret_intro [_] ⟨rfl, trivial⟩ ⟨congrArg Value.bool (decide_eq_true (Token.inj (by rw [_h9, _h14, _h19, _h24]))).symm, E⟩

/-- laws.eqTokenS -/
theorem c_laws_eqTokenS {w : World} {_B_a : Nat} {_v_a : Value} {a : List Token} (_h_a : Ls Token.cs 4 w _B_a _v_a a) {_B_b : Nat} {_v_b : Value} {b : List Token} (_h_b : Ls Token.cs 4 w _B_b _v_b b) :
    Ctr Try.prog 42 #[_v_a, _v_b] w (fun v w' => v = .bool (decide (a = b)) ∧ Ch [] w w') := by
  obtain ⟨_A_a, _C_a, _e1_a⟩ := _h_a.val
  subst _e1_a
  have _l_a := _h_a.len
  have _h_a := _h_a.here (by decide)
  obtain ⟨_A_b, _C_b, _e1_b⟩ := _h_b.val
  subst _e1_b
  have _l_b := _h_b.len
  have _h_b := _h_b.here (by decide)
  have E := Ch.refl [] w
  refine Ctr_of_W (N := 27) (vs0 := [(.slice _A_a a.length _C_a), (.slice _A_b b.length _C_b)]) Try.func42 rfl rfl rfl ?_
  refine W_seq fun _K_1 _hK_1 => ?_
  refine W_region ?_
  refine WL_step rfl rfl (r_assign rfl) ?_
  refine WL_nil ?_
  refine thn_nrm (_hK_1 _ _ ?_)
  clear _hK_1
  refine W_seq fun _K_2 _hK_2 => ?_
  refine W_seq fun _K_3 _hK_3 => ?_
  refine W_region ?_
  refine WL_step rfl rfl (r_move rfl) ?_
  refine WL_step rfl rfl (r_len (by rw [el30]; rfl) rfl) ?_
  refine WL_step rfl rfl (r_move rfl) ?_
  refine WL_step rfl rfl (r_len (by rw [el30]; rfl) rfl) ?_
  refine WL_step rfl rfl (r_neq rfl rfl) ?_
  refine WL_nil ?_
  refine thn_nrm (_hK_3 _ _ ?_)
  clear _hK_3
  refine W_cond rfl (fun _h10 => ?_) (fun _h10 => ?_)
  · have _h10 := bf_d (bt_n _h10)
    refine W_seq fun _K_4 _hK_4 => ?_
    refine W_region ?_
    refine WL_step rfl rfl (r_assign rfl) ?_
    refine WL_nil ?_
    refine thn_nrm (_hK_4 _ _ ?_)
    clear _hK_4
    refine W_ret (thn_ret ?_)
    clear _hK_2
    exact ret_intro [_] ⟨rfl, trivial⟩ ⟨congrArg Value.bool (decide_eq_false (fun e => _h10 (by rw [e]))).symm, E⟩
  · have _h10 := bt_d (bf_n _h10)
    refine W_skip ?_
    refine thn_nrm (_hK_2 _ _ ?_)
    clear _hK_2
    refine W_seq fun _K_5 _hK_5 => ?_
    refine W_seq fun _K_6 _hK_6 => ?_
    refine W_region ?_
    refine WL_step rfl rfl (r_assign rfl) ?_
    refine WL_nil ?_
    refine thn_nrm (_hK_6 _ _ ?_)
    clear _hK_6
    refine W_block ?_
    refine W_loop (σ := Nat) (fun (k : Nat) => [(0, (.slice _A_a a.length _C_a)), (1, (.slice _A_b b.length _C_b)), (5, (.int .i64 ((k : Nat) : Int))), (6, (.slice _A_a a.length _C_a)), (7, (.int .i64 ((a.length : Nat) : Int))), (8, (.slice _A_b b.length _C_b)), (9, (.int .i64 ((b.length : Nat) : Int))), (10, (.bool (!decide (((a.length : Nat) : Int) = ((b.length : Nat) : Int)))))]) (fun (k : Nat) wx => Ch [] w wx ∧ k ≤ a.length ∧ a.take k = b.take k) (fun (k : Nat) => a.length - k) 0 (Sub.cons rfl (Sub.cons rfl (Sub.cons rfl (Sub.cons rfl (Sub.cons rfl (Sub.cons rfl (Sub.cons rfl (Sub.cons rfl (Sub.nil _))))))))) ⟨E, (by omega), rfl⟩ ?_
    rintro k _wr_7 ⟨E, _hk, _ht⟩
    have _E0h := E
    have _E0hz := _E0h.size
    refine W_seq fun _K_8 _hK_8 => ?_
    refine W_seq fun _K_9 _hK_9 => ?_
    refine W_region ?_
    refine WL_step rfl rfl (r_move rfl) ?_
    refine WL_step rfl rfl (r_move rfl) ?_
    refine WL_step rfl rfl (r_len (by rw [el30]; rfl) rfl) ?_
    refine WL_step rfl rfl (r_lss rfl rfl) ?_
    refine WL_nil ?_
    refine thn_nrm (_hK_9 _ _ ?_)
    clear _hK_9
    refine W_cond rfl (fun _h14 => ?_) (fun _h14 => ?_)
    · have _h14 := bt_d _h14
      refine W_skip ?_
      refine thn_nrm (_hK_8 _ _ ?_)
      clear _hK_8
      refine W_seq fun _K_10 _hK_10 => ?_
      refine W_block ?_
      refine W_seq fun _K_11 _hK_11 => ?_
      refine W_drawC [] 10 mixed rfl fun _w_12 _cw_12 => ?_
      have _cw_12z := _cw_12.size
      have E := E.trans _cw_12
      refine DR_s 0 rfl (by kernel_rfl) rfl rfl (t_v (fun _ => (r_move rfl)) ?_)
      refine DR_s 1 rfl (by kernel_rfl) rfl rfl (t_v (fun _ => (r_move rfl)) ?_)
      have _f_13 := ((_h_a.ch0 _E0h).ch0 _cw_12)
      refine DR_s 2 rfl (by kernel_rfl) rfl rfl (t_index _f_13 Token.len el30 sz64 rfl rfl rfl (by omega) fun _p19 _y19 _hy19 _a19 => ?_)
      refine DR_s 3 rfl (by kernel_rfl) rfl rfl (t_loadAtA0 _a19 (fun i hi => by first | exact absurd hi (List.not_mem_nil) | (have _h1 := List.mem_singleton.1 hi; omega)) agg64 sz64 rfl ?_)
      refine DR_s 4 rfl (by kernel_rfl) rfl rfl (t_v (fun _ => (r_move rfl)) ?_)
      refine DR_s 5 rfl (by kernel_rfl) rfl rfl (t_v (fun _ => (r_move rfl)) ?_)
      have _f_14 := ((_h_b.ch0 _E0h).ch0 _cw_12)
      refine DR_s 6 rfl (by kernel_rfl) rfl rfl (t_index _f_14 Token.len el30 sz64 rfl rfl rfl (by omega) fun _p23 _y23 _hy23 _a23 => ?_)
      refine DR_s 7 rfl (by kernel_rfl) rfl rfl (t_loadAtA0 _a23 (fun i hi => by first | exact absurd hi (List.not_mem_nil) | (have _h1 := List.mem_singleton.1 hi; omega)) agg64 sz64 rfl ?_)
      refine DR_one 8 (by kernel_rfl) ?_
      refine DO_s rfl rfl rfl ?_
      refine Step.call (r_call (xs := [.tmp 20, .tmp 24]) fk60 rfl) (c_laws_eqToken ⟨_y19.kind, _y19.letter, _y19.low, _y19.high⟩ ⟨_y23.kind, _y23.letter, _y23.low, _y23.high⟩ ) fun _v25 _w_15 _q25 => ?_
      obtain ⟨rfl, _cw_15⟩ := _q25
      have _cw_15z := _cw_15.size
      have E := E.trans _cw_15
      have _S_16 : Ch [] _w_12 _w_15 := ((Ch.refl _ _).trans _cw_15.of_nil)
      refine ⟨_S_16, ?_⟩
      refine DR_s 9 rfl (by kernel_rfl) rfl rfl (t_v (fun _ => (r_not rfl)) ?_)
      refine DR_done (by kernel_rfl) ?_
      refine thn_nrm (_hK_11 _ _ ?_)
      clear _hK_11
      refine W_cond rfl (fun _h26 => ?_) (fun _h26 => ?_)
      · have _h26 := bf_d (bt_n _h26)
        refine W_seq fun _K_17 _hK_17 => ?_
        refine W_region ?_
        refine WL_step rfl rfl (r_assign rfl) ?_
        refine WL_nil ?_
        refine thn_nrm (_hK_17 _ _ ?_)
        clear _hK_17
        refine W_ret (inB_ret (thn_ret (thn_ret (inB_ret (thn_ret ?_)))))
        clear _hK_5 _hK_10
        exact ret_intro [_] ⟨rfl, trivial⟩ ⟨congrArg Value.bool (decide_eq_false (ne_of_get _hy19 _hy23 _h26)).symm, E⟩
      · have _h26 := bt_d (bf_n _h26)
        refine W_skip ?_
        refine inB_nrm ?_
        refine thn_nrm (_hK_10 _ _ ?_)
        clear _hK_10
        refine W_region ?_
        refine WL_step rfl rfl (r_move rfl) ?_
        refine WL_step rfl rfl (r_add (by omega) rfl rfl) ?_
        refine WL_step rfl rfl (r_assign rfl) ?_
        refine WL_nil ?_
        exact thn_nrm (Exists.intro (k + 1) ⟨⟨E, (by omega), (take_eq_succ _ht _hy19 _hy23 _h26)⟩, Sub.cons rfl (Sub.cons rfl (Sub.cons rfl (Sub.cons rfl (Sub.cons rfl (Sub.cons rfl (Sub.cons rfl (Sub.cons rfl (Sub.nil _)))))))), (by first | omega | (dsimp only; omega))⟩)
    · have _h14 := bf_d _h14
      refine W_exit (thn_exit (thn_exit (inB_hit ?_)))
      refine thn_nrm (_hK_5 _ _ ?_)
      clear _hK_5
      refine W_seq fun _K_18 _hK_18 => ?_
      refine W_region ?_
      refine WL_step rfl rfl (r_assign rfl) ?_
      refine WL_nil ?_
      refine thn_nrm (_hK_18 _ _ ?_)
      clear _hK_18
      refine W_ret ?_
      clear _hK_8
      exact ret_intro [_] ⟨rfl, trivial⟩ ⟨congrArg Value.bool (decide_eq_true (eq_of_take _ht (by omega) (by omega))).symm, E⟩

/-- laws.eqExpr -/
theorem c_laws_eqExpr {w : World} {_B_a : Nat} {_v_a : Value} {a : List Token} (_h_a : Ls Token.cs 4 w _B_a _v_a a) {_B_b : Nat} {_v_b : Value} {b : List Token} (_h_b : Ls Token.cs 4 w _B_b _v_b b) :
    Ctr Try.prog 19 #[(.agg #[_v_a]), (.agg #[_v_b])] w (fun v w' => v = .bool (decide (a = b)) ∧ Ch [] w w') := by
  obtain ⟨_A_a, _C_a, _e1_a⟩ := _h_a.val
  subst _e1_a
  have _l_a := _h_a.len
  have _h_a := _h_a.here (by decide)
  obtain ⟨_A_b, _C_b, _e1_b⟩ := _h_b.val
  subst _e1_b
  have _l_b := _h_b.len
  have _h_b := _h_b.here (by decide)
  have E := Ch.refl [] w
  refine Ctr_of_W (N := 11) (vs0 := [(.agg #[(.slice _A_a a.length _C_a)]), (.agg #[(.slice _A_b b.length _C_b)])]) Try.func19 rfl rfl rfl ?_
  refine W_seq fun _K_1 _hK_1 => ?_
  refine W_region ?_
  refine WL_s rfl rfl ?_
  refine s_box rfl fun _b2 _w_2 _m2 _cw_2 _e2 => ?_
  have _cw_2z := _cw_2.size
  have E := E.trans _cw_2
  have _z2 := _m2.lt
  replace _m2 : Blk _w_2 _b2 32 [(.slice _A_a a.length _C_a)] := _m2
  refine WL_s rfl rfl ?_
  refine s_box rfl fun _b3 _w_3 _m3 _cw_3 _e3 => ?_
  have _cw_3z := _cw_3.size
  have E := E.trans _cw_3
  have _z3 := _m3.lt
  replace _m3 : Blk _w_3 _b3 32 [(.slice _A_b b.length _C_b)] := _m3
  refine WL_step rfl rfl (r_assign rfl) ?_
  refine WL_nil ?_
  refine thn_nrm (_hK_1 _ _ ?_)
  clear _hK_1
  refine W_seq fun _K_4 _hK_4 => ?_
  refine W_seq fun _K_5 _hK_5 => ?_
  refine W_region ?_
  refine WL_step rfl rfl (r_fieldAddr fa32_0 rfl) ?_
  have _f_6 := (_m2.ch0 _cw_3)
  refine WL_step rfl rfl (r_loadAt _f_6.at_ agg30 rfl rfl) ?_
  refine WL_step rfl rfl (r_fieldAddr fa32_0 rfl) ?_
  refine WL_step rfl rfl (r_loadAt _m3.at_ agg30 rfl rfl) ?_
  refine WL_s rfl rfl ?_
  have _f_7 := ((_h_a.ch0 _cw_2).ch0 _cw_3)
  have _f_8 := ((_h_b.ch0 _cw_2).ch0 _cw_3)
  refine Step.call (r_call (xs := [.tmp 6, .tmp 8]) fk42 rfl) (c_laws_eqTokenS _f_7 _f_8 ) fun _v9 _w_9 _q9 => ?_
  obtain ⟨rfl, _cw_9⟩ := _q9
  have _cw_9z := _cw_9.size
  have E := E.trans _cw_9
  refine WL_step rfl rfl (r_not rfl) ?_
  refine WL_nil ?_
  refine thn_nrm (_hK_5 _ _ ?_)
  clear _hK_5
  refine W_cond rfl (fun _h10 => ?_) (fun _h10 => ?_)
  · have _h10 := bf_d (bt_n _h10)
    refine W_seq fun _K_10 _hK_10 => ?_
    refine W_region ?_
    refine WL_step rfl rfl (r_assign rfl) ?_
    refine WL_nil ?_
    refine thn_nrm (_hK_10 _ _ ?_)
    clear _hK_10
    refine W_ret (thn_ret ?_)
    clear _hK_4
    exact ret_intro [_] ⟨rfl, trivial⟩ ⟨congrArg Value.bool (by simp_all), E⟩
  · have _h10 := bt_d (bf_n _h10)
    refine W_skip ?_
    refine thn_nrm (_hK_4 _ _ ?_)
    clear _hK_4
    refine W_seq fun _K_11 _hK_11 => ?_
    refine W_region ?_
    refine WL_step rfl rfl (r_assign rfl) ?_
    refine WL_nil ?_
    refine thn_nrm (_hK_11 _ _ ?_)
    clear _hK_11
    refine W_ret ?_
    exact ret_intro [_] ⟨rfl, trivial⟩ ⟨congrArg Value.bool (by simp_all), E⟩

/-- laws.heldTokenS -/
theorem c_laws_heldTokenS {w : World} {_B_a : Nat} {_v_a : Value} {a : List Token} (_h_a : Ls Token.cs 4 w _B_a _v_a a) (k : Int) (hk0 : 0 ≤ k) (hkk : k + 4 * a.length ≤ 4611686018427387904) :
    Ctr Try.prog 44 #[_v_a, (.int .i64 k)] w (fun v w' => v = .int .i64 (if a = mkToken k a.length then k + 4 * a.length else -1) ∧ Ch [] w w') := by
  obtain ⟨_A_a, _C_a, _e1_a⟩ := _h_a.val
  subst _e1_a
  have _l_a := _h_a.len
  have _h_a := _h_a.here (by decide)
  have E := Ch.refl [] w
  refine Ctr_of_W (N := 49) (vs0 := [(.slice _A_a a.length _C_a), (.int .i64 k)]) Try.func44 rfl rfl rfl ?_
  refine W_seq fun _K_1 _hK_1 => ?_
  refine W_region ?_
  refine WL_step rfl rfl (r_assign rfl) ?_
  refine WL_nil ?_
  refine thn_nrm (_hK_1 _ _ ?_)
  clear _hK_1
  refine W_seq fun _K_2 _hK_2 => ?_
  refine W_seq fun _K_3 _hK_3 => ?_
  refine W_region ?_
  refine WL_step rfl rfl (r_assign rfl) ?_
  refine WL_nil ?_
  refine thn_nrm (_hK_3 _ _ ?_)
  clear _hK_3
  refine W_block ?_
  refine W_loop (σ := Nat × Int) (fun ⟨i, kk⟩ => [(0, (.slice _A_a a.length _C_a)), (1, (.int .i64 kk)), (5, (.int .i64 ((i : Nat) : Int)))]) (fun ⟨i, kk⟩ wx => Ch [] w wx ∧ i ≤ a.length ∧ kk = k + 4 * i ∧ a.take i = mkToken k i) (fun ⟨i, kk⟩ => a.length - i) (0, k) (Sub.cons rfl (Sub.cons rfl (Sub.cons rfl (Sub.nil _)))) ⟨E, (by omega), (by omega), rfl⟩ ?_
  rintro ⟨i, kk⟩ _wr_4 ⟨E, hi, hq, _ht⟩
  have _E0h := E
  have _E0hz := _E0h.size
  refine W_seq fun _K_5 _hK_5 => ?_
  refine W_seq fun _K_6 _hK_6 => ?_
  refine W_region ?_
  refine WL_step rfl rfl (r_move rfl) ?_
  refine WL_step rfl rfl (r_move rfl) ?_
  refine WL_step rfl rfl (r_len (by rw [el30]; rfl) rfl) ?_
  refine WL_step rfl rfl (r_lss rfl rfl) ?_
  refine WL_nil ?_
  refine thn_nrm (_hK_6 _ _ ?_)
  clear _hK_6
  refine W_cond rfl (fun _h9 => ?_) (fun _h9 => ?_)
  · have _h9 := bt_d _h9
    refine W_skip ?_
    refine thn_nrm (_hK_5 _ _ ?_)
    clear _hK_5
    refine W_seq fun _K_7 _hK_7 => ?_
    refine W_block ?_
    refine W_seq fun _K_8 _hK_8 => ?_
    refine W_seq fun _K_9 _hK_9 => ?_
    refine W_region ?_
    refine WL_step rfl rfl (r_move rfl) ?_
    refine WL_step rfl rfl (r_move rfl) ?_
    refine WL_s rfl rfl ?_
    have _f_10 := (_h_a.ch0 _E0h)
    refine (s_index _f_10 Token.len el30 sz64 rfl rfl rfl (by omega) fun _p14 _y14 _hy14 _a14 => ?_)
    refine WL_step rfl rfl (r_fieldAddr fa64_0 rfl) ?_
    refine WL_step rfl rfl (r_loadAt _a14 agg3 rfl rfl) ?_
    refine WL_step rfl rfl (r_move rfl) ?_
    refine WL_step rfl rfl (r_neq rfl rfl) ?_
    refine WL_nil ?_
    refine thn_nrm (_hK_9 _ _ ?_)
    clear _hK_9
    refine W_cond rfl (fun _h18 => ?_) (fun _h18 => ?_)
    · have _h18 := bf_d (bt_n _h18)
      refine W_seq fun _K_11 _hK_11 => ?_
      refine W_region ?_
      refine WL_step rfl rfl (r_assign rfl) ?_
      refine WL_nil ?_
      refine thn_nrm (_hK_11 _ _ ?_)
      clear _hK_11
      refine W_ret (thn_ret (inB_ret (thn_ret (thn_ret (inB_ret (thn_ret ?_))))))
      clear _hK_2 _hK_7 _hK_8
      exact ret_intro [_] ⟨rfl, trivial⟩ ⟨congrArg (Value.int .i64) (if_neg (fun e => _h18 (by have _e2 := (heldToken_get e _hy14).1; omega))).symm, E⟩
    · have _h18 := bt_d (bf_n _h18)
      refine W_skip ?_
      refine thn_nrm (_hK_8 _ _ ?_)
      clear _hK_8
      refine W_seq fun _K_12 _hK_12 => ?_
      refine W_region ?_
      refine WL_step rfl rfl (r_move rfl) ?_
      refine WL_step rfl rfl (r_add (by omega) rfl rfl) ?_
      refine WL_step rfl rfl (r_assign rfl) ?_
      refine WL_nil ?_
      refine thn_nrm (_hK_12 _ _ ?_)
      clear _hK_12
      refine W_seq fun _K_13 _hK_13 => ?_
      refine W_seq fun _K_14 _hK_14 => ?_
      refine W_region ?_
      refine WL_step rfl rfl (r_move rfl) ?_
      refine WL_step rfl rfl (r_move rfl) ?_
      refine WL_s rfl rfl ?_
      refine (s_index _f_10 Token.len el30 sz64 rfl rfl rfl (by omega) fun _p23 _y23 _hy23 _a23 => ?_)
      refine WL_step rfl rfl (r_fieldAddr fa64_1 rfl) ?_
      refine WL_step rfl rfl (r_loadAt _a23 agg3 rfl rfl) ?_
      refine WL_step rfl rfl (r_move rfl) ?_
      refine WL_step rfl rfl (r_neq rfl rfl) ?_
      refine WL_nil ?_
      refine thn_nrm (_hK_14 _ _ ?_)
      clear _hK_14
      refine W_cond rfl (fun _h27 => ?_) (fun _h27 => ?_)
      · have _h27 := bf_d (bt_n _h27)
        refine W_seq fun _K_15 _hK_15 => ?_
        refine W_region ?_
        refine WL_step rfl rfl (r_assign rfl) ?_
        refine WL_nil ?_
        refine thn_nrm (_hK_15 _ _ ?_)
        clear _hK_15
        refine W_ret (thn_ret (inB_ret (thn_ret (thn_ret (inB_ret (thn_ret ?_))))))
        clear _hK_2 _hK_7 _hK_13
        exact ret_intro [_] ⟨rfl, trivial⟩ ⟨congrArg (Value.int .i64) (if_neg (fun e => _h27 (by have _e2 := (heldToken_get e _hy23).2.1; omega))).symm, E⟩
      · have _h27 := bt_d (bf_n _h27)
        refine W_skip ?_
        refine thn_nrm (_hK_13 _ _ ?_)
        clear _hK_13
        refine W_seq fun _K_16 _hK_16 => ?_
        refine W_region ?_
        refine WL_step rfl rfl (r_move rfl) ?_
        refine WL_step rfl rfl (r_add (by omega) rfl rfl) ?_
        refine WL_step rfl rfl (r_assign rfl) ?_
        refine WL_nil ?_
        refine thn_nrm (_hK_16 _ _ ?_)
        clear _hK_16
        refine W_seq fun _K_17 _hK_17 => ?_
        refine W_seq fun _K_18 _hK_18 => ?_
        refine W_region ?_
        refine WL_step rfl rfl (r_move rfl) ?_
        refine WL_step rfl rfl (r_move rfl) ?_
        refine WL_s rfl rfl ?_
        refine (s_index _f_10 Token.len el30 sz64 rfl rfl rfl (by omega) fun _p32 _y32 _hy32 _a32 => ?_)
        refine WL_step rfl rfl (r_fieldAddr fa64_2 rfl) ?_
        refine WL_step rfl rfl (r_loadAt _a32 agg3 rfl rfl) ?_
        refine WL_step rfl rfl (r_move rfl) ?_
        refine WL_step rfl rfl (r_neq rfl rfl) ?_
        refine WL_nil ?_
        refine thn_nrm (_hK_18 _ _ ?_)
        clear _hK_18
        refine W_cond rfl (fun _h36 => ?_) (fun _h36 => ?_)
        · have _h36 := bf_d (bt_n _h36)
          refine W_seq fun _K_19 _hK_19 => ?_
          refine W_region ?_
          refine WL_step rfl rfl (r_assign rfl) ?_
          refine WL_nil ?_
          refine thn_nrm (_hK_19 _ _ ?_)
          clear _hK_19
          refine W_ret (thn_ret (inB_ret (thn_ret (thn_ret (inB_ret (thn_ret ?_))))))
          clear _hK_2 _hK_7 _hK_17
          exact ret_intro [_] ⟨rfl, trivial⟩ ⟨congrArg (Value.int .i64) (if_neg (fun e => _h36 (by have _e2 := (heldToken_get e _hy32).2.2.1; omega))).symm, E⟩
        · have _h36 := bt_d (bf_n _h36)
          refine W_skip ?_
          refine thn_nrm (_hK_17 _ _ ?_)
          clear _hK_17
          refine W_seq fun _K_20 _hK_20 => ?_
          refine W_region ?_
          refine WL_step rfl rfl (r_move rfl) ?_
          refine WL_step rfl rfl (r_add (by omega) rfl rfl) ?_
          refine WL_step rfl rfl (r_assign rfl) ?_
          refine WL_nil ?_
          refine thn_nrm (_hK_20 _ _ ?_)
          clear _hK_20
          refine W_seq fun _K_21 _hK_21 => ?_
          refine W_seq fun _K_22 _hK_22 => ?_
          refine W_region ?_
          refine WL_step rfl rfl (r_move rfl) ?_
          refine WL_step rfl rfl (r_move rfl) ?_
          refine WL_s rfl rfl ?_
          refine (s_index _f_10 Token.len el30 sz64 rfl rfl rfl (by omega) fun _p41 _y41 _hy41 _a41 => ?_)
          refine WL_step rfl rfl (r_fieldAddr fa64_3 rfl) ?_
          refine WL_step rfl rfl (r_loadAt _a41 agg3 rfl rfl) ?_
          refine WL_step rfl rfl (r_move rfl) ?_
          refine WL_step rfl rfl (r_neq rfl rfl) ?_
          refine WL_nil ?_
          refine thn_nrm (_hK_22 _ _ ?_)
          clear _hK_22
          refine W_cond rfl (fun _h45 => ?_) (fun _h45 => ?_)
          · have _h45 := bf_d (bt_n _h45)
            refine W_seq fun _K_23 _hK_23 => ?_
            refine W_region ?_
            refine WL_step rfl rfl (r_assign rfl) ?_
            refine WL_nil ?_
            refine thn_nrm (_hK_23 _ _ ?_)
            clear _hK_23
            refine W_ret (thn_ret (inB_ret (thn_ret (thn_ret (inB_ret (thn_ret ?_))))))
            clear _hK_2 _hK_7 _hK_21
            exact ret_intro [_] ⟨rfl, trivial⟩ ⟨congrArg (Value.int .i64) (if_neg (fun e => _h45 (by have _e2 := (heldToken_get e _hy41).2.2.2; omega))).symm, E⟩
          · have _h45 := bt_d (bf_n _h45)
            refine W_skip ?_
            refine thn_nrm (_hK_21 _ _ ?_)
            clear _hK_21
            refine W_region ?_
            refine WL_step rfl rfl (r_move rfl) ?_
            refine WL_step rfl rfl (r_add (by omega) rfl rfl) ?_
            refine WL_step rfl rfl (r_assign rfl) ?_
            refine WL_nil ?_
            refine inB_nrm ?_
            refine thn_nrm (_hK_7 _ _ ?_)
            clear _hK_7
            refine W_region ?_
            refine WL_step rfl rfl (r_move rfl) ?_
            refine WL_step rfl rfl (r_add (by omega) rfl rfl) ?_
            refine WL_step rfl rfl (r_assign rfl) ?_
            refine WL_nil ?_
            exact thn_nrm (Exists.intro ((i + 1), ((((kk + 1) + 1) + 1) + 1)) ⟨⟨E, (by omega), (by omega), (heldToken_step _ht hq _hy14 _h18 _hy23 _h27 _hy32 _h36 _hy41 _h45)⟩, Sub.cons rfl (Sub.cons rfl (Sub.cons rfl (Sub.nil _))), (by first | omega | (dsimp only; omega))⟩)
  · have _h9 := bf_d _h9
    refine W_exit (thn_exit (thn_exit (inB_hit ?_)))
    refine thn_nrm (_hK_2 _ _ ?_)
    clear _hK_2
    refine W_seq fun _K_24 _hK_24 => ?_
    refine W_region ?_
    refine WL_step rfl rfl (r_move rfl) ?_
    refine WL_step rfl rfl (r_assign rfl) ?_
    refine WL_nil ?_
    refine thn_nrm (_hK_24 _ _ ?_)
    clear _hK_24
    refine W_ret ?_
    clear _hK_5
    exact ret_intro [_] ⟨rfl, trivial⟩ ⟨congrArg (Value.int .i64) (by rw [if_pos (heldToken_all _ht (by omega) (by omega))]; omega), E⟩

/-- laws.heldExpr -/
theorem c_laws_heldExpr {w : World} {_B_a : Nat} {_v_a : Value} {a : List Token} (_h_a : Ls Token.cs 4 w _B_a _v_a a) (k : Int) (hk0 : 0 ≤ k) (hkk : k + 4 * a.length ≤ 4611686018427387904) :
    Ctr Try.prog 21 #[(.agg #[_v_a]), (.int .i64 k)] w (fun v w' => v = .int .i64 (if a = mkToken k a.length then k + 4 * a.length else -1) ∧ Ch [] w w') := by
  obtain ⟨_A_a, _C_a, _e1_a⟩ := _h_a.val
  subst _e1_a
  have _l_a := _h_a.len
  have _h_a := _h_a.here (by decide)
  have E := Ch.refl [] w
  refine Ctr_of_W (N := 12) (vs0 := [(.agg #[(.slice _A_a a.length _C_a)]), (.int .i64 k)]) Try.func21 rfl rfl rfl ?_
  refine W_seq fun _K_1 _hK_1 => ?_
  refine W_region ?_
  refine WL_s rfl rfl ?_
  refine s_box rfl fun _b2 _w_2 _m2 _cw_2 _e2 => ?_
  have _cw_2z := _cw_2.size
  have E := E.trans _cw_2
  have _z2 := _m2.lt
  replace _m2 : Blk _w_2 _b2 32 [(.slice _A_a a.length _C_a)] := _m2
  refine WL_step rfl rfl (r_assign rfl) ?_
  refine WL_nil ?_
  refine thn_nrm (_hK_1 _ _ ?_)
  clear _hK_1
  refine W_seq fun _K_3 _hK_3 => ?_
  refine W_region ?_
  refine WL_step rfl rfl (r_fieldAddr fa32_0 rfl) ?_
  refine WL_step rfl rfl (r_loadAt _m2.at_ agg30 rfl rfl) ?_
  refine WL_step rfl rfl (r_move rfl) ?_
  refine WL_s rfl rfl ?_
  have _f_4 := (_h_a.ch0 _cw_2)
  refine Step.call (r_call (xs := [.tmp 6, .tmp 7]) fk44 rfl) (c_laws_heldTokenS _f_4 _ (by omega) (by first | omega | (simp <;> omega))) fun _v8 _w_5 _q8 => ?_
  obtain ⟨rfl, _cw_5⟩ := _q8
  have _cw_5z := _cw_5.size
  have E := E.trans _cw_5
  refine WL_step rfl rfl (r_assign rfl) ?_
  refine WL_nil ?_
  refine thn_nrm (_hK_3 _ _ ?_)
  clear _hK_3
  refine W_seq fun _K_6 _hK_6 => ?_
  refine W_seq fun _K_7 _hK_7 => ?_
  refine W_region ?_
  refine WL_step rfl rfl (r_move rfl) ?_
  refine WL_step rfl rfl (r_lss rfl rfl) ?_
  refine WL_nil ?_
  refine thn_nrm (_hK_7 _ _ ?_)
  clear _hK_7
  refine W_cond rfl (fun _h10 => ?_) (fun _h10 => ?_)
  · have _h10 := bt_d _h10
    refine W_seq fun _K_8 _hK_8 => ?_
    refine W_region ?_
    refine WL_step rfl rfl (r_assign rfl) ?_
    refine WL_nil ?_
    refine thn_nrm (_hK_8 _ _ ?_)
    clear _hK_8
    refine W_ret (thn_ret ?_)
    clear _hK_6
    exact ret_intro [_] ⟨rfl, trivial⟩ ⟨congrArg (Value.int .i64) (by split <;> (first | rfl | (rename_i hc; rw [if_pos hc] at _h10; omega))), E⟩
  · have _h10 := bf_d _h10
    refine W_skip ?_
    refine thn_nrm (_hK_6 _ _ ?_)
    clear _hK_6
    refine W_seq fun _K_9 _hK_9 => ?_
    refine W_region ?_
    refine WL_step rfl rfl (r_move rfl) ?_
    refine WL_step rfl rfl (r_assign rfl) ?_
    refine WL_nil ?_
    refine thn_nrm (_hK_9 _ _ ?_)
    clear _hK_9
    refine W_ret ?_
    exact ret_intro [_] ⟨rfl, trivial⟩ ⟨congrArg (Value.int .i64) rfl, E⟩

/-- laws.markTokenS -/
theorem c_laws_markTokenS {w : World} {e_a : Nat} {_v_a : Value} {a : List Token} (_h_a : Ol Token.cs e_a 4 w _v_a a) (k : Int) (hk0 : 0 ≤ k) (hkk : k + 4 * a.length ≤ 4611686018427387904) :
    Ctr Try.prog 43 #[_v_a, (.int .i64 k)] w (fun v w' => v = .int .i64 (k + 4 * a.length) ∧ Ol Token.cs e_a 4 w' _v_a (mkToken k a.length) ∧ Ch (bl _v_a) w w') := by
  obtain ⟨_A_a, _C_a, _e1_a⟩ := _h_a.val
  subst _e1_a
  have _l_a := _h_a.len
  have _lt_a := _h_a.lt
  have E := Ch.refl (bl (.slice _A_a a.length _C_a)) w
  refine Ctr_of_W (N := 41) (vs0 := [(.slice _A_a a.length _C_a), (.int .i64 k)]) Try.func43 rfl rfl rfl ?_
  refine W_seq fun _K_1 _hK_1 => ?_
  refine W_region ?_
  refine WL_step rfl rfl (r_assign rfl) ?_
  refine WL_nil ?_
  refine thn_nrm (_hK_1 _ _ ?_)
  clear _hK_1
  refine W_seq fun _K_2 _hK_2 => ?_
  refine W_seq fun _K_3 _hK_3 => ?_
  refine W_region ?_
  refine WL_step rfl rfl (r_assign rfl) ?_
  refine WL_nil ?_
  refine thn_nrm (_hK_3 _ _ ?_)
  clear _hK_3
  refine W_block ?_
  have _oi_4 : Ol Token.cs e_a 4 w (.slice _A_a a.length _C_a) (mkToken k 0 ++ a.drop 0) := by
    have hx := _h_a
    simpa [mkToken] using hx
  refine W_loop (σ := Nat × Int) (fun ⟨i, kk⟩ => [(0, (.slice _A_a a.length _C_a)), (1, (.int .i64 kk)), (4, (.int .i64 0)), (5, (.int .i64 ((i : Nat) : Int)))]) (fun ⟨i, kk⟩ wx => Ch (bl (.slice _A_a a.length _C_a)) w wx ∧ i ≤ a.length ∧ kk = k + 4 * i ∧ Ol Token.cs e_a 4 wx (.slice _A_a a.length _C_a) (mkToken k i ++ a.drop i)) (fun ⟨i, kk⟩ => a.length - i) (0, k) (Sub.cons rfl (Sub.cons rfl (Sub.cons rfl (Sub.cons rfl (Sub.nil _))))) ⟨E, (by omega), (by omega), _oi_4⟩ ?_
  rintro ⟨i, kk⟩ _wr_5 ⟨E, hi, hq, _o0_0⟩
  have _E0h := E
  have _E0hz := _E0h.size
  refine W_seq fun _K_6 _hK_6 => ?_
  refine W_seq fun _K_7 _hK_7 => ?_
  refine W_region ?_
  refine WL_step rfl rfl (r_move rfl) ?_
  refine WL_step rfl rfl (r_move rfl) ?_
  refine WL_step rfl rfl (r_len (by rw [el30]; rfl) rfl) ?_
  refine WL_step rfl rfl (r_lss rfl rfl) ?_
  refine WL_nil ?_
  refine thn_nrm (_hK_7 _ _ ?_)
  clear _hK_7
  refine W_cond rfl (fun _h9 => ?_) (fun _h9 => ?_)
  · have _h9 := bt_d _h9
    refine W_skip ?_
    refine thn_nrm (_hK_6 _ _ ?_)
    clear _hK_6
    refine W_seq fun _K_8 _hK_8 => ?_
    refine W_block ?_
    refine W_seq fun _K_9 _hK_9 => ?_
    refine W_region ?_
    refine WL_step rfl rfl (r_move rfl) ?_
    refine WL_step rfl rfl (r_move rfl) ?_
    refine WL_step rfl rfl (r_move rfl) ?_
    refine WL_s rfl rfl ?_
    refine s_indexO (j := i) _o0_0 el30 sz64 rfl rfl rfl (by first | omega | (simp [mkToken] <;> omega)) fun _g15 _o15 _cp15 _q15 => ?_
    refine WL_step rfl rfl (r_fieldAddr fa64_0 rfl) ?_
    refine WL_s rfl rfl ?_
    obtain ⟨ye_12, hy_13⟩ := get_some (xs := mkToken k i ++ a.drop i) (j := i) (by first | omega | (simp [mkToken] <;> omega))
    refine s_storeF (j := i) 0 (⟨ye_12.kind, ye_12.letter, ye_12.low, ye_12.high⟩ : Token) (⟨kk, ye_12.letter, ye_12.low, ye_12.high⟩ : Token) _o0_0 _q15 hy_13 Token.len rfl sz3 rfl rfl rfl rfl fun _w_10 _o_11 _cw_10 => ?_
    have _cw_10z := _cw_10.size
    have E := E.trans _cw_10
    refine WL_nil ?_
    refine thn_nrm (_hK_9 _ _ ?_)
    clear _hK_9
    refine W_seq fun _K_14 _hK_14 => ?_
    refine W_region ?_
    refine WL_step rfl rfl (r_move rfl) ?_
    refine WL_step rfl rfl (r_add (by omega) rfl rfl) ?_
    refine WL_step rfl rfl (r_assign rfl) ?_
    refine WL_nil ?_
    refine thn_nrm (_hK_14 _ _ ?_)
    clear _hK_14
    refine W_seq fun _K_15 _hK_15 => ?_
    refine W_region ?_
    refine WL_step rfl rfl (r_move rfl) ?_
    refine WL_step rfl rfl (r_move rfl) ?_
    refine WL_step rfl rfl (r_move rfl) ?_
    refine WL_s rfl rfl ?_
    refine s_indexO (j := i) _o_11 el30 sz64 rfl rfl rfl (by first | omega | (simp [mkToken] <;> omega)) fun _g22 _o22 _cp22 _q22 => ?_
    refine WL_step rfl rfl (r_fieldAddr fa64_1 rfl) ?_
    refine WL_s rfl rfl ?_
    refine s_storeF (j := i) 1 (⟨kk, ye_12.letter, ye_12.low, ye_12.high⟩ : Token) (⟨kk, (kk + 1), ye_12.low, ye_12.high⟩ : Token) _o_11 _q22 (get_set hy_13 _) Token.len rfl sz3 rfl rfl rfl rfl fun _w_16 _o_17 _cw_16 => ?_
    rw [List.set_set] at _o_17
    have _cw_16z := _cw_16.size
    have E := E.trans _cw_16
    refine WL_nil ?_
    refine thn_nrm (_hK_15 _ _ ?_)
    clear _hK_15
    refine W_seq fun _K_18 _hK_18 => ?_
    refine W_region ?_
    refine WL_step rfl rfl (r_move rfl) ?_
    refine WL_step rfl rfl (r_add (by omega) rfl rfl) ?_
    refine WL_step rfl rfl (r_assign rfl) ?_
    refine WL_nil ?_
    refine thn_nrm (_hK_18 _ _ ?_)
    clear _hK_18
    refine W_seq fun _K_19 _hK_19 => ?_
    refine W_region ?_
    refine WL_step rfl rfl (r_move rfl) ?_
    refine WL_step rfl rfl (r_move rfl) ?_
    refine WL_step rfl rfl (r_move rfl) ?_
    refine WL_s rfl rfl ?_
    refine s_indexO (j := i) _o_17 el30 sz64 rfl rfl rfl (by first | omega | (simp [mkToken] <;> omega)) fun _g29 _o29 _cp29 _q29 => ?_
    refine WL_step rfl rfl (r_fieldAddr fa64_2 rfl) ?_
    refine WL_s rfl rfl ?_
    refine s_storeF (j := i) 2 (⟨kk, (kk + 1), ye_12.low, ye_12.high⟩ : Token) (⟨kk, (kk + 1), ((kk + 1) + 1), ye_12.high⟩ : Token) _o_17 _q29 (get_set hy_13 _) Token.len rfl sz3 rfl rfl rfl rfl fun _w_20 _o_21 _cw_20 => ?_
    rw [List.set_set] at _o_21
    have _cw_20z := _cw_20.size
    have E := E.trans _cw_20
    refine WL_nil ?_
    refine thn_nrm (_hK_19 _ _ ?_)
    clear _hK_19
    refine W_seq fun _K_22 _hK_22 => ?_
    refine W_region ?_
    refine WL_step rfl rfl (r_move rfl) ?_
    refine WL_step rfl rfl (r_add (by omega) rfl rfl) ?_
    refine WL_step rfl rfl (r_assign rfl) ?_
    refine WL_nil ?_
    refine thn_nrm (_hK_22 _ _ ?_)
    clear _hK_22
    refine W_seq fun _K_23 _hK_23 => ?_
    refine W_region ?_
    refine WL_step rfl rfl (r_move rfl) ?_
    refine WL_step rfl rfl (r_move rfl) ?_
    refine WL_step rfl rfl (r_move rfl) ?_
    refine WL_s rfl rfl ?_
    refine s_indexO (j := i) _o_21 el30 sz64 rfl rfl rfl (by first | omega | (simp [mkToken] <;> omega)) fun _g36 _o36 _cp36 _q36 => ?_
    refine WL_step rfl rfl (r_fieldAddr fa64_3 rfl) ?_
    refine WL_s rfl rfl ?_
    refine s_storeF (j := i) 3 (⟨kk, (kk + 1), ((kk + 1) + 1), ye_12.high⟩ : Token) (⟨kk, (kk + 1), ((kk + 1) + 1), (((kk + 1) + 1) + 1)⟩ : Token) _o_21 _q36 (get_set hy_13 _) Token.len rfl sz3 rfl rfl rfl rfl fun _w_24 _o_25 _cw_24 => ?_
    rw [List.set_set] at _o_25
    have _cw_24z := _cw_24.size
    have E := E.trans _cw_24
    refine WL_nil ?_
    refine thn_nrm (_hK_23 _ _ ?_)
    clear _hK_23
    refine W_region ?_
    refine WL_step rfl rfl (r_move rfl) ?_
    refine WL_step rfl rfl (r_add (by omega) rfl rfl) ?_
    refine WL_step rfl rfl (r_assign rfl) ?_
    refine WL_nil ?_
    refine inB_nrm ?_
    refine thn_nrm (_hK_8 _ _ ?_)
    clear _hK_8
    refine W_region ?_
    refine WL_step rfl rfl (r_move rfl) ?_
    refine WL_step rfl rfl (r_add (by omega) rfl rfl) ?_
    refine WL_step rfl rfl (r_assign rfl) ?_
    refine WL_nil ?_
    have _on_26 : Ol Token.cs e_a 4 _w_24 (.slice _A_a a.length _C_a) (mkToken k (i + 1) ++ a.drop (i + 1)) := by
      have hx := _o_25
      rwa [mkToken_step a (by omega) hq] at hx
    exact thn_nrm (Exists.intro ((i + 1), ((((kk + 1) + 1) + 1) + 1)) ⟨⟨E, (by omega), (by omega), _on_26⟩, Sub.cons rfl (Sub.cons rfl (Sub.cons rfl (Sub.cons rfl (Sub.nil _)))), (by first | omega | (dsimp only; omega))⟩)
  · have _h9 := bf_d _h9
    refine W_exit (thn_exit (thn_exit (inB_hit ?_)))
    refine thn_nrm (_hK_2 _ _ ?_)
    clear _hK_2
    refine W_seq fun _K_27 _hK_27 => ?_
    refine W_region ?_
    refine WL_step rfl rfl (r_move rfl) ?_
    refine WL_step rfl rfl (r_assign rfl) ?_
    refine WL_nil ?_
    refine thn_nrm (_hK_27 _ _ ?_)
    clear _hK_27
    refine W_ret ?_
    clear _hK_6
    have _o_28 : Ol Token.cs e_a 4 _wr_5 (.slice _A_a a.length _C_a) (mkToken k a.length) := by
      have hx := _o0_0
      have _e1 : i = a.length := (by omega); subst _e1; simpa using hx
    exact ret_intro [_] ⟨rfl, trivial⟩ ⟨congrArg (Value.int .i64) (by omega), _o_28, E⟩

/-- laws.markExpr -/
theorem c_laws_markExpr {w : World} {e_a : Nat} {_v_a : Value} {a : List Token} (_h_a : Ol Token.cs e_a 4 w _v_a a) (k : Int) (hk0 : 0 ≤ k) (hkk : k + 4 * a.length ≤ 4611686018427387904) :
    Ctr Try.prog 20 #[(.agg #[_v_a]), (.int .i64 k)] w (fun v w' => v = .int .i64 (k + 4 * a.length) ∧ Ol Token.cs e_a 4 w' _v_a (mkToken k a.length) ∧ Ch (bl _v_a) w w') := by
  obtain ⟨_A_a, _C_a, _e1_a⟩ := _h_a.val
  subst _e1_a
  have _l_a := _h_a.len
  have _lt_a := _h_a.lt
  have E := Ch.refl (bl (.slice _A_a a.length _C_a)) w
  refine Ctr_of_W (N := 10) (vs0 := [(.agg #[(.slice _A_a a.length _C_a)]), (.int .i64 k)]) Try.func20 rfl rfl rfl ?_
  refine W_seq fun _K_1 _hK_1 => ?_
  refine W_region ?_
  refine WL_s rfl rfl ?_
  refine s_box rfl fun _b2 _w_2 _m2 _cw_2 _e2 => ?_
  have _cw_2z := _cw_2.size
  have E := E.trans _cw_2.of_nil
  have _z2 := _m2.lt
  replace _m2 : Blk _w_2 _b2 32 [(.slice _A_a a.length _C_a)] := _m2
  refine WL_step rfl rfl (r_assign rfl) ?_
  refine WL_nil ?_
  refine thn_nrm (_hK_1 _ _ ?_)
  clear _hK_1
  refine W_seq fun _K_3 _hK_3 => ?_
  refine W_region ?_
  refine WL_step rfl rfl (r_fieldAddr fa32_0 rfl) ?_
  refine WL_step rfl rfl (r_loadAt _m2.at_ agg30 rfl rfl) ?_
  refine WL_step rfl rfl (r_move rfl) ?_
  refine WL_s rfl rfl ?_
  have _f_4 := (_h_a.ch0 _cw_2)
  refine Step.call (r_call (xs := [.tmp 6, .tmp 7]) fk43 rfl) (c_laws_markTokenS _f_4 _ (by omega) (by first | omega | (simp <;> omega))) fun _v8 _w_5 _q8 => ?_
  obtain ⟨rfl, _q8, _cw_5⟩ := _q8
  have _cw_5z := _cw_5.size
  have E := E.trans _cw_5
  refine WL_step rfl rfl (r_assign rfl) ?_
  refine WL_nil ?_
  refine thn_nrm (_hK_3 _ _ ?_)
  clear _hK_3
  refine W_seq fun _K_6 _hK_6 => ?_
  refine W_region ?_
  refine WL_step rfl rfl (r_move rfl) ?_
  refine WL_step rfl rfl (r_assign rfl) ?_
  refine WL_nil ?_
  refine thn_nrm (_hK_6 _ _ ?_)
  clear _hK_6
  refine W_ret ?_
  have _o_7 : Ol Token.cs e_a 4 _w_5 (.slice _A_a a.length _C_a) (mkToken k a.length) := by
    have hx := _q8
    first | exact hx | simpa using hx
  exact ret_intro [_] ⟨rfl, trivial⟩ ⟨congrArg (Value.int .i64) rfl, _o_7, E⟩

/-- spec.LetterExpr -/
theorem c_spec_LetterExpr {w : World} (l : Int) :
    Ctr Try.prog 17 #[(.int .i64 l)] w (fun v w' => ∃ u, v = .agg #[u] ∧ Ol Token.cs 64 4 w' u ([(⟨3, l, 0, 0⟩ : Token)]) ∧ Lo w.heap.size u ∧ Ch [] w w') := by
  have E := Ch.refl [] w
  refine Ctr_of_W (N := 7) (vs0 := [(.int .i64 l)]) Try.func17 rfl rfl rfl ?_
  refine W_seq fun _K_1 _hK_1 => ?_
  refine W_region ?_
  refine WL_s rfl rfl ?_
  refine s_alloc zr32 fun _b2 _w_2 _m2 _cw_2 _e2 => ?_
  have _cw_2z := _cw_2.size
  have E := E.trans _cw_2
  have _z2 := _m2.lt
  replace _m2 : Blk _w_2 _b2 32 [(.slice none 0 0)] := _m2
  refine WL_nil ?_
  refine thn_nrm (_hK_1 _ _ ?_)
  clear _hK_1
  refine W_seq fun _K_3 _hK_3 => ?_
  refine W_region ?_
  refine WL_step rfl rfl (r_move rfl) ?_
  refine WL_step rfl rfl (r_build (parts := [(0, .const (Go.Value.int Go.IntKind.i64 3)), (1, .tmp 3)]) (cells := [(.int .i64 3), (.int .i64 l), (.int .i64 0), (.int .i64 0)]) zr64 pl64 rfl rfl) ?_
  refine WL_s rfl rfl ?_
  refine s_buildSlice (cs := Token.cs) (parts := [(0, .tmp 4)]) (⟨0, 0, 0, 0⟩ : Token) [(⟨3, l, 0, 0⟩ : Token)] el30 sz64 zr64 Token.len (by decide) rfl rfl rfl (by decide) (by decide) rfl fun _v5 _w_4 _q5 _lo5 _cw_4 => ?_
  have _cw_4z := _cw_4.size
  have E := E.trans _cw_4
  obtain ⟨_Av5, _Cv5, _ev5⟩ := _q5.val
  subst _ev5
  have _lv5 := _q5.len
  have _hiv5 := _q5.lt
  refine WL_step rfl rfl (r_build (parts := [(0, .tmp 5)]) (cells := [(.slice _Av5 ([(⟨3, l, 0, 0⟩ : Token)]).length _Cv5)]) zr32 pl32 rfl rfl) ?_
  refine WL_s rfl rfl ?_
  have _f_5 := (_m2.ch0 _cw_4)
  refine s_storeA (off := 0) 1 _f_5 sz32 rfl (us := [(.slice _Av5 ([(⟨3, l, 0, 0⟩ : Token)]).length _Cv5)]) rfl rfl rfl rfl fun _w_6 _m_7 _cw_6 => ?_
  have _cw_6z := _cw_6.size
  have E := E.step _cw_6 (fun i hi => .inl (by have _h1 := List.mem_singleton.1 hi; omega))
  replace _m_7 : Blk _w_6 _b2 32 [(.slice _Av5 ([(⟨3, l, 0, 0⟩ : Token)]).length _Cv5)] := _m_7
  refine WL_nil ?_
  refine thn_nrm (_hK_3 _ _ ?_)
  clear _hK_3
  refine W_ret ?_
  have _f_9 := (_q5.ch _cw_6 (fun g hg hm => by have _h1 := List.mem_singleton.1 hm; have _h2 := _lo5 g hg; have _h3 := _hiv5 g hg; omega))
  have _o_8 : Ol Token.cs 64 4 _w_6 (.slice _Av5 ([(⟨3, l, 0, 0⟩ : Token)]).length _Cv5) ([(⟨3, l, 0, 0⟩ : Token)]) := by
    have hx := _f_9
    first | exact hx | simpa using hx
  exact ret_intro [_] (resOf_loadA _m_7 rfl agg32 sz32 trivial) ⟨_, rfl, _o_8, Lo.down _lo5 (by omega), E⟩

/-- laws.FnExactLetterExpr -/
theorem c_laws_FnExactLetterExpr {w : World} (l : Int) :
    Ctr Try.prog 5 #[(.int .i64 l)] w (fun v w' => v = .bool (true) ∧ Ch [] w w') := by
  have E := Ch.refl [] w
  refine Ctr_of_W (N := 41) (vs0 := [(.int .i64 l)]) Try.func5 rfl rfl rfl ?_
  refine W_seq fun _K_1 _hK_1 => ?_
  refine W_region ?_
  refine WL_step rfl rfl (r_assign rfl) ?_
  refine WL_nil ?_
  refine thn_nrm (_hK_1 _ _ ?_)
  clear _hK_1
  refine W_seq fun _K_2 _hK_2 => ?_
  refine W_region ?_
  refine WL_step rfl rfl (r_move rfl) ?_
  refine WL_s rfl rfl ?_
  refine Step.call (r_call (xs := [.tmp 8]) fk17 rfl) (c_spec_LetterExpr _ ) fun _v9 _w_3 _q9 => ?_
  obtain ⟨_u9, rfl, _q9, _lo9, _cw_3⟩ := _q9
  have _cw_3z := _cw_3.size
  have E := E.trans _cw_3
  obtain ⟨_Au9, _Cu9, _eu9⟩ := _q9.val
  subst _eu9
  have _lu9 := _q9.len
  have _hiu9 := _q9.lt
  refine WL_s rfl rfl ?_
  refine s_alloc zr32 fun _b3 _w_4 _m3 _cw_4 _e3 => ?_
  have _cw_4z := _cw_4.size
  have E := E.trans _cw_4
  have _z3 := _m3.lt
  replace _m3 : Blk _w_4 _b3 32 [(.slice none 0 0)] := _m3
  refine WL_s rfl rfl ?_
  refine s_storeA (off := 0) 1 _m3 sz32 rfl (us := [(.slice _Au9 ([(⟨3, l, 0, 0⟩ : Token)]).length _Cu9)]) rfl rfl rfl rfl fun _w_5 _m_6 _cw_5 => ?_
  have _cw_5z := _cw_5.size
  have E := E.step _cw_5 (fun i hi => .inl (by have _h1 := List.mem_singleton.1 hi; omega))
  replace _m_6 : Blk _w_5 _b3 32 [(.slice _Au9 ([(⟨3, l, 0, 0⟩ : Token)]).length _Cu9)] := _m_6
  refine WL_nil ?_
  refine thn_nrm (_hK_2 _ _ ?_)
  clear _hK_2
  refine W_seq fun _K_7 _hK_7 => ?_
  refine W_region ?_
  refine WL_step rfl rfl (r_move rfl) ?_
  refine WL_s rfl rfl ?_
  refine Step.call (r_call (xs := [.tmp 10]) fk18 rfl) (c_impl_LetterExpr _ ) fun _v11 _w_8 _q11 => ?_
  obtain ⟨_u11, rfl, _q11, _lo11, _cw_8⟩ := _q11
  have _cw_8z := _cw_8.size
  have E := E.trans _cw_8
  obtain ⟨_Au11, _Cu11, _eu11⟩ := _q11.val
  subst _eu11
  have _lu11 := _q11.len
  have _hiu11 := _q11.lt
  refine WL_s rfl rfl ?_
  refine s_alloc zr32 fun _b4 _w_9 _m4 _cw_9 _e4 => ?_
  have _cw_9z := _cw_9.size
  have E := E.trans _cw_9
  have _z4 := _m4.lt
  replace _m4 : Blk _w_9 _b4 32 [(.slice none 0 0)] := _m4
  refine WL_s rfl rfl ?_
  refine s_storeA (off := 0) 1 _m4 sz32 rfl (us := [(.slice _Au11 ([(⟨3, l, 0, 0⟩ : Token)]).length _Cu11)]) rfl rfl rfl rfl fun _w_10 _m_11 _cw_10 => ?_
  have _cw_10z := _cw_10.size
  have E := E.step _cw_10 (fun i hi => .inl (by have _h1 := List.mem_singleton.1 hi; omega))
  replace _m_11 : Blk _w_10 _b4 32 [(.slice _Au11 ([(⟨3, l, 0, 0⟩ : Token)]).length _Cu11)] := _m_11
  refine WL_nil ?_
  refine thn_nrm (_hK_7 _ _ ?_)
  clear _hK_7
  refine W_seq fun _K_12 _hK_12 => ?_
  refine W_seq fun _K_13 _hK_13 => ?_
  refine W_region ?_
  refine WL_step rfl rfl (r_loadAtA0 _m_11.at_ agg32 sz32 rfl) ?_
  have _f_14 := (((_m_6.ch0 _cw_8).ch0 _cw_9).ch _cw_10 (fun hm => by have _h1 := List.mem_singleton.1 hm; omega))
  refine WL_step rfl rfl (r_loadAtA0 _f_14.at_ agg32 sz32 rfl) ?_
  refine WL_s rfl rfl ?_
  have _f_15 := ((_q11.ch0 _cw_9).ch _cw_10 (fun g hg hm => by have _h1 := List.mem_singleton.1 hm; have _h2 := _lo11 g hg; have _h3 := _hiu11 g hg; omega))
  have _f_16 := (((((_q9.ch0 _cw_4).ch _cw_5 (fun g hg hm => by have _h1 := List.mem_singleton.1 hm; have _h2 := _lo9 g hg; have _h3 := _hiu9 g hg; omega)).ch0 _cw_8).ch0 _cw_9).ch _cw_10 (fun g hg hm => by have _h1 := List.mem_singleton.1 hm; have _h2 := _lo9 g hg; have _h3 := _hiu9 g hg; omega))
  refine Step.call (r_call (xs := [.tmp 12, .tmp 13]) fk19 rfl) (c_laws_eqExpr _f_15.ls _f_16.ls ) fun _v14 _w_17 _q14 => ?_
  obtain ⟨rfl, _cw_17⟩ := _q14
  have _cw_17z := _cw_17.size
  have E := E.trans _cw_17
  refine WL_step rfl rfl (r_not rfl) ?_
  refine WL_nil ?_
  refine thn_nrm (_hK_13 _ _ ?_)
  clear _hK_13
  refine W_cond rfl (fun _h15 => ?_) (fun _h15 => ?_)
  · have _h15 := bf_d (bt_n _h15)
    refine W_seq fun _K_18 _hK_18 => ?_
    refine W_region ?_
    refine WL_step rfl rfl (r_assign rfl) ?_
    refine WL_nil ?_
    refine thn_nrm (_hK_18 _ _ ?_)
    clear _hK_18
    refine W_ret (thn_ret ?_)
    clear _hK_12
    exact ret_intro [_] ⟨rfl, trivial⟩ ⟨congrArg Value.bool (by first | rfl | (exfalso; exact absurd _h15 (by simp)) | (exfalso; omega) | (exfalso; revert _h15; simp <;> omega)), E⟩
  · have _h15 := bt_d (bf_n _h15)
    refine W_skip ?_
    refine thn_nrm (_hK_12 _ _ ?_)
    clear _hK_12
    refine W_seq fun _K_19 _hK_19 => ?_
    refine W_region ?_
    refine WL_step rfl rfl (r_assign rfl) ?_
    refine WL_nil ?_
    refine thn_nrm (_hK_19 _ _ ?_)
    clear _hK_19
    refine W_seq fun _K_20 _hK_20 => ?_
    refine W_region ?_
    have _f_21 := (_m_11.ch0 _cw_17)
    refine WL_step rfl rfl (r_loadAtA0 _f_21.at_ agg32 sz32 rfl) ?_
    refine WL_step rfl rfl (r_move rfl) ?_
    refine WL_s rfl rfl ?_
    have _f_22 := (_f_15.ch0 _cw_17)
    refine Step.call (r_call (xs := [.tmp 16, .tmp 17]) fk20 rfl) (c_laws_markExpr _f_22 _ (by omega) (by first | omega | (simp <;> omega))) fun _v18 _w_23 _q18 => ?_
    obtain ⟨rfl, _q18, _cw_23⟩ := _q18
    have _cw_23z := _cw_23.size
    have E := E.step _cw_23 (fun i hi => .inl (by have _h1 := _lo11 _ hi; omega))
    refine WL_step rfl rfl (r_assign rfl) ?_
    refine WL_nil ?_
    refine thn_nrm (_hK_20 _ _ ?_)
    clear _hK_20
    refine W_seq fun _K_24 _hK_24 => ?_
    refine W_region ?_
    refine WL_step rfl rfl (r_assign rfl) ?_
    refine WL_nil ?_
    refine thn_nrm (_hK_24 _ _ ?_)
    clear _hK_24
    refine W_seq fun _K_25 _hK_25 => ?_
    refine W_region ?_
    have _f_26 := (_f_21.ch _cw_23 (fun hm => by have _h1 := _lo11 _ hm; have _h2 := _hiu11 _ hm; omega))
    refine WL_step rfl rfl (r_loadAtA0 _f_26.at_ agg32 sz32 rfl) ?_
    refine WL_step rfl rfl (r_move rfl) ?_
    refine WL_s rfl rfl ?_
    refine Step.call (r_call (xs := [.tmp 19, .tmp 20]) fk21 rfl) (c_laws_heldExpr _q18.ls _ (by omega) (by first | omega | (simp <;> omega))) fun _v21 _w_27 _q21 => ?_
    obtain ⟨rfl, _cw_27⟩ := _q21
    have _cw_27z := _cw_27.size
    have E := E.trans _cw_27
    refine WL_step rfl rfl (r_assign rfl) ?_
    refine WL_nil ?_
    refine thn_nrm (_hK_25 _ _ ?_)
    clear _hK_25
    refine W_seq fun _K_28 _hK_28 => ?_
    refine W_seq fun _K_29 _hK_29 => ?_
    refine W_region ?_
    refine WL_step rfl rfl (r_move rfl) ?_
    refine WL_step rfl rfl (r_lss rfl rfl) ?_
    refine WL_nil ?_
    refine thn_nrm (_hK_29 _ _ ?_)
    clear _hK_29
    refine W_cond rfl (fun _h23 => ?_) (fun _h23 => ?_)
    · have _h23 := bt_d _h23
      refine W_seq fun _K_30 _hK_30 => ?_
      refine W_region ?_
      refine WL_step rfl rfl (r_assign rfl) ?_
      refine WL_nil ?_
      refine thn_nrm (_hK_30 _ _ ?_)
      clear _hK_30
      refine W_ret (thn_ret ?_)
      clear _hK_28
      exact ret_intro [_] ⟨rfl, trivial⟩ ⟨congrArg Value.bool (by first | rfl | (exfalso; exact absurd _h23 (by simp)) | (exfalso; omega) | (exfalso; revert _h23; simp <;> omega)), E⟩
    · have _h23 := bf_d _h23
      refine W_skip ?_
      refine thn_nrm (_hK_28 _ _ ?_)
      clear _hK_28
      refine W_seq fun _K_31 _hK_31 => ?_
      refine W_seq fun _K_32 _hK_32 => ?_
      refine W_region ?_
      refine WL_step rfl rfl (r_move rfl) ?_
      refine WL_step rfl rfl (r_move rfl) ?_
      refine WL_step rfl rfl (r_neq rfl rfl) ?_
      refine WL_nil ?_
      refine thn_nrm (_hK_32 _ _ ?_)
      clear _hK_32
      refine W_cond rfl (fun _h26 => ?_) (fun _h26 => ?_)
      · have _h26 := bf_d (bt_n _h26)
        refine W_seq fun _K_33 _hK_33 => ?_
        refine W_region ?_
        refine WL_step rfl rfl (r_assign rfl) ?_
        refine WL_nil ?_
        refine thn_nrm (_hK_33 _ _ ?_)
        clear _hK_33
        refine W_ret (thn_ret ?_)
        clear _hK_31
        exact ret_intro [_] ⟨rfl, trivial⟩ ⟨congrArg Value.bool (by first | rfl | (exfalso; exact absurd _h26 (by simp)) | (exfalso; omega) | (exfalso; revert _h26; simp <;> omega)), E⟩
      · have _h26 := bt_d (bf_n _h26)
        refine W_skip ?_
        refine thn_nrm (_hK_31 _ _ ?_)
        clear _hK_31
        refine W_seq fun _K_34 _hK_34 => ?_
        refine W_region ?_
        refine WL_step rfl rfl (r_move rfl) ?_
        refine WL_s rfl rfl ?_
        refine Step.call (r_call (xs := [.tmp 27]) fk18 rfl) (c_impl_LetterExpr _ ) fun _v28 _w_35 _q28 => ?_
        obtain ⟨_u28, rfl, _q28, _lo28, _cw_35⟩ := _q28
        have _cw_35z := _cw_35.size
        have E := E.trans _cw_35
        obtain ⟨_Au28, _Cu28, _eu28⟩ := _q28.val
        subst _eu28
        have _lu28 := _q28.len
        have _hiu28 := _q28.lt
        refine WL_s rfl rfl ?_
        refine s_alloc zr32 fun _b7 _w_36 _m7 _cw_36 _e7 => ?_
        have _cw_36z := _cw_36.size
        have E := E.trans _cw_36
        have _z7 := _m7.lt
        replace _m7 : Blk _w_36 _b7 32 [(.slice none 0 0)] := _m7
        refine WL_s rfl rfl ?_
        refine s_storeA (off := 0) 1 _m7 sz32 rfl (us := [(.slice _Au28 ([(⟨3, l, 0, 0⟩ : Token)]).length _Cu28)]) rfl rfl rfl rfl fun _w_37 _m_38 _cw_37 => ?_
        have _cw_37z := _cw_37.size
        have E := E.step _cw_37 (fun i hi => .inl (by have _h1 := List.mem_singleton.1 hi; omega))
        replace _m_38 : Blk _w_37 _b7 32 [(.slice _Au28 ([(⟨3, l, 0, 0⟩ : Token)]).length _Cu28)] := _m_38
        refine WL_nil ?_
        refine thn_nrm (_hK_34 _ _ ?_)
        clear _hK_34
        refine W_seq fun _K_39 _hK_39 => ?_
        refine W_seq fun _K_40 _hK_40 => ?_
        refine W_region ?_
        refine WL_step rfl rfl (r_loadAtA0 _m_38.at_ agg32 sz32 rfl) ?_
        have _f_41 := ((((((_f_14.ch0 _cw_17).ch _cw_23 (fun hm => by have _h1 := _lo11 _ hm; have _h2 := _hiu11 _ hm; omega)).ch0 _cw_27).ch0 _cw_35).ch0 _cw_36).ch _cw_37 (fun hm => by have _h1 := List.mem_singleton.1 hm; omega))
        refine WL_step rfl rfl (r_loadAtA0 _f_41.at_ agg32 sz32 rfl) ?_
        refine WL_s rfl rfl ?_
        have _f_42 := ((_q28.ch0 _cw_36).ch _cw_37 (fun g hg hm => by have _h1 := List.mem_singleton.1 hm; have _h2 := _lo28 g hg; have _h3 := _hiu28 g hg; omega))
        have _f_43 := ((((((_f_16.ch0 _cw_17).ch _cw_23 (fun g hg hm => by have _h1 := _lo11 _ hm; have _h2 := _hiu11 _ hm; have _h3 := _lo9 g hg; have _h4 := _hiu9 g hg; omega)).ch0 _cw_27).ch0 _cw_35).ch0 _cw_36).ch _cw_37 (fun g hg hm => by have _h1 := List.mem_singleton.1 hm; have _h2 := _lo9 g hg; have _h3 := _hiu9 g hg; omega))
        refine Step.call (r_call (xs := [.tmp 29, .tmp 30]) fk19 rfl) (c_laws_eqExpr _f_42.ls _f_43.ls ) fun _v31 _w_44 _q31 => ?_
        obtain ⟨rfl, _cw_44⟩ := _q31
        have _cw_44z := _cw_44.size
        have E := E.trans _cw_44
        refine WL_step rfl rfl (r_not rfl) ?_
        refine WL_nil ?_
        refine thn_nrm (_hK_40 _ _ ?_)
        clear _hK_40
        refine W_cond rfl (fun _h32 => ?_) (fun _h32 => ?_)
        · have _h32 := bf_d (bt_n _h32)
          refine W_seq fun _K_45 _hK_45 => ?_
          refine W_region ?_
          refine WL_step rfl rfl (r_assign rfl) ?_
          refine WL_nil ?_
          refine thn_nrm (_hK_45 _ _ ?_)
          clear _hK_45
          refine W_ret (thn_ret ?_)
          clear _hK_39
          exact ret_intro [_] ⟨rfl, trivial⟩ ⟨congrArg Value.bool (by first | rfl | (exfalso; exact absurd _h32 (by simp)) | (exfalso; omega) | (exfalso; revert _h32; simp <;> omega)), E⟩
        · have _h32 := bt_d (bf_n _h32)
          refine W_skip ?_
          refine thn_nrm (_hK_39 _ _ ?_)
          clear _hK_39
          refine W_seq fun _K_46 _hK_46 => ?_
          refine W_region ?_
          refine WL_step rfl rfl (r_assign rfl) ?_
          refine WL_nil ?_
          refine thn_nrm (_hK_46 _ _ ?_)
          clear _hK_46
          refine W_seq fun _K_47 _hK_47 => ?_
          refine W_region ?_
          have _f_48 := (((((_f_26.ch0 _cw_27).ch0 _cw_35).ch0 _cw_36).ch _cw_37 (fun hm => by have _h1 := List.mem_singleton.1 hm; omega)).ch0 _cw_44)
          refine WL_step rfl rfl (r_loadAtA0 _f_48.at_ agg32 sz32 rfl) ?_
          refine WL_step rfl rfl (r_move rfl) ?_
          refine WL_s rfl rfl ?_
          have _f_49 := (((((_q18.ch0 _cw_27).ch0 _cw_35).ch0 _cw_36).ch _cw_37 (fun g hg hm => by have _h1 := List.mem_singleton.1 hm; have _h2 := _lo11 g hg; have _h3 := _hiu11 g hg; omega)).ch0 _cw_44)
          refine Step.call (r_call (xs := [.tmp 33, .tmp 34]) fk21 rfl) (c_laws_heldExpr _f_49.ls _ (by omega) (by first | omega | (simp <;> omega))) fun _v35 _w_50 _q35 => ?_
          obtain ⟨rfl, _cw_50⟩ := _q35
          have _cw_50z := _cw_50.size
          have E := E.trans _cw_50
          refine WL_step rfl rfl (r_assign rfl) ?_
          refine WL_nil ?_
          refine thn_nrm (_hK_47 _ _ ?_)
          clear _hK_47
          refine W_seq fun _K_51 _hK_51 => ?_
          refine W_seq fun _K_52 _hK_52 => ?_
          refine W_region ?_
          refine WL_step rfl rfl (r_move rfl) ?_
          refine WL_step rfl rfl (r_lss rfl rfl) ?_
          refine WL_nil ?_
          refine thn_nrm (_hK_52 _ _ ?_)
          clear _hK_52
          refine W_cond rfl (fun _h37 => ?_) (fun _h37 => ?_)
          · have _h37 := bt_d _h37
            refine W_seq fun _K_53 _hK_53 => ?_
            refine W_region ?_
            refine WL_step rfl rfl (r_assign rfl) ?_
            refine WL_nil ?_
            refine thn_nrm (_hK_53 _ _ ?_)
            clear _hK_53
            refine W_ret (thn_ret ?_)
            clear _hK_51
            exact ret_intro [_] ⟨rfl, trivial⟩ ⟨congrArg Value.bool (by first | rfl | (exfalso; exact absurd _h37 (by simp)) | (exfalso; omega) | (exfalso; revert _h37; simp <;> omega)), E⟩
          · have _h37 := bf_d _h37
            refine W_skip ?_
            refine thn_nrm (_hK_51 _ _ ?_)
            clear _hK_51
            refine W_seq fun _K_54 _hK_54 => ?_
            refine W_seq fun _K_55 _hK_55 => ?_
            refine W_region ?_
            refine WL_step rfl rfl (r_move rfl) ?_
            refine WL_step rfl rfl (r_move rfl) ?_
            refine WL_step rfl rfl (r_neq rfl rfl) ?_
            refine WL_nil ?_
            refine thn_nrm (_hK_55 _ _ ?_)
            clear _hK_55
            refine W_cond rfl (fun _h40 => ?_) (fun _h40 => ?_)
            · have _h40 := bf_d (bt_n _h40)
              refine W_seq fun _K_56 _hK_56 => ?_
              refine W_region ?_
              refine WL_step rfl rfl (r_assign rfl) ?_
              refine WL_nil ?_
              refine thn_nrm (_hK_56 _ _ ?_)
              clear _hK_56
              refine W_ret (thn_ret ?_)
              clear _hK_54
              exact ret_intro [_] ⟨rfl, trivial⟩ ⟨congrArg Value.bool (by first | rfl | (exfalso; exact absurd _h40 (by simp)) | (exfalso; omega) | (exfalso; revert _h40; simp <;> omega)), E⟩
            · have _h40 := bt_d (bf_n _h40)
              refine W_skip ?_
              refine thn_nrm (_hK_54 _ _ ?_)
              clear _hK_54
              refine W_seq fun _K_57 _hK_57 => ?_
              refine W_region ?_
              refine WL_step rfl rfl (r_assign rfl) ?_
              refine WL_nil ?_
              refine thn_nrm (_hK_57 _ _ ?_)
              clear _hK_57
              refine W_ret ?_
              exact ret_intro [_] ⟨rfl, trivial⟩ ⟨congrArg Value.bool (by first | rfl | (exfalso; exact absurd _h40 (by simp)) | (exfalso; omega) | (exfalso; revert _h40; simp <;> omega)), E⟩

end Go.Proofs.Ytiadcghbjphchaa
